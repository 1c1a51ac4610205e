/-
 Plain: keys: tags, receipts and signatures are there; which points are signed.
-/
import Derived.Test.YtomndohdnfebgaaGreatDoorPureH
import Derived.Test.YtomndohdnfebgaaGreatDoorSepK
namespace Go.Proofs.YtomndohdnfebgaaGreatDoor
open Go Go.Sep
theorem Qvd{K:Nat}(hK:1000000000000≤K){n:Int}:∃r:List Int,QcQ.f K n 4=some r∧r.length=4:=by
 unfold QcQ.f
 have hz:Qai 1 (0:Int) 4=some [0,0,0,0]:=rfl
 refine Qr hz ?_
 have key:∀(m i:Nat) (v:Int) (l:List Int) (k:Nat),i+m=4→m<k→l.length=4→∃r,YY.l K 4 [0,0,0,0] k (v,l,(i:Int))=some r∧r.length=4:=by
  intro m
  induction m with
  |zero=>
   intro i v l k hi hk hl
   obtain⟨k,rfl⟩:∃j,k=j+1:=⟨k-1,by omega⟩
   refine⟨l,?_,hl⟩
   show YY.b K 4 [0,0,0,0] (YY.l K 4 [0,0,0,0] k) _=_
   unfold YY.b
   rw[Qi (QJ (by simp;omega))]
  |succ m ih=>
   intro i v l k hi hk hl
   obtain⟨k,rfl⟩:∃j,k=j+1:=⟨k-1,by omega⟩
   show ∃r,YY.b K 4 [0,0,0,0] (YY.l K 4 [0,0,0,0] k) _=_∧_
   unfold YY.b
   rw[Qj (QO (by simp;omega))]
   have e1:IntKind.wrap .i64 ((4:Int)-1)=((3:Nat):Int):=by rw[wrap64 (by omega) (by omega)];rfl
   have e2:IntKind.wrap .i64 (((3:Nat):Int)-(i:Int))=((3-i:Nat):Int):=by rw[wrap64 (by omega) (by omega)];omega
   simp only
   rw[e1,e2]
   obtain⟨x,hx⟩:=Jj (l:=l) (i:=3-i) (by omega)
   refine Qr hx ?_
   rw[wrap_succ (by omega)]
   exact ih (i+1) _ _ k (by omega) (by omega) (by simp[hl])
 obtain⟨r,hr,hl⟩:=key 4 0 n [0,0,0,0] K (by omega) (by omega) rfl
 have hr:YY.l K 4 [0,0,0,0] K (n, [0,0,0,0],0)=some r:=hr
 rw[hr]
 exact⟨r,rfl,hl⟩
theorem Qq6{K:Nat}(hK:1000000000000≤K){x:List (List Int)}(h:x.flatten.length<1000000000000)(hx:x.length<1000000000000):QR.f K x=some x.flatten:=by
 have:=jC (K:=K) (x:=x) hK h hx
 unfold Jb.f at this
 cases h:QR.f K x with
 |none=>rw[h]at this;cases this
 |some y=>rw[h]at this;exact this
theorem QsM{K:Nat}(hK:1000000000000≤K){x:List Int}(h:x.length<100000):∃r:List Int,Qcl.f K x=some r∧r.length=x.length+4:=by
 unfold Qcl.f
 obtain⟨r,hr,hl⟩:=Qvd hK (n:=IntKind.wrap .u64 ((x.length:Nat):Int))
 refine Qr hr ?_
 refine Qr (Qq6 hK (by simp;omega) (by simp)) ?_
 exact⟨_,rfl,by simp;omega⟩
def Qmr(K:Nat)(x:List Int):List Int:=(Qcl.f K x).getD []
theorem Qni{K:Nat}(hK:1000000000000≤K){x:List Int}(h:x.length<100000):Qcl.f K x=some (Qmr K x)∧(Qmr K x).length=x.length+4:=by
 obtain⟨r,hr,hl⟩:=QsM hK h
 unfold Qmr
 rw[hr]
 exact⟨rfl,hl⟩
theorem QtR{K:Nat}(hK:1000000000000≤K){d:Int}{l:List (List Int)}(hl:l.length≤5)(h:∀x∈l,x.length≤10000):∃r,Qf9.f K d l=some r∧∀j,j<32→0≤vget r j∧vget r j<256:=by
 unfold Qf9.f XZ.f
 have hfl:(l.map (Qmr K)).flatten.length≤10004*l.length:=XJ (fun x hx=>by
  have:=h x hx
  rw[(Qni hK (x:=x) (by omega)).2];omega)
 have hj:=ZP (L:=Yx.l K l) l (Qmr K) [] (k:=K) (by omega)
  (fun k s=>by
   show Yx.b K l (Yx.l K l k) _=_
   unfold Yx.b
   rw[Qi (QJ (by simp))])
  (fun k s i x hi hx hm hs=>by
   show Yx.b K l (Yx.l K l k) _=_
   unfold Yx.b
   rw[Qj (QO (by simp only;omega))]
   simp only
   rw[hx]
   try simp only[Qb]
   have:=h x hm
   rw[(Qni hK (x:=x) (by omega)).1]
   try simp only[Qb]
   rw[YV (by omega)]
   try simp only[Qb]
   rw[wrap_succ (by omega)])
  (by simp only[List.length_nil];omega)
 have hj:Yx.l K l K ([],0)=some ((l.map (Qmr K)).flatten):=hj
 rw[hj]
 try simp only[Qb]
 obtain⟨r,hr,hp⟩:=QeB (K:=K) hK (x:= [[IntKind.wrap .u8 d],(l.map (Qmr K)).flatten]) (by simp) (by simp only[List.flatten_cons,List.flatten_nil,List.append_nil,List.length_append,List.length_singleton];omega)
 refine Qr hr ?_
 exact⟨r,rfl,hp⟩
def ofS(K:Nat)(s:H32)(d:List Int):H32:=(Qf9.f K 4 [Q9 s,d]).getD zH
theorem Qq7{h:H32}(hr:∀i,i<32→0≤vget h i∧vget h i<256):isB (Q9 h):=by
 intro x hx
 simp only[Q9,List.mem_map,List.mem_range]at hx
 obtain⟨i,hi,rfl⟩:=hx
 exact hr i hi
theorem Qww{K:Nat}(hK:1000000000000≤K){s:H32}{d:List Int}(h:d.length≤10000):Qf9.f K 4 [Q9 s,d]=some (ofS K s d)∧isB (Q9 (ofS K s d)):=by
 obtain⟨r,hr,hp⟩:=QtR hK (d:=4) (l:= [Q9 s,d]) (by simp) (fun x hx=>by
  simp at hx
  rcases hx with rfl|rfl
  ·rw[QG];omega
  ·exact h)
 unfold ofS
 rw[hr]
 exact⟨rfl,Qq7 hp⟩
def begS(x:Rc):Bool:=YQ x&&decide (x.fKind=1)
def comS(K:Nat)(x:Rc):H32:=bif begS x then(bif x.fGone then x.fCom else ofS K x.fSalt x.fData)else zH
theorem vz:vofL 32 [(0:Int),(0:Int),(0:Int),(0:Int),(0:Int),(0:Int),(0:Int),(0:Int),(0:Int),(0:Int),(0:Int),(0:Int),(0:Int),(0:Int),(0:Int),(0:Int),(0:Int),(0:Int),(0:Int),(0:Int),(0:Int),(0:Int),(0:Int),(0:Int),(0:Int),(0:Int),(0:Int),(0:Int),(0:Int),(0:Int),(0:Int),(0:Int)]=zH:=by decide
theorem Qwx{K:Nat}(hK:1000000000000≤K){x:Rc}(ho:okD x):Qga.f K x=some (comS K x):=by
 unfold Qga.f comS
 try simp only[jn]
 rw[right_eq hK ho,vz]
 try simp only[Qb]
 cases hr:YQ x with
 |false=>
  have:begS x=false:=by unfold begS;rw[hr];rfl
  rw[this];rfl
 | true=>
  simp only[Bool.not_true,Qh]
  by_cases hk:x.fKind=1
  ·have hb:begS x=true:=by unfold begS;rw[hr,QO hk];rfl
   rw[hb,QO hk]
   simp only[Bool.not_true,Qh,Qg]
   cases hg:x.fGone with
   |true=>rfl
   |false=>
    simp only[Qh]
    have h3:=((Qcc hr).beg hk).2.2
    have hs:=Qby (l:=Q9 x.fSalt) (b:=32) (by rw[QG];omega)
    rw[List.take_of_length_le (by rw[QG];omega)]at hs
    refine QK hs ?_
    rw[(Qww hK (s:=x.fSalt) (d:=x.fData) (by omega)).1]
    rfl
  ·have hb:begS x=false:=by unfold begS;rw[QJ hk];simp
   rw[hb,QJ hk];rfl
def QsN(K:Nat)(x:Rc):List Int:=bif decide (x.fKind=1)then numW x.fSaga++(QcM x.fSteps++Q9 (comS K x))else jJ x.fKind x
def Qk7(K:Nat)(x:Rc):List Int:=numW x.fKind++QsN K x
theorem Qk8{K:Nat}{x:Rc}(h:YQ x=true):(Qk7 K x).length≤400:=by
 have h2:=Yn (Qg0 h)
 unfold Qk7 QsN
 by_cases hk:x.fKind=1
 ·rw[Qj (QO hk)]
  have hd:=Qcc h
  obtain⟨b1,b2,b3⟩:=hd.beg hk
  have b1:=qC.1 b1
  have h4:=Qax b2 (by omega)
  have h1:=Yn hd.saga
  simp only[List.length_append,QG];omega
 ·rw[Qi (QJ hk)]
  have h1:=QdP h
  simp only[List.length_append];omega
end Go.Proofs.YtomndohdnfebgaaGreatDoor
namespace Go.Proofs.YtomndohdnfebgaaGreatDoor
open Go Go.Sep
theorem Qve{K:Nat}(hK:1000000000000≤K){x:Rc}(ho:okD x):Qal.f K x=some (bif YQ x then Qk7 K x else []):=by
 unfold Qal.f Qix.f
 rw[right_eq hK ho]
 try simp only[Qb,jn]
 cases hr:YQ x with
 |false=>rfl
 |true=>
 rw[Qi (by rfl)]
 have hd:=Qcc hr
 rw[Qmk hK (Qg0 hr)]
 try simp only[Qb]
 have hb:=QdP hr
 have hk:=Yn (Qg0 hr)
 have w1:=Yn hd.saga
 have w2:=Yn hd.part
 have w3:=Yn hd.epoch
 rw[show QbC.f K=some ()from rfl]
 try simp only[Qb]
 have e:∀k,x.fKind=k→k≠1→Qk7 K x=numW x.fKind++jJ k x:=fun k hk h1=>by
  unfold Qk7 QsN
  rw[Qi (QJ (by rw[hk];exact h1)),hk]
 rcases hd.kind with k|k|k|k|k|k
 ·obtain⟨b1,b2,b3⟩:=hd.beg k
  have b1:=qC.1 b1
  have hl:=Qax b2 (by omega)
  rw[Qi (QJ (by omega)),Qj (QO k),Qne hK hd.saga (by omega) b2]
  try simp only[Qb]
  rw[jC hK (by simp;omega) (by simp)]
  try simp only[Qb]
  rw[Qj (QO k)]
  have hL:ZE.f K x=some (Q9 (comS K x)):=by
   unfold ZE.f
   refine QK (Qwx hK ho) ?_
   rw[Qb8]
   rfl
  rw[hL]
  simp only[Qb,Qg]
  have hsl:=Qk8 (K:=K) hr
  unfold Qk7 QsN at hsl⊢
  rw[Qj (QO k)]at hsl⊢
  simp only[List.length_append,QG]at hsl
  rw[YV (by simp[QG];omega)]
  simp
 ·have h4:=hd.call (.inl k)
  rw[Qi (QJ (by omega)),Qi (QJ (by omega)),Qj (QO k),Qew hK hd.saga h4.1 h4.2.1 h4.2.2]
  try simp only[Qb]
  rw[e 2 k (by decide)]
  simp only[jJ,k]at hb⊢
  simp at hb
  rw[jC hK (by simp[k]at hk⊢;omega) (by simp)]
  simp
 ·have h4:=hd.call (.inr (.inr k))
  rw[Qi (QJ (by omega)),Qi (QJ (by omega)),Qi (QJ (by omega)),Qj (QO k)]
  have hL:jS.f K x=some (jJ 3 x):=by
   unfold jS.f
   rw[Qew hK hd.saga h4.1 h4.2.1 h4.2.2]
   try simp only[Qb]
   rw[Qev]
   try simp only[Qb]
   rw[Qbb hK (by simp) (by intro n hn;simp at hn;rcases hn with rfl|rfl;exact hd.part;exact hd.epoch)]
   try simp only[Qb]
   rw[Qb8]
   try simp only[Qb]
   simp only[k,jJ]at hb
   simp[QG]at hb
   rw[jC hK (by simp[QG];omega) (by simp)]
   simp[jJ]
  rw[hL]
  try simp only[Qb]
  rw[e 3 k (by decide)]
  simp only[k]at hb hk⊢
  rw[jC hK (by simp;omega) (by simp)]
  simp
 ·have h4:=hd.call (.inr (.inl k))
  rw[Qi (QJ (by omega)),Qi (QJ (by omega)),Qi (QJ (by omega)),Qi (QJ (by omega)),Qj (QO k),Qew hK hd.saga h4.1 h4.2.1 h4.2.2]
  try simp only[Qb]
  rw[e 4 k (by decide)]
  simp only[jJ,k]at hb⊢
  simp at hb
  rw[jC hK (by simp[k]at hk⊢;omega) (by simp)]
  simp
 ·have h4:=hd.clo k
  rw[Qi (QJ (by omega)),Qi (QJ (by omega)),Qi (QJ (by omega)),Qi (QJ (by omega)),Qi (QJ (by omega)),Qj (QO k)]
  have hL:jT.f K x=some (jJ 5 x):=by
   unfold jT.f
   rw[Qbb hK (by simp) (by intro n hn;simp at hn;rcases hn with rfl|rfl|rfl;exact hd.saga;exact h4.1;exact h4.2)]
   simp[jJ]
  rw[hL]
  try simp only[Qb]
  rw[e 5 k (by decide)]
  simp only[k]at hb hk⊢
  rw[jC hK (by simp;omega) (by simp)]
  simp
 ·rw[Qi (QJ (by omega)),Qi (QJ (by omega)),Qi (QJ (by omega)),Qi (QJ (by omega)),Qi (QJ (by omega)),Qi (QJ (by omega)),Qj (QO k)]
  have hL:jU.f K x=some (jJ 6 x):=by
   unfold jU.f
   rw[Qbb hK (by simp) (by intro n hn;simp at hn;rcases hn with rfl|rfl;exact hd.part;exact hd.epoch)]
   simp[jJ]
  rw[hL]
  try simp only[Qb]
  rw[e 6 k (by decide)]
  simp only[k]at hb hk⊢
  rw[jC hK (by simp;omega) (by simp)]
  simp
end Go.Proofs.YtomndohdnfebgaaGreatDoor
namespace Go.Proofs.YtomndohdnfebgaaGreatDoor
open Go Go.Sep
theorem bnd{α β:Type}{o:Option α}{x:α}{f:α→Option β}(h:o=some x):o.bind f=f x:=by rw[h];rfl
def dpt(n:Nat):Nat:=Nat.log2 (2*n-1)
def chkS(n:Nat):Bool:=match XN.f 1000000000000 (n:Int)with
 |some k=>decide (0<k)&&(decide (k<(n:Int))&&(decide (dpt k.toNat<dpt n)&&(decide (dpt (n-k.toNat)<dpt n)&&decide (dpt n≤20))))
 |none=>false
theorem Qq8:((List.range 402).all fun n=>decide (n<2)||chkS n)=true:=by kernel_rfl
theorem QjA{n:Nat}(h1:2≤n)(h2:n≤401):∃k:Nat,XN.f 1000000000000 (n:Int)=some (k:Int)∧0<k∧k<n∧dpt k<dpt n∧dpt (n-k)<dpt n∧dpt n≤20:=by
 have h:=List.all_eq_true.1 Qq8 n (List.mem_range.2 (by omega))
 simp only[Bool.or_eq_true,decide_eq_true_eq]at h
 rcases h with h|h
 ·omega
 unfold chkS at h
 split at h
 ·rename_i k hk
  simp only[Qd,decide_eq_true_eq]at h
  obtain⟨a,b,c,d,e⟩:=h
  obtain⟨m,rfl⟩:=Int.eq_ofNat_of_zero_le (show 0≤k by omega)
  simp only[Int.toNat_natCast]at c d
  exact⟨m,hk,by omega,by omega,c,d,e⟩
 ·cases h
theorem QsO{b:List Int}(h:b.length<900000):∃r,QbE.f 1000000000000 b=some r:=by
 unfold QbE.f
 obtain⟨r,hr,_⟩:=QeB (K:=1000000000000) (Nat.le_refl _) (x:= [[0],b]) (by simp) (by simp;omega)
 exact⟨r,QK hr rfl⟩
theorem QfI(a b:H32):∃r,Xk.f 1000000000000 a b=some r:=by
 unfold Xk.f
 have hs:∀v:H32,subI (Q9 v) 0 ((32:Nat):Int)=some (Q9 v):=fun v=>by
  have:=Qby (l:=Q9 v) (b:=32) (by rw[QG];omega)
  rw[List.take_of_length_le (by rw[QG];omega)]at this
  exact this
 obtain⟨r,hr,_⟩:=QeB (K:=1000000000000) (Nat.le_refl _) (x:= [[1],Q9 a,Q9 b]) (by simp) (by simp[QG])
 exact⟨r,QK (hs a) (QK (hs b) (QK hr rfl))⟩
end Go.Proofs.YtomndohdnfebgaaGreatDoor
namespace Go.Proofs.YtomndohdnfebgaaGreatDoor
open Go Go.Sep
theorem jB{K:Nat}(a b c:Int):Jw.f K a b c=some (inn a b c):=by
 unfold Jw.f inn
 cases decide (b≤a)<;>rfl
def mayK(k:Qw):Bool:=inn ((k.fParts.length:Nat):Int) 1 4&&(inn ((k.fWits.length:Nat):Int) 1 4&&inn k.fNeed 1 ((k.fWits.length:Nat):Int))
theorem Qnj{K:Nat}(k:Qw):Zz.f K k=some (mayK k):=by
 unfold Zz.f mayK
 rw[jB,jB,jB]
 cases inn ((k.fParts.length:Nat):Int) 1 4<;>cases inn ((k.fWits.length:Nat):Int) 1 4<;>rfl
theorem QjB{k:Qw}(h:mayK k=true):1≤k.fParts.length∧k.fParts.length≤4∧1≤k.fWits.length∧k.fWits.length≤4∧1≤k.fNeed∧k.fNeed≤((k.fWits.length:Nat):Int):=by
 unfold mayK at h
 simp only[Qd,qC]at h
 omega
def Qg6(k:Qw)(p e:Int):Bool:=mayK k&&(inn p 0 (((k.fParts.length:Nat):Int)-1)&&inn e 0 400)
theorem QjC{K:Nat}(k:Qw)(p e:Int):XM.f K k p e=some (Qg6 k p e):=by
 unfold XM.f Qg6
 rw[Qnj]
 simp only[Qb]
 cases h:mayK k with
 |false=>rfl
 |true=>
  have:=QjB h
  simp only[Qg,Bool.true_and]
  rw[wrap64 (by omega) (by omega),jB,jB]
  cases inn p 0 (((k.fParts.length:Nat):Int)-1)<;>rfl
theorem QsP{K:Nat}(hK:1000000000000≤K){n:Int}:∃r:List Int,QcQ.f K n 8=some r∧r.length=8:=by
 unfold QcQ.f
 have hz:Qai 1 (0:Int) 8=some [0,0,0,0,0,0,0,0]:=rfl
 refine Qr hz ?_
 have key:∀(m i:Nat) (v:Int) (l:List Int) (k:Nat),i+m=8→m<k→l.length=8→∃r,YY.l K 8 [0,0,0,0,0,0,0,0] k (v,l,(i:Int))=some r∧r.length=8:=by
  intro m
  induction m with
  |zero=>
   intro i v l k hi hk hl
   obtain⟨k,rfl⟩:∃j,k=j+1:=⟨k-1,by omega⟩
   refine⟨l,?_,hl⟩
   show YY.b K 8 [0,0,0,0,0,0,0,0] (YY.l K 8 [0,0,0,0,0,0,0,0] k) _=_
   unfold YY.b
   rw[Qi (by simp;omega)]
  |succ m ih=>
   intro i v l k hi hk hl
   obtain⟨k,rfl⟩:∃j,k=j+1:=⟨k-1,by omega⟩
   show ∃r,YY.b K 8 [0,0,0,0,0,0,0,0] (YY.l K 8 [0,0,0,0,0,0,0,0] k) _=_∧_
   unfold YY.b
   rw[Qj (by simp;omega)]
   have e1:IntKind.wrap .i64 ((8:Int)-1)=((7:Nat):Int):=by rw[wrap64 (by omega) (by omega)];rfl
   have e2:IntKind.wrap .i64 (((7:Nat):Int)-(i:Int))=((7-i:Nat):Int):=by rw[wrap64 (by omega) (by omega)];omega
   simp only
   rw[e1,e2]
   obtain⟨x,hx⟩:=Jj (l:=l) (i:=7-i) (by omega)
   refine Qr hx ?_
   rw[wrap_succ (by omega)]
   exact ih (i+1) _ _ k (by omega) (by omega) (by simp[hl])
 obtain⟨r,hr,hl⟩:=key 8 0 n [0,0,0,0,0,0,0,0] K (by omega) (by omega) rfl
 have hr:YY.l K 8 [0,0,0,0,0,0,0,0] K (n, [0,0,0,0,0,0,0,0],0)=some r:=hr
 rw[hr]
 exact⟨r,rfl,hl⟩
def num8(K:Nat)(x:Int):List Int:=(Qak.f K x).getD []
theorem Qq9{K:Nat}(hK:1000000000000≤K)(x:Int):Qak.f K x=some (num8 K x)∧(num8 K x).length=8:=by
 obtain⟨r,hr,hl⟩:=QsP hK (n:=IntKind.wrap .u64 x)
 have:Qak.f K x=some r:=by unfold Qak.f;rw[hr];rfl
 unfold num8
 rw[this]
 exact⟨rfl,hl⟩
theorem QsQ{K:Nat}(hK:1000000000000≤K){l:List Int}(hl:l.length≤10):Xb.f K l=some (l.map (num8 K)).flatten∧(l.map (num8 K)).flatten.length≤80:=by
 have hfl:(l.map (num8 K)).flatten.length≤8*l.length:=XJ (fun x _=>by rw[(Qq9 hK x).2];omega)
 unfold Xb.f
 have hj:=ZP (L:=YD.l K l) l (num8 K) [] (k:=K) (by omega)
  (fun k s=>by
   show YD.b K l (YD.l K l k) _=_
   unfold YD.b
   rw[Qi (QJ (by simp))])
  (fun k s i x hi hx hm hs=>by
   show YD.b K l (YD.l K l k) _=_
   unfold YD.b
   rw[Qj (QO (by simp only;omega))]
   simp only
   rw[hx]
   simp only[Qb]
   rw[(Qq9 hK x).1]
   simp only[Qb]
   rw[YV (by omega)]
   simp only[Qb]
   rw[wrap_succ (by omega)])
  (by simp only[List.length_nil];omega)
 have hj:YD.l K l K ([],0)=some ((l.map (num8 K)).flatten):=hj
 rw[hj]
 exact⟨rfl,by omega⟩
theorem Qra{K:Nat}(hK:1000000000000≤K)(x:List Int)(b:Int):∃r:List Int,Qf7.f K x b=some r∧r.length=64:=by
 unfold Qf7.f
 have hz:Qai 1 (0:Int) 64=some (List.replicate 64 0):=rfl
 refine Qr hz ?_
 have hc:(List.take (List.replicate 64 (0:Int)).length x++List.drop x.length (List.replicate 64 (0:Int))).length=64:=by simp;omega
 have key:∀(m i:Nat) (l:List Int) (k:Nat),i+m=64→m<k→l.length=64→∃r,qg.l K x b (List.replicate 64 0) k (l,(i:Int))=some r∧r.length=64:=by
  intro m
  induction m with
  |zero=>
   intro i l k hi hk hl
   obtain⟨k,rfl⟩:∃j,k=j+1:=⟨k-1,by omega⟩
   refine⟨l,?_,hl⟩
   show qg.b K x b (List.replicate 64 0) (qg.l K x b (List.replicate 64 0) k) (l,(i:Int))=_
   unfold qg.b
   rw[Qi (QJ (by rw[hc];simp only;omega))]
  |succ m ih=>
   intro i l k hi hk hl
   obtain⟨k,rfl⟩:∃j,k=j+1:=⟨k-1,by omega⟩
   show ∃r,qg.b K x b (List.replicate 64 0) (qg.l K x b (List.replicate 64 0) k) (l,(i:Int))=_∧_
   unfold qg.b
   rw[Qj (QO (by rw[hc];simp only;omega))]
   obtain⟨y,hy⟩:=Jj (l:=l) (i:=i) (by omega)
   refine Qr hy ?_
   refine Qr hy ?_
   refine Qr hy ?_
   rw[wrap_succ (by omega)]
   exact ih (i+1) _ k (by omega) (by omega) (by simp[hl])
 obtain⟨r,hr,hl⟩:=key 64 0 _ K (by omega) (by omega) hc
 have hr:qg.l K x b (List.replicate 64 0) K (_,0)=some r:=hr
 rw[hr]
 exact⟨r,rfl,hl⟩
theorem Qrb(v:H32):subI (Q9 v) 0 ((32:Nat):Int)=some (Q9 v):=by
 have:=Qby (l:=Q9 v) (b:=32) (by rw[QG];omega)
 rwa [List.take_of_length_le (by rw[QG];omega)]at this
theorem Qrc{K:Nat}(hK:1000000000000≤K){x:List Int}(hx:x.length≤64){l:List (List Int)}(hl:l.length<900)(hf:l.flatten.length<900000):∃r,Qf8.f K x l=some r∧∀j,j<32→0≤vget r j∧vget r j<256:=by
 unfold Qf8.f
 simp only[jn]
 rw[Qi (QJ (by omega))]
 obtain⟨p,hp,lp⟩:=Qra hK x 54
 refine Qr hp ?_
 refine Qr (YV (by simp only[List.length_singleton];omega)) ?_
 obtain⟨r,hr,_⟩:=QeB (K:=K) hK (x:= [p]++l) (by simp;omega) (by simp only[List.singleton_append,List.flatten_cons,List.length_append,lp];omega)
 refine Qr hr ?_
 refine Qr (Qrb r) ?_
 obtain⟨q,hq,lq⟩:=Qra hK x 92
 refine Qr hq ?_
 obtain⟨s,hs,h3⟩:=QeB (K:=K) hK (x:= [q,Q9 r]) (by simp) (by simp[lq,QG])
 refine Qr hs ?_
 exact⟨s,rfl,h3⟩
theorem Qrd{K:Nat}(hK:1000000000000≤K)(h:H32){l:List Int}(hl:l.length≤10):∃r,Qd3.f K h l=some r∧∀j,j<32→0≤vget r j∧vget r j<256:=by
 unfold Qd3.f
 refine Qr (Qrb h) ?_
 obtain⟨h1,h2⟩:=QsQ hK hl
 refine Qr h1 ?_
 obtain⟨r,hr,h3⟩:=Qrc hK (x:=Q9 h) (by rw[QG];omega) (l:= [(l.map (num8 K)).flatten]) (by simp) (by simp only[List.flatten_cons,List.flatten_nil,List.append_nil];omega)
 refine Qr hr ?_
 exact⟨r,rfl,h3⟩
def byH(r:H32):Prop:=∀j,j<32→0≤vget r j∧vget r j<256
theorem Qcy:byH zH:=fun j hj=>by
 have:vget zH j=0:=by
  unfold zH vget
  rw[List.getD_eq_getElem?_getD,Vector.getElem?_toList,Vector.getElem?_replicate,if_pos hj];rfl
 rw[this];omega
theorem Qvf{K:Nat}(hK:1000000000000≤K)(k:Qw)(p e:Int):∃r,QbB.f K k p e=some r∧byH r:=by
 unfold QbB.f
 rw[QjC,vz]
 simp only[Qb]
 cases h:Qg6 k p e with
 |false=>exact⟨zH,rfl,Qcy⟩
 |true=>
  simp only[Bool.not_true,Qh]
  unfold Qg6 at h
  simp only[Qd,qC]at h
  obtain⟨i,rfl⟩:=Int.eq_ofNat_of_zero_le h.2.1.1
  obtain⟨x,hx⟩:=Jj (l:=k.fParts) (i:=i) (by have:=h.2.1.2;omega)
  refine Qr hx ?_
  obtain⟨r,hr,h2⟩:=Qrd hK x (l:= [1,e]) (by simp)
  refine Qr hr ?_
  exact⟨r,rfl,h2⟩
theorem QsR{K:Nat}(hK:1000000000000≤K)(k:Qw)(x:Rc):∃r,jd.f K k x=some r∧byH r:=by
 unfold jd.f
 simp only[jn]
 rw[QjC,vz]
 have main:∃r,((QbB.f K k x.fPart x.fEpoch).bind fun r1=>(Qcj.f K x.fBack).bind fun r2=>(Qcj.f K x.fGood).bind fun r3=>(Qd3.f K r1 [2,x.fSaga,x.fStep,r2,r3]).bind fun r4=>some r4)=some r∧byH r:=by
  obtain⟨a,ha,_⟩:=Qvf hK k x.fPart x.fEpoch
  refine Qr ha ?_
  have hb:∀c:Bool,∃z,Qcj.f K c=some z:=fun c=>by cases c<;>exact⟨_,rfl⟩
  obtain⟨b1,h1⟩:=hb x.fBack
  obtain⟨b2,h2⟩:=hb x.fGood
  refine Qr h1 ?_
  refine Qr h2 ?_
  obtain⟨r,hr,h3⟩:=Qrd hK a (l:= [2,x.fSaga,x.fStep,b1,b2]) (by simp)
  refine Qr hr ?_
  exact⟨r,rfl,h3⟩
 cases decide (x.fKind=3)with
 |false=>exact⟨zH,rfl,Qcy⟩
 |true=>
  simp only[Bool.not_true,Qh,Qb]
  cases Qg6 k x.fPart x.fEpoch with
  |false=>exact⟨zH,rfl,Qcy⟩
  |true=>exact main
def QsS(k:Qw)(x:Rc):H32:=(jd.f 1000000000000 k x).getD zH
theorem Qre(k:Qw)(x:Rc):jd.f 1000000000000 k x=some (QsS k x)∧byH (QsS k x):=by
 obtain⟨r,hr,h⟩:=QsR (K:=1000000000000) (Nat.le_refl _) k x
 unfold QsS
 rw[hr]
 exact⟨rfl,h⟩
theorem QsT{K:Nat}(hK:1000000000000≤K){p:Qo}(hp:inn p.fSize 0 400=true):∃r,Qdh.f K p=some r∧byH r:=by
 unfold Qdh.f
 rw[qC]at hp
 refine Qr (Qrb p.fRoot) ?_
 refine Qr (Qmk hK (n:=p.fSize) (by omega)) ?_
 have hn:=Yn (n:=p.fSize) (by omega)
 obtain⟨r,hr,h⟩:=QtR hK (d:=6) (l:= [numW p.fSize,Q9 p.fRoot]) (by simp) (fun x hx=>by
  simp at hx
  rcases hx with rfl|rfl
  ·omega
  ·rw[QG];omega)
 refine Qr hr ?_
 exact⟨r,rfl,h⟩
theorem QsU{K:Nat}(hK:1000000000000≤K)(k:Qw)(w:Int)(p:Qo):∃r,X0.f K k w p=some r∧byH r:=by
 unfold X0.f
 simp only[jn]
 rw[Qnj,vz]
 simp only[Qb]
 cases hm:mayK k with
 |false=>exact⟨zH,rfl,Qcy⟩
 | true=>
  have hl:=QjB hm
  simp only[Bool.not_true,Qh]
  rw[wrap64 (by omega) (by omega),jB,jB]
  simp only[Qb]
  cases hw:inn w 0 (((k.fWits.length:Nat):Int)-1)with
  |false=>exact⟨zH,rfl,Qcy⟩
  | true=>
   simp only[Bool.not_true,Qh]
   cases hs:inn p.fSize 0 400 with
   |false=>exact⟨zH,rfl,Qcy⟩
   |true=>
    simp only[Bool.not_true,Qh]
    obtain⟨t,ht,_⟩:=QsT hK hs
    refine Qr ht ?_
    rw[qC]at hw
    obtain⟨i,rfl⟩:=Int.eq_ofNat_of_zero_le hw.1
    obtain⟨x,hx⟩:=Jj (l:=k.fWits) (i:=i) (by omega)
    refine Qr hx ?_
    refine Qr (Qrb x) ?_
    refine Qr (Qrb t) ?_
    obtain⟨r,hr,h2⟩:=Qrc hK (x:=Q9 x) (by rw[QG];omega) (l:= [[3],Q9 t]) (by simp) (by simp[QG])
    refine Qr hr ?_
    exact⟨r,rfl,h2⟩
def Qrf(k:Qw)(w:Int)(p:Qo):H32:=(X0.f 1000000000000 k w p).getD zH
theorem Qrg(k:Qw)(w:Int)(p:Qo):X0.f 1000000000000 k w p=some (Qrf k w p)∧byH (Qrf k w p):=by
 obtain⟨r,hr,h⟩:=QsU (K:=1000000000000) (Nat.le_refl _) k w p
 unfold Qrf
 rw[hr]
 exact⟨rfl,h⟩
theorem bx8:∀a b:Nat,a<256→b<256→(bxor .u8 (a:Int) (b:Int))=((a^^^b:Nat):Int):=fun a b ha hb=>by
 have h:a^^^b<256:=Nat.xor_lt_two_pow (n:=8) ha hb
 unfold bxor
 rw[BitVec.toNat_xor]
 simp only[IntKind.bits,BitVec.ofInt_natCast,BitVec.toNat_ofNat]
 rw[show(2:Nat)^8=256 by decide,Nat.mod_eq_of_lt ha,Nat.mod_eq_of_lt hb,Qpd (by omega) (by omega)]
theorem bo8:∀a b:Nat,a<256→b<256→(bor .u8 (a:Int) (b:Int))=((a|||b:Nat):Int):=fun a b ha hb=>by
 have h:a|||b<256:=Nat.or_lt_two_pow (n:=8) ha hb
 unfold bor
 rw[BitVec.toNat_or]
 simp only[IntKind.bits,BitVec.ofInt_natCast,BitVec.toNat_ofNat]
 rw[show(2:Nat)^8=256 by decide,Nat.mod_eq_of_lt ha,Nat.mod_eq_of_lt hb,Qpd (by omega) (by omega)]
theorem Qrh{v u:H32}(h:∀j,j<32→vget v j=vget u j):v=u:=by
 apply Vector.toList_inj.1
 rw[←Qft,←Qft]
 unfold Q9
 apply List.map_congr_left
 intro j hj
 exact h j (List.mem_range.1 hj)
theorem Qnk{a b:H32}(ha:byH a)(hb:byH b):X5.f 1000000000000 a b=some (decide (a=b)):=by
 have key:∀(m i k:Nat) (z:Nat),i+m=32→m<k→z<256→(z=0↔∀j,j<i→vget a j=vget b j)→∃y:Nat,Yo.l 1000000000000 a b k ((i:Int),(z:Int))=some (y:Int)∧(y=0↔∀j,j<32→vget a j=vget b j):=by
  intro m
  induction m with
  |zero=>
   intro i k z hi hk hz h
   obtain⟨k,rfl⟩:∃j,k=j+1:=⟨k-1,by omega⟩
   have e:i=32:=by omega
   subst e
   refine⟨z,?_,h⟩
   show Yo.b 1000000000000 a b (Yo.l 1000000000000 a b k) (((32:Nat):Int),(z:Int))=_
   unfold Yo.b
   rw[Qi (QJ (by simp only;omega))]
  | succ m ih=>
   intro i k z hi hk hz h
   obtain⟨k,rfl⟩:∃j,k=j+1:=⟨k-1,by omega⟩
   have h1:=ha i (by omega)
   have h2:=hb i (by omega)
   obtain⟨x,hx⟩:=Int.eq_ofNat_of_zero_le h1.1
   obtain⟨y,hy⟩:=Int.eq_ofNat_of_zero_le h2.1
   have hz':z|||(x^^^y)<256:=Nat.or_lt_two_pow (n:=8) hz (Nat.xor_lt_two_pow (n:=8) (by omega) (by omega))
   have e:Yo.l 1000000000000 a b (k+1) ((i:Int),(z:Int))=Yo.l 1000000000000 a b k (((i+1:Nat):Int),((z|||(x^^^y):Nat):Int)):=by
    show Yo.b 1000000000000 a b (Yo.l 1000000000000 a b k) ((i:Int),(z:Int))=_
    unfold Yo.b QaN.f
    rw[Qj (QO (by simp only;omega))]
    simp only[chk,Int.toNat_natCast]
    rw[Qj (Yl (by omega)),Qj (Yl (by omega)),hx,hy,bx8 x y (by omega) (by omega),bo8 z _ hz (Nat.xor_lt_two_pow (n:=8) (by omega) (by omega)),wrap_succ (by omega)]
    rfl
   rw[e]
   refine ih (i+1) k _ (by omega) (by omega) hz' ?_
   rw[Nat.or_eq_zero_iff,h]
   have hxy:x^^^y=0↔vget a i=vget b i:=by
    rw[hx,hy]
    constructor
    ·intro g
     have:=congrArg (· ^^^y) g
     have:x=y:=by simpa[Nat.xor_assoc] using this
     rw[this]
    ·intro g
     have:x=y:=by omega
     rw[this,Nat.xor_self]
   rw[hxy]
   constructor
   ·rintro⟨g1,g2⟩ j hj
    by_cases e:j=i
    ·subst e;exact g2
    ·exact g1 j (by omega)
   ·intro g
    exact⟨fun j hj=>g j (by omega),g i (by omega)⟩
 obtain⟨y,h1,h2⟩:=key 32 0 1000000000000 0 (by omega) (by omega) (by omega) ⟨fun _ j hj=>absurd hj (by omega),fun _=>rfl⟩
 unfold X5.f
 have h1:Yo.l 1000000000000 a b 1000000000000 (0,0)=some (y:Int):=h1
 rw[h1]
 show some (decide ((y:Int)=0))=_
 refine congrArg some ?_
 by_cases e:a=b
 ·rw[QO e,QO (by have:=h2.2 (fun j _=>by rw[e]);omega)]
 ·rw[QJ e,QJ (fun hy=>e (Qrh (h2.1 (by omega))))]
end Go.Proofs.YtomndohdnfebgaaGreatDoor
