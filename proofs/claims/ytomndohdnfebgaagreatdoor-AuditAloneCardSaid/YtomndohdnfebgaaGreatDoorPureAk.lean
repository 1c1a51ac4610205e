/-
 Plain: keys: tags, receipts and signatures are there; which points are signed.
-/
import Derived.Test.YtomndohdnfebgaaGreatDoorPureH
namespace Go.Proofs.YtomndohdnfebgaaGreatDoor
open Go Go.Sep
theorem QxE{K:Nat}(hK:1000000000000≤K){n:Int}:∃r:List Int,Qd3.f K n 4=some r∧r.length=4:=by
 unfold Qd3.f
 have hz:Qbe 1 (0:Int) 4=some [0,0,0,0]:=rfl
 refine Qv hz ?_
 have key:∀(m i:Nat) (v:Int) (l:List Int) (k:Nat),i+m=4→m<k→l.length=4→∃r,Jg.l K 4 [0,0,0,0] k (v,l,(i:Int))=some r∧r.length=4:=by
  intro m
  induction m with
  |zero=>
   intro i v l k hi hk hl
   obtain⟨k,rfl⟩:∃j,k=j+1:=⟨k-1,by omega⟩
   refine⟨l,?_,hl⟩
   show Jg.b K 4 [0,0,0,0] (Jg.l K 4 [0,0,0,0] k) _=_
   unfold Jg.b
   rw[Qi (QE (by simp;omega))]
  |succ m ih=>
   intro i v l k hi hk hl
   obtain⟨k,rfl⟩:∃j,k=j+1:=⟨k-1,by omega⟩
   show ∃r,Jg.b K 4 [0,0,0,0] (Jg.l K 4 [0,0,0,0] k) _=_∧_
   unfold Jg.b
   rw[Qj (QK (by simp;omega))]
   have e1:IntKind.wrap .i64 ((4:Int)-1)=((3:Nat):Int):=by rw[wrap64 (by omega) (by omega)];rfl
   have e2:IntKind.wrap .i64 (((3:Nat):Int)-(i:Int))=((3-i:Nat):Int):=by rw[wrap64 (by omega) (by omega)];omega
   simp only
   rw[e1,e2]
   obtain⟨x,hx⟩:=JF (l:=l) (i:=3-i) (by omega)
   refine Qv hx ?_
   rw[wrap_succ (by omega)]
   exact ih (i+1) _ _ k (by omega) (by omega) (by simp[hl])
 obtain⟨r,hr,hl⟩:=key 4 0 n [0,0,0,0] K (by omega) (by omega) rfl
 have hr:Jg.l K 4 [0,0,0,0] K (n, [0,0,0,0],0)=some r:=hr
 rw[hr]
 exact⟨r,rfl,hl⟩
theorem Qdo{K:Nat}(hK:1000000000000≤K){x:List (List Int)}(h:x.flatten.length<1000000000000)(hx:x.length<1000000000000):QS.f K x=some x.flatten:=by
 have:=QdY (K:=K) (x:=x) hK h hx
 unfold Ju.f at this
 cases h:QS.f K x with
 |none=>rw[h]at this;cases this
 |some y=>rw[h]at this;exact this
theorem Qu5{K:Nat}(hK:1000000000000≤K){x:List Int}(h:x.length<100000):∃r:List Int,QdB.f K x=some r∧r.length=x.length+4:=by
 unfold QdB.f
 obtain⟨r,hr,hl⟩:=QxE hK (n:=IntKind.wrap .u64 ((x.length:Nat):Int))
 refine Qv hr ?_
 refine Qv (Qdo hK (by simp;omega) (by simp)) ?_
 exact⟨_,rfl,by simp;omega⟩
def Qoa(K:Nat)(x:List Int):List Int:=(QdB.f K x).getD []
theorem Qpc{K:Nat}(hK:1000000000000≤K){x:List Int}(h:x.length<100000):QdB.f K x=some (Qoa K x)∧(Qoa K x).length=x.length+4:=by
 obtain⟨r,hr,hl⟩:=Qu5 hK h
 unfold Qoa
 rw[hr]
 exact⟨rfl,hl⟩
theorem Qwh{K:Nat}(hK:1000000000000≤K){d:Int}{l:List (List Int)}(hl:l.length≤5)(h:∀x∈l,x.length≤10000):∃r,Qhz.f K d l=some r∧∀j,j<32→0≤vget r j∧vget r j<256:=by
 unfold Qhz.f ZO.f
 have hfl:(l.map (Qoa K)).flatten.length≤10004*l.length:=Qk2 (fun x hx=>by
  have:=h x hx
  rw[(Qpc hK (x:=x) (by omega)).2];omega)
 have hj:=Qg6 (L:=YM.l K l) l (Qoa K) [] (k:=K) (by omega)
  (fun k s=>by
   show YM.b K l (YM.l K l k) _=_
   unfold YM.b
   rw[Qi (QE (by simp))])
  (fun k s i x hi hx hm hs=>by
   show YM.b K l (YM.l K l k) _=_
   unfold YM.b
   rw[Qj (QK (by simp only;omega))]
   simp only
   rw[hx]
   try simp only[Qb]
   have:=h x hm
   rw[(Qpc hK (x:=x) (by omega)).1]
   try simp only[Qb]
   rw[YX (by omega)]
   try simp only[Qb]
   rw[wrap_succ (by omega)])
  (by simp only[List.length_nil];omega)
 have hj:YM.l K l K ([],0)=some ((l.map (Qoa K)).flatten):=hj
 rw[hj]
 try simp only[Qb]
 obtain⟨r,hr,hp⟩:=Qdn (K:=K) hK (x:= [[IntKind.wrap .u8 d],(l.map (Qoa K)).flatten]) (by simp) (by simp only[List.flatten_cons,List.flatten_nil,List.append_nil,List.length_append,List.length_singleton];omega)
 refine Qv hr ?_
 exact⟨r,rfl,hp⟩
def ofS(K:Nat)(s:H32)(d:List Int):H32:=(Qhz.f K 4 [Yh s,d]).getD zH
theorem Qit{h:H32}(hr:∀i,i<32→0≤vget h i∧vget h i<256):isB (Yh h):=by
 intro x hx
 simp only[Yh,List.mem_map,List.mem_range]at hx
 obtain⟨i,hi,rfl⟩:=hx
 exact hr i hi
theorem Qwi{K:Nat}(hK:1000000000000≤K){s:H32}{d:List Int}(h:d.length≤10000):Qhz.f K 4 [Yh s,d]=some (ofS K s d)∧isB (Yh (ofS K s d)):=by
 obtain⟨r,hr,hp⟩:=Qwh hK (d:=4) (l:= [Yh s,d]) (by simp) (fun x hx=>by
  simp at hx
  rcases hx with rfl|rfl
  ·rw[QX];omega
  ·exact h)
 unfold ofS
 rw[hr]
 exact⟨rfl,Qit hp⟩
def begS(x:Rc):Bool:=Yy x&&decide (x.fKind=1)
def comS(K:Nat)(x:Rc):H32:=bif begS x then(bif x.fGone then x.fCom else ofS K x.fSalt x.fData)else zH
theorem vz:vofL 32 [(0:Int),(0:Int),(0:Int),(0:Int),(0:Int),(0:Int),(0:Int),(0:Int),(0:Int),(0:Int),(0:Int),(0:Int),(0:Int),(0:Int),(0:Int),(0:Int),(0:Int),(0:Int),(0:Int),(0:Int),(0:Int),(0:Int),(0:Int),(0:Int),(0:Int),(0:Int),(0:Int),(0:Int),(0:Int),(0:Int),(0:Int),(0:Int)]=zH:=by decide
theorem begD{x:Rc}(h:begS x=true):Yy x=true∧x.fKind=1:=by
 unfold begS at h
 simp only[Qd,decide_eq_true_eq]at h
 exact h
theorem Qwj{K:Nat}(hK:1000000000000≤K){x:Rc}(ho:okD x):QhA.f K x=some (comS K x):=by
 unfold QhA.f comS
 try simp only[jn]
 rw[right_eq hK ho,vz]
 try simp only[Qb]
 cases hr:Yy x with
 |false=>
  have:begS x=false:=by unfold begS;rw[hr];rfl
  rw[this];rfl
 | true=>
  simp only[Bool.not_true,Qh]
  by_cases hk:x.fKind=1
  ·have hb:begS x=true:=by unfold begS;rw[hr,QK hk];rfl
   rw[hb,QK hk]
   simp only[Bool.not_true,Qh,Qg]
   cases hg:x.fGone with
   |true=>rfl
   |false=>
    simp only[Qh]
    have h3:=((Qag hr).beg hk).2.2
    have hs:=Qaz (l:=Yh x.fSalt) (b:=32) (by rw[QX];omega)
    rw[List.take_of_length_le (by rw[QX];omega)]at hs
    refine Qz hs ?_
    rw[(Qwi hK (s:=x.fSalt) (d:=x.fData) (by omega)).1]
    rfl
  ·have hb:begS x=false:=by unfold begS;rw[QE hk];simp
   rw[hb,QE hk];rfl
theorem Qpd{K:Nat}(hK:1000000000000≤K){x:Rc}(hb:okB x):isB (Yh (comS K x)):=by
 unfold comS
 cases h:begS x with
 |false=>exact Qah
 | true=>
  cases hg:x.fGone with
  |true=>exact hb.com
  |false=>
   have h3:=((Qag (begD h).1).beg (begD h).2).2.2
   exact(Qwi hK (by omega)).2
def redS(K:Nat)(x:Rc):Rc:=bif begS x then{zRc with fKind:=1,fSaga:=x.fSaga,fSteps:=x.fSteps,fGone:=true,fCom:=comS K x} else x
theorem Qpe{K:Nat}(hK:1000000000000≤K){x:Rc}(ho:okD x):y9.f K x=some (redS K x):=by
 unfold y9.f redS
 try simp only[jn]
 rw[right_eq hK ho]
 try simp only[Qb]
 cases hr:Yy x with
 |false=>
  have:begS x=false:=by unfold begS;rw[hr];rfl
  rw[this];rfl
 | true=>
  simp only[Bool.not_true,Qh]
  by_cases hk:x.fKind=1
  ·have hb:begS x=true:=by unfold begS;rw[hr,QK hk];rfl
   rw[hb,QK hk]
   simp only[Bool.not_true,Qh,Qg]
   have hl:=J8.1 ((Qag hr).beg hk).1
   have hc:QF.f K x.fSteps=some x.fSteps:=by
    unfold QF.f
    rw[YX (by simp;omega)]
    rfl
   refine Qz hc ?_
   refine Qz (Qwj hK ho) ?_
   rfl
  ·have hb:begS x=false:=by unfold begS;rw[QE hk];simp
   rw[hb,QE hk];rfl
theorem Qob{K:Nat}{x:Rc}(h:begS x=true):redS K x={zRc with fKind:=1,fSaga:=x.fSaga,fSteps:=x.fSteps,fGone:=true,fCom:=comS K x}:=by unfold redS;rw[h];rfl
theorem Qlb{K:Nat}{x:Rc}(h:begS x=false):redS K x=x:=by unfold redS;rw[h];rfl
theorem Qoc{K:Nat}{x:Rc}(h:okD x):okD (redS K x):=by
 cases hb:begS x with
 |false=>rw[Qlb hb];exact h
 |true=>rw[Qob hb];exact⟨J7,by simp,h.2.2⟩
def Qcd(K:Nat)(x:Rc):List Int:=bif decide (x.fKind=1)then numW x.fSaga++(QaN x.fSteps++Yh (comS K x))else Zg x.fKind x
def QcC(K:Nat)(x:Rc):List Int:=numW x.fKind++Qcd K x
theorem Xy{K:Nat}{x:Rc}(h:Yy x=true):(QcC K x).length≤400:=by
 have h2:=Jb (QjE h)
 unfold QcC Qcd
 by_cases hk:x.fKind=1
 ·rw[Qj (QK hk)]
  have hd:=Qag h
  obtain⟨b1,b2,b3⟩:=hd.beg hk
  have b1:=J8.1 b1
  have h4:=QdK b2 (by omega)
  have h1:=Jb hd.saga
  simp only[List.length_append,QX];omega
 ·rw[Qi (QE hk)]
  have h1:=Qmz h
  simp only[List.length_append];omega
theorem Qiu{K:Nat}(hK:1000000000000≤K){x:Rc}(ho:okD x):XL.f K x=some (bif Yy x then QcC K x else []):=by
 unfold XL.f Qnb.f
 rw[right_eq hK ho]
 try simp only[Qb,jn]
 cases hr:Yy x with
 |false=>rfl
 |true=>
 rw[Qi (by rfl)]
 have hd:=Qag hr
 rw[Qxv hK (QjE hr)]
 try simp only[Qb]
 have hb:=Qmz hr
 have hk:=Jb (QjE hr)
 have w1:=Jb hd.saga
 have w2:=Jb hd.part
 have w3:=Jb hd.epoch
 rw[show Qey.f K=some ()from rfl]
 try simp only[Qb]
 have e:∀k,x.fKind=k→k≠1→QcC K x=numW x.fKind++Zg k x:=fun k hk h1=>by
  unfold QcC Qcd
  rw[Qi (QE (by rw[hk];exact h1)),hk]
 rcases hd.kind with k|k|k|k|k|k
 ·obtain⟨b1,b2,b3⟩:=hd.beg k
  have b1:=J8.1 b1
  have hl:=QdK b2 (by omega)
  rw[Qi (QE (by omega)),Qj (QK k),QuU hK hd.saga (by omega) b2]
  try simp only[Qb]
  rw[QdY hK (by simp;omega) (by simp)]
  try simp only[Qb]
  rw[Qj (QK k)]
  have hL:QaD.f K x=some (Yh (comS K x)):=by
   unfold QaD.f
   refine Qz (Qwj hK ho) ?_
   rw[QsJ]
   rfl
  rw[hL]
  simp only[Qb,Qg]
  have hsl:=Xy (K:=K) hr
  unfold QcC Qcd at hsl⊢
  rw[Qj (QK k)]at hsl⊢
  simp only[List.length_append,QX]at hsl
  rw[YX (by simp[QX];omega)]
  simp
 ·have h4:=hd.call (.inl k)
  rw[Qi (QE (by omega)),Qi (QE (by omega)),Qj (QK k),Qn4 hK hd.saga h4.1 h4.2.1 h4.2.2]
  try simp only[Qb]
  rw[e 2 k (by decide)]
  simp only[Zg,k]at hb⊢
  simp at hb
  rw[QdY hK (by simp[k]at hk⊢;omega) (by simp)]
  simp
 ·have h4:=hd.call (.inr (.inr k))
  rw[Qi (QE (by omega)),Qi (QE (by omega)),Qi (QE (by omega)),Qj (QK k)]
  have hL:ZL.f K x=some (Zg 3 x):=by
   unfold ZL.f
   rw[Qn4 hK hd.saga h4.1 h4.2.1 h4.2.2]
   try simp only[Qb]
   rw[QsI]
   try simp only[Qb]
   rw[QfU hK (by simp) (by intro n hn;simp at hn;rcases hn with rfl|rfl;exact hd.part;exact hd.epoch)]
   try simp only[Qb]
   rw[QsJ]
   try simp only[Qb]
   simp only[k,Zg]at hb
   simp[QX]at hb
   rw[QdY hK (by simp[QX];omega) (by simp)]
   simp[Zg]
  rw[hL]
  try simp only[Qb]
  rw[e 3 k (by decide)]
  simp only[k]at hb hk⊢
  rw[QdY hK (by simp;omega) (by simp)]
  simp
 ·have h4:=hd.call (.inr (.inl k))
  rw[Qi (QE (by omega)),Qi (QE (by omega)),Qi (QE (by omega)),Qi (QE (by omega)),Qj (QK k),Qn4 hK hd.saga h4.1 h4.2.1 h4.2.2]
  try simp only[Qb]
  rw[e 4 k (by decide)]
  simp only[Zg,k]at hb⊢
  simp at hb
  rw[QdY hK (by simp[k]at hk⊢;omega) (by simp)]
  simp
 ·have h4:=hd.clo k
  rw[Qi (QE (by omega)),Qi (QE (by omega)),Qi (QE (by omega)),Qi (QE (by omega)),Qi (QE (by omega)),Qj (QK k)]
  have hL:ZM.f K x=some (Zg 5 x):=by
   unfold ZM.f
   rw[QfU hK (by simp) (by intro n hn;simp at hn;rcases hn with rfl|rfl|rfl;exact hd.saga;exact h4.1;exact h4.2)]
   simp[Zg]
  rw[hL]
  try simp only[Qb]
  rw[e 5 k (by decide)]
  simp only[k]at hb hk⊢
  rw[QdY hK (by simp;omega) (by simp)]
  simp
 ·rw[Qi (QE (by omega)),Qi (QE (by omega)),Qi (QE (by omega)),Qi (QE (by omega)),Qi (QE (by omega)),Qi (QE (by omega)),Qj (QK k)]
  have hL:ZN.f K x=some (Zg 6 x):=by
   unfold ZN.f
   rw[QfU hK (by simp) (by intro n hn;simp at hn;rcases hn with rfl|rfl;exact hd.part;exact hd.epoch)]
   simp[Zg]
  rw[hL]
  try simp only[Qb]
  rw[e 6 k (by decide)]
  simp only[k]at hb hk⊢
  rw[QdY hK (by simp;omega) (by simp)]
  simp
theorem bnd{α β:Type}{o:Option α}{x:α}{f:α→Option β}(h:o=some x):o.bind f=f x:=by rw[h];rfl
def dpt(n:Nat):Nat:=Nat.log2 (2*n-1)
def chkS(n:Nat):Bool:=match yl.f 1000000000000 (n:Int)with
 |some k=>decide (0<k)&&(decide (k<(n:Int))&&(decide (dpt k.toNat<dpt n)&&(decide (dpt (n-k.toNat)<dpt n)&&decide (dpt n≤20))))
 |none=>false
theorem Qtf:((List.range 402).all fun n=>decide (n<2)||chkS n)=true:=by kernel_rfl
theorem Qlc{n:Nat}(h1:2≤n)(h2:n≤401):∃k:Nat,yl.f 1000000000000 (n:Int)=some (k:Int)∧0<k∧k<n∧dpt k<dpt n∧dpt (n-k)<dpt n∧dpt n≤20:=by
 have h:=List.all_eq_true.1 Qtf n (List.mem_range.2 (by omega))
 simp only[Bool.or_eq_true,decide_eq_true_eq]at h
 rcases h with h|h
 ·omega
 unfold chkS at h
 split at h
 ·rename_i k hk
  simp only[Qd,decide_eq_true_eq]at h
  obtain⟨a,b,c,d,e⟩:=h
  obtain⟨m,rfl⟩:=Int.eq_ofNat_of_zero_le (show 0≤k by omega)
  simp only[Int.toNat_natCast]at c d
  exact⟨m,hk,by omega,by omega,c,d,e⟩
 ·cases h
theorem Qpf{b:List Int}(h:b.length<900000):∃r,jR.f 1000000000000 b=some r:=by
 unfold jR.f
 obtain⟨r,hr,_⟩:=Qdn (K:=1000000000000) (Nat.le_refl _) (x:= [[0],b]) (by simp) (by simp;omega)
 exact⟨r,Qz hr rfl⟩
theorem Qe9(a b:H32):∃r,jD.f 1000000000000 a b=some r:=by
 unfold jD.f
 have hs:∀v:H32,subI (Yh v) 0 ((32:Nat):Int)=some (Yh v):=fun v=>by
  have:=Qaz (l:=Yh v) (b:=32) (by rw[QX];omega)
  rw[List.take_of_length_le (by rw[QX];omega)]at this
  exact this
 obtain⟨r,hr,_⟩:=Qdn (K:=1000000000000) (Nat.le_refl _) (x:= [[1],Yh a,Yh b]) (by simp) (by simp[QX])
 exact⟨r,Qz (hs a) (Qz (hs b) (Qz hr rfl))⟩
def okR(l:List Rc):Prop:=l.length≤401∧∀x∈l,okD x
theorem Qtg{l:List Rc}(h:okR l):y8.f 1000000000000 l=some (l.all Yy):=by
 unfold y8.f Jr.f JH.f
 have h50:=h.1
 have hL:=QbC (L:=QM.l 1000000000000 l) (fun(_:Unit) (i:Nat)=>(i:Int)) l (fun _ i x=>some (bif Yy x then .inr ()else .inl (.inl ((i:Nat):Int)))) (fun _=>some (.inr ())) () (k:=1000000000000) (by omega)
  (fun k s=>by
   show QM.b 1000000000000 l (QM.l 1000000000000 l k) _=_
   unfold QM.b
   rw[Qi (QE (by simp))])
  (fun k s i x hi hx=>by
   show QM.b 1000000000000 l (QM.l 1000000000000 l k) _=_
   unfold QM.b QaT.f
   rw[Qj (QK (by omega)),bnd (Yq hx),right_eq (Nat.le_refl _) (h.2 x (List.mem_of_getElem? hx))]
   try simp only[Qb]
   rw[wrap_succ (by omega)]
   cases Yy x<;>rfl)
 have hL:QM.l 1000000000000 l 1000000000000 0=_:=hL
 obtain⟨r1,r2⟩:=Qdx (good:=Yy) (v:=fun i=>((i:Nat):Int)) (l:=l) (s:=()) (i:=0) (f:=fun _ i x=>some (bif Yy x then .inr ()else .inl (.inl ((i:Nat):Int)))) (fun s i x _=>rfl)
 cases hg:l.all Yy with
 |true=>rw[hL,r1 hg];rfl
 |false=>
  obtain⟨j,_,_,hj⟩:=r2 hg
  rw[hL,hj]
  simp
theorem yA{K:Nat}(a b c:Int):JY.f K a b c=some (inn a b c):=by
 unfold JY.f inn
 cases decide (b≤a)<;>rfl
def mayK(k:Qr):Bool:=inn ((k.fParts.length:Nat):Int) 1 4&&(inn ((k.fWits.length:Nat):Int) 1 4&&inn k.fNeed 1 ((k.fWits.length:Nat):Int))
theorem Qpg{K:Nat}(k:Qr):QaA.f K k=some (mayK k):=by
 unfold QaA.f mayK
 rw[yA,yA,yA]
 cases inn ((k.fParts.length:Nat):Int) 1 4<;>cases inn ((k.fWits.length:Nat):Int) 1 4<;>rfl
theorem Qld{k:Qr}(h:mayK k=true):1≤k.fParts.length∧k.fParts.length≤4∧1≤k.fWits.length∧k.fWits.length≤4∧1≤k.fNeed∧k.fNeed≤((k.fWits.length:Nat):Int):=by
 unfold mayK at h
 simp only[Qd,J8]at h
 omega
def Qiv(k:Qr)(p e:Int):Bool:=mayK k&&(inn p 0 (((k.fParts.length:Nat):Int)-1)&&inn e 0 400)
theorem Qle{K:Nat}(k:Qr)(p e:Int):Zy.f K k p e=some (Qiv k p e):=by
 unfold Zy.f Qiv
 rw[Qpg]
 simp only[Qb]
 cases h:mayK k with
 |false=>rfl
 |true=>
  have:=Qld h
  simp only[Qg,Bool.true_and]
  rw[wrap64 (by omega) (by omega),yA,yA]
  cases inn p 0 (((k.fParts.length:Nat):Int)-1)<;>rfl
theorem Qu6{K:Nat}(hK:1000000000000≤K){n:Int}:∃r:List Int,Qd3.f K n 8=some r∧r.length=8:=by
 unfold Qd3.f
 have hz:Qbe 1 (0:Int) 8=some [0,0,0,0,0,0,0,0]:=rfl
 refine Qv hz ?_
 have key:∀(m i:Nat) (v:Int) (l:List Int) (k:Nat),i+m=8→m<k→l.length=8→∃r,Jg.l K 8 [0,0,0,0,0,0,0,0] k (v,l,(i:Int))=some r∧r.length=8:=by
  intro m
  induction m with
  |zero=>
   intro i v l k hi hk hl
   obtain⟨k,rfl⟩:∃j,k=j+1:=⟨k-1,by omega⟩
   refine⟨l,?_,hl⟩
   show Jg.b K 8 [0,0,0,0,0,0,0,0] (Jg.l K 8 [0,0,0,0,0,0,0,0] k) _=_
   unfold Jg.b
   rw[Qi (by simp;omega)]
  |succ m ih=>
   intro i v l k hi hk hl
   obtain⟨k,rfl⟩:∃j,k=j+1:=⟨k-1,by omega⟩
   show ∃r,Jg.b K 8 [0,0,0,0,0,0,0,0] (Jg.l K 8 [0,0,0,0,0,0,0,0] k) _=_∧_
   unfold Jg.b
   rw[Qj (by simp;omega)]
   have e1:IntKind.wrap .i64 ((8:Int)-1)=((7:Nat):Int):=by rw[wrap64 (by omega) (by omega)];rfl
   have e2:IntKind.wrap .i64 (((7:Nat):Int)-(i:Int))=((7-i:Nat):Int):=by rw[wrap64 (by omega) (by omega)];omega
   simp only
   rw[e1,e2]
   obtain⟨x,hx⟩:=JF (l:=l) (i:=7-i) (by omega)
   refine Qv hx ?_
   rw[wrap_succ (by omega)]
   exact ih (i+1) _ _ k (by omega) (by omega) (by simp[hl])
 obtain⟨r,hr,hl⟩:=key 8 0 n [0,0,0,0,0,0,0,0] K (by omega) (by omega) rfl
 have hr:Jg.l K 8 [0,0,0,0,0,0,0,0] K (n, [0,0,0,0,0,0,0,0],0)=some r:=hr
 rw[hr]
 exact⟨r,rfl,hl⟩
def num8(K:Nat)(x:Int):List Int:=(Qbg.f K x).getD []
theorem Qth{K:Nat}(hK:1000000000000≤K)(x:Int):Qbg.f K x=some (num8 K x)∧(num8 K x).length=8:=by
 obtain⟨r,hr,hl⟩:=Qu6 hK (n:=IntKind.wrap .u64 x)
 have:Qbg.f K x=some r:=by unfold Qbg.f;rw[hr];rfl
 unfold num8
 rw[this]
 exact⟨rfl,hl⟩
theorem Qu7{K:Nat}(hK:1000000000000≤K){l:List Int}(hl:l.length≤10):XW.f K l=some (l.map (num8 K)).flatten∧(l.map (num8 K)).flatten.length≤80:=by
 have hfl:(l.map (num8 K)).flatten.length≤8*l.length:=Qk2 (fun x _=>by rw[(Qth hK x).2];omega)
 unfold XW.f
 have hj:=Qg6 (L:=YR.l K l) l (num8 K) [] (k:=K) (by omega)
  (fun k s=>by
   show YR.b K l (YR.l K l k) _=_
   unfold YR.b
   rw[Qi (QE (by simp))])
  (fun k s i x hi hx hm hs=>by
   show YR.b K l (YR.l K l k) _=_
   unfold YR.b
   rw[Qj (QK (by simp only;omega))]
   simp only
   rw[hx]
   simp only[Qb]
   rw[(Qth hK x).1]
   simp only[Qb]
   rw[YX (by omega)]
   simp only[Qb]
   rw[wrap_succ (by omega)])
  (by simp only[List.length_nil];omega)
 have hj:YR.l K l K ([],0)=some ((l.map (num8 K)).flatten):=hj
 rw[hj]
 exact⟨rfl,by omega⟩
theorem Qti{K:Nat}(hK:1000000000000≤K)(x:List Int)(b:Int):∃r:List Int,Qhx.f K x b=some r∧r.length=64:=by
 unfold Qhx.f
 have hz:Qbe 1 (0:Int) 64=some (List.replicate 64 0):=rfl
 refine Qv hz ?_
 have hc:(List.take (List.replicate 64 (0:Int)).length x++List.drop x.length (List.replicate 64 (0:Int))).length=64:=by simp;omega
 have key:∀(m i:Nat) (l:List Int) (k:Nat),i+m=64→m<k→l.length=64→∃r,qR.l K x b (List.replicate 64 0) k (l,(i:Int))=some r∧r.length=64:=by
  intro m
  induction m with
  |zero=>
   intro i l k hi hk hl
   obtain⟨k,rfl⟩:∃j,k=j+1:=⟨k-1,by omega⟩
   refine⟨l,?_,hl⟩
   show qR.b K x b (List.replicate 64 0) (qR.l K x b (List.replicate 64 0) k) (l,(i:Int))=_
   unfold qR.b
   rw[Qi (QE (by rw[hc];simp only;omega))]
  |succ m ih=>
   intro i l k hi hk hl
   obtain⟨k,rfl⟩:∃j,k=j+1:=⟨k-1,by omega⟩
   show ∃r,qR.b K x b (List.replicate 64 0) (qR.l K x b (List.replicate 64 0) k) (l,(i:Int))=_∧_
   unfold qR.b
   rw[Qj (QK (by rw[hc];simp only;omega))]
   obtain⟨y,hy⟩:=JF (l:=l) (i:=i) (by omega)
   refine Qv hy ?_
   refine Qv hy ?_
   refine Qv hy ?_
   rw[wrap_succ (by omega)]
   exact ih (i+1) _ k (by omega) (by omega) (by simp[hl])
 obtain⟨r,hr,hl⟩:=key 64 0 _ K (by omega) (by omega) hc
 have hr:qR.l K x b (List.replicate 64 0) K (_,0)=some r:=hr
 rw[hr]
 exact⟨r,rfl,hl⟩
theorem Qlf(v:H32):subI (Yh v) 0 ((32:Nat):Int)=some (Yh v):=by
 have:=Qaz (l:=Yh v) (b:=32) (by rw[QX];omega)
 rwa [List.take_of_length_le (by rw[QX];omega)]at this
theorem Qtj{K:Nat}(hK:1000000000000≤K){x:List Int}(hx:x.length≤64){l:List (List Int)}(hl:l.length<900)(hf:l.flatten.length<900000):∃r,Qhy.f K x l=some r∧∀j,j<32→0≤vget r j∧vget r j<256:=by
 unfold Qhy.f
 simp only[jn]
 rw[Qi (QE (by omega))]
 obtain⟨p,hp,lp⟩:=Qti hK x 54
 refine Qv hp ?_
 refine Qv (YX (by simp only[List.length_singleton];omega)) ?_
 obtain⟨r,hr,_⟩:=Qdn (K:=K) hK (x:= [p]++l) (by simp;omega) (by simp only[List.singleton_append,List.flatten_cons,List.length_append,lp];omega)
 refine Qv hr ?_
 refine Qv (Qlf r) ?_
 obtain⟨q,hq,lq⟩:=Qti hK x 92
 refine Qv hq ?_
 obtain⟨s,hs,h3⟩:=Qdn (K:=K) hK (x:= [q,Yh r]) (by simp) (by simp[lq,QX])
 refine Qv hs ?_
 exact⟨s,rfl,h3⟩
theorem Qtk{K:Nat}(hK:1000000000000≤K)(h:H32){l:List Int}(hl:l.length≤10):∃r,Qfu.f K h l=some r∧∀j,j<32→0≤vget r j∧vget r j<256:=by
 unfold Qfu.f
 refine Qv (Qlf h) ?_
 obtain⟨h1,h2⟩:=Qu7 hK hl
 refine Qv h1 ?_
 obtain⟨r,hr,h3⟩:=Qtj hK (x:=Yh h) (by rw[QX];omega) (l:= [(l.map (num8 K)).flatten]) (by simp) (by simp only[List.flatten_cons,List.flatten_nil,List.append_nil];omega)
 refine Qv hr ?_
 exact⟨r,rfl,h3⟩
def byH(r:H32):Prop:=∀j,j<32→0≤vget r j∧vget r j<256
theorem QdL:byH zH:=fun j hj=>by
 have:vget zH j=0:=by
  unfold zH vget
  rw[List.getD_eq_getElem?_getD,Vector.getElem?_toList,Vector.getElem?_replicate,if_pos hj];rfl
 rw[this];omega
theorem QxF{K:Nat}(hK:1000000000000≤K)(k:Qr)(p e:Int):∃r,QcJ.f K k p e=some r∧byH r:=by
 unfold QcJ.f
 rw[Qle,vz]
 simp only[Qb]
 cases h:Qiv k p e with
 |false=>exact⟨zH,rfl,QdL⟩
 |true=>
  simp only[Bool.not_true,Qh]
  unfold Qiv at h
  simp only[Qd,J8]at h
  obtain⟨i,rfl⟩:=Int.eq_ofNat_of_zero_le h.2.1.1
  obtain⟨x,hx⟩:=JF (l:=k.fParts) (i:=i) (by have:=h.2.1.2;omega)
  refine Qv hx ?_
  obtain⟨r,hr,h2⟩:=Qtk hK x (l:= [1,e]) (by simp)
  refine Qv hr ?_
  exact⟨r,rfl,h2⟩
theorem Qu8{K:Nat}(hK:1000000000000≤K)(k:Qr)(x:Rc):∃r,jQ.f K k x=some r∧byH r:=by
 unfold jQ.f
 simp only[jn]
 rw[Qle,vz]
 have main:∃r,((QcJ.f K k x.fPart x.fEpoch).bind fun r1=>(Qdz.f K x.fBack).bind fun r2=>(Qdz.f K x.fGood).bind fun r3=>(Qfu.f K r1 [2,x.fSaga,x.fStep,r2,r3]).bind fun r4=>some r4)=some r∧byH r:=by
  obtain⟨a,ha,_⟩:=QxF hK k x.fPart x.fEpoch
  refine Qv ha ?_
  have hb:∀c:Bool,∃z,Qdz.f K c=some z:=fun c=>by cases c<;>exact⟨_,rfl⟩
  obtain⟨b1,h1⟩:=hb x.fBack
  obtain⟨b2,h2⟩:=hb x.fGood
  refine Qv h1 ?_
  refine Qv h2 ?_
  obtain⟨r,hr,h3⟩:=Qtk hK a (l:= [2,x.fSaga,x.fStep,b1,b2]) (by simp)
  refine Qv hr ?_
  exact⟨r,rfl,h3⟩
 cases decide (x.fKind=3)with
 |false=>exact⟨zH,rfl,QdL⟩
 |true=>
  simp only[Bool.not_true,Qh,Qb]
  cases Qiv k x.fPart x.fEpoch with
  |false=>exact⟨zH,rfl,QdL⟩
  |true=>exact main
def Qu9(k:Qr)(x:Rc):H32:=(jQ.f 1000000000000 k x).getD zH
theorem Qtl(k:Qr)(x:Rc):jQ.f 1000000000000 k x=some (Qu9 k x)∧byH (Qu9 k x):=by
 obtain⟨r,hr,h⟩:=Qu8 (K:=1000000000000) (Nat.le_refl _) k x
 unfold Qu9
 rw[hr]
 exact⟨rfl,h⟩
theorem Qva{K:Nat}(hK:1000000000000≤K){p:Qo}(hp:inn p.fSize 0 400=true):∃r,Qez.f K p=some r∧byH r:=by
 unfold Qez.f
 rw[J8]at hp
 refine Qv (Qlf p.fRoot) ?_
 refine Qv (Qxv hK (n:=p.fSize) (by omega)) ?_
 have hn:=Jb (n:=p.fSize) (by omega)
 obtain⟨r,hr,h⟩:=Qwh hK (d:=6) (l:= [numW p.fSize,Yh p.fRoot]) (by simp) (fun x hx=>by
  simp at hx
  rcases hx with rfl|rfl
  ·omega
  ·rw[QX];omega)
 refine Qv hr ?_
 exact⟨r,rfl,h⟩
theorem Qvb{K:Nat}(hK:1000000000000≤K)(k:Qr)(w:Int)(p:Qo):∃r,ZP.f K k w p=some r∧byH r:=by
 unfold ZP.f
 simp only[jn]
 rw[Qpg,vz]
 simp only[Qb]
 cases hm:mayK k with
 |false=>exact⟨zH,rfl,QdL⟩
 | true=>
  have hl:=Qld hm
  simp only[Bool.not_true,Qh]
  rw[wrap64 (by omega) (by omega),yA,yA]
  simp only[Qb]
  cases hw:inn w 0 (((k.fWits.length:Nat):Int)-1)with
  |false=>exact⟨zH,rfl,QdL⟩
  | true=>
   simp only[Bool.not_true,Qh]
   cases hs:inn p.fSize 0 400 with
   |false=>exact⟨zH,rfl,QdL⟩
   |true=>
    simp only[Bool.not_true,Qh]
    obtain⟨t,ht,_⟩:=Qva hK hs
    refine Qv ht ?_
    rw[J8]at hw
    obtain⟨i,rfl⟩:=Int.eq_ofNat_of_zero_le hw.1
    obtain⟨x,hx⟩:=JF (l:=k.fWits) (i:=i) (by omega)
    refine Qv hx ?_
    refine Qv (Qlf x) ?_
    refine Qv (Qlf t) ?_
    obtain⟨r,hr,h2⟩:=Qtj hK (x:=Yh x) (by rw[QX];omega) (l:= [[3],Yh t]) (by simp) (by simp[QX])
    refine Qv hr ?_
    exact⟨r,rfl,h2⟩
def Qtm(k:Qr)(w:Int)(p:Qo):H32:=(ZP.f 1000000000000 k w p).getD zH
theorem Qtn(k:Qr)(w:Int)(p:Qo):ZP.f 1000000000000 k w p=some (Qtm k w p)∧byH (Qtm k w p):=by
 obtain⟨r,hr,h⟩:=Qvb (K:=1000000000000) (Nat.le_refl _) k w p
 unfold Qtm
 rw[hr]
 exact⟨rfl,h⟩
theorem bx8:∀a b:Nat,a<256→b<256→(bxor .u8 (a:Int) (b:Int))=((a^^^b:Nat):Int):=fun a b ha hb=>by
 have h:a^^^b<256:=Nat.xor_lt_two_pow (n:=8) ha hb
 unfold bxor
 rw[BitVec.toNat_xor]
 simp only[IntKind.bits,BitVec.ofInt_natCast,BitVec.toNat_ofNat]
 rw[show(2:Nat)^8=256 by decide,Nat.mod_eq_of_lt ha,Nat.mod_eq_of_lt hb,Qrr (by omega) (by omega)]
theorem bo8:∀a b:Nat,a<256→b<256→(bor .u8 (a:Int) (b:Int))=((a|||b:Nat):Int):=fun a b ha hb=>by
 have h:a|||b<256:=Nat.or_lt_two_pow (n:=8) ha hb
 unfold bor
 rw[BitVec.toNat_or]
 simp only[IntKind.bits,BitVec.ofInt_natCast,BitVec.toNat_ofNat]
 rw[show(2:Nat)^8=256 by decide,Nat.mod_eq_of_lt ha,Nat.mod_eq_of_lt hb,Qrr (by omega) (by omega)]
theorem QmK{v u:H32}(h:∀j,j<32→vget v j=vget u j):v=u:=by
 apply Vector.toList_inj.1
 rw[←QgV,←QgV]
 unfold Yh
 apply List.map_congr_left
 intro j hj
 exact h j (List.mem_range.1 hj)
theorem Qlg{a b:H32}(ha:byH a)(hb:byH b):ZT.f 1000000000000 a b=some (decide (a=b)):=by
 have key:∀(m i k:Nat) (z:Nat),i+m=32→m<k→z<256→(z=0↔∀j,j<i→vget a j=vget b j)→∃y:Nat,YF.l 1000000000000 a b k ((i:Int),(z:Int))=some (y:Int)∧(y=0↔∀j,j<32→vget a j=vget b j):=by
  intro m
  induction m with
  |zero=>
   intro i k z hi hk hz h
   obtain⟨k,rfl⟩:∃j,k=j+1:=⟨k-1,by omega⟩
   have e:i=32:=by omega
   subst e
   refine⟨z,?_,h⟩
   show YF.b 1000000000000 a b (YF.l 1000000000000 a b k) (((32:Nat):Int),(z:Int))=_
   unfold YF.b
   rw[Qi (QE (by simp only;omega))]
  | succ m ih=>
   intro i k z hi hk hz h
   obtain⟨k,rfl⟩:∃j,k=j+1:=⟨k-1,by omega⟩
   have h1:=ha i (by omega)
   have h2:=hb i (by omega)
   obtain⟨x,hx⟩:=Int.eq_ofNat_of_zero_le h1.1
   obtain⟨y,hy⟩:=Int.eq_ofNat_of_zero_le h2.1
   have hz':z|||(x^^^y)<256:=Nat.or_lt_two_pow (n:=8) hz (Nat.xor_lt_two_pow (n:=8) (by omega) (by omega))
   have e:YF.l 1000000000000 a b (k+1) ((i:Int),(z:Int))=YF.l 1000000000000 a b k (((i+1:Nat):Int),((z|||(x^^^y):Nat):Int)):=by
    show YF.b 1000000000000 a b (YF.l 1000000000000 a b k) ((i:Int),(z:Int))=_
    unfold YF.b QbJ.f
    rw[Qj (QK (by simp only;omega))]
    simp only[chk,Int.toNat_natCast]
    rw[Qj (YB (by omega)),Qj (YB (by omega)),hx,hy,bx8 x y (by omega) (by omega),bo8 z _ hz (Nat.xor_lt_two_pow (n:=8) (by omega) (by omega)),wrap_succ (by omega)]
    rfl
   rw[e]
   refine ih (i+1) k _ (by omega) (by omega) hz' ?_
   rw[Nat.or_eq_zero_iff,h]
   have hxy:x^^^y=0↔vget a i=vget b i:=by
    rw[hx,hy]
    constructor
    ·intro g
     have:=congrArg (· ^^^y) g
     have:x=y:=by simpa[Nat.xor_assoc] using this
     rw[this]
    ·intro g
     have:x=y:=by omega
     rw[this,Nat.xor_self]
   rw[hxy]
   constructor
   ·rintro⟨g1,g2⟩ j hj
    by_cases e:j=i
    ·subst e;exact g2
    ·exact g1 j (by omega)
   ·intro g
    exact⟨fun j hj=>g j (by omega),g i (by omega)⟩
 obtain⟨y,h1,h2⟩:=key 32 0 1000000000000 0 (by omega) (by omega) (by omega) ⟨fun _ j hj=>absurd hj (by omega),fun _=>rfl⟩
 unfold ZT.f
 have h1:YF.l 1000000000000 a b 1000000000000 (0,0)=some (y:Int):=h1
 rw[h1]
 show some (decide ((y:Int)=0))=_
 refine congrArg some ?_
 by_cases e:a=b
 ·rw[QK e,QK (by have:=h2.2 (fun j _=>by rw[e]);omega)]
 ·rw[QE e,QE (fun hy=>e (QmK (h2.1 (by omega))))]
end Go.Proofs.YtomndohdnfebgaaGreatDoor
