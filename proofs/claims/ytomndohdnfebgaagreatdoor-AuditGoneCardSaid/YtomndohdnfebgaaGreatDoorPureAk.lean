/-
 Plain: keys: tags, receipts and signatures are there; which points are signed.
-/
import Derived.Test.YtomndohdnfebgaaGreatDoorPureH
import Derived.Test.YtomndohdnfebgaaGreatDoorSepK
namespace Go.Proofs.YtomndohdnfebgaaGreatDoor
open Go Go.Sep
theorem Qwk{K:Nat}(hK:1000000000000≤K){n:Int}:∃r:List Int,Qdh.f K n 4=some r∧r.length=4:=by
 unfold Qdh.f
 have hz:QaE 1 (0:Int) 4=some [0,0,0,0]:=rfl
 refine Qv hz ?_
 have key:∀(m i:Nat) (v:Int) (l:List Int) (k:Nat),i+m=4→m<k→l.length=4→∃r,Y8.l K 4 [0,0,0,0] k (v,l,(i:Int))=some r∧r.length=4:=by
  intro m
  induction m with
  |zero=>
   intro i v l k hi hk hl
   obtain⟨k,rfl⟩:∃j,k=j+1:=⟨k-1,by omega⟩
   refine⟨l,?_,hl⟩
   show Y8.b K 4 [0,0,0,0] (Y8.l K 4 [0,0,0,0] k) _=_
   unfold Y8.b
   rw[Qi (QG (by simp;omega))]
  |succ m ih=>
   intro i v l k hi hk hl
   obtain⟨k,rfl⟩:∃j,k=j+1:=⟨k-1,by omega⟩
   show ∃r,Y8.b K 4 [0,0,0,0] (Y8.l K 4 [0,0,0,0] k) _=_∧_
   unfold Y8.b
   rw[Qj (QT (by simp;omega))]
   have e1:IntKind.wrap .i64 ((4:Int)-1)=((3:Nat):Int):=by rw[wrap64 (by omega) (by omega)];rfl
   have e2:IntKind.wrap .i64 (((3:Nat):Int)-(i:Int))=((3-i:Nat):Int):=by rw[wrap64 (by omega) (by omega)];omega
   simp only
   rw[e1,e2]
   obtain⟨x,hx⟩:=Jq (l:=l) (i:=3-i) (by omega)
   refine Qv hx ?_
   rw[wrap_succ (by omega)]
   exact ih (i+1) _ _ k (by omega) (by omega) (by simp[hl])
 obtain⟨r,hr,hl⟩:=key 4 0 n [0,0,0,0] K (by omega) (by omega) rfl
 have hr:Y8.l K 4 [0,0,0,0] K (n, [0,0,0,0],0)=some r:=hr
 rw[hr]
 exact⟨r,rfl,hl⟩
theorem QrY{K:Nat}(hK:1000000000000≤K){x:List (List Int)}(h:x.flatten.length<1000000000000)(hx:x.length<1000000000000):QW.f K x=some x.flatten:=by
 have:=jO (K:=K) (x:=x) hK h hx
 unfold Jh.f at this
 cases h:QW.f K x with
 |none=>rw[h]at this;cases this
 |some y=>rw[h]at this;exact this
theorem QtQ{K:Nat}(hK:1000000000000≤K){x:List Int}(h:x.length<100000):∃r:List Int,QcK.f K x=some r∧r.length=x.length+4:=by
 unfold QcK.f
 obtain⟨r,hr,hl⟩:=Qwk hK (n:=IntKind.wrap .u64 ((x.length:Nat):Int))
 refine Qv hr ?_
 refine Qv (QrY hK (by simp;omega) (by simp)) ?_
 exact⟨_,rfl,by simp;omega⟩
def QmY(K:Nat)(x:List Int):List Int:=(QcK.f K x).getD []
theorem Qn0{K:Nat}(hK:1000000000000≤K){x:List Int}(h:x.length<100000):QcK.f K x=some (QmY K x)∧(QmY K x).length=x.length+4:=by
 obtain⟨r,hr,hl⟩:=QtQ hK h
 unfold QmY
 rw[hr]
 exact⟨rfl,hl⟩
theorem QuY{K:Nat}(hK:1000000000000≤K){d:Int}{l:List (List Int)}(hl:l.length≤5)(h:∀x∈l,x.length≤10000):∃r,Qgv.f K d l=some r∧∀j,j<32→0≤vget r j∧vget r j<256:=by
 unfold Qgv.f Zn.f
 have hfl:(l.map (QmY K)).flatten.length≤10004*l.length:=Za (fun x hx=>by
  have:=h x hx
  rw[(Qn0 hK (x:=x) (by omega)).2];omega)
 have hj:=Qaj (L:=YE.l K l) l (QmY K) [] (k:=K) (by omega)
  (fun k s=>by
   show YE.b K l (YE.l K l k) _=_
   unfold YE.b
   rw[Qi (QG (by simp))])
  (fun k s i x hi hx hm hs=>by
   show YE.b K l (YE.l K l k) _=_
   unfold YE.b
   rw[Qj (QT (by simp only;omega))]
   simp only
   rw[hx]
   try simp only[Qb]
   have:=h x hm
   rw[(Qn0 hK (x:=x) (by omega)).1]
   try simp only[Qb]
   rw[YQ (by omega)]
   try simp only[Qb]
   rw[wrap_succ (by omega)])
  (by simp only[List.length_nil];omega)
 have hj:YE.l K l K ([],0)=some ((l.map (QmY K)).flatten):=hj
 rw[hj]
 try simp only[Qb]
 obtain⟨r,hr,hp⟩:=Qdr (K:=K) hK (x:= [[IntKind.wrap .u8 d],(l.map (QmY K)).flatten]) (by simp) (by simp only[List.flatten_cons,List.flatten_nil,List.append_nil,List.length_append,List.length_singleton];omega)
 refine Qv hr ?_
 exact⟨r,rfl,hp⟩
def ofS(K:Nat)(s:H32)(d:List Int):H32:=(Qgv.f K 4 [Ye s,d]).getD zH
theorem QrZ{h:H32}(hr:∀i,i<32→0≤vget h i∧vget h i<256):isB (Ye h):=by
 intro x hx
 simp only[Ye,List.mem_map,List.mem_range]at hx
 obtain⟨i,hi,rfl⟩:=hx
 exact hr i hi
theorem QuZ{K:Nat}(hK:1000000000000≤K){s:H32}{d:List Int}(h:d.length≤10000):Qgv.f K 4 [Ye s,d]=some (ofS K s d)∧isB (Ye (ofS K s d)):=by
 obtain⟨r,hr,hp⟩:=QuY hK (d:=4) (l:= [Ye s,d]) (by simp) (fun x hx=>by
  simp at hx
  rcases hx with rfl|rfl
  ·rw[QI];omega
  ·exact h)
 unfold ofS
 rw[hr]
 exact⟨rfl,QrZ hp⟩
def begS(x:Rc):Bool:=Yx x&&decide (x.fKind=1)
def comS(K:Nat)(x:Rc):H32:=bif begS x then(bif x.fGone then x.fCom else ofS K x.fSalt x.fData)else zH
theorem vz:vofL 32 [(0:Int),(0:Int),(0:Int),(0:Int),(0:Int),(0:Int),(0:Int),(0:Int),(0:Int),(0:Int),(0:Int),(0:Int),(0:Int),(0:Int),(0:Int),(0:Int),(0:Int),(0:Int),(0:Int),(0:Int),(0:Int),(0:Int),(0:Int),(0:Int),(0:Int),(0:Int),(0:Int),(0:Int),(0:Int),(0:Int),(0:Int),(0:Int)]=zH:=by decide
theorem begD{x:Rc}(h:begS x=true):Yx x=true∧x.fKind=1:=by
 unfold begS at h
 simp only[Qd,decide_eq_true_eq]at h
 exact h
theorem Qu0{K:Nat}(hK:1000000000000≤K){x:Rc}(ho:okD x):Qgw.f K x=some (comS K x):=by
 unfold Qgw.f comS
 try simp only[jn]
 rw[right_eq hK ho,vz]
 try simp only[Qb]
 cases hr:Yx x with
 |false=>
  have:begS x=false:=by unfold begS;rw[hr];rfl
  rw[this];rfl
 | true=>
  simp only[Bool.not_true,Qh]
  by_cases hk:x.fKind=1
  ·have hb:begS x=true:=by unfold begS;rw[hr,QT hk];rfl
   rw[hb,QT hk]
   simp only[Bool.not_true,Qh,Qg]
   cases hg:x.fGone with
   |true=>rfl
   |false=>
    simp only[Qh]
    have h3:=((QaX hr).beg hk).2.2
    have hs:=QbD (l:=Ye x.fSalt) (b:=32) (by rw[QI];omega)
    rw[List.take_of_length_le (by rw[QI];omega)]at hs
    refine QD hs ?_
    rw[(QuZ hK (s:=x.fSalt) (d:=x.fData) (by omega)).1]
    rfl
  ·have hb:begS x=false:=by unfold begS;rw[QG hk];simp
   rw[hb,QG hk];rfl
theorem QtR{K:Nat}(hK:1000000000000≤K){x:Rc}(hb:okB x):isB (Ye (comS K x)):=by
 unfold comS
 cases h:begS x with
 |false=>exact XP
 | true=>
  cases hg:x.fGone with
  |true=>exact hb.com
  |false=>
   have h3:=((QaX (begD h).1).beg (begD h).2).2.2
   exact(QuZ hK (by omega)).2
def redS(K:Nat)(x:Rc):Rc:=bif begS x then{zRc with fKind:=1,fSaga:=x.fSaga,fSteps:=x.fSteps,fGone:=true,fCom:=comS K x} else x
theorem QxI{K:Nat}(hK:1000000000000≤K){x:Rc}(ho:okD x):QaJ.f K x=some (redS K x):=by
 unfold QaJ.f redS
 try simp only[jn]
 rw[right_eq hK ho]
 try simp only[Qb]
 cases hr:Yx x with
 |false=>
  have:begS x=false:=by unfold begS;rw[hr];rfl
  rw[this];rfl
 | true=>
  simp only[Bool.not_true,Qh]
  by_cases hk:x.fKind=1
  ·have hb:begS x=true:=by unfold begS;rw[hr,QT hk];rfl
   rw[hb,QT hk]
   simp only[Bool.not_true,Qh,Qg]
   have hl:=qm.1 ((QaX hr).beg hk).1
   have hc:QJ.f K x.fSteps=some x.fSteps:=by
    unfold QJ.f
    rw[YQ (by simp;omega)]
    rfl
   refine QD hc ?_
   refine QD (Qu0 hK ho) ?_
   rfl
  ·have hb:begS x=false:=by unfold begS;rw[QG hk];simp
   rw[hb,QG hk];rfl
theorem QeW{K:Nat}{x:Rc}(h:begS x=true):redS K x={zRc with fKind:=1,fSaga:=x.fSaga,fSteps:=x.fSteps,fGone:=true,fCom:=comS K x}:=by unfold redS;rw[h];rfl
theorem Qhu{K:Nat}{x:Rc}(h:begS x=false):redS K x=x:=by unfold redS;rw[h];rfl
theorem Qed{K:Nat}{x:Rc}(h:Yx x=true):Yx (redS K x)=true:=by
 cases hb:begS x with
 |false=>rw[Qhu hb];exact h
 | true=>
  rw[QeW hb]
  have hk:=(begD hb).2
  unfold Yx Qcz at h⊢
  simp only[Qd]at h⊢
  obtain⟨⟨h1,h2,h3,h4⟩,_⟩:=h
  rw[Qj (QT hk)]at h4
  simp only[Qd]at h4
  refine⟨⟨h1,by decide,by decide,?_⟩,?_⟩
  ·simp only[decide_true,Qg,Qd]
   exact⟨h4.1,h4.2.1,QT (by simp)⟩
  ·apply QT
   unfold QeQ
   rw[if_pos rfl]
   rfl
theorem QtS{K:Nat}{x:Rc}(h:begS x=true):begS (redS K x)=true:=by
 have:=Qed (K:=K) (begD h).1
 unfold begS
 rw[this,QeW h];rfl
theorem Qwl{K:Nat}{x:Rc}(h:begS x=true):comS K (redS K x)=comS K x:=by
 have h2:=QtS (K:=K) h
 conv=>lhs;unfold comS
 rw[h2,QeW h];rfl
theorem Qwm{K:Nat}(hK:1000000000000≤K){x:Rc}(h:okB x):okB (redS K x):=by
 cases hb:begS x with
 |false=>rw[Qhu hb];exact h
 |true=>rw[QeW hb];exact⟨JA,XP,XP,QtR hK h⟩
theorem Qr0{K:Nat}{x:Rc}(h:okD x):okD (redS K x):=by
 cases hb:begS x with
 |false=>rw[Qhu hb];exact h
 |true=>rw[QeW hb];exact⟨JA,by simp,h.2.2⟩
def Qr1(K:Nat)(x:Rc):List Int:=bif decide (x.fKind=1)then numW x.fSaga++(Qdc x.fSteps++Ye (comS K x))else jW x.fKind x
def Qee(K:Nat)(x:Rc):List Int:=numW x.fKind++Qr1 K x
theorem Qhv{K:Nat}{x:Rc}(h:Yx x=true):(Qee K x).length≤400:=by
 have h2:=Yu (Qhn h)
 unfold Qee Qr1
 by_cases hk:x.fKind=1
 ·rw[Qj (QT hk)]
  have hd:=QaX h
  obtain⟨b1,b2,b3⟩:=hd.beg hk
  have b1:=qm.1 b1
  have h4:=QaY b2 (by omega)
  have h1:=Yu hd.saga
  simp only[List.length_append,QI];omega
 ·rw[Qi (QG hk)]
  have h1:=Qd9 h
  simp only[List.length_append];omega
theorem Qr2{K:Nat}(x:Rc):Qee K (redS K x)=Qee K x:=by
 cases hb:begS x with
 |false=>rw[Qhu hb]
 |true=>
  have hk:=(begD hb).2
  have hc:=Qwl (K:=K) hb
  unfold Qee Qr1
  rw[hc]
  rw[QeW hb]
  rw[Qj (QT hk),hk]
  rfl
theorem Qr3{K:Nat}(hK:1000000000000≤K){x:Rc}(ho:okD x):QaH.f K x=some (bif Yx x then Qee K x else []):=by
 unfold QaH.f Qi0.f
 rw[right_eq hK ho]
 try simp only[Qb,jn]
 cases hr:Yx x with
 |false=>rfl
 |true=>
 rw[Qi (by rfl)]
 have hd:=QaX hr
 rw[QmR hK (Qhn hr)]
 try simp only[Qb]
 have hb:=Qd9 hr
 have hk:=Yu (Qhn hr)
 have w1:=Yu hd.saga
 have w2:=Yu hd.part
 have w3:=Yu hd.epoch
 rw[show QbY.f K=some ()from rfl]
 try simp only[Qb]
 have e:∀k,x.fKind=k→k≠1→Qee K x=numW x.fKind++jW k x:=fun k hk h1=>by
  unfold Qee Qr1
  rw[Qi (QG (by rw[hk];exact h1)),hk]
 rcases hd.kind with k|k|k|k|k|k
 ·obtain⟨b1,b2,b3⟩:=hd.beg k
  have b1:=qm.1 b1
  have hl:=QaY b2 (by omega)
  rw[Qi (QG (by omega)),Qj (QT k),QnW hK hd.saga (by omega) b2]
  try simp only[Qb]
  rw[jO hK (by simp;omega) (by simp)]
  try simp only[Qb]
  rw[Qj (QT k)]
  have hL:Z9.f K x=some (Ye (comS K x)):=by
   unfold Z9.f
   refine QD (Qu0 hK ho) ?_
   rw[Qcv]
   rfl
  rw[hL]
  simp only[Qb,Qg]
  have hsl:=Qhv (K:=K) hr
  unfold Qee Qr1 at hsl⊢
  rw[Qj (QT k)]at hsl⊢
  simp only[List.length_append,QI]at hsl
  rw[YQ (by simp[QI];omega)]
  simp
 ·have h4:=hd.call (.inl k)
  rw[Qi (QG (by omega)),Qi (QG (by omega)),Qj (QT k),QeR hK hd.saga h4.1 h4.2.1 h4.2.2]
  try simp only[Qb]
  rw[e 2 k (by decide)]
  simp only[jW,k]at hb⊢
  simp at hb
  rw[jO hK (by simp[k]at hk⊢;omega) (by simp)]
  simp
 ·have h4:=hd.call (.inr (.inr k))
  rw[Qi (QG (by omega)),Qi (QG (by omega)),Qi (QG (by omega)),Qj (QT k)]
  have hL:yu.f K x=some (jW 3 x):=by
   unfold yu.f
   rw[QeR hK hd.saga h4.1 h4.2.1 h4.2.2]
   try simp only[Qb]
   rw[QeP]
   try simp only[Qb]
   rw[QbB hK (by simp) (by intro n hn;simp at hn;rcases hn with rfl|rfl;exact hd.part;exact hd.epoch)]
   try simp only[Qb]
   rw[Qcv]
   try simp only[Qb]
   simp only[k,jW]at hb
   simp[QI]at hb
   rw[jO hK (by simp[QI];omega) (by simp)]
   simp[jW]
  rw[hL]
  try simp only[Qb]
  rw[e 3 k (by decide)]
  simp only[k]at hb hk⊢
  rw[jO hK (by simp;omega) (by simp)]
  simp
 ·have h4:=hd.call (.inr (.inl k))
  rw[Qi (QG (by omega)),Qi (QG (by omega)),Qi (QG (by omega)),Qi (QG (by omega)),Qj (QT k),QeR hK hd.saga h4.1 h4.2.1 h4.2.2]
  try simp only[Qb]
  rw[e 4 k (by decide)]
  simp only[jW,k]at hb⊢
  simp at hb
  rw[jO hK (by simp[k]at hk⊢;omega) (by simp)]
  simp
 ·have h4:=hd.clo k
  rw[Qi (QG (by omega)),Qi (QG (by omega)),Qi (QG (by omega)),Qi (QG (by omega)),Qi (QG (by omega)),Qj (QT k)]
  have hL:yw.f K x=some (jW 5 x):=by
   unfold yw.f
   rw[QbB hK (by simp) (by intro n hn;simp at hn;rcases hn with rfl|rfl|rfl;exact hd.saga;exact h4.1;exact h4.2)]
   simp[jW]
  rw[hL]
  try simp only[Qb]
  rw[e 5 k (by decide)]
  simp only[k]at hb hk⊢
  rw[jO hK (by simp;omega) (by simp)]
  simp
 ·rw[Qi (QG (by omega)),Qi (QG (by omega)),Qi (QG (by omega)),Qi (QG (by omega)),Qi (QG (by omega)),Qi (QG (by omega)),Qj (QT k)]
  have hL:yx.f K x=some (jW 6 x):=by
   unfold yx.f
   rw[QbB hK (by simp) (by intro n hn;simp at hn;rcases hn with rfl|rfl;exact hd.part;exact hd.epoch)]
   simp[jW]
  rw[hL]
  try simp only[Qb]
  rw[e 6 k (by decide)]
  simp only[k]at hb hk⊢
  rw[jO hK (by simp;omega) (by simp)]
  simp
theorem bnd{α β:Type}{o:Option α}{x:α}{f:α→Option β}(h:o=some x):o.bind f=f x:=by rw[h];rfl
def dpt(n:Nat):Nat:=Nat.log2 (2*n-1)
def chkS(n:Nat):Bool:=match yE.f 1000000000000 (n:Int)with
 |some k=>decide (0<k)&&(decide (k<(n:Int))&&(decide (dpt k.toNat<dpt n)&&(decide (dpt (n-k.toNat)<dpt n)&&decide (dpt n≤20))))
 |none=>false
theorem Qr4:((List.range 402).all fun n=>decide (n<2)||chkS n)=true:=by kernel_rfl
theorem Qj3{n:Nat}(h1:2≤n)(h2:n≤401):∃k:Nat,yE.f 1000000000000 (n:Int)=some (k:Int)∧0<k∧k<n∧dpt k<dpt n∧dpt (n-k)<dpt n∧dpt n≤20:=by
 have h:=List.all_eq_true.1 Qr4 n (List.mem_range.2 (by omega))
 simp only[Bool.or_eq_true,decide_eq_true_eq]at h
 rcases h with h|h
 ·omega
 unfold chkS at h
 split at h
 ·rename_i k hk
  simp only[Qd,decide_eq_true_eq]at h
  obtain⟨a,b,c,d,e⟩:=h
  obtain⟨m,rfl⟩:=Int.eq_ofNat_of_zero_le (show 0≤k by omega)
  simp only[Int.toNat_natCast]at c d
  exact⟨m,hk,by omega,by omega,c,d,e⟩
 ·cases h
theorem Qn1{b:List Int}(h:b.length<900000):∃r,QaI.f 1000000000000 b=some r:=by
 unfold QaI.f
 obtain⟨r,hr,_⟩:=Qdr (K:=1000000000000) (Nat.le_refl _) (x:= [[0],b]) (by simp) (by simp;omega)
 exact⟨r,QD hr rfl⟩
theorem Qef(a b:H32):∃r,jZ.f 1000000000000 a b=some r:=by
 unfold jZ.f
 have hs:∀v:H32,subI (Ye v) 0 ((32:Nat):Int)=some (Ye v):=fun v=>by
  have:=QbD (l:=Ye v) (b:=32) (by rw[QI];omega)
  rw[List.take_of_length_le (by rw[QI];omega)]at this
  exact this
 obtain⟨r,hr,_⟩:=Qdr (K:=1000000000000) (Nat.le_refl _) (x:= [[1],Ye a,Ye b]) (by simp) (by simp[QI])
 exact⟨r,QD (hs a) (QD (hs b) (QD hr rfl))⟩
theorem jM{K:Nat}(a b c:Int):JK.f K a b c=some (inn a b c):=by
 unfold JK.f inn
 cases decide (b≤a)<;>rfl
def mayK(k:Qq):Bool:=inn ((k.fParts.length:Nat):Int) 1 4&&(inn ((k.fWits.length:Nat):Int) 1 4&&inn k.fNeed 1 ((k.fWits.length:Nat):Int))
theorem Qn2{K:Nat}(k:Qq):Z4.f K k=some (mayK k):=by
 unfold Z4.f mayK
 rw[jM,jM,jM]
 cases inn ((k.fParts.length:Nat):Int) 1 4<;>cases inn ((k.fWits.length:Nat):Int) 1 4<;>rfl
theorem Qj4{k:Qq}(h:mayK k=true):1≤k.fParts.length∧k.fParts.length≤4∧1≤k.fWits.length∧k.fWits.length≤4∧1≤k.fNeed∧k.fNeed≤((k.fWits.length:Nat):Int):=by
 unfold mayK at h
 simp only[Qd,qm]at h
 omega
def Qhw(k:Qq)(p e:Int):Bool:=mayK k&&(inn p 0 (((k.fParts.length:Nat):Int)-1)&&inn e 0 400)
theorem Qj5{K:Nat}(k:Qq)(p e:Int):Zd.f K k p e=some (Qhw k p e):=by
 unfold Zd.f Qhw
 rw[Qn2]
 simp only[Qb]
 cases h:mayK k with
 |false=>rfl
 |true=>
  have:=Qj4 h
  simp only[Qg,Bool.true_and]
  rw[wrap64 (by omega) (by omega),jM,jM]
  cases inn p 0 (((k.fParts.length:Nat):Int)-1)<;>rfl
theorem QtT{K:Nat}(hK:1000000000000≤K){n:Int}:∃r:List Int,Qdh.f K n 8=some r∧r.length=8:=by
 unfold Qdh.f
 have hz:QaE 1 (0:Int) 8=some [0,0,0,0,0,0,0,0]:=rfl
 refine Qv hz ?_
 have key:∀(m i:Nat) (v:Int) (l:List Int) (k:Nat),i+m=8→m<k→l.length=8→∃r,Y8.l K 8 [0,0,0,0,0,0,0,0] k (v,l,(i:Int))=some r∧r.length=8:=by
  intro m
  induction m with
  |zero=>
   intro i v l k hi hk hl
   obtain⟨k,rfl⟩:∃j,k=j+1:=⟨k-1,by omega⟩
   refine⟨l,?_,hl⟩
   show Y8.b K 8 [0,0,0,0,0,0,0,0] (Y8.l K 8 [0,0,0,0,0,0,0,0] k) _=_
   unfold Y8.b
   rw[Qi (by simp;omega)]
  |succ m ih=>
   intro i v l k hi hk hl
   obtain⟨k,rfl⟩:∃j,k=j+1:=⟨k-1,by omega⟩
   show ∃r,Y8.b K 8 [0,0,0,0,0,0,0,0] (Y8.l K 8 [0,0,0,0,0,0,0,0] k) _=_∧_
   unfold Y8.b
   rw[Qj (by simp;omega)]
   have e1:IntKind.wrap .i64 ((8:Int)-1)=((7:Nat):Int):=by rw[wrap64 (by omega) (by omega)];rfl
   have e2:IntKind.wrap .i64 (((7:Nat):Int)-(i:Int))=((7-i:Nat):Int):=by rw[wrap64 (by omega) (by omega)];omega
   simp only
   rw[e1,e2]
   obtain⟨x,hx⟩:=Jq (l:=l) (i:=7-i) (by omega)
   refine Qv hx ?_
   rw[wrap_succ (by omega)]
   exact ih (i+1) _ _ k (by omega) (by omega) (by simp[hl])
 obtain⟨r,hr,hl⟩:=key 8 0 n [0,0,0,0,0,0,0,0] K (by omega) (by omega) rfl
 have hr:Y8.l K 8 [0,0,0,0,0,0,0,0] K (n, [0,0,0,0,0,0,0,0],0)=some r:=hr
 rw[hr]
 exact⟨r,rfl,hl⟩
def num8(K:Nat)(x:Int):List Int:=(QaG.f K x).getD []
theorem Qr5{K:Nat}(hK:1000000000000≤K)(x:Int):QaG.f K x=some (num8 K x)∧(num8 K x).length=8:=by
 obtain⟨r,hr,hl⟩:=QtT hK (n:=IntKind.wrap .u64 x)
 have:QaG.f K x=some r:=by unfold QaG.f;rw[hr];rfl
 unfold num8
 rw[this]
 exact⟨rfl,hl⟩
theorem QtU{K:Nat}(hK:1000000000000≤K){l:List Int}(hl:l.length≤10):XC.f K l=some (l.map (num8 K)).flatten∧(l.map (num8 K)).flatten.length≤80:=by
 have hfl:(l.map (num8 K)).flatten.length≤8*l.length:=Za (fun x _=>by rw[(Qr5 hK x).2];omega)
 unfold XC.f
 have hj:=Qaj (L:=YK.l K l) l (num8 K) [] (k:=K) (by omega)
  (fun k s=>by
   show YK.b K l (YK.l K l k) _=_
   unfold YK.b
   rw[Qi (QG (by simp))])
  (fun k s i x hi hx hm hs=>by
   show YK.b K l (YK.l K l k) _=_
   unfold YK.b
   rw[Qj (QT (by simp only;omega))]
   simp only
   rw[hx]
   simp only[Qb]
   rw[(Qr5 hK x).1]
   simp only[Qb]
   rw[YQ (by omega)]
   simp only[Qb]
   rw[wrap_succ (by omega)])
  (by simp only[List.length_nil];omega)
 have hj:YK.l K l K ([],0)=some ((l.map (num8 K)).flatten):=hj
 rw[hj]
 exact⟨rfl,by omega⟩
theorem Qr6{K:Nat}(hK:1000000000000≤K)(x:List Int)(b:Int):∃r:List Int,Qgt.f K x b=some r∧r.length=64:=by
 unfold Qgt.f
 have hz:QaE 1 (0:Int) 64=some (List.replicate 64 0):=rfl
 refine Qv hz ?_
 have hc:(List.take (List.replicate 64 (0:Int)).length x++List.drop x.length (List.replicate 64 (0:Int))).length=64:=by simp;omega
 have key:∀(m i:Nat) (l:List Int) (k:Nat),i+m=64→m<k→l.length=64→∃r,qF.l K x b (List.replicate 64 0) k (l,(i:Int))=some r∧r.length=64:=by
  intro m
  induction m with
  |zero=>
   intro i l k hi hk hl
   obtain⟨k,rfl⟩:∃j,k=j+1:=⟨k-1,by omega⟩
   refine⟨l,?_,hl⟩
   show qF.b K x b (List.replicate 64 0) (qF.l K x b (List.replicate 64 0) k) (l,(i:Int))=_
   unfold qF.b
   rw[Qi (QG (by rw[hc];simp only;omega))]
  |succ m ih=>
   intro i l k hi hk hl
   obtain⟨k,rfl⟩:∃j,k=j+1:=⟨k-1,by omega⟩
   show ∃r,qF.b K x b (List.replicate 64 0) (qF.l K x b (List.replicate 64 0) k) (l,(i:Int))=_∧_
   unfold qF.b
   rw[Qj (QT (by rw[hc];simp only;omega))]
   obtain⟨y,hy⟩:=Jq (l:=l) (i:=i) (by omega)
   refine Qv hy ?_
   refine Qv hy ?_
   refine Qv hy ?_
   rw[wrap_succ (by omega)]
   exact ih (i+1) _ k (by omega) (by omega) (by simp[hl])
 obtain⟨r,hr,hl⟩:=key 64 0 _ K (by omega) (by omega) hc
 have hr:qF.l K x b (List.replicate 64 0) K (_,0)=some r:=hr
 rw[hr]
 exact⟨r,rfl,hl⟩
theorem Qr7(v:H32):subI (Ye v) 0 ((32:Nat):Int)=some (Ye v):=by
 have:=QbD (l:=Ye v) (b:=32) (by rw[QI];omega)
 rwa [List.take_of_length_le (by rw[QI];omega)]at this
theorem Qr8{K:Nat}(hK:1000000000000≤K){x:List Int}(hx:x.length≤64){l:List (List Int)}(hl:l.length<900)(hf:l.flatten.length<900000):∃r,Qgu.f K x l=some r∧∀j,j<32→0≤vget r j∧vget r j<256:=by
 unfold Qgu.f
 simp only[jn]
 rw[Qi (QG (by omega))]
 obtain⟨p,hp,lp⟩:=Qr6 hK x 54
 refine Qv hp ?_
 refine Qv (YQ (by simp only[List.length_singleton];omega)) ?_
 obtain⟨r,hr,_⟩:=Qdr (K:=K) hK (x:= [p]++l) (by simp;omega) (by simp only[List.singleton_append,List.flatten_cons,List.length_append,lp];omega)
 refine Qv hr ?_
 refine Qv (Qr7 r) ?_
 obtain⟨q,hq,lq⟩:=Qr6 hK x 92
 refine Qv hq ?_
 obtain⟨s,hs,h3⟩:=Qdr (K:=K) hK (x:= [q,Ye r]) (by simp) (by simp[lq,QI])
 refine Qv hs ?_
 exact⟨s,rfl,h3⟩
theorem Qr9{K:Nat}(hK:1000000000000≤K)(h:H32){l:List Int}(hl:l.length≤10):∃r,Qeq.f K h l=some r∧∀j,j<32→0≤vget r j∧vget r j<256:=by
 unfold Qeq.f
 refine Qv (Qr7 h) ?_
 obtain⟨h1,h2⟩:=QtU hK hl
 refine Qv h1 ?_
 obtain⟨r,hr,h3⟩:=Qr8 hK (x:=Ye h) (by rw[QI];omega) (l:= [(l.map (num8 K)).flatten]) (by simp) (by simp only[List.flatten_cons,List.flatten_nil,List.append_nil];omega)
 refine Qv hr ?_
 exact⟨r,rfl,h3⟩
def byH(r:H32):Prop:=∀j,j<32→0≤vget r j∧vget r j<256
theorem QcV:byH zH:=fun j hj=>by
 have:vget zH j=0:=by
  unfold zH vget
  rw[List.getD_eq_getElem?_getD,Vector.getElem?_toList,Vector.getElem?_replicate,if_pos hj];rfl
 rw[this];omega
theorem Qwn{K:Nat}(hK:1000000000000≤K)(k:Qq)(p e:Int):∃r,QbX.f K k p e=some r∧byH r:=by
 unfold QbX.f
 rw[Qj5,vz]
 simp only[Qb]
 cases h:Qhw k p e with
 |false=>exact⟨zH,rfl,QcV⟩
 |true=>
  simp only[Bool.not_true,Qh]
  unfold Qhw at h
  simp only[Qd,qm]at h
  obtain⟨i,rfl⟩:=Int.eq_ofNat_of_zero_le h.2.1.1
  obtain⟨x,hx⟩:=Jq (l:=k.fParts) (i:=i) (by have:=h.2.1.2;omega)
  refine Qv hx ?_
  obtain⟨r,hr,h2⟩:=Qr9 hK x (l:= [1,e]) (by simp)
  refine Qv hr ?_
  exact⟨r,rfl,h2⟩
theorem QtV{K:Nat}(hK:1000000000000≤K)(k:Qq)(x:Rc):∃r,jo.f K k x=some r∧byH r:=by
 unfold jo.f
 simp only[jn]
 rw[Qj5,vz]
 have main:∃r,((QbX.f K k x.fPart x.fEpoch).bind fun r1=>(QcI.f K x.fBack).bind fun r2=>(QcI.f K x.fGood).bind fun r3=>(Qeq.f K r1 [2,x.fSaga,x.fStep,r2,r3]).bind fun r4=>some r4)=some r∧byH r:=by
  obtain⟨a,ha,_⟩:=Qwn hK k x.fPart x.fEpoch
  refine Qv ha ?_
  have hb:∀c:Bool,∃z,QcI.f K c=some z:=fun c=>by cases c<;>exact⟨_,rfl⟩
  obtain⟨b1,h1⟩:=hb x.fBack
  obtain⟨b2,h2⟩:=hb x.fGood
  refine Qv h1 ?_
  refine Qv h2 ?_
  obtain⟨r,hr,h3⟩:=Qr9 hK a (l:= [2,x.fSaga,x.fStep,b1,b2]) (by simp)
  refine Qv hr ?_
  exact⟨r,rfl,h3⟩
 cases decide (x.fKind=3)with
 |false=>exact⟨zH,rfl,QcV⟩
 |true=>
  simp only[Bool.not_true,Qh,Qb]
  cases Qhw k x.fPart x.fEpoch with
  |false=>exact⟨zH,rfl,QcV⟩
  |true=>exact main
def QtW(k:Qq)(x:Rc):H32:=(jo.f 1000000000000 k x).getD zH
theorem Qsa(k:Qq)(x:Rc):jo.f 1000000000000 k x=some (QtW k x)∧byH (QtW k x):=by
 obtain⟨r,hr,h⟩:=QtV (K:=1000000000000) (Nat.le_refl _) k x
 unfold QtW
 rw[hr]
 exact⟨rfl,h⟩
theorem QtX{K:Nat}(hK:1000000000000≤K){p:Qo}(hp:inn p.fSize 0 400=true):∃r,QdI.f K p=some r∧byH r:=by
 unfold QdI.f
 rw[qm]at hp
 refine Qv (Qr7 p.fRoot) ?_
 refine Qv (QmR hK (n:=p.fSize) (by omega)) ?_
 have hn:=Yu (n:=p.fSize) (by omega)
 obtain⟨r,hr,h⟩:=QuY hK (d:=6) (l:= [numW p.fSize,Ye p.fRoot]) (by simp) (fun x hx=>by
  simp at hx
  rcases hx with rfl|rfl
  ·omega
  ·rw[QI];omega)
 refine Qv hr ?_
 exact⟨r,rfl,h⟩
theorem QtY{K:Nat}(hK:1000000000000≤K)(k:Qq)(w:Int)(p:Qo):∃r,Zo.f K k w p=some r∧byH r:=by
 unfold Zo.f
 simp only[jn]
 rw[Qn2,vz]
 simp only[Qb]
 cases hm:mayK k with
 |false=>exact⟨zH,rfl,QcV⟩
 | true=>
  have hl:=Qj4 hm
  simp only[Bool.not_true,Qh]
  rw[wrap64 (by omega) (by omega),jM,jM]
  simp only[Qb]
  cases hw:inn w 0 (((k.fWits.length:Nat):Int)-1)with
  |false=>exact⟨zH,rfl,QcV⟩
  | true=>
   simp only[Bool.not_true,Qh]
   cases hs:inn p.fSize 0 400 with
   |false=>exact⟨zH,rfl,QcV⟩
   |true=>
    simp only[Bool.not_true,Qh]
    obtain⟨t,ht,_⟩:=QtX hK hs
    refine Qv ht ?_
    rw[qm]at hw
    obtain⟨i,rfl⟩:=Int.eq_ofNat_of_zero_le hw.1
    obtain⟨x,hx⟩:=Jq (l:=k.fWits) (i:=i) (by omega)
    refine Qv hx ?_
    refine Qv (Qr7 x) ?_
    refine Qv (Qr7 t) ?_
    obtain⟨r,hr,h2⟩:=Qr8 hK (x:=Ye x) (by rw[QI];omega) (l:= [[3],Ye t]) (by simp) (by simp[QI])
    refine Qv hr ?_
    exact⟨r,rfl,h2⟩
def Qsb(k:Qq)(w:Int)(p:Qo):H32:=(Zo.f 1000000000000 k w p).getD zH
theorem Qsc(k:Qq)(w:Int)(p:Qo):Zo.f 1000000000000 k w p=some (Qsb k w p)∧byH (Qsb k w p):=by
 obtain⟨r,hr,h⟩:=QtY (K:=1000000000000) (Nat.le_refl _) k w p
 unfold Qsb
 rw[hr]
 exact⟨rfl,h⟩
theorem bx8:∀a b:Nat,a<256→b<256→(bxor .u8 (a:Int) (b:Int))=((a^^^b:Nat):Int):=fun a b ha hb=>by
 have h:a^^^b<256:=Nat.xor_lt_two_pow (n:=8) ha hb
 unfold bxor
 rw[BitVec.toNat_xor]
 simp only[IntKind.bits,BitVec.ofInt_natCast,BitVec.toNat_ofNat]
 rw[show(2:Nat)^8=256 by decide,Nat.mod_eq_of_lt ha,Nat.mod_eq_of_lt hb,Qp3 (by omega) (by omega)]
theorem bo8:∀a b:Nat,a<256→b<256→(bor .u8 (a:Int) (b:Int))=((a|||b:Nat):Int):=fun a b ha hb=>by
 have h:a|||b<256:=Nat.or_lt_two_pow (n:=8) ha hb
 unfold bor
 rw[BitVec.toNat_or]
 simp only[IntKind.bits,BitVec.ofInt_natCast,BitVec.toNat_ofNat]
 rw[show(2:Nat)^8=256 by decide,Nat.mod_eq_of_lt ha,Nat.mod_eq_of_lt hb,Qp3 (by omega) (by omega)]
theorem Qsd{v u:H32}(h:∀j,j<32→vget v j=vget u j):v=u:=by
 apply Vector.toList_inj.1
 rw[←QfO,←QfO]
 unfold Ye
 apply List.map_congr_left
 intro j hj
 exact h j (List.mem_range.1 hj)
theorem Qn3{a b:H32}(ha:byH a)(hb:byH b):Zq.f 1000000000000 a b=some (decide (a=b)):=by
 have key:∀(m i k:Nat) (z:Nat),i+m=32→m<k→z<256→(z=0↔∀j,j<i→vget a j=vget b j)→∃y:Nat,Yv.l 1000000000000 a b k ((i:Int),(z:Int))=some (y:Int)∧(y=0↔∀j,j<32→vget a j=vget b j):=by
  intro m
  induction m with
  |zero=>
   intro i k z hi hk hz h
   obtain⟨k,rfl⟩:∃j,k=j+1:=⟨k-1,by omega⟩
   have e:i=32:=by omega
   subst e
   refine⟨z,?_,h⟩
   show Yv.b 1000000000000 a b (Yv.l 1000000000000 a b k) (((32:Nat):Int),(z:Int))=_
   unfold Yv.b
   rw[Qi (QG (by simp only;omega))]
  | succ m ih=>
   intro i k z hi hk hz h
   obtain⟨k,rfl⟩:∃j,k=j+1:=⟨k-1,by omega⟩
   have h1:=ha i (by omega)
   have h2:=hb i (by omega)
   obtain⟨x,hx⟩:=Int.eq_ofNat_of_zero_le h1.1
   obtain⟨y,hy⟩:=Int.eq_ofNat_of_zero_le h2.1
   have hz':z|||(x^^^y)<256:=Nat.or_lt_two_pow (n:=8) hz (Nat.xor_lt_two_pow (n:=8) (by omega) (by omega))
   have e:Yv.l 1000000000000 a b (k+1) ((i:Int),(z:Int))=Yv.l 1000000000000 a b k (((i+1:Nat):Int),((z|||(x^^^y):Nat):Int)):=by
    show Yv.b 1000000000000 a b (Yv.l 1000000000000 a b k) ((i:Int),(z:Int))=_
    unfold Yv.b Qbd.f
    rw[Qj (QT (by simp only;omega))]
    simp only[chk,Int.toNat_natCast]
    rw[Qj (Yq (by omega)),Qj (Yq (by omega)),hx,hy,bx8 x y (by omega) (by omega),bo8 z _ hz (Nat.xor_lt_two_pow (n:=8) (by omega) (by omega)),wrap_succ (by omega)]
    rfl
   rw[e]
   refine ih (i+1) k _ (by omega) (by omega) hz' ?_
   rw[Nat.or_eq_zero_iff,h]
   have hxy:x^^^y=0↔vget a i=vget b i:=by
    rw[hx,hy]
    constructor
    ·intro g
     have:=congrArg (· ^^^y) g
     have:x=y:=by simpa[Nat.xor_assoc] using this
     rw[this]
    ·intro g
     have:x=y:=by omega
     rw[this,Nat.xor_self]
   rw[hxy]
   constructor
   ·rintro⟨g1,g2⟩ j hj
    by_cases e:j=i
    ·subst e;exact g2
    ·exact g1 j (by omega)
   ·intro g
    exact⟨fun j hj=>g j (by omega),g i (by omega)⟩
 obtain⟨y,h1,h2⟩:=key 32 0 1000000000000 0 (by omega) (by omega) (by omega) ⟨fun _ j hj=>absurd hj (by omega),fun _=>rfl⟩
 unfold Zq.f
 have h1:Yv.l 1000000000000 a b 1000000000000 (0,0)=some (y:Int):=h1
 rw[h1]
 show some (decide ((y:Int)=0))=_
 refine congrArg some ?_
 by_cases e:a=b
 ·rw[QT e,QT (by have:=h2.2 (fun j _=>by rw[e]);omega)]
 ·rw[QG e,QG (fun hy=>e (Qsd (h2.1 (by omega))))]
end Go.Proofs.YtomndohdnfebgaaGreatDoor
