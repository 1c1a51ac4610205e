/-
 Plain: keys: tags, receipts and signatures are there; which points are signed.
-/
import Derived.Test.YtomndohdnfebgaaGreatDoorPureH
namespace Go.Proofs.YtomndohdnfebgaaGreatDoor
open Go Go.Sep
theorem QuQ{K:Nat}(hK:1000000000000≤K){n:Int}:∃r:List Int,QcN.f K n 4=some r∧r.length=4:=by
 unfold QcN.f
 have hz:Qaj 1 (0:Int) 4=some [0,0,0,0]:=rfl
 refine Qq hz ?_
 have key:∀(m i:Nat) (v:Int) (l:List Int) (k:Nat),i+m=4→m<k→l.length=4→∃r,YU.l K 4 [0,0,0,0] k (v,l,(i:Int))=some r∧r.length=4:=by
  intro m
  induction m with
  |zero=>
   intro i v l k hi hk hl
   obtain⟨k,rfl⟩:∃j,k=j+1:=⟨k-1,by omega⟩
   refine⟨l,?_,hl⟩
   show YU.b K 4 [0,0,0,0] (YU.l K 4 [0,0,0,0] k) _=_
   unfold YU.b
   rw[Qi (QN (by simp;omega))]
  |succ m ih=>
   intro i v l k hi hk hl
   obtain⟨k,rfl⟩:∃j,k=j+1:=⟨k-1,by omega⟩
   show ∃r,YU.b K 4 [0,0,0,0] (YU.l K 4 [0,0,0,0] k) _=_∧_
   unfold YU.b
   rw[Qj (QX (by simp;omega))]
   have e1:IntKind.wrap .i64 ((4:Int)-1)=((3:Nat):Int):=by rw[wrap64 (by omega) (by omega)];rfl
   have e2:IntKind.wrap .i64 (((3:Nat):Int)-(i:Int))=((3-i:Nat):Int):=by rw[wrap64 (by omega) (by omega)];omega
   simp only
   rw[e1,e2]
   obtain⟨x,hx⟩:=Ji (l:=l) (i:=3-i) (by omega)
   refine Qq hx ?_
   rw[wrap_succ (by omega)]
   exact ih (i+1) _ _ k (by omega) (by omega) (by simp[hl])
 obtain⟨r,hr,hl⟩:=key 4 0 n [0,0,0,0] K (by omega) (by omega) rfl
 have hr:YU.l K 4 [0,0,0,0] K (n, [0,0,0,0],0)=some r:=hr
 rw[hr]
 exact⟨r,rfl,hl⟩
theorem QqP{K:Nat}(hK:1000000000000≤K){x:List (List Int)}(h:x.flatten.length<1000000000000)(hx:x.length<1000000000000):QM.f K x=some x.flatten:=by
 have:=QcG (K:=K) (x:=x) hK h hx
 unfold Y8.f at this
 cases h:QM.f K x with
 |none=>rw[h]at this;cases this
 |some y=>rw[h]at this;exact this
theorem Qsp{K:Nat}(hK:1000000000000≤K){x:List Int}(h:x.length<100000):∃r:List Int,Qcg.f K x=some r∧r.length=x.length+4:=by
 unfold Qcg.f
 obtain⟨r,hr,hl⟩:=QuQ hK (n:=IntKind.wrap .u64 ((x.length:Nat):Int))
 refine Qq hr ?_
 refine Qq (QqP hK (by simp;omega) (by simp)) ?_
 exact⟨_,rfl,by simp;omega⟩
def Qmb(K:Nat)(x:List Int):List Int:=(Qcg.f K x).getD []
theorem Qm2{K:Nat}(hK:1000000000000≤K){x:List Int}(h:x.length<100000):Qcg.f K x=some (Qmb K x)∧(Qmb K x).length=x.length+4:=by
 obtain⟨r,hr,hl⟩:=Qsp hK h
 unfold Qmb
 rw[hr]
 exact⟨rfl,hl⟩
theorem Qtr{K:Nat}(hK:1000000000000≤K){d:Int}{l:List (List Int)}(hl:l.length≤5)(h:∀x∈l,x.length≤10000):∃r,QfZ.f K d l=some r∧∀j,j<32→0≤vget r j∧vget r j<256:=by
 unfold QfZ.f X0.f
 have hfl:(l.map (Qmb K)).flatten.length≤10004*l.length:=Qjg (fun x hx=>by
  have:=h x hx
  rw[(Qm2 hK (x:=x) (by omega)).2];omega)
 have hj:=Qfy (L:=Yv.l K l) l (Qmb K) [] (k:=K) (by omega)
  (fun k s=>by
   show Yv.b K l (Yv.l K l k) _=_
   unfold Yv.b
   rw[Qi (QN (by simp))])
  (fun k s i x hi hx hm hs=>by
   show Yv.b K l (Yv.l K l k) _=_
   unfold Yv.b
   rw[Qj (QX (by simp only;omega))]
   simp only
   rw[hx]
   try simp only[Qb]
   have:=h x hm
   rw[(Qm2 hK (x:=x) (by omega)).1]
   try simp only[Qb]
   rw[Jm (by omega)]
   try simp only[Qb]
   rw[wrap_succ (by omega)])
  (by simp only[List.length_nil];omega)
 have hj:Yv.l K l K ([],0)=some ((l.map (Qmb K)).flatten):=hj
 rw[hj]
 try simp only[Qb]
 obtain⟨r,hr,hp⟩:=Qex (K:=K) hK (x:= [[IntKind.wrap .u8 d],(l.map (Qmb K)).flatten]) (by simp) (by simp only[List.flatten_cons,List.flatten_nil,List.append_nil,List.length_append,List.length_singleton];omega)
 refine Qq hr ?_
 exact⟨r,rfl,hp⟩
def ofS(K:Nat)(s:H32)(d:List Int):H32:=(QfZ.f K 4 [Q9 s,d]).getD zH
theorem QqQ{h:H32}(hr:∀i,i<32→0≤vget h i∧vget h i<256):isB (Q9 h):=by
 intro x hx
 simp only[Q9,List.mem_map,List.mem_range]at hx
 obtain⟨i,hi,rfl⟩:=hx
 exact hr i hi
theorem Qwd{K:Nat}(hK:1000000000000≤K){s:H32}{d:List Int}(h:d.length≤10000):QfZ.f K 4 [Q9 s,d]=some (ofS K s d)∧isB (Q9 (ofS K s d)):=by
 obtain⟨r,hr,hp⟩:=Qtr hK (d:=4) (l:= [Q9 s,d]) (by simp) (fun x hx=>by
  simp at hx
  rcases hx with rfl|rfl
  ·rw[QW];omega
  ·exact h)
 unfold ofS
 rw[hr]
 exact⟨rfl,QqQ hp⟩
def begS(x:Rc):Bool:=Ja x&&decide (x.fKind=1)
def comS(K:Nat)(x:Rc):H32:=bif begS x then(bif x.fGone then x.fCom else ofS K x.fSalt x.fData)else zH
theorem vz:vofL 32 [(0:Int),(0:Int),(0:Int),(0:Int),(0:Int),(0:Int),(0:Int),(0:Int),(0:Int),(0:Int),(0:Int),(0:Int),(0:Int),(0:Int),(0:Int),(0:Int),(0:Int),(0:Int),(0:Int),(0:Int),(0:Int),(0:Int),(0:Int),(0:Int),(0:Int),(0:Int),(0:Int),(0:Int),(0:Int),(0:Int),(0:Int),(0:Int)]=zH:=by decide
theorem Qwe{K:Nat}(hK:1000000000000≤K){x:Rc}(ho:okD x):Qf0.f K x=some (comS K x):=by
 unfold Qf0.f comS
 try simp only[jn]
 rw[right_eq hK ho,vz]
 try simp only[Qb]
 cases hr:Ja x with
 |false=>
  have:begS x=false:=by unfold begS;rw[hr];rfl
  rw[this];rfl
 | true=>
  simp only[Bool.not_true,Qh]
  by_cases hk:x.fKind=1
  ·have hb:begS x=true:=by unfold begS;rw[hr,QX hk];rfl
   rw[hb,QX hk]
   simp only[Bool.not_true,Qh,Qg]
   cases hg:x.fGone with
   |true=>rfl
   |false=>
    simp only[Qh]
    have h3:=((QcI hr).beg hk).2.2
    have hs:=Qbe (l:=Q9 x.fSalt) (b:=32) (by rw[QW];omega)
    rw[List.take_of_length_le (by rw[QW];omega)]at hs
    refine QI hs ?_
    rw[(Qwd hK (s:=x.fSalt) (d:=x.fData) (by omega)).1]
    rfl
  ·have hb:begS x=false:=by unfold begS;rw[QN hk];simp
   rw[hb,QN hk];rfl
def Qsq(K:Nat)(x:Rc):List Int:=bif decide (x.fKind=1)then numW x.fSaga++(QcH x.fSteps++Q9 (comS K x))else Zz x.fKind x
def QkT(K:Nat)(x:Rc):List Int:=numW x.fKind++Qsq K x
theorem QkU{K:Nat}{x:Rc}(h:Ja x=true):(QkT K x).length≤400:=by
 have h2:=YR (QmY h)
 unfold QkT Qsq
 by_cases hk:x.fKind=1
 ·rw[Qj (QX hk)]
  have hd:=QcI h
  obtain⟨b1,b2,b3⟩:=hd.beg hk
  have b1:=qR.1 b1
  have h4:=Qcr b2 (by omega)
  have h1:=YR hd.saga
  simp only[List.length_append,QW];omega
 ·rw[Qi (QN hk)]
  have h1:=QkF h
  simp only[List.length_append];omega
end Go.Proofs.YtomndohdnfebgaaGreatDoor
namespace Go.Proofs.YtomndohdnfebgaaGreatDoor
open Go Go.Sep
theorem QuR{K:Nat}(hK:1000000000000≤K){x:Rc}(ho:okD x):Qam.f K x=some (bif Ja x then QkT K x else []):=by
 unfold Qam.f Qlc.f
 rw[right_eq hK ho]
 try simp only[Qb,jn]
 cases hr:Ja x with
 |false=>rfl
 |true=>
 rw[Qi (by rfl)]
 have hd:=QcI hr
 rw[QuG hK (QmY hr)]
 try simp only[Qb]
 have hb:=QkF hr
 have hk:=YR (QmY hr)
 have w1:=YR hd.saga
 have w2:=YR hd.part
 have w3:=YR hd.epoch
 rw[show Qde.f K=some ()from rfl]
 try simp only[Qb]
 have e:∀k,x.fKind=k→k≠1→QkT K x=numW x.fKind++Zz k x:=fun k hk h1=>by
  unfold QkT Qsq
  rw[Qi (QN (by rw[hk];exact h1)),hk]
 rcases hd.kind with k|k|k|k|k|k
 ·obtain⟨b1,b2,b3⟩:=hd.beg k
  have b1:=qR.1 b1
  have hl:=Qcr b2 (by omega)
  rw[Qi (QN (by omega)),Qj (QX k),Qse hK hd.saga (by omega) b2]
  try simp only[Qb]
  rw[QcG hK (by simp;omega) (by simp)]
  try simp only[Qb]
  rw[Qj (QX k)]
  have hL:ZI.f K x=some (Q9 (comS K x)):=by
   unfold ZI.f
   refine QI (Qwe hK ho) ?_
   rw[Qqh]
   rfl
  rw[hL]
  simp only[Qb,Qg]
  have hsl:=QkU (K:=K) hr
  unfold QkT Qsq at hsl⊢
  rw[Qj (QX k)]at hsl⊢
  simp only[List.length_append,QW]at hsl
  rw[Jm (by simp[QW];omega)]
  simp
 ·have h4:=hd.call (.inl k)
  rw[Qi (QN (by omega)),Qi (QN (by omega)),Qj (QX k),Ql5 hK hd.saga h4.1 h4.2.1 h4.2.2]
  try simp only[Qb]
  rw[e 2 k (by decide)]
  simp only[Zz,k]at hb⊢
  simp at hb
  rw[QcG hK (by simp[k]at hk⊢;omega) (by simp)]
  simp
 ·have h4:=hd.call (.inr (.inr k))
  rw[Qi (QN (by omega)),Qi (QN (by omega)),Qi (QN (by omega)),Qj (QX k)]
  have hL:XX.f K x=some (Zz 3 x):=by
   unfold XX.f
   rw[Ql5 hK hd.saga h4.1 h4.2.1 h4.2.2]
   try simp only[Qb]
   rw[Qqg]
   try simp only[Qb]
   rw[Qes hK (by simp) (by intro n hn;simp at hn;rcases hn with rfl|rfl;exact hd.part;exact hd.epoch)]
   try simp only[Qb]
   rw[Qqh]
   try simp only[Qb]
   simp only[k,Zz]at hb
   simp[QW]at hb
   rw[QcG hK (by simp[QW];omega) (by simp)]
   simp[Zz]
  rw[hL]
  try simp only[Qb]
  rw[e 3 k (by decide)]
  simp only[k]at hb hk⊢
  rw[QcG hK (by simp;omega) (by simp)]
  simp
 ·have h4:=hd.call (.inr (.inl k))
  rw[Qi (QN (by omega)),Qi (QN (by omega)),Qi (QN (by omega)),Qi (QN (by omega)),Qj (QX k),Ql5 hK hd.saga h4.1 h4.2.1 h4.2.2]
  try simp only[Qb]
  rw[e 4 k (by decide)]
  simp only[Zz,k]at hb⊢
  simp at hb
  rw[QcG hK (by simp[k]at hk⊢;omega) (by simp)]
  simp
 ·have h4:=hd.clo k
  rw[Qi (QN (by omega)),Qi (QN (by omega)),Qi (QN (by omega)),Qi (QN (by omega)),Qi (QN (by omega)),Qj (QX k)]
  have hL:XY.f K x=some (Zz 5 x):=by
   unfold XY.f
   rw[Qes hK (by simp) (by intro n hn;simp at hn;rcases hn with rfl|rfl|rfl;exact hd.saga;exact h4.1;exact h4.2)]
   simp[Zz]
  rw[hL]
  try simp only[Qb]
  rw[e 5 k (by decide)]
  simp only[k]at hb hk⊢
  rw[QcG hK (by simp;omega) (by simp)]
  simp
 ·rw[Qi (QN (by omega)),Qi (QN (by omega)),Qi (QN (by omega)),Qi (QN (by omega)),Qi (QN (by omega)),Qi (QN (by omega)),Qj (QX k)]
  have hL:XZ.f K x=some (Zz 6 x):=by
   unfold XZ.f
   rw[Qes hK (by simp) (by intro n hn;simp at hn;rcases hn with rfl|rfl;exact hd.part;exact hd.epoch)]
   simp[Zz]
  rw[hL]
  try simp only[Qb]
  rw[e 6 k (by decide)]
  simp only[k]at hb hk⊢
  rw[QcG hK (by simp;omega) (by simp)]
  simp
end Go.Proofs.YtomndohdnfebgaaGreatDoor
namespace Go.Proofs.YtomndohdnfebgaaGreatDoor
open Go Go.Sep
theorem bnd{α β:Type}{o:Option α}{x:α}{f:α→Option β}(h:o=some x):o.bind f=f x:=by rw[h];rfl
def dpt(n:Nat):Nat:=Nat.log2 (2*n-1)
def chkS(n:Nat):Bool:=match XL.f 1000000000000 (n:Int)with
 |some k=>decide (0<k)&&(decide (k<(n:Int))&&(decide (dpt k.toNat<dpt n)&&(decide (dpt (n-k.toNat)<dpt n)&&decide (dpt n≤20))))
 |none=>false
theorem QqR:((List.range 402).all fun n=>decide (n<2)||chkS n)=true:=by kernel_rfl
theorem Qjo{n:Nat}(h1:2≤n)(h2:n≤401):∃k:Nat,XL.f 1000000000000 (n:Int)=some (k:Int)∧0<k∧k<n∧dpt k<dpt n∧dpt (n-k)<dpt n∧dpt n≤20:=by
 have h:=List.all_eq_true.1 QqR n (List.mem_range.2 (by omega))
 simp only[Bool.or_eq_true,decide_eq_true_eq]at h
 rcases h with h|h
 ·omega
 unfold chkS at h
 split at h
 ·rename_i k hk
  simp only[Qd,decide_eq_true_eq]at h
  obtain⟨a,b,c,d,e⟩:=h
  obtain⟨m,rfl⟩:=Int.eq_ofNat_of_zero_le (show 0≤k by omega)
  simp only[Int.toNat_natCast]at c d
  exact⟨m,hk,by omega,by omega,c,d,e⟩
 ·cases h
theorem Qsr{b:List Int}(h:b.length<900000):∃r,QbA.f 1000000000000 b=some r:=by
 unfold QbA.f
 obtain⟨r,hr,_⟩:=Qex (K:=1000000000000) (Nat.le_refl _) (x:= [[0],b]) (by simp) (by simp;omega)
 exact⟨r,QI hr rfl⟩
theorem QfB(a b:H32):∃r,Xl.f 1000000000000 a b=some r:=by
 unfold Xl.f
 have hs:∀v:H32,subI (Q9 v) 0 ((32:Nat):Int)=some (Q9 v):=fun v=>by
  have:=Qbe (l:=Q9 v) (b:=32) (by rw[QW];omega)
  rw[List.take_of_length_le (by rw[QW];omega)]at this
  exact this
 obtain⟨r,hr,_⟩:=Qex (K:=1000000000000) (Nat.le_refl _) (x:= [[1],Q9 a,Q9 b]) (by simp) (by simp[QW])
 exact⟨r,QI (hs a) (QI (hs b) (QI hr rfl))⟩
end Go.Proofs.YtomndohdnfebgaaGreatDoor
namespace Go.Proofs.YtomndohdnfebgaaGreatDoor
open Go Go.Sep
theorem jy{K:Nat}(a b c:Int):Ju.f K a b c=some (inn a b c):=by
 unfold Ju.f inn
 cases decide (b≤a)<;>rfl
def mayK(k:QC):Bool:=inn ((k.fParts.length:Nat):Int) 1 4&&(inn ((k.fWits.length:Nat):Int) 1 4&&inn k.fNeed 1 ((k.fWits.length:Nat):Int))
theorem Qm3{K:Nat}(k:QC):ZE.f K k=some (mayK k):=by
 unfold ZE.f mayK
 rw[jy,jy,jy]
 cases inn ((k.fParts.length:Nat):Int) 1 4<;>cases inn ((k.fWits.length:Nat):Int) 1 4<;>rfl
theorem Qjp{k:QC}(h:mayK k=true):1≤k.fParts.length∧k.fParts.length≤4∧1≤k.fWits.length∧k.fWits.length≤4∧1≤k.fNeed∧k.fNeed≤((k.fWits.length:Nat):Int):=by
 unfold mayK at h
 simp only[Qd,qR]at h
 omega
def QgV(k:QC)(p e:Int):Bool:=mayK k&&(inn p 0 (((k.fParts.length:Nat):Int)-1)&&inn e 0 400)
theorem Qjq{K:Nat}(k:QC)(p e:Int):XK.f K k p e=some (QgV k p e):=by
 unfold XK.f QgV
 rw[Qm3]
 simp only[Qb]
 cases h:mayK k with
 |false=>rfl
 |true=>
  have:=Qjp h
  simp only[Qg,Bool.true_and]
  rw[wrap64 (by omega) (by omega),jy,jy]
  cases inn p 0 (((k.fParts.length:Nat):Int)-1)<;>rfl
theorem Qss{K:Nat}(hK:1000000000000≤K){n:Int}:∃r:List Int,QcN.f K n 8=some r∧r.length=8:=by
 unfold QcN.f
 have hz:Qaj 1 (0:Int) 8=some [0,0,0,0,0,0,0,0]:=rfl
 refine Qq hz ?_
 have key:∀(m i:Nat) (v:Int) (l:List Int) (k:Nat),i+m=8→m<k→l.length=8→∃r,YU.l K 8 [0,0,0,0,0,0,0,0] k (v,l,(i:Int))=some r∧r.length=8:=by
  intro m
  induction m with
  |zero=>
   intro i v l k hi hk hl
   obtain⟨k,rfl⟩:∃j,k=j+1:=⟨k-1,by omega⟩
   refine⟨l,?_,hl⟩
   show YU.b K 8 [0,0,0,0,0,0,0,0] (YU.l K 8 [0,0,0,0,0,0,0,0] k) _=_
   unfold YU.b
   rw[Qi (by simp;omega)]
  |succ m ih=>
   intro i v l k hi hk hl
   obtain⟨k,rfl⟩:∃j,k=j+1:=⟨k-1,by omega⟩
   show ∃r,YU.b K 8 [0,0,0,0,0,0,0,0] (YU.l K 8 [0,0,0,0,0,0,0,0] k) _=_∧_
   unfold YU.b
   rw[Qj (by simp;omega)]
   have e1:IntKind.wrap .i64 ((8:Int)-1)=((7:Nat):Int):=by rw[wrap64 (by omega) (by omega)];rfl
   have e2:IntKind.wrap .i64 (((7:Nat):Int)-(i:Int))=((7-i:Nat):Int):=by rw[wrap64 (by omega) (by omega)];omega
   simp only
   rw[e1,e2]
   obtain⟨x,hx⟩:=Ji (l:=l) (i:=7-i) (by omega)
   refine Qq hx ?_
   rw[wrap_succ (by omega)]
   exact ih (i+1) _ _ k (by omega) (by omega) (by simp[hl])
 obtain⟨r,hr,hl⟩:=key 8 0 n [0,0,0,0,0,0,0,0] K (by omega) (by omega) rfl
 have hr:YU.l K 8 [0,0,0,0,0,0,0,0] K (n, [0,0,0,0,0,0,0,0],0)=some r:=hr
 rw[hr]
 exact⟨r,rfl,hl⟩
def num8(K:Nat)(x:Int):List Int:=(Qal.f K x).getD []
theorem QqS{K:Nat}(hK:1000000000000≤K)(x:Int):Qal.f K x=some (num8 K x)∧(num8 K x).length=8:=by
 obtain⟨r,hr,hl⟩:=Qss hK (n:=IntKind.wrap .u64 x)
 have:Qal.f K x=some r:=by unfold Qal.f;rw[hr];rfl
 unfold num8
 rw[this]
 exact⟨rfl,hl⟩
theorem Qst{K:Nat}(hK:1000000000000≤K){l:List Int}(hl:l.length≤10):Xc.f K l=some (l.map (num8 K)).flatten∧(l.map (num8 K)).flatten.length≤80:=by
 have hfl:(l.map (num8 K)).flatten.length≤8*l.length:=Qjg (fun x _=>by rw[(QqS hK x).2];omega)
 unfold Xc.f
 have hj:=Qfy (L:=YA.l K l) l (num8 K) [] (k:=K) (by omega)
  (fun k s=>by
   show YA.b K l (YA.l K l k) _=_
   unfold YA.b
   rw[Qi (QN (by simp))])
  (fun k s i x hi hx hm hs=>by
   show YA.b K l (YA.l K l k) _=_
   unfold YA.b
   rw[Qj (QX (by simp only;omega))]
   simp only
   rw[hx]
   simp only[Qb]
   rw[(QqS hK x).1]
   simp only[Qb]
   rw[Jm (by omega)]
   simp only[Qb]
   rw[wrap_succ (by omega)])
  (by simp only[List.length_nil];omega)
 have hj:YA.l K l K ([],0)=some ((l.map (num8 K)).flatten):=hj
 rw[hj]
 exact⟨rfl,by omega⟩
theorem QqT{K:Nat}(hK:1000000000000≤K)(x:List Int)(b:Int):∃r:List Int,QfX.f K x b=some r∧r.length=64:=by
 unfold QfX.f
 have hz:Qaj 1 (0:Int) 64=some (List.replicate 64 0):=rfl
 refine Qq hz ?_
 have hc:(List.take (List.replicate 64 (0:Int)).length x++List.drop x.length (List.replicate 64 (0:Int))).length=64:=by simp;omega
 have key:∀(m i:Nat) (l:List Int) (k:Nat),i+m=64→m<k→l.length=64→∃r,qh.l K x b (List.replicate 64 0) k (l,(i:Int))=some r∧r.length=64:=by
  intro m
  induction m with
  |zero=>
   intro i l k hi hk hl
   obtain⟨k,rfl⟩:∃j,k=j+1:=⟨k-1,by omega⟩
   refine⟨l,?_,hl⟩
   show qh.b K x b (List.replicate 64 0) (qh.l K x b (List.replicate 64 0) k) (l,(i:Int))=_
   unfold qh.b
   rw[Qi (QN (by rw[hc];simp only;omega))]
  |succ m ih=>
   intro i l k hi hk hl
   obtain⟨k,rfl⟩:∃j,k=j+1:=⟨k-1,by omega⟩
   show ∃r,qh.b K x b (List.replicate 64 0) (qh.l K x b (List.replicate 64 0) k) (l,(i:Int))=_∧_
   unfold qh.b
   rw[Qj (QX (by rw[hc];simp only;omega))]
   obtain⟨y,hy⟩:=Ji (l:=l) (i:=i) (by omega)
   refine Qq hy ?_
   refine Qq hy ?_
   refine Qq hy ?_
   rw[wrap_succ (by omega)]
   exact ih (i+1) _ k (by omega) (by omega) (by simp[hl])
 obtain⟨r,hr,hl⟩:=key 64 0 _ K (by omega) (by omega) hc
 have hr:qh.l K x b (List.replicate 64 0) K (_,0)=some r:=hr
 rw[hr]
 exact⟨r,rfl,hl⟩
theorem QqU(v:H32):subI (Q9 v) 0 ((32:Nat):Int)=some (Q9 v):=by
 have:=Qbe (l:=Q9 v) (b:=32) (by rw[QW];omega)
 rwa [List.take_of_length_le (by rw[QW];omega)]at this
theorem QqV{K:Nat}(hK:1000000000000≤K){x:List Int}(hx:x.length≤64){l:List (List Int)}(hl:l.length<900)(hf:l.flatten.length<900000):∃r,QfY.f K x l=some r∧∀j,j<32→0≤vget r j∧vget r j<256:=by
 unfold QfY.f
 simp only[jn]
 rw[Qi (QN (by omega))]
 obtain⟨p,hp,lp⟩:=QqT hK x 54
 refine Qq hp ?_
 refine Qq (Jm (by simp only[List.length_singleton];omega)) ?_
 obtain⟨r,hr,_⟩:=Qex (K:=K) hK (x:= [p]++l) (by simp;omega) (by simp only[List.singleton_append,List.flatten_cons,List.length_append,lp];omega)
 refine Qq hr ?_
 refine Qq (QqU r) ?_
 obtain⟨q,hq,lq⟩:=QqT hK x 92
 refine Qq hq ?_
 obtain⟨s,hs,h3⟩:=Qex (K:=K) hK (x:= [q,Q9 r]) (by simp) (by simp[lq,QW])
 refine Qq hs ?_
 exact⟨s,rfl,h3⟩
theorem QqW{K:Nat}(hK:1000000000000≤K)(h:H32){l:List Int}(hl:l.length≤10):∃r,Qd1.f K h l=some r∧∀j,j<32→0≤vget r j∧vget r j<256:=by
 unfold Qd1.f
 refine Qq (QqU h) ?_
 obtain⟨h1,h2⟩:=Qst hK hl
 refine Qq h1 ?_
 obtain⟨r,hr,h3⟩:=QqV hK (x:=Q9 h) (by rw[QW];omega) (l:= [(l.map (num8 K)).flatten]) (by simp) (by simp only[List.flatten_cons,List.flatten_nil,List.append_nil];omega)
 refine Qq hr ?_
 exact⟨r,rfl,h3⟩
def byH(r:H32):Prop:=∀j,j<32→0≤vget r j∧vget r j<256
theorem Qcs:byH zH:=fun j hj=>by
 have:vget zH j=0:=by
  unfold zH vget
  rw[List.getD_eq_getElem?_getD,Vector.getElem?_toList,Vector.getElem?_replicate,if_pos hj];rfl
 rw[this];omega
theorem QuS{K:Nat}(hK:1000000000000≤K)(k:QC)(p e:Int):∃r,Qby.f K k p e=some r∧byH r:=by
 unfold Qby.f
 rw[Qjq,vz]
 simp only[Qb]
 cases h:QgV k p e with
 |false=>exact⟨zH,rfl,Qcs⟩
 |true=>
  simp only[Bool.not_true,Qh]
  unfold QgV at h
  simp only[Qd,qR]at h
  obtain⟨i,rfl⟩:=Int.eq_ofNat_of_zero_le h.2.1.1
  obtain⟨x,hx⟩:=Ji (l:=k.fParts) (i:=i) (by have:=h.2.1.2;omega)
  refine Qq hx ?_
  obtain⟨r,hr,h2⟩:=QqW hK x (l:= [1,e]) (by simp)
  refine Qq hr ?_
  exact⟨r,rfl,h2⟩
theorem Qsu{K:Nat}(hK:1000000000000≤K)(k:QC)(x:Rc):∃r,je.f K k x=some r∧byH r:=by
 unfold je.f
 simp only[jn]
 rw[Qjq,vz]
 have main:∃r,((Qby.f K k x.fPart x.fEpoch).bind fun r1=>(Qce.f K x.fBack).bind fun r2=>(Qce.f K x.fGood).bind fun r3=>(Qd1.f K r1 [2,x.fSaga,x.fStep,r2,r3]).bind fun r4=>some r4)=some r∧byH r:=by
  obtain⟨a,ha,_⟩:=QuS hK k x.fPart x.fEpoch
  refine Qq ha ?_
  have hb:∀c:Bool,∃z,Qce.f K c=some z:=fun c=>by cases c<;>exact⟨_,rfl⟩
  obtain⟨b1,h1⟩:=hb x.fBack
  obtain⟨b2,h2⟩:=hb x.fGood
  refine Qq h1 ?_
  refine Qq h2 ?_
  obtain⟨r,hr,h3⟩:=QqW hK a (l:= [2,x.fSaga,x.fStep,b1,b2]) (by simp)
  refine Qq hr ?_
  exact⟨r,rfl,h3⟩
 cases decide (x.fKind=3)with
 |false=>exact⟨zH,rfl,Qcs⟩
 |true=>
  simp only[Bool.not_true,Qh,Qb]
  cases QgV k x.fPart x.fEpoch with
  |false=>exact⟨zH,rfl,Qcs⟩
  |true=>exact main
def Qsv(k:QC)(x:Rc):H32:=(je.f 1000000000000 k x).getD zH
theorem QqX(k:QC)(x:Rc):je.f 1000000000000 k x=some (Qsv k x)∧byH (Qsv k x):=by
 obtain⟨r,hr,h⟩:=Qsu (K:=1000000000000) (Nat.le_refl _) k x
 unfold Qsv
 rw[hr]
 exact⟨rfl,h⟩
theorem Qsw{K:Nat}(hK:1000000000000≤K){p:Qu}(hp:inn p.fSize 0 400=true):∃r,Qdf.f K p=some r∧byH r:=by
 unfold Qdf.f
 rw[qR]at hp
 refine Qq (QqU p.fRoot) ?_
 refine Qq (QuG hK (n:=p.fSize) (by omega)) ?_
 have hn:=YR (n:=p.fSize) (by omega)
 obtain⟨r,hr,h⟩:=Qtr hK (d:=6) (l:= [numW p.fSize,Q9 p.fRoot]) (by simp) (fun x hx=>by
  simp at hx
  rcases hx with rfl|rfl
  ·omega
  ·rw[QW];omega)
 refine Qq hr ?_
 exact⟨r,rfl,h⟩
theorem Qsx{K:Nat}(hK:1000000000000≤K)(k:QC)(w:Int)(p:Qu):∃r,X4.f K k w p=some r∧byH r:=by
 unfold X4.f
 simp only[jn]
 rw[Qm3,vz]
 simp only[Qb]
 cases hm:mayK k with
 |false=>exact⟨zH,rfl,Qcs⟩
 | true=>
  have hl:=Qjp hm
  simp only[Bool.not_true,Qh]
  rw[wrap64 (by omega) (by omega),jy,jy]
  simp only[Qb]
  cases hw:inn w 0 (((k.fWits.length:Nat):Int)-1)with
  |false=>exact⟨zH,rfl,Qcs⟩
  | true=>
   simp only[Bool.not_true,Qh]
   cases hs:inn p.fSize 0 400 with
   |false=>exact⟨zH,rfl,Qcs⟩
   |true=>
    simp only[Bool.not_true,Qh]
    obtain⟨t,ht,_⟩:=Qsw hK hs
    refine Qq ht ?_
    rw[qR]at hw
    obtain⟨i,rfl⟩:=Int.eq_ofNat_of_zero_le hw.1
    obtain⟨x,hx⟩:=Ji (l:=k.fWits) (i:=i) (by omega)
    refine Qq hx ?_
    refine Qq (QqU x) ?_
    refine Qq (QqU t) ?_
    obtain⟨r,hr,h2⟩:=QqV hK (x:=Q9 x) (by rw[QW];omega) (l:= [[3],Q9 t]) (by simp) (by simp[QW])
    refine Qq hr ?_
    exact⟨r,rfl,h2⟩
def QqY(k:QC)(w:Int)(p:Qu):H32:=(X4.f 1000000000000 k w p).getD zH
theorem QqZ(k:QC)(w:Int)(p:Qu):X4.f 1000000000000 k w p=some (QqY k w p)∧byH (QqY k w p):=by
 obtain⟨r,hr,h⟩:=Qsx (K:=1000000000000) (Nat.le_refl _) k w p
 unfold QqY
 rw[hr]
 exact⟨rfl,h⟩
theorem bx8:∀a b:Nat,a<256→b<256→(bxor .u8 (a:Int) (b:Int))=((a^^^b:Nat):Int):=fun a b ha hb=>by
 have h:a^^^b<256:=Nat.xor_lt_two_pow (n:=8) ha hb
 unfold bxor
 rw[BitVec.toNat_xor]
 simp only[IntKind.bits,BitVec.ofInt_natCast,BitVec.toNat_ofNat]
 rw[show(2:Nat)^8=256 by decide,Nat.mod_eq_of_lt ha,Nat.mod_eq_of_lt hb,QoZ (by omega) (by omega)]
theorem bo8:∀a b:Nat,a<256→b<256→(bor .u8 (a:Int) (b:Int))=((a|||b:Nat):Int):=fun a b ha hb=>by
 have h:a|||b<256:=Nat.or_lt_two_pow (n:=8) ha hb
 unfold bor
 rw[BitVec.toNat_or]
 simp only[IntKind.bits,BitVec.ofInt_natCast,BitVec.toNat_ofNat]
 rw[show(2:Nat)^8=256 by decide,Nat.mod_eq_of_lt ha,Nat.mod_eq_of_lt hb,QoZ (by omega) (by omega)]
theorem Qq0{v u:H32}(h:∀j,j<32→vget v j=vget u j):v=u:=by
 apply Vector.toList_inj.1
 rw[←Qfl,←Qfl]
 unfold Q9
 apply List.map_congr_left
 intro j hj
 exact h j (List.mem_range.1 hj)
theorem Qm4{a b:H32}(ha:byH a)(hb:byH b):X7.f 1000000000000 a b=some (decide (a=b)):=by
 have key:∀(m i k:Nat) (z:Nat),i+m=32→m<k→z<256→(z=0↔∀j,j<i→vget a j=vget b j)→∃y:Nat,Ym.l 1000000000000 a b k ((i:Int),(z:Int))=some (y:Int)∧(y=0↔∀j,j<32→vget a j=vget b j):=by
  intro m
  induction m with
  |zero=>
   intro i k z hi hk hz h
   obtain⟨k,rfl⟩:∃j,k=j+1:=⟨k-1,by omega⟩
   have e:i=32:=by omega
   subst e
   refine⟨z,?_,h⟩
   show Ym.b 1000000000000 a b (Ym.l 1000000000000 a b k) (((32:Nat):Int),(z:Int))=_
   unfold Ym.b
   rw[Qi (QN (by simp only;omega))]
  | succ m ih=>
   intro i k z hi hk hz h
   obtain⟨k,rfl⟩:∃j,k=j+1:=⟨k-1,by omega⟩
   have h1:=ha i (by omega)
   have h2:=hb i (by omega)
   obtain⟨x,hx⟩:=Int.eq_ofNat_of_zero_le h1.1
   obtain⟨y,hy⟩:=Int.eq_ofNat_of_zero_le h2.1
   have hz':z|||(x^^^y)<256:=Nat.or_lt_two_pow (n:=8) hz (Nat.xor_lt_two_pow (n:=8) (by omega) (by omega))
   have e:Ym.l 1000000000000 a b (k+1) ((i:Int),(z:Int))=Ym.l 1000000000000 a b k (((i+1:Nat):Int),((z|||(x^^^y):Nat):Int)):=by
    show Ym.b 1000000000000 a b (Ym.l 1000000000000 a b k) ((i:Int),(z:Int))=_
    unfold Ym.b QaP.f
    rw[Qj (QX (by simp only;omega))]
    simp only[chk,Int.toNat_natCast]
    rw[Qj (YB (by omega)),Qj (YB (by omega)),hx,hy,bx8 x y (by omega) (by omega),bo8 z _ hz (Nat.xor_lt_two_pow (n:=8) (by omega) (by omega)),wrap_succ (by omega)]
    rfl
   rw[e]
   refine ih (i+1) k _ (by omega) (by omega) hz' ?_
   rw[Nat.or_eq_zero_iff,h]
   have hxy:x^^^y=0↔vget a i=vget b i:=by
    rw[hx,hy]
    constructor
    ·intro g
     have:=congrArg (· ^^^y) g
     have:x=y:=by simpa[Nat.xor_assoc] using this
     rw[this]
    ·intro g
     have:x=y:=by omega
     rw[this,Nat.xor_self]
   rw[hxy]
   constructor
   ·rintro⟨g1,g2⟩ j hj
    by_cases e:j=i
    ·subst e;exact g2
    ·exact g1 j (by omega)
   ·intro g
    exact⟨fun j hj=>g j (by omega),g i (by omega)⟩
 obtain⟨y,h1,h2⟩:=key 32 0 1000000000000 0 (by omega) (by omega) (by omega) ⟨fun _ j hj=>absurd hj (by omega),fun _=>rfl⟩
 unfold X7.f
 have h1:Ym.l 1000000000000 a b 1000000000000 (0,0)=some (y:Int):=h1
 rw[h1]
 show some (decide ((y:Int)=0))=_
 refine congrArg some ?_
 by_cases e:a=b
 ·rw[QX e,QX (by have:=h2.2 (fun j _=>by rw[e]);omega)]
 ·rw[QN e,QN (fun hy=>e (Qq0 (h2.1 (by omega))))]
end Go.Proofs.YtomndohdnfebgaaGreatDoor
