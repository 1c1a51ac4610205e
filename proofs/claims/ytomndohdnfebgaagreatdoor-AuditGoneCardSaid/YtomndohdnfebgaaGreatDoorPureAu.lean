/-
 Plain: the audit, whole and of some: it comes to a verdict, whatever the bytes are.
-/
import Derived.Test.YtomndohdnfebgaaGreatDoorPureAt
namespace Go.Proofs.YtomndohdnfebgaaGreatDoor
open Go Go.Sep
theorem smi{E β R:Type}{P:R→Prop}{e:E}{l:E→Option R}{r:β→Option R}(h:∃z,l e=some z∧P z):∃z,sm (some (.inl e)) l r=some z∧P z:=h
theorem smr{E β R:Type}{P:R→Prop}{y:β}{l:E→Option R}{r:β→Option R}(h:∃z,r y=some z∧P z):∃z,sm (some (.inr y)) l r=some z∧P z:=h
theorem QcB{R:Type}{P:R→Prop}{b:Bool}{e:Int}{l:Int→Option R}{r:Unit→Option R}(h1:b=false→∃z,l e=some z∧P z)(h2:b=true→∃z,r ()=some z∧P z):∃z,sm (Yy.fs 1000000000000 b e) l r=some z∧P z:=by
 cases b with
 |false=>exact h1 rfl
 |true=>exact h2 rfl
theorem Qsj{R:Type}{P:R→Prop}{k:Qq}{limit:Int}{x:Rc}(hx:okD x)(ht:byH x.fTag){l:Int→Option R}{r:Unit→Option R}(h1:rcK k x=false→∃z,l 7=some z∧P z)(h2:rcK k x=true→∃z,r ()=some z∧P z):∃z,sm (Jf.fs 1000000000000 ⟨k,limit⟩ x) l r=some z∧P z:=by
 rw[QeX hx ht]
 cases h:rcK k x with
 |false=>exact h1 h
 |true=>exact h2 h
abbrev VdT:=Int×List Int×List Qu
theorem Qt3{x:Bun}(hv:vBun x):∀(m i k:Nat) (l:List H32),i+m=x.fItems.length→m<k→l.length=pc i→∃r,QM.l 1000000000000 x k ((i:Int),l,(i:Int))=some (r,((x.fItems.length:Nat):Int))∧r.length=pc x.fItems.length:=by
 have h400:=hv.r.len
 intro m
 induction m with
 |zero=>
  intro i k l hi hk hl
  obtain⟨k,rfl⟩:∃j,k=j+1:=⟨k-1,by omega⟩
  have e:i=x.fItems.length:=by omega
  refine⟨l,?_,by rw[hl,e]⟩
  show QM.b 1000000000000 x (QM.l 1000000000000 x k) ((i:Int),l,(i:Int))=_
  unfold QM.b
  rw[Qi (QG (by simp only;omega)),e]
 |succ m ih=>
  intro i k l hi hk hl
  obtain⟨k,rfl⟩:∃j,k=j+1:=⟨k-1,by omega⟩
  show ∃r,QM.b 1000000000000 x (QM.l 1000000000000 x k) ((i:Int),l,(i:Int))=_∧_
  unfold QM.b
  rw[Qj (QT (by simp only;omega))]
  obtain⟨y,hy⟩:=Jq (l:=x.fItems) (i:=i) (by omega)
  have hm:y∈x.fItems:=by rw[Jm]at hy;exact List.mem_of_getElem? hy
  rw[bnd hy,bnd (Qf5 (hv.d y hm) (hv.r.items y hm).1)]
  obtain⟨r,h1,h2⟩:=Qwr (Qa0 y.fRec) hl (by omega)
  rw[bnd h1,wrap_succ (by omega)]
  exact ih (i+1) k r (by omega) (by omega) h2
theorem Qt4{x:Bun}(hv:vBun x){k0:Qq}{limit:Int}:∀(m i k:Nat) (b:Bk),i+m=x.fItems.length→m<k→okK b→∃r,QN.l 1000000000000 ⟨k0,limit⟩ x k ((i:Int),b)=some r∧(∀b',r= .inr b'→okK b'):=by
 have h400:=hv.r.len
 intro m
 induction m with
 |zero=>
  intro i k b hi hk hb
  obtain⟨k,rfl⟩:∃j,k=j+1:=⟨k-1,by omega⟩
  refine⟨.inr b,?_,fun b' e=>by cases e;exact hb⟩
  show QN.b 1000000000000 ⟨k0,limit⟩ x (QN.l 1000000000000 ⟨k0,limit⟩ x k) ((i:Int),b)=_
  unfold QN.b
  rw[Qi (QG (by simp only;omega))]
 |succ m ih=>
  intro i k b hi hk hb
  obtain⟨k,rfl⟩:∃j,k=j+1:=⟨k-1,by omega⟩
  show ∃r,QN.b 1000000000000 ⟨k0,limit⟩ x (QN.l 1000000000000 ⟨k0,limit⟩ x k) ((i:Int),b)=_∧_
  unfold QN.b
  rw[Qj (QT (by simp only;omega))]
  obtain⟨y,hy⟩:=Jq (l:=x.fItems) (i:=i) (by omega)
  have hm:y∈x.fItems:=by rw[Jm]at hy;exact List.mem_of_getElem? hy
  refine Qv hy ?_
  refine Qsj (hv.d y hm) (Qhz (hv.b y hm).tag) (fun _=>⟨_,rfl,fun b' e=>by cases e⟩) (fun _=> ?_)
  obtain⟨r,h1,h2⟩:=Qsg (limit:=limit) hb (hv.d y hm)
  refine Qv h1 ?_
  refine QcB (fun _=>⟨_,rfl,fun b' e=>by cases e⟩) (fun _=> ?_)
  rw[wrap_succ (by omega)]
  exact ih (i+1) k r.1 (by omega) (by omega) h2
theorem Qn6{b:Bk}(hb:b.fSagas.length≤12){c:Int}{r:List Qu}:∀(m i k:Nat) (l:List Int),i+m=b.fSagas.length→m<k→l=(List.range i).map (fun n=>((n:Nat):Int))→Yg.l 1000000000000 b k ((i:Int),c,l,r)=some (c,(List.range b.fSagas.length).map (fun n=>((n:Nat):Int)),r):=by
 intro m
 induction m with
 |zero=>
  intro i k l hi hk hl
  obtain⟨k,rfl⟩:∃j,k=j+1:=⟨k-1,by omega⟩
  show Yg.b 1000000000000 b (Yg.l 1000000000000 b k) ((i:Int),c,l,r)=_
  unfold Yg.b
  have e:i=b.fSagas.length:=by omega
  rw[Qi (QG (by simp only;omega)),hl,e]
 |succ m ih=>
  intro i k l hi hk hl
  obtain⟨k,rfl⟩:∃j,k=j+1:=⟨k-1,by omega⟩
  show Yg.b 1000000000000 b (Yg.l 1000000000000 b k) ((i:Int),c,l,r)=_
  unfold Yg.b
  have hll:l.length=i:=by rw[hl];simp
  rw[Qj (QT (by simp only;omega)),bnd (YQ (by simp only[List.length_singleton];omega)),wrap_succ (by omega)]
  exact ih (i+1) k _ (by omega) (by omega) (by rw[List.range_succ,List.map_append,←hl];rfl)
theorem Qsk{x:Bun}(hv:vBun x)(k0:Qq)(limit:Int):∃r,YU.fs 1000000000000 ⟨k0,limit⟩ x=some r:=by
 have:∃r,YU.fs 1000000000000 ⟨k0,limit⟩ x=some r∧True:=by
  unfold YU.fs
  have h400:=hv.r.len
  obtain⟨f,h1,h2⟩:=Qt3 hv x.fItems.length 0 1000000000000 [] (by omega) (by omega) (by rw[pc_0];rfl)
  have h1:QM.l 1000000000000 x 1000000000000 (0, [],0)=_:=h1
  refine Qv h1 ?_
  have:=Qwq x.fItems.length
  obtain⟨r,hr⟩:=Qsi (l:=f) (n:=((x.fItems.length:Nat):Int)) (by omega)
  refine Qv hr ?_
  refine QcB (fun _=>⟨_,rfl,trivial⟩) (fun _=> ?_)
  obtain⟨s,h3,h4⟩:=Qt4 hv (k0:=k0) (limit:=limit) x.fItems.length 0 1000000000000 ⟨Vector.replicate 4 0, []⟩ (by omega) (by omega) Qf4
  have h3:QN.l 1000000000000 ⟨k0,limit⟩ x 1000000000000 (0,⟨Vector.replicate 4 0, []⟩)=_:=h3
  refine Qv h3 ?_
  cases s with
  |inl u=>exact⟨_,rfl,trivial⟩
  |inr b=>
   have hb:=h4 b rfl
   obtain⟨q,hq,_⟩:=Qpo hb.n
   refine Qv hq ?_
   have h5:=Qn6 hb.n (c:=0) (r:=q) b.fSagas.length 0 1000000000000 [] (by omega) (by have:=hb.n;omega) rfl
   have h5:Yg.l 1000000000000 b 1000000000000 (0,0, [],q)=_:=h5
   refine Qv h5 ?_
   exact⟨_,rfl,trivial⟩
 obtain⟨r,hr,_⟩:=this
 exact⟨r,hr⟩
theorem QxK{leaf:H32}{W:List H32}(hW:W.length<1000000):∀(d n:Nat) (i:Int) (a k:Nat),dpt n≤d→1≤n→n≤401→a≤W.length→d<k→0≤i→i<(n:Int)→∃r,YB.r 1000000000000 k i (n:Int) leaf (a:Int) W=some r∧(∀z,r= .inr z→∃a':Nat,z.2=(a':Int)∧a'≤a):=by
 intro d
 induction d with
 | zero=>
  intro n i a k hd h1 hn ha hk h0 hi
  obtain⟨k,rfl⟩:∃j,k=j+1:=⟨k-1,by omega⟩
  have e:n=1:=by
   by_cases e:n=1
   ·exact e
   ·obtain⟨s,_,_,_,s3,_⟩:=Qj3 (n:=n) (by omega) hn
    omega
  show ∃r,YB.b 1000000000000 (YB.r 1000000000000 k) i (n:Int) leaf (a:Int) W=some r∧_
  unfold YB.b
  rw[Qj (QT (by omega))]
  exact⟨_,rfl,fun z hz=>by cases hz;exact⟨a,rfl,Nat.le_refl _⟩⟩
 | succ d ih=>
  intro n i a k hd h1 hn ha hk h0 hi
  obtain⟨k,rfl⟩:∃j,k=j+1:=⟨k-1,by omega⟩
  show ∃r,YB.b 1000000000000 (YB.r 1000000000000 k) i (n:Int) leaf (a:Int) W=some r∧_
  unfold YB.b
  by_cases e:n=1
  ·rw[Qj (QT (by omega))]
   exact⟨_,rfl,fun z hz=>by cases hz;exact⟨a,rfl,Nat.le_refl _⟩⟩
  rw[Qi (QG (by omega))]
  obtain⟨s,hs,s1,s2,s3,s4,_⟩:=Qj3 (n:=n) (by omega) hn
  refine Qv hs ?_
  unfold Qbh.fs
  by_cases ha0:a=0
  ·subst ha0
   rw[Qj (by simp)]
   exact smi ⟨_,rfl,fun z hz=>by cases hz⟩
  ·rw[Qi (QG (by omega))]
   have ew:IntKind.wrap .i64 ((a:Int)-1)=((a-1:Nat):Int):=by rw[wrap64 (by omega) (by omega)];omega
   rw[ew]
   obtain⟨x,hx⟩:=Jq (l:=W) (i:=a-1) (by omega)
   rw[bnd hx]
   refine smr ?_
   by_cases hc:i<(s:Int)
   ·rw[Qj (QT hc)]
    obtain⟨r,hr,h2⟩:=ih s i (a-1) k (by omega) (by omega) (by omega) (by omega) (by omega) h0 hc
    simp only
    rw[hr]
    cases r with
    |inl e=>exact smi ⟨_,rfl,fun z hz=>by cases hz⟩
    |inr z=>
     refine smr ?_
     obtain⟨q,hq⟩:=Qef z.1 x
     refine Qv hq ?_
     refine⟨_,rfl,fun z' hz=> ?_⟩
     cases hz
     obtain⟨a',h3,h4⟩:=h2 z rfl
     exact⟨a',h3,by omega⟩
   ·rw[Qi (QG hc)]
    rw[wrap64 (by omega) (by omega),show IntKind.wrap .i64 ((n:Int)-(s:Int))=((n-s:Nat):Int) by rw[wrap64 (by omega) (by omega)];omega]
    obtain⟨r,hr,h2⟩:=ih (n-s) (i-(s:Int)) (a-1) k (by omega) (by omega) (by omega) (by omega) (by omega) (by omega) (by omega)
    simp only
    rw[hr]
    cases r with
    |inl e=>exact smi ⟨_,rfl,fun z hz=>by cases hz⟩
    |inr z=>
     refine smr ?_
     obtain⟨q,hq⟩:=Qef x z.1
     refine Qv hq ?_
     refine⟨_,rfl,fun z' hz=> ?_⟩
     cases hz
     obtain⟨a',h3,h4⟩:=h2 z rfl
     exact⟨a',h3,by omega⟩
theorem Qsl(leaf:H32){W:List H32}(hW:W.length<1000000)(i n:Int)(hn:n≤401):∃r,Qbk.f 1000000000000 leaf i n W=some r∧True:=by
 unfold Qbk.f
 refine Qay (fun y=>y=false→0≤i∧i<n) (fun y hy=> ?_) (fun g hg=> ?_)
 ·cases y with
  |true=>exact⟨_,rfl,trivial⟩
  | false=>
   simp only[Qh]
   obtain⟨h0,h1⟩:=hy rfl
   obtain⟨m,hm⟩:=Int.eq_ofNat_of_zero_le (show 0≤n by omega)
   subst hm
   have hd:dpt m≤20:=by
    by_cases e:m=1
    ·subst e;decide
    ·obtain⟨_,_,_,_,_,_,h⟩:=Qj3 (n:=m) (by omega) (by omega)
     exact h
   obtain⟨r,hr,_⟩:=QxK (leaf:=leaf) hW 20 m i W.length 1000000000000 hd (by omega) (by omega) (Nat.le_refl _) (by omega) h0 h1
   have hr:YB.fs 1000000000000 i (m:Int) leaf ((W.length:Nat):Int) W=some r:=hr
   have ht:∃t,Qbj.f 1000000000000 W leaf i (m:Int) (Vector.replicate 32 0)=some t:=by
    unfold Qbj.f Qbi.fs
    rw[hr]
    cases r with
    |inl e=>exact⟨_,rfl⟩
    |inr z=>exact⟨_,rfl⟩
   obtain⟨t,ht⟩:=ht
   refine Qv ht ?_
   cases t.1 with
   |true=>exact⟨_,rfl,trivial⟩
   |false=>exact⟨_,rfl,trivial⟩
 ·by_cases h0:i<0
  ·rw[Qj (QT h0)]
   exact hg true (fun e=>by cases e)
  rw[Qi (QG h0)]
  by_cases h1:n≤i
  ·rw[Qj (QT h1)]
   exact hg true (fun e=>by cases e)
  ·rw[Qi (QG h1)]
   exact hg _ (fun _=>by omega)
theorem Qsm(a b:H32):∃r,Zq.f 1000000000000 a b=some r:=by
 unfold Zq.f
 have key:∀(m i k:Nat) (z:Int),i+m=32→m<k→∃y,Yv.l 1000000000000 a b k ((i:Int),z)=some y:=by
  intro m
  induction m with
  |zero=>
   intro i k z hi hk
   obtain⟨k,rfl⟩:∃j,k=j+1:=⟨k-1,by omega⟩
   refine⟨z,?_⟩
   show Yv.b 1000000000000 a b (Yv.l 1000000000000 a b k) ((i:Int),z)=_
   unfold Yv.b
   rw[Qi (QG (by simp only;omega))]
  |succ m ih=>
   intro i k z hi hk
   obtain⟨k,rfl⟩:∃j,k=j+1:=⟨k-1,by omega⟩
   show ∃y,Yv.b 1000000000000 a b (Yv.l 1000000000000 a b k) ((i:Int),z)=some y
   unfold Yv.b Qbd.f
   rw[Qj (QT (by simp only;omega))]
   simp only[chk]
   rw[Qj (Yq (by omega)),Qj (Yq (by omega)),wrap_succ (by omega)]
   exact ih (i+1) k _ (by omega) (by omega)
 obtain⟨y,hy⟩:=key 32 0 1000000000000 0 (by omega) (by omega)
 have hy:Yv.l 1000000000000 a b 1000000000000 (0,0)=some y:=hy
 exact⟨_,QD hy rfl⟩
theorem Qu1(leaf root:H32){W:List H32}(hW:W.length<1000000)(i n:Int)(hn:n≤401):∃r,QcO.f 1000000000000 leaf i n W root=some r:=by
 unfold QcO.f
 obtain⟨r,hr,_⟩:=Qsl leaf hW i n hn
 refine Qj2 hr ?_
 cases r.2 with
 |false=>exact⟨_,rfl⟩
 |true=>
  obtain⟨q,hq⟩:=Qsm r.1 root
  simp only[Qg]
  refine⟨q,?_⟩
  rw[hq]
  rfl
structure okS(hb:List Bool)(ho:List Int)(hs:List Sa):Prop where
 b:hb.length=12
 o:∀n∈ho,0≤n∧n<12
 s:hs.length=12
 st:∀x∈hs,x.fSteps.length≤6
theorem QcC{x:Rc}(h:Yx x=true):∃n:Nat,x.fSaga=(n:Int)∧n<12:=by
 unfold Yx Qcz at h
 simp only[Qd,qm]at h
 exact⟨x.fSaga.toNat,by omega,by omega⟩
theorem QhA{x:Rc}(hr:Yx x=true):0≤x.fStep:=by
 have hd:=QaX hr
 by_cases k:x.fKind=2∨x.fKind=4∨x.fKind=3
 ·exact(hd.call k).2.1.1
 ·have hk:=hd.kept
  rw[hk]
  unfold QeQ
  rcases hd.kind with k1|k1|k1|k1|k1|k1
  ·rw[if_pos k1];cases x.fGone<;>exact Int.le_refl _
  ·exact absurd (.inl k1) k
  ·exact absurd (.inr (.inr k1)) k
  ·exact absurd (.inr (.inl k1)) k
  ·rw[if_neg (by omega),if_neg (by omega),if_neg (by omega),if_pos k1];exact Int.le_refl _
  ·rw[if_neg (by omega),if_neg (by omega),if_neg (by omega),if_neg (by omega),if_pos k1];exact Int.le_refl _
theorem Qj6{x:Rc}(hr:Yx x=true):x.fSteps.length≤6:=by
 have hd:=QaX hr
 by_cases k1:x.fKind=1
 ·have:=qm.1 (hd.beg k1).1;omega
 ·have hk:=hd.kept
  rw[hk]
  unfold QeQ
  rw[if_neg k1]
  repeat' split
  all_goals exact Nat.zero_le _
theorem Qt5{x:Rc}(hr:Yx x=true){b:List Bool}{o:List Int}{s:List Sa}(h:okS b o s)(ho:o.length<1000):∃r,JZ.fs 1000000000000 x b o s=some r∧∀z,r= .inr z→okS z.1 z.2.1 z.2.2∧z.2.1.length=o.length+1:=by
 obtain⟨n,hn,hn12⟩:=QcC hr
 have h6:=Qj6 hr
 unfold JZ.fs
 refine Qay (fun _=>True) (fun y _=> ?_) (fun g hg=> ?_)
 ·obtain⟨t,h1,h2⟩:=QmZ x.fSteps (by omega)
  refine Qv h1 ?_
  simp only[chk]
  rw[hn,Qj (Yq hn12)]
  refine Qv rfl ?_
  refine Qv (YQ (by simp only[List.length_singleton];omega)) ?_
  refine⟨_,rfl,fun z hz=> ?_⟩
  cases hz
  refine⟨⟨h.b,fun m hm=> ?_,by simp[h.s],fun y hy=> ?_⟩,by simp⟩
  ·rcases List.mem_append.1 hm with hm|hm
   ·exact h.o m hm
   ·simp at hm;omega
  ·rcases Qhy hy with rfl|hy
   ·omega
   ·exact h.st y hy
 ·simp only[chk]
  rw[hn,Qj (Yq hn12)]
  obtain⟨q,hq⟩:=Jq (l:=b) (i:=n) (by rw[h.b];exact hn12)
  refine Qv hq ?_
  cases q with
  |true=>
   simp only[Bool.not_true,Qh]
   exact QcB (fun _=>⟨_,rfl,fun z hz=>by cases hz⟩) (fun _=>hg () trivial)
  |false=>
   simp only[Bool.not_false,Qg]
   obtain⟨m,hm⟩:=Qf3 x.fSteps (by omega)
   refine Qv hm ?_
   exact QcB (fun _=>⟨_,rfl,fun z hz=>by cases hz⟩) (fun _=>hg () trivial)
theorem Qws{x:Rc}(hr:Yx x=true){limit:Int}{b:List Bool}{o:List Int}{s:List Sa}(h:okS b o s):∃r,qI.fs 1000000000000 x limit b o s=some r∧∀z,r= .inr z→okS z.1 z.2.1 z.2.2∧z.2.1.length=o.length:=by
 obtain⟨n,hn,hn12⟩:=QcC hr
 unfold qI.fs
 simp only[chk]
 rw[hn,Qj (Yq hn12)]
 obtain⟨t,ht⟩:=Jq (l:=s) (i:=n) (by rw[h.s];exact hn12)
 have hm:t∈s:=by rw[Jm]at ht;exact List.mem_of_getElem? ht
 have h6:=h.st t hm
 refine Qv ht ?_
 by_cases h0:((t.fSteps.length:Nat):Int)=0
 ·rw[Qj (QT h0)]
  exact⟨_,rfl,fun z hz=>by cases hz;exact⟨h,rfl⟩⟩
 rw[Qi (QG h0)]
 obtain⟨r,h1,h2,h3⟩:=Qse t x limit (by omega) (QhA hr)
 refine Qv h1 ?_
 refine Qay (fun _=>True) (fun y _=> ?_) (fun g hg=> ?_)
 ·rw[Qj (Yq hn12)]
  refine Qv rfl ?_
  refine⟨_,rfl,fun z hz=> ?_⟩
  cases hz
  refine⟨⟨h.b,h.o,by simp[h.s],fun y hy=> ?_⟩,rfl⟩
  rcases Qhy hy with rfl|hy
  ·rw[h2];exact h6
  ·exact h.st y hy
 ·cases h5:r.2 with
  |false=>
   simp only[Qh]
   exact QcB (fun _=>⟨_,rfl,fun z hz=>by cases hz⟩) (fun _=>hg () trivial)
  | true=>
   simp only[Qg]
   by_cases k3:x.fKind=3
   ·rw[Qi (by simp[k3])]
    have h7:=h3 h5 k3
    obtain⟨j,hj⟩:=Int.eq_ofNat_of_zero_le (QhA hr)
    rw[hj]
    obtain⟨z,hz⟩:=Jq (l:=t.fSteps) (i:=j) (by omega)
    refine Qv hz ?_
    exact QcB (fun _=>⟨_,rfl,fun z hz=>by cases hz⟩) (fun _=>hg () trivial)
   ·rw[Qj (by simp[k3])]
    exact QcB (fun e=>by cases e) (fun _=>hg () trivial)
theorem Qwt{x:Bun}(hv:vBun x){k0:Qq}{limit:Int}:∀(m i k:Nat) (b:List Bool) (o:List Int) (s:List Sa),i+m=x.fItems.length→m<k→okS b o s→o.length≤i→
  ∃r,QK.l 1000000000000 ⟨k0,limit⟩ x k ((i:Int),b,o,s)=some r∧(∀z,r= .inr z→okS z.1 z.2.1 z.2.2∧z.2.1.length≤x.fItems.length):=by
 have h400:=hv.r.len
 intro m
 induction m with
 |zero=>
  intro i k b o s hi hk hs ho
  obtain⟨k,rfl⟩:∃j,k=j+1:=⟨k-1,by omega⟩
  refine⟨.inr (b,o,s),?_,fun z e=>by cases e;exact⟨hs,by simp only;omega⟩⟩
  show QK.b 1000000000000 ⟨k0,limit⟩ x (QK.l 1000000000000 ⟨k0,limit⟩ x k) ((i:Int),b,o,s)=_
  unfold QK.b
  rw[Qi (QG (by simp only;omega))]
 | succ m ih=>
  intro i k b o s hi hk hs ho
  obtain⟨k,rfl⟩:∃j,k=j+1:=⟨k-1,by omega⟩
  show ∃r,QK.b 1000000000000 ⟨k0,limit⟩ x (QK.l 1000000000000 ⟨k0,limit⟩ x k) ((i:Int),b,o,s)=_∧_
  unfold QK.b
  rw[Qj (QT (by simp only;omega))]
  refine Qay (fun y=>okS y.1 y.2.1 y.2.2∧y.2.1.length≤i+1) (fun y hy=> ?_) (fun g hg=> ?_)
  ·rw[wrap_succ (by omega)]
   exact ih (i+1) k y.1 y.2.1 y.2.2 (by omega) (by omega) hy.1 hy.2
  ·obtain⟨y,hy⟩:=Jq (l:=x.fItems) (i:=i) (by omega)
   have hm:y∈x.fItems:=by rw[Jm]at hy;exact List.mem_of_getElem? hy
   have hr:=(hv.r.items y hm).1
   obtain⟨n,hn,hn12⟩:=QcC hr
   refine Qv hy ?_
   refine Qv (Qf5 (hv.d y hm) hr) ?_
   obtain⟨q,hq⟩:=Qu1 (Qa0 y.fRec) x.fPoint.fRoot (W:=y.fPath) (by have:=(hv.r.items y hm).2.2;omega) y.fAt x.fPoint.fSize (by have:=hv.r.size;omega)
   refine Qv hq ?_
   refine QcB (fun _=>⟨_,rfl,fun z e=>by cases e⟩) (fun _=> ?_)
   refine Qsj (hv.d y hm) (Qhz (hv.b y hm).tag) (fun _=>⟨_,rfl,fun z e=>by cases e⟩) (fun _=> ?_)
   refine Qay (fun y=>okS y.1 y.2.1 y.2.2∧y.2.1.length≤i+1) (fun z hz=> ?_) (fun g2 hg2=> ?_)
   ·simp only[chk]
    rw[hn,Qj (Yq hn12)]
    refine Qv rfl ?_
    exact hg _ ⟨⟨by simp[hz.1.b],hz.1.o,hz.1.s,hz.1.st⟩,hz.2⟩
   ·by_cases k1:y.fRec.fKind=1
    ·rw[Qj (QT k1)]
     obtain⟨r,h1,h2⟩:=Qt5 hr hs (by omega)
     rw[h1]
     cases r with
     |inl e=>exact smi ⟨_,rfl,fun z e=>by cases e⟩
     |inr z=>
      refine smr ?_
      obtain⟨h3,h4⟩:=h2 z rfl
      exact hg2 _ ⟨h3,by rw[h4];omega⟩
    rw[Qi (QG k1)]
    by_cases k6:y.fRec.fKind=6
    ·rw[Qj (QT k6)]
     exact hg _ ⟨hs,by simp only;omega⟩
    rw[Qi (QG k6)]
    obtain⟨r,h1,h2⟩:=Qws hr (limit:=limit) hs
    rw[h1]
    cases r with
    |inl e=>exact smi ⟨_,rfl,fun z e=>by cases e⟩
    |inr z=>
     refine smr ?_
     obtain⟨h3,h4⟩:=h2 z rfl
     exact hg2 _ ⟨h3,by rw[h4];omega⟩
theorem Qwu{z:List Bool×List Int×List Sa}(h:okS z.1 z.2.1 z.2.2)(hl:z.2.1.length<1000){c:Int}:∀(m i k:Nat) (l:List Int) (q:List Qu),i+m=z.2.1.length→m<k→l.length=i→q.length=i→
  ∃r,QQ.l 1000000000000 z k ((i:Int),c,l,q)=some r∧(r.1=c∧r.2.1.length=z.2.1.length∧r.2.2.length=z.2.1.length):=by
 intro m
 induction m with
 |zero=>
  intro i k l q hi hk h1 h2
  obtain⟨k,rfl⟩:∃j,k=j+1:=⟨k-1,by omega⟩
  refine⟨(c,l,q),?_,rfl,by simp only;omega,by simp only;omega⟩
  show QQ.b 1000000000000 z (QQ.l 1000000000000 z k) ((i:Int),c,l,q)=_
  unfold QQ.b
  rw[Qi (QG (by simp only;omega))]
 |succ m ih=>
  intro i k l q hi hk h1 h2
  obtain⟨k,rfl⟩:∃j,k=j+1:=⟨k-1,by omega⟩
  show ∃r,QQ.b 1000000000000 z (QQ.l 1000000000000 z k) ((i:Int),c,l,q)=_∧_
  unfold QQ.b
  rw[Qj (QT (by simp only;omega))]
  obtain⟨n,hn⟩:=Jq (l:=z.2.1) (i:=i) (by omega)
  have hm:n∈z.2.1:=by rw[Jm]at hn;exact List.mem_of_getElem? hn
  have hn2:=h.o n hm
  obtain⟨j,hj⟩:=Int.eq_ofNat_of_zero_le hn2.1
  subst hj
  refine Qv hn ?_
  refine Qv (YQ (by simp only[List.length_singleton];omega)) ?_
  simp only[chk]
  rw[Qj (Yq (by omega))]
  obtain⟨t,ht⟩:=Jq (l:=z.2.2) (i:=j) (by rw[h.s];omega)
  refine Qv ht ?_
  rw[Qj (Yq (by omega))]
  refine Qv ht ?_
  obtain⟨w,hw⟩:=Qds t
  refine Qv hw ?_
  refine Qv (YQ (by simp only[List.length_singleton];omega)) ?_
  rw[wrap_succ (by omega)]
  exact ih (i+1) k _ _ (by omega) (by omega) (by simp[h1]) (by simp[h2])
theorem Qf6:okS [false,false,false,false,false,false,false,false,false,false,false,false] [] [QC,QC,QC,QC,QC,QC,QC,QC,QC,QC,QC,QC]:=
 ⟨rfl,fun _ h=>(by cases h),rfl,fun x hx=>by
  simp only[List.mem_cons,List.not_mem_nil,or_false,or_self]at hx
  subst hx
  decide⟩
theorem Qt6{x:Bun}(hv:vBun x)(k0:Qq)(limit:Int):∃r,Y0.fs 1000000000000 ⟨k0,limit⟩ x=some r:=by
 have:∃r,Y0.fs 1000000000000 ⟨k0,limit⟩ x=some r∧True:=by
  unfold Y0.fs
  have h400:=hv.r.len
  obtain⟨s,h1,h2⟩:=Qwt hv (k0:=k0) (limit:=limit) x.fItems.length 0 1000000000000 _ _ _ (by omega) (by omega) Qf6 (Nat.le_refl _)
  have h1:QK.l 1000000000000 ⟨k0,limit⟩ x 1000000000000 (0,_,_,_)=_:=h1
  refine Qv h1 ?_
  cases s with
  |inl u=>exact⟨_,rfl,trivial⟩
  |inr z=>
   obtain⟨h3,h4⟩:=h2 z rfl
   obtain⟨r,h5,_⟩:=Qwu h3 (by omega) (c:=0) z.2.1.length 0 1000000000000 [] [] (by omega) (by omega) rfl rfl
   have h5:QQ.l 1000000000000 z 1000000000000 (0,0, [], [])=_:=h5
   refine Qv h5 ?_
   exact⟨_,rfl,trivial⟩
 obtain⟨r,hr,_⟩:=this
 exact⟨r,hr⟩
def outA(r:Sum Int VdT):VdT:=match r with| .inl e=>(e, [], [])| .inr v=>v
def runA(k:Qq)(limit:Int)(x:Bun):Sum Int VdT:=((bif x.fWhole then YU.fs 1000000000000 ⟨k,limit⟩ x else Y0.fs 1000000000000 ⟨k,limit⟩ x)).getD (.inl 0)
def QcD(k:Qq)(limit size:Int)(root:H32)(b:List Int):VdT:=
 bif mayK k&&inn limit 1 9 then
  (bif decide ((getS b).2=0)then
   (bif decide (chkK k (getS b).1.fPoint=0)then
    (bif decide ((getS b).1.fPoint.fSize=size)&&decide ((getS b).1.fPoint.fRoot=root)then outA (runA k limit (getS b).1)else(6, [], []))
   else(chkK k (getS b).1.fPoint, [], []))
  else((getS b).2, [], []))
 else(1, [], [])
theorem QxL{b:List Int}(hb:isB b)(hl:b.length<1000000000)(h:(getS b).2=0):vBun (getS b).1:=
 Qsh (QrX hb hl h).2.1 (QrX hb hl h).2.2
theorem Qdt{R:Type}{b:Bool}{e:Int}{l:Int→Option R}{r:Unit→Option R}{z:R}(h1:b=false→l e=some z)(h2:b=true→r ()=some z):sm (Yy.fs 1000000000000 b e) l r=some z:=by
 cases b with
 |false=>exact h1 rfl
 |true=>exact h2 rfl
theorem Qn7{k:Qq}{limit:Int}{p:Qo}{b:List Int}(hb:isB b)(hl:b.length<1000000000):qY.f 1000000000000 k limit p b=some (QcD k limit p.fSize p.fRoot b):=by
 have main:mayK k=true→inn limit 1 9=true→((Xr.f 1000000000000 b).bind fun r1=>(sm (Yy.fs 1000000000000 (decide (r1.2=0)) r1.2) (fun e1=>(some {Yf with fCode:=e1}).bind fun v2=>some (v2.fCode,([]:List Int),([]:List Qu))) fun r6=>(QaK.f 1000000000000 k r1.1.fPoint).bind fun r4=>sm (Yy.fs 1000000000000 (decide (r4=0)) r4) (fun e2=>(some {Yf with fCode:=e2}).bind fun v3=>some (v3.fCode,([]:List Int),([]:List Qu))) fun r7=>
   jn (fun(y2:Unit)=>(some (Y4.mk k limit)).bind fun v1=>bif r1.1.fWhole then sm (YU.fs 1000000000000 v1 r1.1) (fun e3=>(some {Yf with fCode:=e3}).bind fun v4=>some (v4.fCode,([]:List Int),([]:List Qu))) (fun r2=>some (r2.1,r2.2.1,r2.2.2))else sm (Y0.fs 1000000000000 v1 r1.1) (fun e4=>(some {Yf with fCode:=e4}).bind fun v5=>some (v5.fCode,([]:List Int),([]:List Qu))) (fun r3=>some (r3.1,r3.2.1,r3.2.2)))
    (fun j2=>bif decide (r1.1.fPoint.fSize=p.fSize)then sm (Yy.fs 1000000000000 (decide (r1.1.fPoint.fRoot=p.fRoot)) 6) (fun e5=>(some {Yf with fCode:=e5}).bind fun v6=>some (v6.fCode,([]:List Int),([]:List Qu))) (fun r8=>j2 ())else sm (Yy.fs 1000000000000 false 6) (fun e6=>(some {Yf with fCode:=e6}).bind fun v7=>some (v7.fCode,([]:List Int),([]:List Qu))) (fun r9=>j2 ()))))=some (QcD k limit p.fSize p.fRoot b):=fun hm hlm=>by
  unfold QcD
  rw[hm,hlm,bnd (QuX (Nat.le_refl _) hb hl)]
  simp only[Bool.and_self,Qg]
  refine Qdt (fun h=> ?_) (fun h=> ?_)
  ·rw[h];rfl
  have hv:=QxL hb hl (of_decide_eq_true h)
  rw[bnd (QxJ (by have:=hv.r.sigs;omega) hv.s),h]
  simp only[Qg]
  refine Qdt (fun h=> ?_) (fun h=> ?_)
  ·rw[h];rfl
  rw[h]
  simp only[Qg,jn]
  cases decide ((getS b).1.fPoint.fSize=p.fSize)with
  |false=>rfl
  | true=>
   simp only[Qg,Bool.true_and]
   refine Qdt (fun h=> ?_) (fun h=> ?_)
   ·rw[h];rfl
   rw[h]
   simp only[Qg,Qb]
   unfold runA
   cases (getS b).1.fWhole with
   |true=>
    simp only[Qg]
    obtain⟨r,hr⟩:=Qsk hv k limit
    rw[hr]
    cases r<;>rfl
   |false=>
    simp only[Qh]
    obtain⟨r,hr⟩:=Qt6 hv k limit
    rw[hr]
    cases r<;>rfl
 unfold qY.f
 have ho:∀{j:Unit→Option VdT} {v:VdT},(mayK k=true→inn limit 1 9=true→j ()=some v)→((mayK k&&inn limit 1 9)=false→v=(1, [], []))→((Z4.f 1000000000000 k).bind fun r5=>bif r5 then bif decide (1≤limit)then sm (Yy.fs 1000000000000 (decide (limit≤9)) 1) (fun e7=>(some {Yf with fCode:=e7}).bind fun v8=>some (v8.fCode,([]:List Int),([]:List Qu))) (fun r10=>j ())else sm (Yy.fs 1000000000000 false 1) (fun e8=>(some {Yf with fCode:=e8}).bind fun v9=>some (v9.fCode,([]:List Int),([]:List Qu))) (fun r11=>j ())else sm (Yy.fs 1000000000000 false 1) (fun e9=>(some {Yf with fCode:=e9}).bind fun v10=>some (v10.fCode,([]:List Int),([]:List Qu))) (fun r12=>j ()))=some v:=fun{j v} h1 h2=>by
  rw[Qn2]
  simp only[Qb]
  unfold inn at h1 h2
  cases hm:mayK k with
  |false=>rw[h2 (by simp[hm])];rfl
  | true=>
   simp only[Qg]
   cases h3:decide (1≤limit)with
   |false=>rw[h2 (by simp[h3])];rfl
   |true=>
    simp only[Qg]
    refine Qdt (fun h=> ?_) (fun h=> ?_)
    ·rw[h2 (by simp[h])]
    ·exact h1 hm (by first|rfl|simp[h3,h]|simp[h]|simp)
 refine ho (v:=QcD k limit p.fSize p.fRoot b) (j:=fun _=>_) ?_ ?_
 ·exact fun h1 h2=>main h1 h2
 ·exact fun h=>by
   unfold QcD
   rw[h]
   rfl
end Go.Proofs.YtomndohdnfebgaaGreatDoor
