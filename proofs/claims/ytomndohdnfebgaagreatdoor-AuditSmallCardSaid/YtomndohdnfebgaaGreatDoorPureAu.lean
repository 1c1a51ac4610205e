/-
 Plain: the audit, whole and of some: it comes to a verdict, whatever the bytes are.
-/
import Derived.Test.YtomndohdnfebgaaGreatDoorPureAt
namespace Go.Proofs.YtomndohdnfebgaaGreatDoor
open Go Go.Sep
theorem smi{E β R:Type}{P:R→Prop}{e:E}{l:E→Option R}{r:β→Option R}(h:∃z,l e=some z∧P z):∃z,sm (some (.inl e)) l r=some z∧P z:=h
theorem smr{E β R:Type}{P:R→Prop}{y:β}{l:E→Option R}{r:β→Option R}(h:∃z,r y=some z∧P z):∃z,sm (some (.inr y)) l r=some z∧P z:=h
theorem Qb9{R:Type}{P:R→Prop}{b:Bool}{e:Int}{l:Int→Option R}{r:Unit→Option R}(h1:b=false→∃z,l e=some z∧P z)(h2:b=true→∃z,r ()=some z∧P z):∃z,sm (Yo.fs 1000000000000 b e) l r=some z∧P z:=by
 cases b with
 |false=>exact h1 rfl
 |true=>exact h2 rfl
theorem Qq3{R:Type}{P:R→Prop}{k:QC}{limit:Int}{x:Rc}(hx:okD x)(ht:byH x.fTag){l:Int→Option R}{r:Unit→Option R}(h1:rcK k x=false→∃z,l 7=some z∧P z)(h2:rcK k x=true→∃z,r ()=some z∧P z):∃z,sm (Y6.fs 1000000000000 ⟨k,limit⟩ x) l r=some z∧P z:=by
 rw[Qom hx ht]
 cases h:rcK k x with
 |false=>exact h1 h
 |true=>exact h2 h
abbrev VdT:=Int×List Int×List Qv
theorem QsD{x:Bun}(hv:vBun x):∀(m i k:Nat) (l:List H32),i+m=x.fItems.length→m<k→l.length=pc i→∃r,Yb.l 1000000000000 x k ((i:Int),l,(i:Int))=some (r,((x.fItems.length:Nat):Int))∧r.length=pc x.fItems.length:=by
 have h400:=hv.r.len
 intro m
 induction m with
 |zero=>
  intro i k l hi hk hl
  obtain⟨k,rfl⟩:∃j,k=j+1:=⟨k-1,by omega⟩
  have e:i=x.fItems.length:=by omega
  refine⟨l,?_,by rw[hl,e]⟩
  show Yb.b 1000000000000 x (Yb.l 1000000000000 x k) ((i:Int),l,(i:Int))=_
  unfold Yb.b
  rw[Qi (QN (by simp only;omega)),e]
 |succ m ih=>
  intro i k l hi hk hl
  obtain⟨k,rfl⟩:∃j,k=j+1:=⟨k-1,by omega⟩
  show ∃r,Yb.b 1000000000000 x (Yb.l 1000000000000 x k) ((i:Int),l,(i:Int))=_∧_
  unfold Yb.b
  rw[Qj (QX (by simp only;omega))]
  obtain⟨y,hy⟩:=Ji (l:=x.fItems) (i:=i) (by omega)
  have hm:y∈x.fItems:=by rw[Jy]at hy;exact List.mem_of_getElem? hy
  rw[bnd hy,bnd (Qm7 (hv.d y hm) (hv.r.items y hm).1)]
  obtain⟨r,h1,h2⟩:=QuX (QsB y.fRec) hl (by omega)
  rw[bnd h1,wrap_succ (by omega)]
  exact ih (i+1) k r (by omega) (by omega) h2
theorem QsE{x:Bun}(hv:vBun x){k0:QC}{limit:Int}:∀(m i k:Nat) (b:Bk),i+m=x.fItems.length→m<k→okK b→∃r,Yc.l 1000000000000 ⟨k0,limit⟩ x k ((i:Int),b)=some r∧(∀b',r= .inr b'→okK b'):=by
 have h400:=hv.r.len
 intro m
 induction m with
 |zero=>
  intro i k b hi hk hb
  obtain⟨k,rfl⟩:∃j,k=j+1:=⟨k-1,by omega⟩
  refine⟨.inr b,?_,fun b' e=>by cases e;exact hb⟩
  show Yc.b 1000000000000 ⟨k0,limit⟩ x (Yc.l 1000000000000 ⟨k0,limit⟩ x k) ((i:Int),b)=_
  unfold Yc.b
  rw[Qi (QN (by simp only;omega))]
 |succ m ih=>
  intro i k b hi hk hb
  obtain⟨k,rfl⟩:∃j,k=j+1:=⟨k-1,by omega⟩
  show ∃r,Yc.b 1000000000000 ⟨k0,limit⟩ x (Yc.l 1000000000000 ⟨k0,limit⟩ x k) ((i:Int),b)=_∧_
  unfold Yc.b
  rw[Qj (QX (by simp only;omega))]
  obtain⟨y,hy⟩:=Ji (l:=x.fItems) (i:=i) (by omega)
  have hm:y∈x.fItems:=by rw[Jy]at hy;exact List.mem_of_getElem? hy
  refine Qq hy ?_
  refine Qq3 (hv.d y hm) (QkW (hv.b y hm).tag) (fun _=>⟨_,rfl,fun b' e=>by cases e⟩) (fun _=> ?_)
  obtain⟨r,h1,h2⟩:=QuU (limit:=limit) hb (hv.d y hm)
  refine Qq h1 ?_
  refine Qb9 (fun _=>⟨_,rfl,fun b' e=>by cases e⟩) (fun _=> ?_)
  rw[wrap_succ (by omega)]
  exact ih (i+1) k r.1 (by omega) (by omega) h2
theorem QsF{b:Bk}(hb:b.fSagas.length≤12){c:Int}{r:List Qv}:∀(m i k:Nat) (l:List Int),i+m=b.fSagas.length→m<k→l=(List.range i).map (fun n=>((n:Nat):Int))→Yd.l 1000000000000 b k ((i:Int),c,l,r)=some (c,(List.range b.fSagas.length).map (fun n=>((n:Nat):Int)),r):=by
 intro m
 induction m with
 |zero=>
  intro i k l hi hk hl
  obtain⟨k,rfl⟩:∃j,k=j+1:=⟨k-1,by omega⟩
  show Yd.b 1000000000000 b (Yd.l 1000000000000 b k) ((i:Int),c,l,r)=_
  unfold Yd.b
  have e:i=b.fSagas.length:=by omega
  rw[Qi (QN (by simp only;omega)),hl,e]
 |succ m ih=>
  intro i k l hi hk hl
  obtain⟨k,rfl⟩:∃j,k=j+1:=⟨k-1,by omega⟩
  show Yd.b 1000000000000 b (Yd.l 1000000000000 b k) ((i:Int),c,l,r)=_
  unfold Yd.b
  have hll:l.length=i:=by rw[hl];simp
  rw[Qj (QX (by simp only;omega)),bnd (Jm (by simp only[List.length_singleton];omega)),wrap_succ (by omega)]
  exact ih (i+1) k _ (by omega) (by omega) (by rw[List.range_succ,List.map_append,←hl];rfl)
theorem Qq4{x:Bun}(hv:vBun x)(k0:QC)(limit:Int):∃r,Y5.fs 1000000000000 ⟨k0,limit⟩ x=some r:=by
 have:∃r,Y5.fs 1000000000000 ⟨k0,limit⟩ x=some r∧True:=by
  unfold Y5.fs
  have h400:=hv.r.len
  obtain⟨f,h1,h2⟩:=QsD hv x.fItems.length 0 1000000000000 [] (by omega) (by omega) (by rw[pc_0];rfl)
  have h1:Yb.l 1000000000000 x 1000000000000 (0, [],0)=_:=h1
  refine Qq h1 ?_
  have:=QuW x.fItems.length
  obtain⟨r,hr⟩:=Qq2 (l:=f) (n:=((x.fItems.length:Nat):Int)) (by omega)
  refine Qq hr ?_
  refine Qb9 (fun _=>⟨_,rfl,trivial⟩) (fun _=> ?_)
  obtain⟨s,h3,h4⟩:=QsE hv (k0:=k0) (limit:=limit) x.fItems.length 0 1000000000000 ⟨Vector.replicate 4 0, []⟩ (by omega) (by omega) Qsy
  have h3:Yc.l 1000000000000 ⟨k0,limit⟩ x 1000000000000 (0,⟨Vector.replicate 4 0, []⟩)=_:=h3
  refine Qq h3 ?_
  cases s with
  |inl u=>exact⟨_,rfl,trivial⟩
  |inr b=>
   have hb:=h4 b rfl
   obtain⟨q,hq,_⟩:=Qol hb.n
   refine Qq hq ?_
   have h5:=QsF hb.n (c:=0) (r:=q) b.fSagas.length 0 1000000000000 [] (by omega) (by have:=hb.n;omega) rfl
   have h5:Yd.l 1000000000000 b 1000000000000 (0,0, [],q)=_:=h5
   refine Qq h5 ?_
   exact⟨_,rfl,trivial⟩
 obtain⟨r,hr,_⟩:=this
 exact⟨r,hr⟩
theorem Qwg{leaf:H32}{W:List H32}(hW:W.length<1000000):∀(d n:Nat) (i:Int) (a k:Nat),dpt n≤d→1≤n→n≤401→a≤W.length→d<k→0≤i→i<(n:Int)→∃r,Yp.r 1000000000000 k i (n:Int) leaf (a:Int) W=some r∧(∀z,r= .inr z→∃a':Nat,z.2=(a':Int)∧a'≤a):=by
 intro d
 induction d with
 | zero=>
  intro n i a k hd h1 hn ha hk h0 hi
  obtain⟨k,rfl⟩:∃j,k=j+1:=⟨k-1,by omega⟩
  have e:n=1:=by
   by_cases e:n=1
   ·exact e
   ·obtain⟨s,_,_,_,s3,_⟩:=Qjo (n:=n) (by omega) hn
    omega
  show ∃r,Yp.b 1000000000000 (Yp.r 1000000000000 k) i (n:Int) leaf (a:Int) W=some r∧_
  unfold Yp.b
  rw[Qj (QX (by omega))]
  exact⟨_,rfl,fun z hz=>by cases hz;exact⟨a,rfl,Nat.le_refl _⟩⟩
 | succ d ih=>
  intro n i a k hd h1 hn ha hk h0 hi
  obtain⟨k,rfl⟩:∃j,k=j+1:=⟨k-1,by omega⟩
  show ∃r,Yp.b 1000000000000 (Yp.r 1000000000000 k) i (n:Int) leaf (a:Int) W=some r∧_
  unfold Yp.b
  by_cases e:n=1
  ·rw[Qj (QX (by omega))]
   exact⟨_,rfl,fun z hz=>by cases hz;exact⟨a,rfl,Nat.le_refl _⟩⟩
  rw[Qi (QN (by omega))]
  obtain⟨s,hs,s1,s2,s3,s4,_⟩:=Qjo (n:=n) (by omega) hn
  refine Qq hs ?_
  unfold QaT.fs
  by_cases ha0:a=0
  ·subst ha0
   rw[Qj (by simp)]
   exact smi ⟨_,rfl,fun z hz=>by cases hz⟩
  ·rw[Qi (QN (by omega))]
   have ew:IntKind.wrap .i64 ((a:Int)-1)=((a-1:Nat):Int):=by rw[wrap64 (by omega) (by omega)];omega
   rw[ew]
   obtain⟨x,hx⟩:=Ji (l:=W) (i:=a-1) (by omega)
   rw[bnd hx]
   refine smr ?_
   by_cases hc:i<(s:Int)
   ·rw[Qj (QX hc)]
    obtain⟨r,hr,h2⟩:=ih s i (a-1) k (by omega) (by omega) (by omega) (by omega) (by omega) h0 hc
    simp only
    rw[hr]
    cases r with
    |inl e=>exact smi ⟨_,rfl,fun z hz=>by cases hz⟩
    |inr z=>
     refine smr ?_
     obtain⟨q,hq⟩:=QfB z.1 x
     refine Qq hq ?_
     refine⟨_,rfl,fun z' hz=> ?_⟩
     cases hz
     obtain⟨a',h3,h4⟩:=h2 z rfl
     exact⟨a',h3,by omega⟩
   ·rw[Qi (QN hc)]
    rw[wrap64 (by omega) (by omega),show IntKind.wrap .i64 ((n:Int)-(s:Int))=((n-s:Nat):Int) by rw[wrap64 (by omega) (by omega)];omega]
    obtain⟨r,hr,h2⟩:=ih (n-s) (i-(s:Int)) (a-1) k (by omega) (by omega) (by omega) (by omega) (by omega) (by omega) (by omega)
    simp only
    rw[hr]
    cases r with
    |inl e=>exact smi ⟨_,rfl,fun z hz=>by cases hz⟩
    |inr z=>
     refine smr ?_
     obtain⟨q,hq⟩:=QfB x z.1
     refine Qq hq ?_
     refine⟨_,rfl,fun z' hz=> ?_⟩
     cases hz
     obtain⟨a',h3,h4⟩:=h2 z rfl
     exact⟨a',h3,by omega⟩
theorem Qq5(leaf:H32){W:List H32}(hW:W.length<1000000)(i n:Int)(hn:n≤401):∃r,QaW.f 1000000000000 leaf i n W=some r∧True:=by
 unfold QaW.f
 refine Qad (fun y=>y=false→0≤i∧i<n) (fun y hy=> ?_) (fun g hg=> ?_)
 ·cases y with
  |true=>exact⟨_,rfl,trivial⟩
  | false=>
   simp only[Qh]
   obtain⟨h0,h1⟩:=hy rfl
   obtain⟨m,hm⟩:=Int.eq_ofNat_of_zero_le (show 0≤n by omega)
   subst hm
   have hd:dpt m≤20:=by
    by_cases e:m=1
    ·subst e;decide
    ·obtain⟨_,_,_,_,_,_,h⟩:=Qjo (n:=m) (by omega) (by omega)
     exact h
   obtain⟨r,hr,_⟩:=Qwg (leaf:=leaf) hW 20 m i W.length 1000000000000 hd (by omega) (by omega) (Nat.le_refl _) (by omega) h0 h1
   have hr:Yp.fs 1000000000000 i (m:Int) leaf ((W.length:Nat):Int) W=some r:=hr
   have ht:∃t,QaV.f 1000000000000 W leaf i (m:Int) (Vector.replicate 32 0)=some t:=by
    unfold QaV.f QaU.fs
    rw[hr]
    cases r with
    |inl e=>exact⟨_,rfl⟩
    |inr z=>exact⟨_,rfl⟩
   obtain⟨t,ht⟩:=ht
   refine Qq ht ?_
   cases t.1 with
   |true=>exact⟨_,rfl,trivial⟩
   |false=>exact⟨_,rfl,trivial⟩
 ·by_cases h0:i<0
  ·rw[Qj (QX h0)]
   exact hg true (fun e=>by cases e)
  rw[Qi (QN h0)]
  by_cases h1:n≤i
  ·rw[Qj (QX h1)]
   exact hg true (fun e=>by cases e)
  ·rw[Qi (QN h1)]
   exact hg _ (fun _=>by omega)
theorem Qq6(a b:H32):∃r,X7.f 1000000000000 a b=some r:=by
 unfold X7.f
 have key:∀(m i k:Nat) (z:Int),i+m=32→m<k→∃y,Ym.l 1000000000000 a b k ((i:Int),z)=some y:=by
  intro m
  induction m with
  |zero=>
   intro i k z hi hk
   obtain⟨k,rfl⟩:∃j,k=j+1:=⟨k-1,by omega⟩
   refine⟨z,?_⟩
   show Ym.b 1000000000000 a b (Ym.l 1000000000000 a b k) ((i:Int),z)=_
   unfold Ym.b
   rw[Qi (QN (by simp only;omega))]
  |succ m ih=>
   intro i k z hi hk
   obtain⟨k,rfl⟩:∃j,k=j+1:=⟨k-1,by omega⟩
   show ∃y,Ym.b 1000000000000 a b (Ym.l 1000000000000 a b k) ((i:Int),z)=some y
   unfold Ym.b QaP.f
   rw[Qj (QX (by simp only;omega))]
   simp only[chk]
   rw[Qj (YB (by omega)),Qj (YB (by omega)),wrap_succ (by omega)]
   exact ih (i+1) k _ (by omega) (by omega)
 obtain⟨y,hy⟩:=key 32 0 1000000000000 0 (by omega) (by omega)
 have hy:Ym.l 1000000000000 a b 1000000000000 (0,0)=some y:=hy
 exact⟨_,QI hy rfl⟩
theorem Qwh(leaf root:H32){W:List H32}(hW:W.length<1000000)(i n:Int)(hn:n≤401):∃r,Qfr.f 1000000000000 leaf i n W root=some r:=by
 unfold Qfr.f
 obtain⟨r,hr,_⟩:=Qq5 leaf hW i n hn
 refine Qjn hr ?_
 cases r.2 with
 |false=>exact⟨_,rfl⟩
 |true=>
  obtain⟨q,hq⟩:=Qq6 r.1 root
  simp only[Qg]
  refine⟨q,?_⟩
  rw[hq]
  rfl
structure okS(hb:List Bool)(ho:List Int)(hs:List Sa):Prop where
 b:hb.length=12
 o:∀n∈ho,0≤n∧n<12
 s:hs.length=12
 st:∀x∈hs,x.fSteps.length≤6
theorem Qmd{x:Rc}(h:Ja x=true):∃n:Nat,x.fSaga=(n:Int)∧n<12:=by
 unfold Ja QcX at h
 simp only[Qd,qR]at h
 exact⟨x.fSaga.toNat,by omega,by omega⟩
theorem Qq7{x:Rc}(hr:Ja x=true):0≤x.fStep:=by
 have hd:=QcI hr
 by_cases k:x.fKind=2∨x.fKind=4∨x.fKind=3
 ·exact(hd.call k).2.1.1
 ·have hk:=hd.kept
  rw[hk]
  unfold Qff
  rcases hd.kind with k1|k1|k1|k1|k1|k1
  ·rw[if_pos k1];cases x.fGone<;>exact Int.le_refl _
  ·exact absurd (.inl k1) k
  ·exact absurd (.inr (.inr k1)) k
  ·exact absurd (.inr (.inl k1)) k
  ·rw[if_neg (by omega),if_neg (by omega),if_neg (by omega),if_pos k1];exact Int.le_refl _
  ·rw[if_neg (by omega),if_neg (by omega),if_neg (by omega),if_neg (by omega),if_pos k1];exact Int.le_refl _
theorem QsG{x:Rc}(hr:Ja x=true):x.fSteps.length≤6:=by
 have hd:=QcI hr
 by_cases k1:x.fKind=1
 ·have:=qR.1 (hd.beg k1).1;omega
 ·have hk:=hd.kept
  rw[hk]
  unfold Qff
  rw[if_neg k1]
  repeat' split
  all_goals exact Nat.zero_le _
theorem QsH{x:Rc}(hr:Ja x=true){b:List Bool}{o:List Int}{s:List Sa}(h:okS b o s)(ho:o.length<1000):∃r,jO.fs 1000000000000 x b o s=some r∧∀z,r= .inr z→okS z.1 z.2.1 z.2.2∧z.2.1.length=o.length+1:=by
 obtain⟨n,hn,hn12⟩:=Qmd hr
 have h6:=QsG hr
 unfold jO.fs
 refine Qad (fun _=>True) (fun y _=> ?_) (fun g hg=> ?_)
 ·obtain⟨t,h1,h2⟩:=Qq1 x.fSteps (by omega)
  refine Qq h1 ?_
  simp only[chk]
  rw[hn,Qj (YB hn12)]
  refine Qq rfl ?_
  refine Qq (Jm (by simp only[List.length_singleton];omega)) ?_
  refine⟨_,rfl,fun z hz=> ?_⟩
  cases hz
  refine⟨⟨h.b,fun m hm=> ?_,by simp[h.s],fun y hy=> ?_⟩,by simp⟩
  ·rcases List.mem_append.1 hm with hm|hm
   ·exact h.o m hm
   ·simp at hm;omega
  ·rcases Qmc hy with rfl|hy
   ·omega
   ·exact h.st y hy
 ·simp only[chk]
  rw[hn,Qj (YB hn12)]
  obtain⟨q,hq⟩:=Ji (l:=b) (i:=n) (by rw[h.b];exact hn12)
  refine Qq hq ?_
  cases q with
  |true=>
   simp only[Bool.not_true,Qh]
   exact Qb9 (fun _=>⟨_,rfl,fun z hz=>by cases hz⟩) (fun _=>hg () trivial)
  |false=>
   simp only[Bool.not_false,Qg]
   obtain⟨m,hm⟩:=Qjr x.fSteps (by omega)
   refine Qq hm ?_
   exact Qb9 (fun _=>⟨_,rfl,fun z hz=>by cases hz⟩) (fun _=>hg () trivial)
theorem QuY{x:Rc}(hr:Ja x=true){limit:Int}{b:List Bool}{o:List Int}{s:List Sa}(h:okS b o s):∃r,yI.fs 1000000000000 x limit b o s=some r∧∀z,r= .inr z→okS z.1 z.2.1 z.2.2∧z.2.1.length=o.length:=by
 obtain⟨n,hn,hn12⟩:=Qmd hr
 unfold yI.fs
 simp only[chk]
 rw[hn,Qj (YB hn12)]
 obtain⟨t,ht⟩:=Ji (l:=s) (i:=n) (by rw[h.s];exact hn12)
 have hm:t∈s:=by rw[Jy]at ht;exact List.mem_of_getElem? ht
 have h6:=h.st t hm
 refine Qq ht ?_
 by_cases h0:((t.fSteps.length:Nat):Int)=0
 ·rw[Qj (QX h0)]
  exact⟨_,rfl,fun z hz=>by cases hz;exact⟨h,rfl⟩⟩
 rw[Qi (QN h0)]
 obtain⟨r,h1,h2,h3⟩:=Qts t x limit (by omega) (Qq7 hr)
 refine Qq h1 ?_
 refine Qad (fun _=>True) (fun y _=> ?_) (fun g hg=> ?_)
 ·rw[Qj (YB hn12)]
  refine Qq rfl ?_
  refine⟨_,rfl,fun z hz=> ?_⟩
  cases hz
  refine⟨⟨h.b,h.o,by simp[h.s],fun y hy=> ?_⟩,rfl⟩
  rcases Qmc hy with rfl|hy
  ·rw[h2];exact h6
  ·exact h.st y hy
 ·cases h5:r.2 with
  |false=>
   simp only[Qh]
   exact Qb9 (fun _=>⟨_,rfl,fun z hz=>by cases hz⟩) (fun _=>hg () trivial)
  | true=>
   simp only[Qg]
   by_cases k3:x.fKind=3
   ·rw[Qi (by simp[k3])]
    have h7:=h3 h5 k3
    obtain⟨j,hj⟩:=Int.eq_ofNat_of_zero_le (Qq7 hr)
    rw[hj]
    obtain⟨z,hz⟩:=Ji (l:=t.fSteps) (i:=j) (by omega)
    refine Qq hz ?_
    exact Qb9 (fun _=>⟨_,rfl,fun z hz=>by cases hz⟩) (fun _=>hg () trivial)
   ·rw[Qj (by simp[k3])]
    exact Qb9 (fun e=>by cases e) (fun _=>hg () trivial)
theorem QuZ{x:Bun}(hv:vBun x){k0:QC}{limit:Int}:∀(m i k:Nat) (b:List Bool) (o:List Int) (s:List Sa),i+m=x.fItems.length→m<k→okS b o s→o.length≤i→
  ∃r,Yf.l 1000000000000 ⟨k0,limit⟩ x k ((i:Int),b,o,s)=some r∧(∀z,r= .inr z→okS z.1 z.2.1 z.2.2∧z.2.1.length≤x.fItems.length):=by
 have h400:=hv.r.len
 intro m
 induction m with
 |zero=>
  intro i k b o s hi hk hs ho
  obtain⟨k,rfl⟩:∃j,k=j+1:=⟨k-1,by omega⟩
  refine⟨.inr (b,o,s),?_,fun z e=>by cases e;exact⟨hs,by simp only;omega⟩⟩
  show Yf.b 1000000000000 ⟨k0,limit⟩ x (Yf.l 1000000000000 ⟨k0,limit⟩ x k) ((i:Int),b,o,s)=_
  unfold Yf.b
  rw[Qi (QN (by simp only;omega))]
 | succ m ih=>
  intro i k b o s hi hk hs ho
  obtain⟨k,rfl⟩:∃j,k=j+1:=⟨k-1,by omega⟩
  show ∃r,Yf.b 1000000000000 ⟨k0,limit⟩ x (Yf.l 1000000000000 ⟨k0,limit⟩ x k) ((i:Int),b,o,s)=_∧_
  unfold Yf.b
  rw[Qj (QX (by simp only;omega))]
  refine Qad (fun y=>okS y.1 y.2.1 y.2.2∧y.2.1.length≤i+1) (fun y hy=> ?_) (fun g hg=> ?_)
  ·rw[wrap_succ (by omega)]
   exact ih (i+1) k y.1 y.2.1 y.2.2 (by omega) (by omega) hy.1 hy.2
  ·obtain⟨y,hy⟩:=Ji (l:=x.fItems) (i:=i) (by omega)
   have hm:y∈x.fItems:=by rw[Jy]at hy;exact List.mem_of_getElem? hy
   have hr:=(hv.r.items y hm).1
   obtain⟨n,hn,hn12⟩:=Qmd hr
   refine Qq hy ?_
   refine Qq (Qm7 (hv.d y hm) hr) ?_
   obtain⟨q,hq⟩:=Qwh (QsB y.fRec) x.fPoint.fRoot (W:=y.fPath) (by have:=(hv.r.items y hm).2.2;omega) y.fAt x.fPoint.fSize (by have:=hv.r.size;omega)
   refine Qq hq ?_
   refine Qb9 (fun _=>⟨_,rfl,fun z e=>by cases e⟩) (fun _=> ?_)
   refine Qq3 (hv.d y hm) (QkW (hv.b y hm).tag) (fun _=>⟨_,rfl,fun z e=>by cases e⟩) (fun _=> ?_)
   refine Qad (fun y=>okS y.1 y.2.1 y.2.2∧y.2.1.length≤i+1) (fun z hz=> ?_) (fun g2 hg2=> ?_)
   ·simp only[chk]
    rw[hn,Qj (YB hn12)]
    refine Qq rfl ?_
    exact hg _ ⟨⟨by simp[hz.1.b],hz.1.o,hz.1.s,hz.1.st⟩,hz.2⟩
   ·by_cases k1:y.fRec.fKind=1
    ·rw[Qj (QX k1)]
     obtain⟨r,h1,h2⟩:=QsH hr hs (by omega)
     rw[h1]
     cases r with
     |inl e=>exact smi ⟨_,rfl,fun z e=>by cases e⟩
     |inr z=>
      refine smr ?_
      obtain⟨h3,h4⟩:=h2 z rfl
      exact hg2 _ ⟨h3,by rw[h4];omega⟩
    rw[Qi (QN k1)]
    by_cases k6:y.fRec.fKind=6
    ·rw[Qj (QX k6)]
     exact hg _ ⟨hs,by simp only;omega⟩
    rw[Qi (QN k6)]
    obtain⟨r,h1,h2⟩:=QuY hr (limit:=limit) hs
    rw[h1]
    cases r with
    |inl e=>exact smi ⟨_,rfl,fun z e=>by cases e⟩
    |inr z=>
     refine smr ?_
     obtain⟨h3,h4⟩:=h2 z rfl
     exact hg2 _ ⟨h3,by rw[h4];omega⟩
theorem Qu0{z:List Bool×List Int×List Sa}(h:okS z.1 z.2.1 z.2.2)(hl:z.2.1.length<1000){c:Int}:∀(m i k:Nat) (l:List Int) (q:List Qv),i+m=z.2.1.length→m<k→l.length=i→q.length=i→
  ∃r,Yg.l 1000000000000 z k ((i:Int),c,l,q)=some r∧(r.1=c∧r.2.1.length=z.2.1.length∧r.2.2.length=z.2.1.length):=by
 intro m
 induction m with
 |zero=>
  intro i k l q hi hk h1 h2
  obtain⟨k,rfl⟩:∃j,k=j+1:=⟨k-1,by omega⟩
  refine⟨(c,l,q),?_,rfl,by simp only;omega,by simp only;omega⟩
  show Yg.b 1000000000000 z (Yg.l 1000000000000 z k) ((i:Int),c,l,q)=_
  unfold Yg.b
  rw[Qi (QN (by simp only;omega))]
 |succ m ih=>
  intro i k l q hi hk h1 h2
  obtain⟨k,rfl⟩:∃j,k=j+1:=⟨k-1,by omega⟩
  show ∃r,Yg.b 1000000000000 z (Yg.l 1000000000000 z k) ((i:Int),c,l,q)=_∧_
  unfold Yg.b
  rw[Qj (QX (by simp only;omega))]
  obtain⟨n,hn⟩:=Ji (l:=z.2.1) (i:=i) (by omega)
  have hm:n∈z.2.1:=by rw[Jy]at hn;exact List.mem_of_getElem? hn
  have hn2:=h.o n hm
  obtain⟨j,hj⟩:=Int.eq_ofNat_of_zero_le hn2.1
  subst hj
  refine Qq hn ?_
  refine Qq (Jm (by simp only[List.length_singleton];omega)) ?_
  simp only[chk]
  rw[Qj (YB (by omega))]
  obtain⟨t,ht⟩:=Ji (l:=z.2.2) (i:=j) (by rw[h.s];omega)
  refine Qq ht ?_
  rw[Qj (YB (by omega))]
  refine Qq ht ?_
  obtain⟨w,hw⟩:=QgX t
  refine Qq hw ?_
  refine Qq (Jm (by simp only[List.length_singleton];omega)) ?_
  rw[wrap_succ (by omega)]
  exact ih (i+1) k _ _ (by omega) (by omega) (by simp[h1]) (by simp[h2])
theorem QsI:okS [false,false,false,false,false,false,false,false,false,false,false,false] [] [Q8,Q8,Q8,Q8,Q8,Q8,Q8,Q8,Q8,Q8,Q8,Q8]:=
 ⟨rfl,fun _ h=>(by cases h),rfl,fun x hx=>by
  simp only[List.mem_cons,List.not_mem_nil,or_false,or_self]at hx
  subst hx
  decide⟩
theorem QsJ{x:Bun}(hv:vBun x)(k0:QC)(limit:Int):∃r,Jg.fs 1000000000000 ⟨k0,limit⟩ x=some r:=by
 have:∃r,Jg.fs 1000000000000 ⟨k0,limit⟩ x=some r∧True:=by
  unfold Jg.fs
  have h400:=hv.r.len
  obtain⟨s,h1,h2⟩:=QuZ hv (k0:=k0) (limit:=limit) x.fItems.length 0 1000000000000 _ _ _ (by omega) (by omega) QsI (Nat.le_refl _)
  have h1:Yf.l 1000000000000 ⟨k0,limit⟩ x 1000000000000 (0,_,_,_)=_:=h1
  refine Qq h1 ?_
  cases s with
  |inl u=>exact⟨_,rfl,trivial⟩
  |inr z=>
   obtain⟨h3,h4⟩:=h2 z rfl
   obtain⟨r,h5,_⟩:=Qu0 h3 (by omega) (c:=0) z.2.1.length 0 1000000000000 [] [] (by omega) (by omega) rfl rfl
   have h5:Yg.l 1000000000000 z 1000000000000 (0,0, [], [])=_:=h5
   refine Qq h5 ?_
   exact⟨_,rfl,trivial⟩
 obtain⟨r,hr,_⟩:=this
 exact⟨r,hr⟩
def outA(r:Sum Int VdT):VdT:=match r with| .inl e=>(e, [], [])| .inr v=>v
def runA(k:QC)(limit:Int)(x:Bun):Sum Int VdT:=((bif x.fWhole then Y5.fs 1000000000000 ⟨k,limit⟩ x else Jg.fs 1000000000000 ⟨k,limit⟩ x)).getD (.inl 0)
def QcJ(k:QC)(limit size:Int)(root:H32)(b:List Int):VdT:=
 bif mayK k&&inn limit 1 9 then
  (bif decide ((getS b).2=0)then
   (bif decide (chkK k (getS b).1.fPoint=0)then
    (bif decide ((getS b).1.fPoint.fSize=size)&&decide ((getS b).1.fPoint.fRoot=root)then outA (runA k limit (getS b).1)else(6, [], []))
   else(chkK k (getS b).1.fPoint, [], []))
  else((getS b).2, [], []))
 else(1, [], [])
theorem get_v{b:List Int}(hb:isB b)(hl:b.length<1000000000)(h:(getS b).2=0):vBun (getS b).1:=
 QuV (Qm1 hb hl h).2.1 (Qm1 hb hl h).2.2
theorem Qjs{R:Type}{b:Bool}{e:Int}{l:Int→Option R}{r:Unit→Option R}{z:R}(h1:b=false→l e=some z)(h2:b=true→r ()=some z):sm (Yo.fs 1000000000000 b e) l r=some z:=by
 cases b with
 |false=>exact h1 rfl
 |true=>exact h2 rfl
theorem Qjt{k:QC}{limit:Int}{p:Qu}{b:List Int}(hb:isB b)(hl:b.length<1000000000):J4.f 1000000000000 k limit p b=some (QcJ k limit p.fSize p.fRoot b):=by
 have main:mayK k=true→inn limit 1 9=true→((Qao.f 1000000000000 b).bind fun r1=>(sm (Yo.fs 1000000000000 (decide (r1.2=0)) r1.2) (fun e1=>(some {Ya with fCode:=e1}).bind fun v2=>some (v2.fCode,([]:List Int),([]:List Qv))) fun r6=>(Qap.f 1000000000000 k r1.1.fPoint).bind fun r4=>sm (Yo.fs 1000000000000 (decide (r4=0)) r4) (fun e2=>(some {Ya with fCode:=e2}).bind fun v3=>some (v3.fCode,([]:List Int),([]:List Qv))) fun r7=>
   jn (fun(y2:Unit)=>(some (YS.mk k limit)).bind fun v1=>bif r1.1.fWhole then sm (Y5.fs 1000000000000 v1 r1.1) (fun e3=>(some {Ya with fCode:=e3}).bind fun v4=>some (v4.fCode,([]:List Int),([]:List Qv))) (fun r2=>some (r2.1,r2.2.1,r2.2.2))else sm (Jg.fs 1000000000000 v1 r1.1) (fun e4=>(some {Ya with fCode:=e4}).bind fun v5=>some (v5.fCode,([]:List Int),([]:List Qv))) (fun r3=>some (r3.1,r3.2.1,r3.2.2)))
    (fun j2=>bif decide (r1.1.fPoint.fSize=p.fSize)then sm (Yo.fs 1000000000000 (decide (r1.1.fPoint.fRoot=p.fRoot)) 6) (fun e5=>(some {Ya with fCode:=e5}).bind fun v6=>some (v6.fCode,([]:List Int),([]:List Qv))) (fun r8=>j2 ())else sm (Yo.fs 1000000000000 false 6) (fun e6=>(some {Ya with fCode:=e6}).bind fun v7=>some (v7.fCode,([]:List Int),([]:List Qv))) (fun r9=>j2 ()))))=some (QcJ k limit p.fSize p.fRoot b):=fun hm hlm=>by
  unfold QcJ
  rw[hm,hlm,bnd (Qwb (Nat.le_refl _) hb hl)]
  simp only[Bool.and_self,Qg]
  refine Qjs (fun h=> ?_) (fun h=> ?_)
  ·rw[h];rfl
  have hv:=get_v hb hl (of_decide_eq_true h)
  rw[bnd (Qwf (by have:=hv.r.sigs;omega) hv.s),h]
  simp only[Qg]
  refine Qjs (fun h=> ?_) (fun h=> ?_)
  ·rw[h];rfl
  rw[h]
  simp only[Qg,jn]
  cases decide ((getS b).1.fPoint.fSize=p.fSize)with
  |false=>rfl
  | true=>
   simp only[Qg,Bool.true_and]
   refine Qjs (fun h=> ?_) (fun h=> ?_)
   ·rw[h];rfl
   rw[h]
   simp only[Qg,Qb]
   unfold runA
   cases (getS b).1.fWhole with
   |true=>
    simp only[Qg]
    obtain⟨r,hr⟩:=Qq4 hv k limit
    rw[hr]
    cases r<;>rfl
   |false=>
    simp only[Qh]
    obtain⟨r,hr⟩:=QsJ hv k limit
    rw[hr]
    cases r<;>rfl
 unfold J4.f
 have ho:∀{j:Unit→Option VdT} {v:VdT},(mayK k=true→inn limit 1 9=true→j ()=some v)→((mayK k&&inn limit 1 9)=false→v=(1, [], []))→((ZE.f 1000000000000 k).bind fun r5=>bif r5 then bif decide (1≤limit)then sm (Yo.fs 1000000000000 (decide (limit≤9)) 1) (fun e7=>(some {Ya with fCode:=e7}).bind fun v8=>some (v8.fCode,([]:List Int),([]:List Qv))) (fun r10=>j ())else sm (Yo.fs 1000000000000 false 1) (fun e8=>(some {Ya with fCode:=e8}).bind fun v9=>some (v9.fCode,([]:List Int),([]:List Qv))) (fun r11=>j ())else sm (Yo.fs 1000000000000 false 1) (fun e9=>(some {Ya with fCode:=e9}).bind fun v10=>some (v10.fCode,([]:List Int),([]:List Qv))) (fun r12=>j ()))=some v:=fun{j v} h1 h2=>by
  rw[Qm3]
  simp only[Qb]
  unfold inn at h1 h2
  cases hm:mayK k with
  |false=>rw[h2 (by simp[hm])];rfl
  | true=>
   simp only[Qg]
   cases h3:decide (1≤limit)with
   |false=>rw[h2 (by simp[h3])];rfl
   |true=>
    simp only[Qg]
    refine Qjs (fun h=> ?_) (fun h=> ?_)
    ·rw[h2 (by simp[h])]
    ·exact h1 hm (by first|rfl|simp[h3,h]|simp[h]|simp)
 refine ho (v:=QcJ k limit p.fSize p.fRoot b) (j:=fun _=>_) ?_ ?_
 ·exact fun h1 h2=>main h1 h2
 ·exact fun h=>by
   unfold QcJ
   rw[h]
   rfl
end Go.Proofs.YtomndohdnfebgaaGreatDoor
