/-
 Plain: the audit, whole and of some: it comes to a verdict, whatever the bytes are.
-/
import Derived.Test.YtomndohdnfebgaaGreatDoorPureAt
namespace Go.Proofs.YtomndohdnfebgaaGreatDoor
open Go Go.Sep
theorem smi{E β R:Type}{P:R→Prop}{e:E}{l:E→Option R}{r:β→Option R}(h:∃z,l e=some z∧P z):∃z,sm (some (.inl e)) l r=some z∧P z:=h
theorem smr{E β R:Type}{P:R→Prop}{y:β}{l:E→Option R}{r:β→Option R}(h:∃z,r y=some z∧P z):∃z,sm (some (.inr y)) l r=some z∧P z:=h
theorem Qdp{R:Type}{P:R→Prop}{b:Bool}{e:Int}{l:Int→Option R}{r:Unit→Option R}(h1:b=false→∃z,l e=some z∧P z)(h2:b=true→∃z,r ()=some z∧P z):∃z,sm (YI.fs 1000000000000 b e) l r=some z∧P z:=by
 cases b with
 |false=>exact h1 rfl
 |true=>exact h2 rfl
theorem Qtt{R:Type}{P:R→Prop}{k:Qr}{limit:Int}{x:Rc}(hx:okD x)(ht:byH x.fTag){l:Int→Option R}{r:Unit→Option R}(h1:rcK k x=false→∃z,l 7=some z∧P z)(h2:rcK k x=true→∃z,r ()=some z∧P z):∃z,sm (Js.fs 1000000000000 ⟨k,limit⟩ x) l r=some z∧P z:=by
 rw[Qf1 hx ht]
 cases h:rcK k x with
 |false=>exact h1 h
 |true=>exact h2 h
abbrev VdT:=Int×List Int×List Qq
theorem Qvf{x:Bun}(hv:vBun x):∀(m i k:Nat) (l:List H32),i+m=x.fItems.length→m<k→l.length=pc i→∃r,QQ.l 1000000000000 x k ((i:Int),l,(i:Int))=some (r,((x.fItems.length:Nat):Int))∧r.length=pc x.fItems.length:=by
 have h400:=hv.r.len
 intro m
 induction m with
 |zero=>
  intro i k l hi hk hl
  obtain⟨k,rfl⟩:∃j,k=j+1:=⟨k-1,by omega⟩
  have e:i=x.fItems.length:=by omega
  refine⟨l,?_,by rw[hl,e]⟩
  show QQ.b 1000000000000 x (QQ.l 1000000000000 x k) ((i:Int),l,(i:Int))=_
  unfold QQ.b
  rw[Qi (QE (by simp only;omega)),e]
 |succ m ih=>
  intro i k l hi hk hl
  obtain⟨k,rfl⟩:∃j,k=j+1:=⟨k-1,by omega⟩
  show ∃r,QQ.b 1000000000000 x (QQ.l 1000000000000 x k) ((i:Int),l,(i:Int))=_∧_
  unfold QQ.b
  rw[Qj (QK (by simp only;omega))]
  obtain⟨y,hy⟩:=JF (l:=x.fItems) (i:=i) (by omega)
  have hm:y∈x.fItems:=by rw[Jz]at hy;exact List.mem_of_getElem? hy
  rw[bnd hy,bnd (Qha (hv.d y hm) (hv.r.items y hm).1)]
  obtain⟨r,h1,h2⟩:=QxJ (yh y.fRec) hl (by omega)
  rw[bnd h1,wrap_succ (by omega)]
  exact ih (i+1) k r (by omega) (by omega) h2
theorem Qvg{x:Bun}(hv:vBun x){k0:Qr}{limit:Int}:∀(m i k:Nat) (b:Bk),i+m=x.fItems.length→m<k→okK b→∃r,QR.l 1000000000000 ⟨k0,limit⟩ x k ((i:Int),b)=some r∧(∀b',r= .inr b'→okK b'):=by
 have h400:=hv.r.len
 intro m
 induction m with
 |zero=>
  intro i k b hi hk hb
  obtain⟨k,rfl⟩:∃j,k=j+1:=⟨k-1,by omega⟩
  refine⟨.inr b,?_,fun b' e=>by cases e;exact hb⟩
  show QR.b 1000000000000 ⟨k0,limit⟩ x (QR.l 1000000000000 ⟨k0,limit⟩ x k) ((i:Int),b)=_
  unfold QR.b
  rw[Qi (QE (by simp only;omega))]
 |succ m ih=>
  intro i k b hi hk hb
  obtain⟨k,rfl⟩:∃j,k=j+1:=⟨k-1,by omega⟩
  show ∃r,QR.b 1000000000000 ⟨k0,limit⟩ x (QR.l 1000000000000 ⟨k0,limit⟩ x k) ((i:Int),b)=_∧_
  unfold QR.b
  rw[Qj (QK (by simp only;omega))]
  obtain⟨y,hy⟩:=JF (l:=x.fItems) (i:=i) (by omega)
  have hm:y∈x.fItems:=by rw[Jz]at hy;exact List.mem_of_getElem? hy
  refine Qv hy ?_
  refine Qtt (hv.d y hm) (Qiy (hv.b y hm).tag) (fun _=>⟨_,rfl,fun b' e=>by cases e⟩) (fun _=> ?_)
  obtain⟨r,h1,h2⟩:=Qtr (limit:=limit) hb (hv.d y hm)
  refine Qv h1 ?_
  refine Qdp (fun _=>⟨_,rfl,fun b' e=>by cases e⟩) (fun _=> ?_)
  rw[wrap_succ (by omega)]
  exact ih (i+1) k r.1 (by omega) (by omega) h2
theorem Qpk{b:Bk}(hb:b.fSagas.length≤12){c:Int}{r:List Qq}:∀(m i k:Nat) (l:List Int),i+m=b.fSagas.length→m<k→l=(List.range i).map (fun n=>((n:Nat):Int))→Yt.l 1000000000000 b k ((i:Int),c,l,r)=some (c,(List.range b.fSagas.length).map (fun n=>((n:Nat):Int)),r):=by
 intro m
 induction m with
 |zero=>
  intro i k l hi hk hl
  obtain⟨k,rfl⟩:∃j,k=j+1:=⟨k-1,by omega⟩
  show Yt.b 1000000000000 b (Yt.l 1000000000000 b k) ((i:Int),c,l,r)=_
  unfold Yt.b
  have e:i=b.fSagas.length:=by omega
  rw[Qi (QE (by simp only;omega)),hl,e]
 |succ m ih=>
  intro i k l hi hk hl
  obtain⟨k,rfl⟩:∃j,k=j+1:=⟨k-1,by omega⟩
  show Yt.b 1000000000000 b (Yt.l 1000000000000 b k) ((i:Int),c,l,r)=_
  unfold Yt.b
  have hll:l.length=i:=by rw[hl];simp
  rw[Qj (QK (by simp only;omega)),bnd (YX (by simp only[List.length_singleton];omega)),wrap_succ (by omega)]
  exact ih (i+1) k _ (by omega) (by omega) (by rw[List.range_succ,List.map_append,←hl];rfl)
theorem Qtu{x:Bun}(hv:vBun x)(k0:Qr)(limit:Int):∃r,Y3.fs 1000000000000 ⟨k0,limit⟩ x=some r:=by
 have:∃r,Y3.fs 1000000000000 ⟨k0,limit⟩ x=some r∧True:=by
  unfold Y3.fs
  have h400:=hv.r.len
  obtain⟨f,h1,h2⟩:=Qvf hv x.fItems.length 0 1000000000000 [] (by omega) (by omega) (by rw[pc_0];rfl)
  have h1:QQ.l 1000000000000 x 1000000000000 (0, [],0)=_:=h1
  refine Qv h1 ?_
  have:=QxI x.fItems.length
  obtain⟨r,hr⟩:=Qts (l:=f) (n:=((x.fItems.length:Nat):Int)) (by omega)
  refine Qv hr ?_
  refine Qdp (fun _=>⟨_,rfl,trivial⟩) (fun _=> ?_)
  obtain⟨s,h3,h4⟩:=Qvg hv (k0:=k0) (limit:=limit) x.fItems.length 0 1000000000000 ⟨Vector.replicate 4 0, []⟩ (by omega) (by omega) Qg9
  have h3:QR.l 1000000000000 ⟨k0,limit⟩ x 1000000000000 (0,⟨Vector.replicate 4 0, []⟩)=_:=h3
  refine Qv h3 ?_
  cases s with
  |inl u=>exact⟨_,rfl,trivial⟩
  |inr b=>
   have hb:=h4 b rfl
   obtain⟨q,hq,_⟩:=QqI hb.n
   refine Qv hq ?_
   have h5:=Qpk hb.n (c:=0) (r:=q) b.fSagas.length 0 1000000000000 [] (by omega) (by have:=hb.n;omega) rfl
   have h5:Yt.l 1000000000000 b 1000000000000 (0,0, [],q)=_:=h5
   refine Qv h5 ?_
   exact⟨_,rfl,trivial⟩
 obtain⟨r,hr,_⟩:=this
 exact⟨r,hr⟩
theorem Qzf{leaf:H32}{W:List H32}(hW:W.length<1000000):∀(d n:Nat) (i:Int) (a k:Nat),dpt n≤d→1≤n→n≤401→a≤W.length→d<k→0≤i→i<(n:Int)→∃r,Q9.r 1000000000000 k i (n:Int) leaf (a:Int) W=some r∧(∀z,r= .inr z→∃a':Nat,z.2=(a':Int)∧a'≤a):=by
 intro d
 induction d with
 | zero=>
  intro n i a k hd h1 hn ha hk h0 hi
  obtain⟨k,rfl⟩:∃j,k=j+1:=⟨k-1,by omega⟩
  have e:n=1:=by
   by_cases e:n=1
   ·exact e
   ·obtain⟨s,_,_,_,s3,_⟩:=Qlc (n:=n) (by omega) hn
    omega
  show ∃r,Q9.b 1000000000000 (Q9.r 1000000000000 k) i (n:Int) leaf (a:Int) W=some r∧_
  unfold Q9.b
  rw[Qj (QK (by omega))]
  exact⟨_,rfl,fun z hz=>by cases hz;exact⟨a,rfl,Nat.le_refl _⟩⟩
 | succ d ih=>
  intro n i a k hd h1 hn ha hk h0 hi
  obtain⟨k,rfl⟩:∃j,k=j+1:=⟨k-1,by omega⟩
  show ∃r,Q9.b 1000000000000 (Q9.r 1000000000000 k) i (n:Int) leaf (a:Int) W=some r∧_
  unfold Q9.b
  by_cases e:n=1
  ·rw[Qj (QK (by omega))]
   exact⟨_,rfl,fun z hz=>by cases hz;exact⟨a,rfl,Nat.le_refl _⟩⟩
  rw[Qi (QE (by omega))]
  obtain⟨s,hs,s1,s2,s3,s4,_⟩:=Qlc (n:=n) (by omega) hn
  refine Qv hs ?_
  unfold Zo.fs
  by_cases ha0:a=0
  ·subst ha0
   rw[Qj (by simp)]
   exact smi ⟨_,rfl,fun z hz=>by cases hz⟩
  ·rw[Qi (QE (by omega))]
   have ew:IntKind.wrap .i64 ((a:Int)-1)=((a-1:Nat):Int):=by rw[wrap64 (by omega) (by omega)];omega
   rw[ew]
   obtain⟨x,hx⟩:=JF (l:=W) (i:=a-1) (by omega)
   rw[bnd hx]
   refine smr ?_
   by_cases hc:i<(s:Int)
   ·rw[Qj (QK hc)]
    obtain⟨r,hr,h2⟩:=ih s i (a-1) k (by omega) (by omega) (by omega) (by omega) (by omega) h0 hc
    simp only
    rw[hr]
    cases r with
    |inl e=>exact smi ⟨_,rfl,fun z hz=>by cases hz⟩
    |inr z=>
     refine smr ?_
     obtain⟨q,hq⟩:=Qe9 z.1 x
     refine Qv hq ?_
     refine⟨_,rfl,fun z' hz=> ?_⟩
     cases hz
     obtain⟨a',h3,h4⟩:=h2 z rfl
     exact⟨a',h3,by omega⟩
   ·rw[Qi (QE hc)]
    rw[wrap64 (by omega) (by omega),show IntKind.wrap .i64 ((n:Int)-(s:Int))=((n-s:Nat):Int) by rw[wrap64 (by omega) (by omega)];omega]
    obtain⟨r,hr,h2⟩:=ih (n-s) (i-(s:Int)) (a-1) k (by omega) (by omega) (by omega) (by omega) (by omega) (by omega) (by omega)
    simp only
    rw[hr]
    cases r with
    |inl e=>exact smi ⟨_,rfl,fun z hz=>by cases hz⟩
    |inr z=>
     refine smr ?_
     obtain⟨q,hq⟩:=Qe9 x z.1
     refine Qv hq ?_
     refine⟨_,rfl,fun z' hz=> ?_⟩
     cases hz
     obtain⟨a',h3,h4⟩:=h2 z rfl
     exact⟨a',h3,by omega⟩
theorem Qtv(leaf:H32){W:List H32}(hW:W.length<1000000)(i n:Int)(hn:n≤401):∃r,jT.f 1000000000000 leaf i n W=some r∧True:=by
 unfold jT.f
 refine Qa6 (fun y=>y=false→0≤i∧i<n) (fun y hy=> ?_) (fun g hg=> ?_)
 ·cases y with
  |true=>exact⟨_,rfl,trivial⟩
  | false=>
   simp only[Qh]
   obtain⟨h0,h1⟩:=hy rfl
   obtain⟨m,hm⟩:=Int.eq_ofNat_of_zero_le (show 0≤n by omega)
   subst hm
   have hd:dpt m≤20:=by
    by_cases e:m=1
    ·subst e;decide
    ·obtain⟨_,_,_,_,_,_,h⟩:=Qlc (n:=m) (by omega) (by omega)
     exact h
   obtain⟨r,hr,_⟩:=Qzf (leaf:=leaf) hW 20 m i W.length 1000000000000 hd (by omega) (by omega) (Nat.le_refl _) (by omega) h0 h1
   have hr:Q9.fs 1000000000000 i (m:Int) leaf ((W.length:Nat):Int) W=some r:=hr
   have ht:∃t,ZW.f 1000000000000 W leaf i (m:Int) (Vector.replicate 32 0)=some t:=by
    unfold ZW.f Zp.fs
    rw[hr]
    cases r with
    |inl e=>exact⟨_,rfl⟩
    |inr z=>exact⟨_,rfl⟩
   obtain⟨t,ht⟩:=ht
   refine Qv ht ?_
   cases t.1 with
   |true=>exact⟨_,rfl,trivial⟩
   |false=>exact⟨_,rfl,trivial⟩
 ·by_cases h0:i<0
  ·rw[Qj (QK h0)]
   exact hg true (fun e=>by cases e)
  rw[Qi (QE h0)]
  by_cases h1:n≤i
  ·rw[Qj (QK h1)]
   exact hg true (fun e=>by cases e)
  ·rw[Qi (QE h1)]
   exact hg _ (fun _=>by omega)
theorem Qtw(a b:H32):∃r,ZT.f 1000000000000 a b=some r:=by
 unfold ZT.f
 have key:∀(m i k:Nat) (z:Int),i+m=32→m<k→∃y,YF.l 1000000000000 a b k ((i:Int),z)=some y:=by
  intro m
  induction m with
  |zero=>
   intro i k z hi hk
   obtain⟨k,rfl⟩:∃j,k=j+1:=⟨k-1,by omega⟩
   refine⟨z,?_⟩
   show YF.b 1000000000000 a b (YF.l 1000000000000 a b k) ((i:Int),z)=_
   unfold YF.b
   rw[Qi (QE (by simp only;omega))]
  |succ m ih=>
   intro i k z hi hk
   obtain⟨k,rfl⟩:∃j,k=j+1:=⟨k-1,by omega⟩
   show ∃y,YF.b 1000000000000 a b (YF.l 1000000000000 a b k) ((i:Int),z)=some y
   unfold YF.b QbJ.f
   rw[Qj (QK (by simp only;omega))]
   simp only[chk]
   rw[Qj (YB (by omega)),Qj (YB (by omega)),wrap_succ (by omega)]
   exact ih (i+1) k _ (by omega) (by omega)
 obtain⟨y,hy⟩:=key 32 0 1000000000000 0 (by omega) (by omega)
 have hy:YF.l 1000000000000 a b 1000000000000 (0,0)=some y:=hy
 exact⟨_,Qz hy rfl⟩
theorem Qwk(leaf root:H32){W:List H32}(hW:W.length<1000000)(i n:Int)(hn:n≤401):∃r,QbM.f 1000000000000 leaf i n W root=some r:=by
 unfold QbM.f
 obtain⟨r,hr,_⟩:=Qtv leaf hW i n hn
 refine Qla hr ?_
 cases r.2 with
 |false=>exact⟨_,rfl⟩
 |true=>
  obtain⟨q,hq⟩:=Qtw r.1 root
  simp only[Qg]
  refine⟨q,?_⟩
  rw[hq]
  rfl
structure okS(hb:List Bool)(ho:List Int)(hs:List Sa):Prop where
 b:hb.length=12
 o:∀n∈ho,0≤n∧n<12
 s:hs.length=12
 st:∀x∈hs,x.fSteps.length≤6
theorem Qa7{x:Rc}(h:Yy x=true):∃n:Nat,x.fSaga=(n:Int)∧n<12:=by
 unfold Yy Qdk at h
 simp only[Qd,J8]at h
 exact⟨x.fSaga.toNat,by omega,by omega⟩
theorem Qeg{x:Rc}(hr:Yy x=true):0≤x.fStep:=by
 have hd:=Qag hr
 by_cases k:x.fKind=2∨x.fKind=4∨x.fKind=3
 ·exact(hd.call k).2.1.1
 ·have hk:=hd.kept
  rw[hk]
  unfold Qe5
  rcases hd.kind with k1|k1|k1|k1|k1|k1
  ·rw[if_pos k1];cases x.fGone<;>exact Int.le_refl _
  ·exact absurd (.inl k1) k
  ·exact absurd (.inr (.inr k1)) k
  ·exact absurd (.inr (.inl k1)) k
  ·rw[if_neg (by omega),if_neg (by omega),if_neg (by omega),if_pos k1];exact Int.le_refl _
  ·rw[if_neg (by omega),if_neg (by omega),if_neg (by omega),if_neg (by omega),if_pos k1];exact Int.le_refl _
theorem Qfb{x:Rc}(hr:Yy x=true):x.fSteps.length≤6:=by
 have hd:=Qag hr
 by_cases k1:x.fKind=1
 ·have:=J8.1 (hd.beg k1).1;omega
 ·have hk:=hd.kept
  rw[hk]
  unfold Qe5
  rw[if_neg k1]
  repeat' split
  all_goals exact Nat.zero_le _
theorem Qvh{x:Rc}(hr:Yy x=true){b:List Bool}{o:List Int}{s:List Sa}(h:okS b o s)(ho:o.length<1000):∃r,qw.fs 1000000000000 x b o s=some r∧∀z,r= .inr z→okS z.1 z.2.1 z.2.2∧z.2.1.length=o.length+1:=by
 obtain⟨n,hn,hn12⟩:=Qa7 hr
 have h6:=Qfb hr
 unfold qw.fs
 refine Qa6 (fun _=>True) (fun y _=> ?_) (fun g hg=> ?_)
 ·obtain⟨t,h1,h2⟩:=Qod x.fSteps (by omega)
  refine Qv h1 ?_
  simp only[chk]
  rw[hn,Qj (YB hn12)]
  refine Qv rfl ?_
  refine Qv (YX (by simp only[List.length_singleton];omega)) ?_
  refine⟨_,rfl,fun z hz=> ?_⟩
  cases hz
  refine⟨⟨h.b,fun m hm=> ?_,by simp[h.s],fun y hy=> ?_⟩,by simp⟩
  ·rcases List.mem_append.1 hm with hm|hm
   ·exact h.o m hm
   ·simp at hm;omega
  ·rcases Qix hy with rfl|hy
   ·omega
   ·exact h.st y hy
 ·simp only[chk]
  rw[hn,Qj (YB hn12)]
  obtain⟨q,hq⟩:=JF (l:=b) (i:=n) (by rw[h.b];exact hn12)
  refine Qv hq ?_
  cases q with
  |true=>
   simp only[Bool.not_true,Qh]
   exact Qdp (fun _=>⟨_,rfl,fun z hz=>by cases hz⟩) (fun _=>hg () trivial)
  |false=>
   simp only[Bool.not_false,Qg]
   obtain⟨m,hm⟩:=Qg8 x.fSteps (by omega)
   refine Qv hm ?_
   exact Qdp (fun _=>⟨_,rfl,fun z hz=>by cases hz⟩) (fun _=>hg () trivial)
theorem QxK{x:Rc}(hr:Yy x=true){limit:Int}{b:List Bool}{o:List Int}{s:List Sa}(h:okS b o s):∃r,qW.fs 1000000000000 x limit b o s=some r∧∀z,r= .inr z→okS z.1 z.2.1 z.2.2∧z.2.1.length=o.length:=by
 obtain⟨n,hn,hn12⟩:=Qa7 hr
 unfold qW.fs
 simp only[chk]
 rw[hn,Qj (YB hn12)]
 obtain⟨t,ht⟩:=JF (l:=s) (i:=n) (by rw[h.s];exact hn12)
 have hm:t∈s:=by rw[Jz]at ht;exact List.mem_of_getElem? ht
 have h6:=h.st t hm
 refine Qv ht ?_
 by_cases h0:((t.fSteps.length:Nat):Int)=0
 ·rw[Qj (QK h0)]
  exact⟨_,rfl,fun z hz=>by cases hz;exact⟨h,rfl⟩⟩
 rw[Qi (QE h0)]
 obtain⟨r,h1,h2,h3⟩:=Qtp t x limit (by omega) (Qeg hr)
 refine Qv h1 ?_
 refine Qa6 (fun _=>True) (fun y _=> ?_) (fun g hg=> ?_)
 ·rw[Qj (YB hn12)]
  refine Qv rfl ?_
  refine⟨_,rfl,fun z hz=> ?_⟩
  cases hz
  refine⟨⟨h.b,h.o,by simp[h.s],fun y hy=> ?_⟩,rfl⟩
  rcases Qix hy with rfl|hy
  ·rw[h2];exact h6
  ·exact h.st y hy
 ·cases h5:r.2 with
  |false=>
   simp only[Qh]
   exact Qdp (fun _=>⟨_,rfl,fun z hz=>by cases hz⟩) (fun _=>hg () trivial)
  | true=>
   simp only[Qg]
   by_cases k3:x.fKind=3
   ·rw[Qi (by simp[k3])]
    have h7:=h3 h5 k3
    obtain⟨j,hj⟩:=Int.eq_ofNat_of_zero_le (Qeg hr)
    rw[hj]
    obtain⟨z,hz⟩:=JF (l:=t.fSteps) (i:=j) (by omega)
    refine Qv hz ?_
    exact Qdp (fun _=>⟨_,rfl,fun z hz=>by cases hz⟩) (fun _=>hg () trivial)
   ·rw[Qj (by simp[k3])]
    exact Qdp (fun e=>by cases e) (fun _=>hg () trivial)
theorem QxL{x:Bun}(hv:vBun x){k0:Qr}{limit:Int}:∀(m i k:Nat) (b:List Bool) (o:List Int) (s:List Sa),i+m=x.fItems.length→m<k→okS b o s→o.length≤i→
  ∃r,QO.l 1000000000000 ⟨k0,limit⟩ x k ((i:Int),b,o,s)=some r∧(∀z,r= .inr z→okS z.1 z.2.1 z.2.2∧z.2.1.length≤x.fItems.length):=by
 have h400:=hv.r.len
 intro m
 induction m with
 |zero=>
  intro i k b o s hi hk hs ho
  obtain⟨k,rfl⟩:∃j,k=j+1:=⟨k-1,by omega⟩
  refine⟨.inr (b,o,s),?_,fun z e=>by cases e;exact⟨hs,by simp only;omega⟩⟩
  show QO.b 1000000000000 ⟨k0,limit⟩ x (QO.l 1000000000000 ⟨k0,limit⟩ x k) ((i:Int),b,o,s)=_
  unfold QO.b
  rw[Qi (QE (by simp only;omega))]
 | succ m ih=>
  intro i k b o s hi hk hs ho
  obtain⟨k,rfl⟩:∃j,k=j+1:=⟨k-1,by omega⟩
  show ∃r,QO.b 1000000000000 ⟨k0,limit⟩ x (QO.l 1000000000000 ⟨k0,limit⟩ x k) ((i:Int),b,o,s)=_∧_
  unfold QO.b
  rw[Qj (QK (by simp only;omega))]
  refine Qa6 (fun y=>okS y.1 y.2.1 y.2.2∧y.2.1.length≤i+1) (fun y hy=> ?_) (fun g hg=> ?_)
  ·rw[wrap_succ (by omega)]
   exact ih (i+1) k y.1 y.2.1 y.2.2 (by omega) (by omega) hy.1 hy.2
  ·obtain⟨y,hy⟩:=JF (l:=x.fItems) (i:=i) (by omega)
   have hm:y∈x.fItems:=by rw[Jz]at hy;exact List.mem_of_getElem? hy
   have hr:=(hv.r.items y hm).1
   obtain⟨n,hn,hn12⟩:=Qa7 hr
   refine Qv hy ?_
   refine Qv (Qha (hv.d y hm) hr) ?_
   obtain⟨q,hq⟩:=Qwk (yh y.fRec) x.fPoint.fRoot (W:=y.fPath) (by have:=(hv.r.items y hm).2.2;omega) y.fAt x.fPoint.fSize (by have:=hv.r.size;omega)
   refine Qv hq ?_
   refine Qdp (fun _=>⟨_,rfl,fun z e=>by cases e⟩) (fun _=> ?_)
   refine Qtt (hv.d y hm) (Qiy (hv.b y hm).tag) (fun _=>⟨_,rfl,fun z e=>by cases e⟩) (fun _=> ?_)
   refine Qa6 (fun y=>okS y.1 y.2.1 y.2.2∧y.2.1.length≤i+1) (fun z hz=> ?_) (fun g2 hg2=> ?_)
   ·simp only[chk]
    rw[hn,Qj (YB hn12)]
    refine Qv rfl ?_
    exact hg _ ⟨⟨by simp[hz.1.b],hz.1.o,hz.1.s,hz.1.st⟩,hz.2⟩
   ·by_cases k1:y.fRec.fKind=1
    ·rw[Qj (QK k1)]
     obtain⟨r,h1,h2⟩:=Qvh hr hs (by omega)
     rw[h1]
     cases r with
     |inl e=>exact smi ⟨_,rfl,fun z e=>by cases e⟩
     |inr z=>
      refine smr ?_
      obtain⟨h3,h4⟩:=h2 z rfl
      exact hg2 _ ⟨h3,by rw[h4];omega⟩
    rw[Qi (QE k1)]
    by_cases k6:y.fRec.fKind=6
    ·rw[Qj (QK k6)]
     exact hg _ ⟨hs,by simp only;omega⟩
    rw[Qi (QE k6)]
    obtain⟨r,h1,h2⟩:=QxK hr (limit:=limit) hs
    rw[h1]
    cases r with
    |inl e=>exact smi ⟨_,rfl,fun z e=>by cases e⟩
    |inr z=>
     refine smr ?_
     obtain⟨h3,h4⟩:=h2 z rfl
     exact hg2 _ ⟨h3,by rw[h4];omega⟩
theorem QxM{z:List Bool×List Int×List Sa}(h:okS z.1 z.2.1 z.2.2)(hl:z.2.1.length<1000){c:Int}:∀(m i k:Nat) (l:List Int) (q:List Qq),i+m=z.2.1.length→m<k→l.length=i→q.length=i→
  ∃r,QU.l 1000000000000 z k ((i:Int),c,l,q)=some r∧(r.1=c∧r.2.1.length=z.2.1.length∧r.2.2.length=z.2.1.length):=by
 intro m
 induction m with
 |zero=>
  intro i k l q hi hk h1 h2
  obtain⟨k,rfl⟩:∃j,k=j+1:=⟨k-1,by omega⟩
  refine⟨(c,l,q),?_,rfl,by simp only;omega,by simp only;omega⟩
  show QU.b 1000000000000 z (QU.l 1000000000000 z k) ((i:Int),c,l,q)=_
  unfold QU.b
  rw[Qi (QE (by simp only;omega))]
 |succ m ih=>
  intro i k l q hi hk h1 h2
  obtain⟨k,rfl⟩:∃j,k=j+1:=⟨k-1,by omega⟩
  show ∃r,QU.b 1000000000000 z (QU.l 1000000000000 z k) ((i:Int),c,l,q)=_∧_
  unfold QU.b
  rw[Qj (QK (by simp only;omega))]
  obtain⟨n,hn⟩:=JF (l:=z.2.1) (i:=i) (by omega)
  have hm:n∈z.2.1:=by rw[Jz]at hn;exact List.mem_of_getElem? hn
  have hn2:=h.o n hm
  obtain⟨j,hj⟩:=Int.eq_ofNat_of_zero_le hn2.1
  subst hj
  refine Qv hn ?_
  refine Qv (YX (by simp only[List.length_singleton];omega)) ?_
  simp only[chk]
  rw[Qj (YB (by omega))]
  obtain⟨t,ht⟩:=JF (l:=z.2.2) (i:=j) (by rw[h.s];omega)
  refine Qv ht ?_
  rw[Qj (YB (by omega))]
  refine Qv ht ?_
  obtain⟨w,hw⟩:=Qef t
  refine Qv hw ?_
  refine Qv (YX (by simp only[List.length_singleton];omega)) ?_
  rw[wrap_succ (by omega)]
  exact ih (i+1) k _ _ (by omega) (by omega) (by simp[h1]) (by simp[h2])
theorem Qfc:okS [false,false,false,false,false,false,false,false,false,false,false,false] [] [Qw,Qw,Qw,Qw,Qw,Qw,Qw,Qw,Qw,Qw,Qw,Qw]:=
 ⟨rfl,fun _ h=>(by cases h),rfl,fun x hx=>by
  simp only[List.mem_cons,List.not_mem_nil,or_false,or_self]at hx
  subst hx
  decide⟩
theorem Qvi{x:Bun}(hv:vBun x)(k0:Qr)(limit:Int):∃r,Y9.fs 1000000000000 ⟨k0,limit⟩ x=some r:=by
 have:∃r,Y9.fs 1000000000000 ⟨k0,limit⟩ x=some r∧True:=by
  unfold Y9.fs
  have h400:=hv.r.len
  obtain⟨s,h1,h2⟩:=QxL hv (k0:=k0) (limit:=limit) x.fItems.length 0 1000000000000 _ _ _ (by omega) (by omega) Qfc (Nat.le_refl _)
  have h1:QO.l 1000000000000 ⟨k0,limit⟩ x 1000000000000 (0,_,_,_)=_:=h1
  refine Qv h1 ?_
  cases s with
  |inl u=>exact⟨_,rfl,trivial⟩
  |inr z=>
   obtain⟨h3,h4⟩:=h2 z rfl
   obtain⟨r,h5,_⟩:=QxM h3 (by omega) (c:=0) z.2.1.length 0 1000000000000 [] [] (by omega) (by omega) rfl rfl
   have h5:QU.l 1000000000000 z 1000000000000 (0,0, [], [])=_:=h5
   refine Qv h5 ?_
   exact⟨_,rfl,trivial⟩
 obtain⟨r,hr,_⟩:=this
 exact⟨r,hr⟩
def outA(r:Sum Int VdT):VdT:=match r with| .inl e=>(e, [], [])| .inr v=>v
def runA(k:Qr)(limit:Int)(x:Bun):Sum Int VdT:=((bif x.fWhole then Y3.fs 1000000000000 ⟨k,limit⟩ x else Y9.fs 1000000000000 ⟨k,limit⟩ x)).getD (.inl 0)
def Qbv(k:Qr)(limit size:Int)(root:H32)(b:List Int):VdT:=
 bif mayK k&&inn limit 1 9 then
  (bif decide ((getS b).2=0)then
   (bif decide (chkK k (getS b).1.fPoint=0)then
    (bif decide ((getS b).1.fPoint.fSize=size)&&decide ((getS b).1.fPoint.fRoot=root)then outA (runA k limit (getS b).1)else(6, [], []))
   else(chkK k (getS b).1.fPoint, [], []))
  else((getS b).2, [], []))
 else(1, [], [])
theorem Qtx{b:List Int}(hb:isB b)(hl:b.length<1000000000)(h:(getS b).2=0):vBun (getS b).1:=
 QxH (Qwg hb hl h).2.1 (Qwg hb hl h).2.2
theorem Qeh{R:Type}{b:Bool}{e:Int}{l:Int→Option R}{r:Unit→Option R}{z:R}(h1:b=false→l e=some z)(h2:b=true→r ()=some z):sm (YI.fs 1000000000000 b e) l r=some z:=by
 cases b with
 |false=>exact h1 rfl
 |true=>exact h2 rfl
theorem Qpl{k:Qr}{limit:Int}{p:Qo}{b:List Int}(hb:isB b)(hl:b.length<1000000000):jr.f 1000000000000 k limit p b=some (Qbv k limit p.fSize p.fRoot b):=by
 have main:mayK k=true→inn limit 1 9=true→((XN.f 1000000000000 b).bind fun r1=>(sm (YI.fs 1000000000000 (decide (r1.2=0)) r1.2) (fun e1=>(some {Yr with fCode:=e1}).bind fun v2=>some (v2.fCode,([]:List Int),([]:List Qq))) fun r6=>(Qbi.f 1000000000000 k r1.1.fPoint).bind fun r4=>sm (YI.fs 1000000000000 (decide (r4=0)) r4) (fun e2=>(some {Yr with fCode:=e2}).bind fun v3=>some (v3.fCode,([]:List Int),([]:List Qq))) fun r7=>
   jn (fun(y2:Unit)=>(some (Jd.mk k limit)).bind fun v1=>bif r1.1.fWhole then sm (Y3.fs 1000000000000 v1 r1.1) (fun e3=>(some {Yr with fCode:=e3}).bind fun v4=>some (v4.fCode,([]:List Int),([]:List Qq))) (fun r2=>some (r2.1,r2.2.1,r2.2.2))else sm (Y9.fs 1000000000000 v1 r1.1) (fun e4=>(some {Yr with fCode:=e4}).bind fun v5=>some (v5.fCode,([]:List Int),([]:List Qq))) (fun r3=>some (r3.1,r3.2.1,r3.2.2)))
    (fun j2=>bif decide (r1.1.fPoint.fSize=p.fSize)then sm (YI.fs 1000000000000 (decide (r1.1.fPoint.fRoot=p.fRoot)) 6) (fun e5=>(some {Yr with fCode:=e5}).bind fun v6=>some (v6.fCode,([]:List Int),([]:List Qq))) (fun r8=>j2 ())else sm (YI.fs 1000000000000 false 6) (fun e6=>(some {Yr with fCode:=e6}).bind fun v7=>some (v7.fCode,([]:List Int),([]:List Qq))) (fun r9=>j2 ()))))=some (Qbv k limit p.fSize p.fRoot b):=fun hm hlm=>by
  unfold Qbv
  rw[hm,hlm,bnd (Qs7 (Nat.le_refl _) hb hl)]
  simp only[Bool.and_self,Qg]
  refine Qeh (fun h=> ?_) (fun h=> ?_)
  ·rw[h];rfl
  have hv:=Qtx hb hl (of_decide_eq_true h)
  rw[bnd (Qze (by have:=hv.r.sigs;omega) hv.s),h]
  simp only[Qg]
  refine Qeh (fun h=> ?_) (fun h=> ?_)
  ·rw[h];rfl
  rw[h]
  simp only[Qg,jn]
  cases decide ((getS b).1.fPoint.fSize=p.fSize)with
  |false=>rfl
  | true=>
   simp only[Qg,Bool.true_and]
   refine Qeh (fun h=> ?_) (fun h=> ?_)
   ·rw[h];rfl
   rw[h]
   simp only[Qg,Qb]
   unfold runA
   cases (getS b).1.fWhole with
   |true=>
    simp only[Qg]
    obtain⟨r,hr⟩:=Qtu hv k limit
    rw[hr]
    cases r<;>rfl
   |false=>
    simp only[Qh]
    obtain⟨r,hr⟩:=Qvi hv k limit
    rw[hr]
    cases r<;>rfl
 unfold jr.f
 have ho:∀{j:Unit→Option VdT} {v:VdT},(mayK k=true→inn limit 1 9=true→j ()=some v)→((mayK k&&inn limit 1 9)=false→v=(1, [], []))→((QaA.f 1000000000000 k).bind fun r5=>bif r5 then bif decide (1≤limit)then sm (YI.fs 1000000000000 (decide (limit≤9)) 1) (fun e7=>(some {Yr with fCode:=e7}).bind fun v8=>some (v8.fCode,([]:List Int),([]:List Qq))) (fun r10=>j ())else sm (YI.fs 1000000000000 false 1) (fun e8=>(some {Yr with fCode:=e8}).bind fun v9=>some (v9.fCode,([]:List Int),([]:List Qq))) (fun r11=>j ())else sm (YI.fs 1000000000000 false 1) (fun e9=>(some {Yr with fCode:=e9}).bind fun v10=>some (v10.fCode,([]:List Int),([]:List Qq))) (fun r12=>j ()))=some v:=fun{j v} h1 h2=>by
  rw[Qpg]
  simp only[Qb]
  unfold inn at h1 h2
  cases hm:mayK k with
  |false=>rw[h2 (by simp[hm])];rfl
  | true=>
   simp only[Qg]
   cases h3:decide (1≤limit)with
   |false=>rw[h2 (by simp[h3])];rfl
   |true=>
    simp only[Qg]
    refine Qeh (fun h=> ?_) (fun h=> ?_)
    ·rw[h2 (by simp[h])]
    ·exact h1 hm (by first|rfl|simp[h3,h]|simp[h]|simp)
 refine ho (v:=Qbv k limit p.fSize p.fRoot b) (j:=fun _=>_) ?_ ?_
 ·exact fun h1 h2=>main h1 h2
 ·exact fun h=>by
   unfold Qbv
   rw[h]
   rfl
end Go.Proofs.YtomndohdnfebgaaGreatDoor
