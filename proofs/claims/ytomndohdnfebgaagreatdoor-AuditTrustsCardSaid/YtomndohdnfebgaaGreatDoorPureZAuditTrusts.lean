/-
 Plain: AuditTrusts.
-/
import Derived.Test.YtomndohdnfebgaaGreatDoorPureAt
import Derived.Test.YtomndohdnfebgaaGreatDoorTtDef
namespace Go.Proofs.YtomndohdnfebgaaGreatDoor
open Go Go.Sep
theorem smi{E β R:Type}{P:R→Prop}{e:E}{l:E→Option R}{r:β→Option R}(h:∃z,l e=some z∧P z):∃z,sm (some (.inl e)) l r=some z∧P z:=h
theorem smr{E β R:Type}{P:R→Prop}{y:β}{l:E→Option R}{r:β→Option R}(h:∃z,r y=some z∧P z):∃z,sm (some (.inr y)) l r=some z∧P z:=h
theorem QbV{R:Type}{P:R→Prop}{b:Bool}{e:Int}{l:Int→Option R}{r:Unit→Option R}(h1:b=false→∃z,l e=some z∧P z)(h2:b=true→∃z,r ()=some z∧P z):∃z,sm (Yl.fs 1000000000000 b e) l r=some z∧P z:=by
 cases b with
 |false=>exact h1 rfl
 |true=>exact h2 rfl
theorem Qqu{R:Type}{P:R→Prop}{k:QA}{limit:Int}{x:Rc}(hx:okD x)(ht:byH x.fTag){l:Int→Option R}{r:Unit→Option R}(h1:rcK k x=false→∃z,l 7=some z∧P z)(h2:rcK k x=true→∃z,r ()=some z∧P z):∃z,sm (Y0.fs 1000000000000 ⟨k,limit⟩ x) l r=some z∧P z:=by
 rw[QnS hx ht]
 cases h:rcK k x with
 |false=>exact h1 h
 |true=>exact h2 h
abbrev VdT:=Int×List Int×List Qv
theorem Qr3{x:Bun}(hv:vBun x):∀(m i k:Nat) (l:List H32),i+m=x.fItems.length→m<k→l.length=pc i→∃r,Q9.l 1000000000000 x k ((i:Int),l,(i:Int))=some (r,((x.fItems.length:Nat):Int))∧r.length=pc x.fItems.length:=by
 have h400:=hv.r.len
 intro m
 induction m with
 |zero=>
  intro i k l hi hk hl
  obtain⟨k,rfl⟩:∃j,k=j+1:=⟨k-1,by omega⟩
  have e:i=x.fItems.length:=by omega
  refine⟨l,?_,by rw[hl,e]⟩
  show Q9.b 1000000000000 x (Q9.l 1000000000000 x k) ((i:Int),l,(i:Int))=_
  unfold Q9.b
  rw[Qi (QM (by simp only;omega)),e]
 |succ m ih=>
  intro i k l hi hk hl
  obtain⟨k,rfl⟩:∃j,k=j+1:=⟨k-1,by omega⟩
  show ∃r,Q9.b 1000000000000 x (Q9.l 1000000000000 x k) ((i:Int),l,(i:Int))=_∧_
  unfold Q9.b
  rw[Qj (QS (by simp only;omega))]
  obtain⟨y,hy⟩:=Jd (l:=x.fItems) (i:=i) (by omega)
  have hm:y∈x.fItems:=by rw[JG]at hy;exact List.mem_of_getElem? hy
  rw[bnd hy,bnd (QmH (hv.d y hm) (hv.r.items y hm).1)]
  obtain⟨r,h1,h2⟩:=Qug (Qr1 y.fRec) hl (by omega)
  rw[bnd h1,wrap_succ (by omega)]
  exact ih (i+1) k r (by omega) (by omega) h2
theorem Qr4{x:Bun}(hv:vBun x){k0:QA}{limit:Int}:∀(m i k:Nat) (b:Bk),i+m=x.fItems.length→m<k→okK b→∃r,Ya.l 1000000000000 ⟨k0,limit⟩ x k ((i:Int),b)=some r∧(∀b',r= .inr b'→okK b'):=by
 have h400:=hv.r.len
 intro m
 induction m with
 |zero=>
  intro i k b hi hk hb
  obtain⟨k,rfl⟩:∃j,k=j+1:=⟨k-1,by omega⟩
  refine⟨.inr b,?_,fun b' e=>by cases e;exact hb⟩
  show Ya.b 1000000000000 ⟨k0,limit⟩ x (Ya.l 1000000000000 ⟨k0,limit⟩ x k) ((i:Int),b)=_
  unfold Ya.b
  rw[Qi (QM (by simp only;omega))]
 |succ m ih=>
  intro i k b hi hk hb
  obtain⟨k,rfl⟩:∃j,k=j+1:=⟨k-1,by omega⟩
  show ∃r,Ya.b 1000000000000 ⟨k0,limit⟩ x (Ya.l 1000000000000 ⟨k0,limit⟩ x k) ((i:Int),b)=_∧_
  unfold Ya.b
  rw[Qj (QS (by simp only;omega))]
  obtain⟨y,hy⟩:=Jd (l:=x.fItems) (i:=i) (by omega)
  have hm:y∈x.fItems:=by rw[JG]at hy;exact List.mem_of_getElem? hy
  refine Qq hy ?_
  refine Qqu (hv.d y hm) (Qkv (hv.b y hm).tag) (fun _=>⟨_,rfl,fun b' e=>by cases e⟩) (fun _=> ?_)
  obtain⟨r,h1,h2⟩:=Qud (limit:=limit) hb (hv.d y hm)
  refine Qq h1 ?_
  refine QbV (fun _=>⟨_,rfl,fun b' e=>by cases e⟩) (fun _=> ?_)
  rw[wrap_succ (by omega)]
  exact ih (i+1) k r.1 (by omega) (by omega) h2
theorem Qr5{b:Bk}(hb:b.fSagas.length≤12){c:Int}{r:List Qv}:∀(m i k:Nat) (l:List Int),i+m=b.fSagas.length→m<k→l=(List.range i).map (fun n=>((n:Nat):Int))→Yb.l 1000000000000 b k ((i:Int),c,l,r)=some (c,(List.range b.fSagas.length).map (fun n=>((n:Nat):Int)),r):=by
 intro m
 induction m with
 |zero=>
  intro i k l hi hk hl
  obtain⟨k,rfl⟩:∃j,k=j+1:=⟨k-1,by omega⟩
  show Yb.b 1000000000000 b (Yb.l 1000000000000 b k) ((i:Int),c,l,r)=_
  unfold Yb.b
  have e:i=b.fSagas.length:=by omega
  rw[Qi (QM (by simp only;omega)),hl,e]
 |succ m ih=>
  intro i k l hi hk hl
  obtain⟨k,rfl⟩:∃j,k=j+1:=⟨k-1,by omega⟩
  show Yb.b 1000000000000 b (Yb.l 1000000000000 b k) ((i:Int),c,l,r)=_
  unfold Yb.b
  have hll:l.length=i:=by rw[hl];simp
  rw[Qj (QS (by simp only;omega)),bnd (Jk (by simp only[List.length_singleton];omega)),wrap_succ (by omega)]
  exact ih (i+1) k _ (by omega) (by omega) (by rw[List.range_succ,List.map_append,←hl];rfl)
theorem Qqv{x:Bun}(hv:vBun x)(k0:QA)(limit:Int):∃r,YZ.fs 1000000000000 ⟨k0,limit⟩ x=some r:=by
 have:∃r,YZ.fs 1000000000000 ⟨k0,limit⟩ x=some r∧True:=by
  unfold YZ.fs
  have h400:=hv.r.len
  obtain⟨f,h1,h2⟩:=Qr3 hv x.fItems.length 0 1000000000000 [] (by omega) (by omega) (by rw[pc_0];rfl)
  have h1:Q9.l 1000000000000 x 1000000000000 (0, [],0)=_:=h1
  refine Qq h1 ?_
  have:=Quf x.fItems.length
  obtain⟨r,hr⟩:=Qqt (l:=f) (n:=((x.fItems.length:Nat):Int)) (by omega)
  refine Qq hr ?_
  refine QbV (fun _=>⟨_,rfl,trivial⟩) (fun _=> ?_)
  obtain⟨s,h3,h4⟩:=Qr4 hv (k0:=k0) (limit:=limit) x.fItems.length 0 1000000000000 ⟨Vector.replicate 4 0, []⟩ (by omega) (by omega) QrY
  have h3:Ya.l 1000000000000 ⟨k0,limit⟩ x 1000000000000 (0,⟨Vector.replicate 4 0, []⟩)=_:=h3
  refine Qq h3 ?_
  cases s with
  |inl u=>exact⟨_,rfl,trivial⟩
  |inr b=>
   have hb:=h4 b rfl
   obtain⟨q,hq,_⟩:=QnR hb.n
   refine Qq hq ?_
   have h5:=Qr5 hb.n (c:=0) (r:=q) b.fSagas.length 0 1000000000000 [] (by omega) (by have:=hb.n;omega) rfl
   have h5:Yb.l 1000000000000 b 1000000000000 (0,0, [],q)=_:=h5
   refine Qq h5 ?_
   exact⟨_,rfl,trivial⟩
 obtain⟨r,hr,_⟩:=this
 exact⟨r,hr⟩
def Qvz(n:Nat):Bool:=match Xx.f 1000000000000 (n:Int)with
 |some k=>decide (0<k)&&(decide (k<(n:Int))&&(decide (dpt k.toNat<dpt n)&&(decide (dpt (n-k.toNat)<dpt n)&&decide (dpt n≤20))))
 |none=>false
theorem QnT:((List.range 402).all fun n=>decide (n<2)||Qvz n)=true:=by kernel_rfl
theorem Qqw{n:Nat}(h1:2≤n)(h2:n≤401):∃k:Nat,Xx.f 1000000000000 (n:Int)=some (k:Int)∧0<k∧k<n∧dpt k<dpt n∧dpt (n-k)<dpt n∧dpt n≤20:=by
 have h:=List.all_eq_true.1 QnT n (List.mem_range.2 (by omega))
 simp only[Bool.or_eq_true,decide_eq_true_eq]at h
 rcases h with h|h
 ·omega
 unfold Qvz at h
 split at h
 ·rename_i k hk
  simp only[Qd,decide_eq_true_eq]at h
  obtain⟨a,b,c,d,e⟩:=h
  obtain⟨m,rfl⟩:=Int.eq_ofNat_of_zero_le (show 0≤k by omega)
  simp only[Int.toNat_natCast]at c d
  exact⟨m,hk,by omega,by omega,c,d,e⟩
 ·cases h
theorem QvA{leaf:H32}{W:List H32}(hW:W.length<1000000):∀(d n:Nat) (i:Int) (a k:Nat),dpt n≤d→1≤n→n≤401→a≤W.length→d<k→0≤i→i<(n:Int)→∃r,Ym.r 1000000000000 k i (n:Int) leaf (a:Int) W=some r∧(∀z,r= .inr z→∃a':Nat,z.2=(a':Int)∧a'≤a):=by
 intro d
 induction d with
 | zero=>
  intro n i a k hd h1 hn ha hk h0 hi
  obtain⟨k,rfl⟩:∃j,k=j+1:=⟨k-1,by omega⟩
  have e:n=1:=by
   by_cases e:n=1
   ·exact e
   ·obtain⟨s,_,_,_,s3,_⟩:=Qqw (n:=n) (by omega) hn
    omega
  show ∃r,Ym.b 1000000000000 (Ym.r 1000000000000 k) i (n:Int) leaf (a:Int) W=some r∧_
  unfold Ym.b
  rw[Qj (QS (by omega))]
  exact⟨_,rfl,fun z hz=>by cases hz;exact⟨a,rfl,Nat.le_refl _⟩⟩
 | succ d ih=>
  intro n i a k hd h1 hn ha hk h0 hi
  obtain⟨k,rfl⟩:∃j,k=j+1:=⟨k-1,by omega⟩
  show ∃r,Ym.b 1000000000000 (Ym.r 1000000000000 k) i (n:Int) leaf (a:Int) W=some r∧_
  unfold Ym.b
  by_cases e:n=1
  ·rw[Qj (QS (by omega))]
   exact⟨_,rfl,fun z hz=>by cases hz;exact⟨a,rfl,Nat.le_refl _⟩⟩
  rw[Qi (QM (by omega))]
  obtain⟨s,hs,s1,s2,s3,s4,_⟩:=Qqw (n:=n) (by omega) hn
  refine Qq hs ?_
  unfold QaD.fs
  by_cases ha0:a=0
  ·subst ha0
   rw[Qj (by simp)]
   exact smi ⟨_,rfl,fun z hz=>by cases hz⟩
  ·rw[Qi (QM (by omega))]
   have ew:IntKind.wrap .i64 ((a:Int)-1)=((a-1:Nat):Int):=by rw[wrap64 (by omega) (by omega)];omega
   rw[ew]
   obtain⟨x,hx⟩:=Jd (l:=W) (i:=a-1) (by omega)
   rw[bnd hx]
   refine smr ?_
   by_cases hc:i<(s:Int)
   ·rw[Qj (QS hc)]
    obtain⟨r,hr,h2⟩:=ih s i (a-1) k (by omega) (by omega) (by omega) (by omega) (by omega) h0 hc
    simp only
    rw[hr]
    cases r with
    |inl e=>exact smi ⟨_,rfl,fun z hz=>by cases hz⟩
    |inr z=>
     refine smr ?_
     obtain⟨q,hq⟩:=Qfh z.1 x
     refine Qq hq ?_
     refine⟨_,rfl,fun z' hz=> ?_⟩
     cases hz
     obtain⟨a',h3,h4⟩:=h2 z rfl
     exact⟨a',h3,by omega⟩
   ·rw[Qi (QM hc)]
    rw[wrap64 (by omega) (by omega),show IntKind.wrap .i64 ((n:Int)-(s:Int))=((n-s:Nat):Int) by rw[wrap64 (by omega) (by omega)];omega]
    obtain⟨r,hr,h2⟩:=ih (n-s) (i-(s:Int)) (a-1) k (by omega) (by omega) (by omega) (by omega) (by omega) (by omega) (by omega)
    simp only
    rw[hr]
    cases r with
    |inl e=>exact smi ⟨_,rfl,fun z hz=>by cases hz⟩
    |inr z=>
     refine smr ?_
     obtain⟨q,hq⟩:=Qfh x z.1
     refine Qq hq ?_
     refine⟨_,rfl,fun z' hz=> ?_⟩
     cases hz
     obtain⟨a',h3,h4⟩:=h2 z rfl
     exact⟨a',h3,by omega⟩
theorem Qqx(leaf:H32){W:List H32}(hW:W.length<1000000)(i n:Int)(hn:n≤401):∃r,QaG.f 1000000000000 leaf i n W=some r∧True:=by
 unfold QaG.f
 refine ZV (fun y=>y=false→0≤i∧i<n) (fun y hy=> ?_) (fun g hg=> ?_)
 ·cases y with
  |true=>exact⟨_,rfl,trivial⟩
  | false=>
   simp only[Qh]
   obtain⟨h0,h1⟩:=hy rfl
   obtain⟨m,hm⟩:=Int.eq_ofNat_of_zero_le (show 0≤n by omega)
   subst hm
   have hd:dpt m≤20:=by
    by_cases e:m=1
    ·subst e;decide
    ·obtain⟨_,_,_,_,_,_,h⟩:=Qqw (n:=m) (by omega) (by omega)
     exact h
   obtain⟨r,hr,_⟩:=QvA (leaf:=leaf) hW 20 m i W.length 1000000000000 hd (by omega) (by omega) (Nat.le_refl _) (by omega) h0 h1
   have hr:Ym.fs 1000000000000 i (m:Int) leaf ((W.length:Nat):Int) W=some r:=hr
   have ht:∃t,QaF.f 1000000000000 W leaf i (m:Int) (Vector.replicate 32 0)=some t:=by
    unfold QaF.f QaE.fs
    rw[hr]
    cases r with
    |inl e=>exact⟨_,rfl⟩
    |inr z=>exact⟨_,rfl⟩
   obtain⟨t,ht⟩:=ht
   refine Qq ht ?_
   cases t.1 with
   |true=>exact⟨_,rfl,trivial⟩
   |false=>exact⟨_,rfl,trivial⟩
 ·by_cases h0:i<0
  ·rw[Qj (QS h0)]
   exact hg true (fun e=>by cases e)
  rw[Qi (QM h0)]
  by_cases h1:n≤i
  ·rw[Qj (QS h1)]
   exact hg true (fun e=>by cases e)
  ·rw[Qi (QM h1)]
   exact hg _ (fun _=>by omega)
theorem Qqy(a b:H32):∃r,XQ.f 1000000000000 a b=some r:=by
 unfold XQ.f
 have key:∀(m i k:Nat) (z:Int),i+m=32→m<k→∃y,Yj.l 1000000000000 a b k ((i:Int),z)=some y:=by
  intro m
  induction m with
  |zero=>
   intro i k z hi hk
   obtain⟨k,rfl⟩:∃j,k=j+1:=⟨k-1,by omega⟩
   refine⟨z,?_⟩
   show Yj.b 1000000000000 a b (Yj.l 1000000000000 a b k) ((i:Int),z)=_
   unfold Yj.b
   rw[Qi (QM (by simp only;omega))]
  |succ m ih=>
   intro i k z hi hk
   obtain⟨k,rfl⟩:∃j,k=j+1:=⟨k-1,by omega⟩
   show ∃y,Yj.b 1000000000000 a b (Yj.l 1000000000000 a b k) ((i:Int),z)=some y
   unfold Yj.b Qaz.f
   rw[Qj (QS (by simp only;omega))]
   simp only[chk]
   rw[Qj (Yz (by omega)),Qj (Yz (by omega)),wrap_succ (by omega)]
   exact ih (i+1) k _ (by omega) (by omega)
 obtain⟨y,hy⟩:=key 32 0 1000000000000 0 (by omega) (by omega)
 have hy:Yj.l 1000000000000 a b 1000000000000 (0,0)=some y:=hy
 exact⟨_,QI hy rfl⟩
theorem QvB(leaf root:H32){W:List H32}(hW:W.length<1000000)(i n:Int)(hn:n≤401):∃r,Qe7.f 1000000000000 leaf i n W root=some r:=by
 unfold Qe7.f
 obtain⟨r,hr,_⟩:=Qqx leaf hW i n hn
 refine Qi3 hr ?_
 cases r.2 with
 |false=>exact⟨_,rfl⟩
 |true=>
  obtain⟨q,hq⟩:=Qqy r.1 root
  simp only[Qg]
  refine⟨q,?_⟩
  rw[hq]
  rfl
structure okS(hb:List Bool)(ho:List Int)(hs:List Sa):Prop where
 b:hb.length=12
 o:∀n∈ho,0≤n∧n<12
 s:hs.length=12
 st:∀x∈hs,x.fSteps.length≤6
theorem QlO{x:Rc}(h:Je x=true):∃n:Nat,x.fSaga=(n:Int)∧n<12:=by
 unfold Je QcG at h
 simp only[Qd,qj]at h
 exact⟨x.fSaga.toNat,by omega,by omega⟩
theorem Qqz{x:Rc}(hr:Je x=true):0≤x.fStep:=by
 have hd:=Qct hr
 by_cases k:x.fKind=2∨x.fKind=4∨x.fKind=3
 ·exact(hd.call k).2.1.1
 ·have hk:=hd.kept
  rw[hk]
  unfold QeY
  rcases hd.kind with k1|k1|k1|k1|k1|k1
  ·rw[if_pos k1];cases x.fGone<;>exact Int.le_refl _
  ·exact absurd (.inl k1) k
  ·exact absurd (.inr (.inr k1)) k
  ·exact absurd (.inr (.inl k1)) k
  ·rw[if_neg (by omega),if_neg (by omega),if_neg (by omega),if_pos k1];exact Int.le_refl _
  ·rw[if_neg (by omega),if_neg (by omega),if_neg (by omega),if_neg (by omega),if_pos k1];exact Int.le_refl _
theorem Qr6{x:Rc}(hr:Je x=true):x.fSteps.length≤6:=by
 have hd:=Qct hr
 by_cases k1:x.fKind=1
 ·have:=qj.1 (hd.beg k1).1;omega
 ·have hk:=hd.kept
  rw[hk]
  unfold QeY
  rw[if_neg k1]
  repeat' split
  all_goals exact Nat.zero_le _
theorem Qr7{x:Rc}(hr:Je x=true){b:List Bool}{o:List Int}{s:List Sa}(h:okS b o s)(ho:o.length<1000):∃r,jC.fs 1000000000000 x b o s=some r∧∀z,r= .inr z→okS z.1 z.2.1 z.2.2∧z.2.1.length=o.length+1:=by
 obtain⟨n,hn,hn12⟩:=QlO hr
 have h6:=Qr6 hr
 unfold jC.fs
 refine ZV (fun _=>True) (fun y _=> ?_) (fun g hg=> ?_)
 ·obtain⟨t,h1,h2⟩:=Qqs x.fSteps (by omega)
  refine Qq h1 ?_
  simp only[chk]
  rw[hn,Qj (Yz hn12)]
  refine Qq rfl ?_
  refine Qq (Jk (by simp only[List.length_singleton];omega)) ?_
  refine⟨_,rfl,fun z hz=> ?_⟩
  cases hz
  refine⟨⟨h.b,fun m hm=> ?_,by simp[h.s],fun y hy=> ?_⟩,by simp⟩
  ·rcases List.mem_append.1 hm with hm|hm
   ·exact h.o m hm
   ·simp at hm;omega
  ·rcases QlN hy with rfl|hy
   ·omega
   ·exact h.st y hy
 ·simp only[chk]
  rw[hn,Qj (Yz hn12)]
  obtain⟨q,hq⟩:=Jd (l:=b) (i:=n) (by rw[h.b];exact hn12)
  refine Qq hq ?_
  cases q with
  |true=>
   simp only[Bool.not_true,Qh]
   exact QbV (fun _=>⟨_,rfl,fun z hz=>by cases hz⟩) (fun _=>hg () trivial)
  |false=>
   simp only[Bool.not_false,Qg]
   obtain⟨m,hm⟩:=Qi5 x.fSteps (by omega)
   refine Qq hm ?_
   exact QbV (fun _=>⟨_,rfl,fun z hz=>by cases hz⟩) (fun _=>hg () trivial)
theorem Quh{x:Rc}(hr:Je x=true){limit:Int}{b:List Bool}{o:List Int}{s:List Sa}(h:okS b o s):∃r,yh.fs 1000000000000 x limit b o s=some r∧∀z,r= .inr z→okS z.1 z.2.1 z.2.2∧z.2.1.length=o.length:=by
 obtain⟨n,hn,hn12⟩:=QlO hr
 unfold yh.fs
 simp only[chk]
 rw[hn,Qj (Yz hn12)]
 obtain⟨t,ht⟩:=Jd (l:=s) (i:=n) (by rw[h.s];exact hn12)
 have hm:t∈s:=by rw[JG]at ht;exact List.mem_of_getElem? ht
 have h6:=h.st t hm
 refine Qq ht ?_
 by_cases h0:((t.fSteps.length:Nat):Int)=0
 ·rw[Qj (QS h0)]
  exact⟨_,rfl,fun z hz=>by cases hz;exact⟨h,rfl⟩⟩
 rw[Qi (QM h0)]
 obtain⟨r,h1,h2,h3⟩:=QsR t x limit (by omega) (Qqz hr)
 refine Qq h1 ?_
 refine ZV (fun _=>True) (fun y _=> ?_) (fun g hg=> ?_)
 ·rw[Qj (Yz hn12)]
  refine Qq rfl ?_
  refine⟨_,rfl,fun z hz=> ?_⟩
  cases hz
  refine⟨⟨h.b,h.o,by simp[h.s],fun y hy=> ?_⟩,rfl⟩
  rcases QlN hy with rfl|hy
  ·rw[h2];exact h6
  ·exact h.st y hy
 ·cases h5:r.2 with
  |false=>
   simp only[Qh]
   exact QbV (fun _=>⟨_,rfl,fun z hz=>by cases hz⟩) (fun _=>hg () trivial)
  | true=>
   simp only[Qg]
   by_cases k3:x.fKind=3
   ·rw[Qi (by simp[k3])]
    have h7:=h3 h5 k3
    obtain⟨j,hj⟩:=Int.eq_ofNat_of_zero_le (Qqz hr)
    rw[hj]
    obtain⟨z,hz⟩:=Jd (l:=t.fSteps) (i:=j) (by omega)
    refine Qq hz ?_
    exact QbV (fun _=>⟨_,rfl,fun z hz=>by cases hz⟩) (fun _=>hg () trivial)
   ·rw[Qj (by simp[k3])]
    exact QbV (fun e=>by cases e) (fun _=>hg () trivial)
theorem Qui{x:Bun}(hv:vBun x){k0:QA}{limit:Int}:∀(m i k:Nat) (b:List Bool) (o:List Int) (s:List Sa),i+m=x.fItems.length→m<k→okS b o s→o.length≤i→
  ∃r,Yd.l 1000000000000 ⟨k0,limit⟩ x k ((i:Int),b,o,s)=some r∧(∀z,r= .inr z→okS z.1 z.2.1 z.2.2∧z.2.1.length≤x.fItems.length):=by
 have h400:=hv.r.len
 intro m
 induction m with
 |zero=>
  intro i k b o s hi hk hs ho
  obtain⟨k,rfl⟩:∃j,k=j+1:=⟨k-1,by omega⟩
  refine⟨.inr (b,o,s),?_,fun z e=>by cases e;exact⟨hs,by simp only;omega⟩⟩
  show Yd.b 1000000000000 ⟨k0,limit⟩ x (Yd.l 1000000000000 ⟨k0,limit⟩ x k) ((i:Int),b,o,s)=_
  unfold Yd.b
  rw[Qi (QM (by simp only;omega))]
 | succ m ih=>
  intro i k b o s hi hk hs ho
  obtain⟨k,rfl⟩:∃j,k=j+1:=⟨k-1,by omega⟩
  show ∃r,Yd.b 1000000000000 ⟨k0,limit⟩ x (Yd.l 1000000000000 ⟨k0,limit⟩ x k) ((i:Int),b,o,s)=_∧_
  unfold Yd.b
  rw[Qj (QS (by simp only;omega))]
  refine ZV (fun y=>okS y.1 y.2.1 y.2.2∧y.2.1.length≤i+1) (fun y hy=> ?_) (fun g hg=> ?_)
  ·rw[wrap_succ (by omega)]
   exact ih (i+1) k y.1 y.2.1 y.2.2 (by omega) (by omega) hy.1 hy.2
  ·obtain⟨y,hy⟩:=Jd (l:=x.fItems) (i:=i) (by omega)
   have hm:y∈x.fItems:=by rw[JG]at hy;exact List.mem_of_getElem? hy
   have hr:=(hv.r.items y hm).1
   obtain⟨n,hn,hn12⟩:=QlO hr
   refine Qq hy ?_
   refine Qq (QmH (hv.d y hm) hr) ?_
   obtain⟨q,hq⟩:=QvB (Qr1 y.fRec) x.fPoint.fRoot (W:=y.fPath) (by have:=(hv.r.items y hm).2.2;omega) y.fAt x.fPoint.fSize (by have:=hv.r.size;omega)
   refine Qq hq ?_
   refine QbV (fun _=>⟨_,rfl,fun z e=>by cases e⟩) (fun _=> ?_)
   refine Qqu (hv.d y hm) (Qkv (hv.b y hm).tag) (fun _=>⟨_,rfl,fun z e=>by cases e⟩) (fun _=> ?_)
   refine ZV (fun y=>okS y.1 y.2.1 y.2.2∧y.2.1.length≤i+1) (fun z hz=> ?_) (fun g2 hg2=> ?_)
   ·simp only[chk]
    rw[hn,Qj (Yz hn12)]
    refine Qq rfl ?_
    exact hg _ ⟨⟨by simp[hz.1.b],hz.1.o,hz.1.s,hz.1.st⟩,hz.2⟩
   ·by_cases k1:y.fRec.fKind=1
    ·rw[Qj (QS k1)]
     obtain⟨r,h1,h2⟩:=Qr7 hr hs (by omega)
     rw[h1]
     cases r with
     |inl e=>exact smi ⟨_,rfl,fun z e=>by cases e⟩
     |inr z=>
      refine smr ?_
      obtain⟨h3,h4⟩:=h2 z rfl
      exact hg2 _ ⟨h3,by rw[h4];omega⟩
    rw[Qi (QM k1)]
    by_cases k6:y.fRec.fKind=6
    ·rw[Qj (QS k6)]
     exact hg _ ⟨hs,by simp only;omega⟩
    rw[Qi (QM k6)]
    obtain⟨r,h1,h2⟩:=Quh hr (limit:=limit) hs
    rw[h1]
    cases r with
    |inl e=>exact smi ⟨_,rfl,fun z e=>by cases e⟩
    |inr z=>
     refine smr ?_
     obtain⟨h3,h4⟩:=h2 z rfl
     exact hg2 _ ⟨h3,by rw[h4];omega⟩
theorem Quj{z:List Bool×List Int×List Sa}(h:okS z.1 z.2.1 z.2.2)(hl:z.2.1.length<1000){c:Int}:∀(m i k:Nat) (l:List Int) (q:List Qv),i+m=z.2.1.length→m<k→l.length=i→q.length=i→
  ∃r,Ye.l 1000000000000 z k ((i:Int),c,l,q)=some r∧(r.1=c∧r.2.1.length=z.2.1.length∧r.2.2.length=z.2.1.length):=by
 intro m
 induction m with
 |zero=>
  intro i k l q hi hk h1 h2
  obtain⟨k,rfl⟩:∃j,k=j+1:=⟨k-1,by omega⟩
  refine⟨(c,l,q),?_,rfl,by simp only;omega,by simp only;omega⟩
  show Ye.b 1000000000000 z (Ye.l 1000000000000 z k) ((i:Int),c,l,q)=_
  unfold Ye.b
  rw[Qi (QM (by simp only;omega))]
 |succ m ih=>
  intro i k l q hi hk h1 h2
  obtain⟨k,rfl⟩:∃j,k=j+1:=⟨k-1,by omega⟩
  show ∃r,Ye.b 1000000000000 z (Ye.l 1000000000000 z k) ((i:Int),c,l,q)=_∧_
  unfold Ye.b
  rw[Qj (QS (by simp only;omega))]
  obtain⟨n,hn⟩:=Jd (l:=z.2.1) (i:=i) (by omega)
  have hm:n∈z.2.1:=by rw[JG]at hn;exact List.mem_of_getElem? hn
  have hn2:=h.o n hm
  obtain⟨j,hj⟩:=Int.eq_ofNat_of_zero_le hn2.1
  subst hj
  refine Qq hn ?_
  refine Qq (Jk (by simp only[List.length_singleton];omega)) ?_
  simp only[chk]
  rw[Qj (Yz (by omega))]
  obtain⟨t,ht⟩:=Jd (l:=z.2.2) (i:=j) (by rw[h.s];omega)
  refine Qq ht ?_
  rw[Qj (Yz (by omega))]
  refine Qq ht ?_
  obtain⟨w,hw⟩:=QgH t
  refine Qq hw ?_
  refine Qq (Jk (by simp only[List.length_singleton];omega)) ?_
  rw[wrap_succ (by omega)]
  exact ih (i+1) k _ _ (by omega) (by omega) (by simp[h1]) (by simp[h2])
theorem Qr8:okS [false,false,false,false,false,false,false,false,false,false,false,false] [] [Q5,Q5,Q5,Q5,Q5,Q5,Q5,Q5,Q5,Q5,Q5,Q5]:=
 ⟨rfl,fun _ h=>(by cases h),rfl,fun x hx=>by
  simp only[List.mem_cons,List.not_mem_nil,or_false,or_self]at hx
  subst hx
  decide⟩
theorem Qr9{x:Bun}(hv:vBun x)(k0:QA)(limit:Int):∃r,Jb.fs 1000000000000 ⟨k0,limit⟩ x=some r:=by
 have:∃r,Jb.fs 1000000000000 ⟨k0,limit⟩ x=some r∧True:=by
  unfold Jb.fs
  have h400:=hv.r.len
  obtain⟨s,h1,h2⟩:=Qui hv (k0:=k0) (limit:=limit) x.fItems.length 0 1000000000000 _ _ _ (by omega) (by omega) Qr8 (Nat.le_refl _)
  have h1:Yd.l 1000000000000 ⟨k0,limit⟩ x 1000000000000 (0,_,_,_)=_:=h1
  refine Qq h1 ?_
  cases s with
  |inl u=>exact⟨_,rfl,trivial⟩
  |inr z=>
   obtain⟨h3,h4⟩:=h2 z rfl
   obtain⟨r,h5,_⟩:=Quj h3 (by omega) (c:=0) z.2.1.length 0 1000000000000 [] [] (by omega) (by omega) rfl rfl
   have h5:Ye.l 1000000000000 z 1000000000000 (0,0, [], [])=_:=h5
   refine Qq h5 ?_
   exact⟨_,rfl,trivial⟩
 obtain⟨r,hr,_⟩:=this
 exact⟨r,hr⟩
def outA(r:Sum Int VdT):VdT:=match r with| .inl e=>(e, [], [])| .inr v=>v
def runA(k:QA)(limit:Int)(x:Bun):Sum Int VdT:=((bif x.fWhole then YZ.fs 1000000000000 ⟨k,limit⟩ x else Jb.fs 1000000000000 ⟨k,limit⟩ x)).getD (.inl 0)
def ZF(k:QA)(limit size:Int)(root:H32)(b:List Int):VdT:=
 bif mayK k&&inn limit 1 9 then
  (bif decide ((getS b).2=0)then
   (bif decide (chkK k (getS b).1.fPoint=0)then
    (bif decide ((getS b).1.fPoint.fSize=size)&&decide ((getS b).1.fPoint.fRoot=root)then outA (runA k limit (getS b).1)else(6, [], []))
   else(chkK k (getS b).1.fPoint, [], []))
  else((getS b).2, [], []))
 else(1, [], [])
theorem get_v{b:List Int}(hb:isB b)(hl:b.length<1000000000)(h:(getS b).2=0):vBun (getS b).1:=
 Que (QsP hb hl h).2.1 (QsP hb hl h).2.2
theorem Qi6{R:Type}{b:Bool}{e:Int}{l:Int→Option R}{r:Unit→Option R}{z:R}(h1:b=false→l e=some z)(h2:b=true→r ()=some z):sm (Yl.fs 1000000000000 b e) l r=some z:=by
 cases b with
 |false=>exact h1 rfl
 |true=>exact h2 rfl
theorem Qfj{k:QA}{limit:Int}{p:Qr}{b:List Int}(hb:isB b)(hl:b.length<1000000000):JE.f 1000000000000 k limit p b=some (ZF k limit p.fSize p.fRoot b):=by
 have main:mayK k=true→inn limit 1 9=true→((Xy.f 1000000000000 b).bind fun r1=>(sm (Yl.fs 1000000000000 (decide (r1.2=0)) r1.2) (fun e1=>(some {Q8 with fCode:=e1}).bind fun v2=>some (v2.fCode,([]:List Int),([]:List Qv))) fun r6=>(Qaa.f 1000000000000 k r1.1.fPoint).bind fun r4=>sm (Yl.fs 1000000000000 (decide (r4=0)) r4) (fun e2=>(some {Q8 with fCode:=e2}).bind fun v3=>some (v3.fCode,([]:List Int),([]:List Qv))) fun r7=>
   jn (fun(y2:Unit)=>(some (YP.mk k limit)).bind fun v1=>bif r1.1.fWhole then sm (YZ.fs 1000000000000 v1 r1.1) (fun e3=>(some {Q8 with fCode:=e3}).bind fun v4=>some (v4.fCode,([]:List Int),([]:List Qv))) (fun r2=>some (r2.1,r2.2.1,r2.2.2))else sm (Jb.fs 1000000000000 v1 r1.1) (fun e4=>(some {Q8 with fCode:=e4}).bind fun v5=>some (v5.fCode,([]:List Int),([]:List Qv))) (fun r3=>some (r3.1,r3.2.1,r3.2.2)))
    (fun j2=>bif decide (r1.1.fPoint.fSize=p.fSize)then sm (Yl.fs 1000000000000 (decide (r1.1.fPoint.fRoot=p.fRoot)) 6) (fun e5=>(some {Q8 with fCode:=e5}).bind fun v6=>some (v6.fCode,([]:List Int),([]:List Qv))) (fun r8=>j2 ())else sm (Yl.fs 1000000000000 false 6) (fun e6=>(some {Q8 with fCode:=e6}).bind fun v7=>some (v7.fCode,([]:List Int),([]:List Qv))) (fun r9=>j2 ()))))=some (ZF k limit p.fSize p.fRoot b):=fun hm hlm=>by
  unfold ZF
  rw[hm,hlm,bnd (QsO (Nat.le_refl _) hb hl)]
  simp only[Bool.and_self,Qg]
  refine Qi6 (fun h=> ?_) (fun h=> ?_)
  ·rw[h];rfl
  have hv:=get_v hb hl (of_decide_eq_true h)
  rw[bnd (Qvy (by have:=hv.r.sigs;omega) hv.s),h]
  simp only[Qg]
  refine Qi6 (fun h=> ?_) (fun h=> ?_)
  ·rw[h];rfl
  rw[h]
  simp only[Qg,jn]
  cases decide ((getS b).1.fPoint.fSize=p.fSize)with
  |false=>rfl
  | true=>
   simp only[Qg,Bool.true_and]
   refine Qi6 (fun h=> ?_) (fun h=> ?_)
   ·rw[h];rfl
   rw[h]
   simp only[Qg,Qb]
   unfold runA
   cases (getS b).1.fWhole with
   |true=>
    simp only[Qg]
    obtain⟨r,hr⟩:=Qqv hv k limit
    rw[hr]
    cases r<;>rfl
   |false=>
    simp only[Qh]
    obtain⟨r,hr⟩:=Qr9 hv k limit
    rw[hr]
    cases r<;>rfl
 unfold JE.f
 have ho:∀{j:Unit→Option VdT} {v:VdT},(mayK k=true→inn limit 1 9=true→j ()=some v)→((mayK k&&inn limit 1 9)=false→v=(1, [], []))→((Zn.f 1000000000000 k).bind fun r5=>bif r5 then bif decide (1≤limit)then sm (Yl.fs 1000000000000 (decide (limit≤9)) 1) (fun e7=>(some {Q8 with fCode:=e7}).bind fun v8=>some (v8.fCode,([]:List Int),([]:List Qv))) (fun r10=>j ())else sm (Yl.fs 1000000000000 false 1) (fun e8=>(some {Q8 with fCode:=e8}).bind fun v9=>some (v9.fCode,([]:List Int),([]:List Qv))) (fun r11=>j ())else sm (Yl.fs 1000000000000 false 1) (fun e9=>(some {Q8 with fCode:=e9}).bind fun v10=>some (v10.fCode,([]:List Int),([]:List Qv))) (fun r12=>j ()))=some v:=fun{j v} h1 h2=>by
  rw[QmD]
  simp only[Qb]
  unfold inn at h1 h2
  cases hm:mayK k with
  |false=>rw[h2 (by simp[hm])];rfl
  | true=>
   simp only[Qg]
   cases h3:decide (1≤limit)with
   |false=>rw[h2 (by simp[h3])];rfl
   |true=>
    simp only[Qg]
    refine Qi6 (fun h=> ?_) (fun h=> ?_)
    ·rw[h2 (by simp[h])]
    ·exact h1 hm (by first|rfl|simp[h3,h]|simp[h]|simp)
 refine ho (v:=ZF k limit p.fSize p.fRoot b) (j:=fun _=>_) ?_ ?_
 ·exact fun h1 h2=>main h1 h2
 ·exact fun h=>by
   unfold ZF
   rw[h]
   rfl
end Go.Proofs.YtomndohdnfebgaaGreatDoor
namespace Go.Proofs.YtomndohdnfebgaaGreatDoor
open Go Go.Sep
theorem Quk{K:Nat}(hK:K=1000000000000):qW.f K=some true:=by
 subst hK
 kernel_rfl
end Go.Proofs.YtomndohdnfebgaaGreatDoor
namespace Go.Proofs.YtomndohdnfebgaaGreatDoor
open Go Go.Sep
theorem Qsa{K:Nat}(k:QA)(b:List Int):JM.f K k b=some (decide ((20:Int)<((k.fParts.length:Nat):Int))||(decide ((20:Int)<((k.fWits.length:Nat):Int))||decide ((4000:Int)<((b.length:Nat):Int)))):=by
 unfold JM.f
 cases decide ((20:Int)<((k.fParts.length:Nat):Int))with
 |true=>rfl
 |false=>cases decide ((20:Int)<((k.fWits.length:Nat):Int))<;>rfl
theorem QlP{k:QA}{b:List Int}(h:(decide ((20:Int)<((k.fParts.length:Nat):Int))||(decide ((20:Int)<((k.fWits.length:Nat):Int))||decide ((4000:Int)<((b.length:Nat):Int))))=false):k.fParts.length≤20∧k.fWits.length≤20∧b.length≤4000:=by
 simp only[Bool.or_eq_false_iff,decide_eq_false_iff_not]at h
 omega
structure vldA(k:QA)(limit size:Int)(root:H32)(b:List Int):Prop where
 may:mayK k=true
 lim:inn limit 1 9=true
 get:(getS b).2=0
 chk:chkK k (getS b).1.fPoint=0
 size:(getS b).1.fPoint.fSize=size
 root:(getS b).1.fPoint.fRoot=root
 run:(outA (runA k limit (getS b).1)).1=0
theorem QqA{k:QA}{limit size:Int}{root:H32}{b:List Int}(h:(ZF k limit size root b).1=0):vldA k limit size root b:=by
 unfold ZF at h
 cases h1:(mayK k&&inn limit 1 9)with
 |false=>rw[h1]at h;cases h
 | true=>
  rw[h1]at h
  simp only[Qd]at h1
  simp only[Qg]at h
  by_cases h2:(getS b).2=0
  ·rw [Qj (QS h2)]at h
   by_cases h3:chkK k (getS b).1.fPoint=0
   ·rw[Qj (QS h3)]at h
    by_cases h4:(getS b).1.fPoint.fSize=size
    ·by_cases h5:(getS b).1.fPoint.fRoot=root
     ·rw[QS h4,QS h5]at h
      exact⟨h1.1,h1.2,h2,h3,h4,h5,h⟩
     ·rw[QM h5,Bool.and_false]at h;cases h
    ·rw[QM h4,Bool.false_and]at h;cases h
   ·rw[Qi (QM h3)]at h
    exact absurd h h3
  ·rw[Qi (QM h2)]at h
   exact absurd h h2
theorem vldA.eq{k:QA}{limit size:Int}{root:H32}{b:List Int}(h:vldA k limit size root b):ZF k limit size root b=outA (runA k limit (getS b).1):=by
 unfold ZF
 rw[h.may,h.lim,QS h.get,QS h.chk,QS h.size,QS h.root]
 rfl
theorem vldA.zero{k:QA}{limit size:Int}{root:H32}{b:List Int}(h:vldA k limit size root b):(ZF k limit size root b).1=0:=by
 rw[h.eq];exact h.run
theorem vldA.trust{k:QA}{limit size size':Int}{root root':H32}{b:List Int}(h:vldA k limit size root b):decide ((ZF k limit size' root' b).1=0)=(decide (size'=size)&&decide (root'=root)):=by
 by_cases h1:size'=size
 ·by_cases h2:root'=root
  ·subst h1;subst h2
   rw[QS h.zero];simp
  ·rw[QM h2,Bool.and_false]
   exact QM (fun h3=>h2 ((QqA h3).root.symm.trans h.root))
 ·rw[QM h1,Bool.false_and]
  exact QM (fun h3=>h1 ((QqA h3).size.symm.trans h.size))
theorem vldA.eight{k:QA}{limit size:Int}{root:H32}{b:List Int}(h:vldA k limit size root b){n:Int}(hn:n=(((getS b).1.fPoint.fSigs.length:Nat):Int)+1)(hw:n≤((k.fWits.length:Nat):Int)):(ZF {k with fNeed:=n} limit size root b).1=8:=by
 have hl:=Qfi h.may
 have hm:mayK {k with fNeed:=n}=true:=by
  unfold mayK
  simp only[Qd,qj]
  omega
 have hc:chkK {k with fNeed:=n} (getS b).1.fPoint=8:=by
  have h1:=h.chk
  unfold chkK at h1⊢
  rw[h.may]at h1
  rw[hm]
  cases h2:inn (getS b).1.fPoint.fSize 0 400 with
  |false=>rw[h2]at h1;cases h1
  | true=>
   simp only[Bool.and_self,Qg]
   cases sgK {k with fNeed:=n} (getS b).1.fPoint [false,false,false,false] (getS b).1.fPoint.fSigs with
   |false=>rfl
   |true=>
    simp only[Qg]
    rw[Qj (QS (by omega))]
 unfold ZF
 rw[hm,h.lim,QS h.get,hc]
 rfl
theorem QgI{K:Nat}(hK:K=1000000000000)(k:QA)(limit:Int)(p:Qr)(b:List Int)(root:H32)(size:Int)(hb:isB b):JF.f K k limit p b root size=some true:=by
 unfold JF.f
 rw[Quk hK]
 subst hK
 simp only[Qb,Bool.not_true,Qh]
 rw[Qsa]
 simp only[Qb]
 cases hg:(decide ((20:Int)<((k.fParts.length:Nat):Int))||(decide ((20:Int)<((k.fWits.length:Nat):Int))||decide ((4000:Int)<((b.length:Nat):Int))))with
 |true=>rfl
 | false=>
  obtain⟨g1,g2,g3⟩:=QlP hg
  have hl:b.length<1000000000:=by omega
  simp only[Qh]
  rw[bnd (Qfj hb hl)]
  by_cases h0:(ZF k limit p.fSize p.fRoot b).1=0
  ·rw[Qi (by simp[h0])]
   have hv:=QqA h0
   rw[bnd (QsO (Nat.le_refl _) hb hl)]
   rw[bnd (Qfj hb hl),bnd (Qfj hb hl)]
   simp only[jn]
   rw[hv.trust,hv.trust]
   rw[Qi (by simp),Qi (by simp)]
   by_cases h1:((k.fWits.length:Nat):Int)≤(((getS b).1.fPoint.fSigs.length:Nat):Int)
   ·rw[Qj (QS h1)]
   ·rw[Qi (QM h1)]
    refine QI (Qfj hb hl) ?_
    rw[wrap64 (by omega) (by omega),hv.eight rfl (by omega)]
    rfl
  ·rw[Qj (by simp[h0])]
end Go.Proofs.YtomndohdnfebgaaGreatDoor
