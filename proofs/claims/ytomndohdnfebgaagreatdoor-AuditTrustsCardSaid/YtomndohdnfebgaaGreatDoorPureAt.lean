/-
 Plain: the audit comes to a verdict.
-/
import Derived.Test.YtomndohdnfebgaaGreatDoorPureAk
namespace Go.Proofs.YtomndohdnfebgaaGreatDoor
open Go Go.Sep
abbrev Sa:=QF
abbrev Bk:=Yg
theorem ZV{α β:Type}{P:β→Prop}{g:α→Option β}{f:(α→Option β)→Option β}(Q:α→Prop)(hg:∀y,Q y→∃r,g y=some r∧P r)(hf:∀j:α→Option β,(∀y,Q y→∃r,j y=some r∧P r)→∃r,f j=some r∧P r):∃r,jn g f=some r∧P r:=hf g hg
theorem Xz{K:Nat}(a b c:Int):qE.f K a b c=some (inn a b c):=by
 unfold qE.f inn
 cases decide (b≤a)<;>rfl
theorem QmF{K:Nat}(s:Sa):Qbr.f K s=some (inn s.fPhase 2 4):=by
 unfold Qbr.f
 rw[Xz];rfl
theorem QnO(s:Sa)(h:s.fSteps.length<1000):∃r,jF.f 1000000000000 s=some r∧r<((s.fSteps.length:Nat):Int):=by
 have key:∀(j k:Nat),j≤s.fSteps.length→j<k→∃t,Yk.l 1000000000000 s s.fSteps k ((j:Int)-1)=some t∧(∀r,t= .inl r→r<((s.fSteps.length:Nat):Int)):=by
  intro j
  induction j with
  |zero=>
   intro k hj hk
   obtain⟨k,rfl⟩:∃j,k=j+1:=⟨k-1,by omega⟩
   refine⟨.inr (),?_,fun r e=>by cases e⟩
   show Yk.b 1000000000000 s s.fSteps (Yk.l 1000000000000 s s.fSteps k) (((0:Nat):Int)-1)=_
   unfold Yk.b
   rw[Qi (by simp)]
  | succ j ih=>
   intro k hj hk
   obtain⟨k,rfl⟩:∃j,k=j+1:=⟨k-1,by omega⟩
   show ∃t,Yk.b 1000000000000 s s.fSteps (Yk.l 1000000000000 s s.fSteps k) (((j+1:Nat):Int)-1)=some t∧_
   have e:(((j+1:Nat):Int)-1)=(j:Int):=by omega
   rw[e]
   unfold Yk.b
   rw[Qj (QS (by omega))]
   obtain⟨x,hx⟩:=Jd (l:=s.fSteps) (i:=j) (by omega)
   refine Qq hx ?_
   refine ZV (fun _=>True) (fun y _=> ?_) (fun g hg=> ?_)
   ·cases y with
    |true=>exact⟨_,rfl,fun r e=>by cases e;omega⟩
    |false=>
     rw[wrap64 (by omega) (by omega)]
     exact ih k (by omega) (by omega)
   ·cases decide (x.fKind=1)with
    |true=>
     simp only[Qg,chk]
     rw[Qj (by simp)]
     exact hg _ trivial
    |false=>exact hg _ trivial
 unfold jF.f Qc2.f
 simp only[Qb]
 obtain⟨t,h1,h2⟩:=key s.fSteps.length 1000000000000 (Nat.le_refl _) (by omega)
 rw[wrap64 (by omega) (by omega),h1]
 cases t with
 |inl r=>exact⟨r,rfl,h2 r rfl⟩
 |inr u=>exact⟨-1,rfl,by omega⟩
theorem Qdz(s:Sa)(h:s.fSteps.length<1000):∃r,JD.f 1000000000000 s=some r∧r<((s.fSteps.length:Nat):Int):=by
 unfold JD.f
 by_cases h1:s.fPhase=1
 ·rw[Qj (QS h1)]
  obtain⟨r,hr,hl⟩:=QnO s h
  exact⟨r,QI hr rfl,hl⟩
 rw[Qi (QM h1)]
 by_cases h2:s.fAt<((s.fSteps.length:Nat):Int)
 ·rw[Qj (QS h2)]
  exact⟨_,rfl,h2⟩
 ·rw[Qi (QM h2)]
  exact⟨_,rfl,by omega⟩
theorem QnP(s:Sa)(q:Int):jF.f 1000000000000 {s with fSeq:=q}=jF.f 1000000000000 s:=by
 have key:∀(k:Nat) (y:Int),Yk.l 1000000000000 {s with fSeq:=q} s.fSteps k y=Yk.l 1000000000000 s s.fSteps k y:=by
  intro k
  induction k with
  |zero=>intro y;rfl
  |succ k ih=>
   intro y
   show Yk.b 1000000000000 {s with fSeq:=q} s.fSteps (Yk.l 1000000000000 {s with fSeq:=q} s.fSteps k) y=Yk.b 1000000000000 s s.fSteps (Yk.l 1000000000000 s s.fSteps k) y
   unfold Yk.b
   simp only[ih]
 unfold jF.f Qc2.f
 simp only[Qb,key]
theorem step_seq(s:Sa)(q:Int):JD.f 1000000000000 {s with fSeq:=q}=JD.f 1000000000000 s:=by
 unfold JD.f
 simp only[QnP]
theorem Quc(s:Sa)(limit:Int)(h:s.fSteps.length<1000):∃r,Qc3.f 1000000000000 s limit=some r:=by
 have :∃r,Qc3.f 1000000000000 s limit=some r∧True:=by
  unfold Qc3.f
  refine ZV (fun _=>True) (fun y _=> ?_) (fun g hg=> ?_)
  ·cases y with
   |true=>exact⟨_,rfl,trivial⟩
   | false=>
    simp only[Qh]
    obtain⟨r,hr,_⟩:=Qdz s h
    refine Qq hr ?_
    refine ZV (fun _=>True) (fun y _=> ?_) (fun g hg=> ?_)
    ·cases y with
     |true=>exact⟨_,rfl,trivial⟩
     | false=>
      simp only[Qh]
      cases decide (r<0)with
      |true=>exact⟨_,rfl,trivial⟩
      |false=>
       simp only[Qh]
       cases decide (s.fTries<limit)<;>exact⟨_,rfl,trivial⟩
    ·cases decide (r<0)<;>exact hg _ trivial
  ·cases s.fWait with
   |true=>exact hg _ trivial
   | false=>
    simp only[Qh]
    rw[QmF]
    simp only[Qb]
    cases inn s.fPhase 2 4 with
    |true=>exact hg _ trivial
    | false=>
     simp only[Qh]
     cases decide (((s.fSteps.length:Nat):Int)=0)with
     |true=>exact hg _ trivial
     |false=>
      simp only[Qh]
      rw[Xz]
      exact hg _ trivial
 obtain⟨r,hr,_⟩:=this
 exact⟨r,hr⟩
theorem Qku{s:Sa}{x:Rc}{r:Int}(h:s.fSteps.length<1000)(hr:JD.f 1000000000000 s=some r)(h0:0≤r):∃t,Xp.f 1000000000000 s x=some t∧t.fSteps=s.fSteps:=by
 obtain⟨r',hr',hl⟩:=Qdz s h
 rw[hr]at hr'
 cases hr'
 unfold Xp.f
 refine Qq hr ?_
 simp only[chk]
 rw[Qj (by simp[h0])]
 refine ZV (fun y=>y.fSteps=s.fSteps) (fun y hy=>⟨_,rfl,hy⟩) (fun g hg=> ?_)
 refine ZV (fun _=>True) (fun y _=> ?_) (fun g2 hg2=> ?_)
 ·cases y with
  |true=>exact hg _ rfl
  | false=>
   simp only[Qh]
   cases s.fBack with
   |true=>exact hg _ rfl
   | false=>
    simp only[Qh]
    cases x.fGood with
    |true=>exact hg _ rfl
    |false=>
     simp only[Qh]
     obtain⟨i,rfl⟩:=Int.eq_ofNat_of_zero_le h0
     obtain⟨z,hz⟩:=Jd (l:=s.fSteps) (i:=i) (by omega)
     refine Qq hz ?_
     cases (!decide (z.fKind=3))with
     |true=>exact hg _ rfl
     |false=>exact hg _ rfl
 ·cases s.fBack with
  |true=>exact hg2 _ trivial
  |false=>exact hg2 _ trivial
theorem QnQ{s:Sa}{limit r:Int}(h:s.fSteps.length<1000)(hr:JD.f 1000000000000 s=some r)(h0:0≤r):∃t,QaA.f 1000000000000 s limit=some t∧t.fSteps=s.fSteps:=by
 obtain⟨r',hr',hl⟩:=Qdz s h
 rw[hr]at hr'
 cases hr'
 unfold QaA.f
 refine Qq hr ?_
 cases (!s.fBack)with
 |false=>exact⟨_,rfl,rfl⟩
 | true=>
  simp only[Qg,chk]
  rw[Qj (by simp[h0])]
  simp only[Qb]
  refine ZV (fun _=>True) (fun y _=> ?_) (fun g hg=> ?_)
  ·cases y with
   |true=>exact⟨_,rfl,rfl⟩
   |false=>exact⟨_,rfl,rfl⟩
  ·obtain⟨i,rfl⟩:=Int.eq_ofNat_of_zero_le h0
   obtain⟨z,hz⟩:=Jd (l:=s.fSteps) (i:=i) (by omega)
   refine Qq hz ?_
   cases decide (z.fKind=1)<;>exact hg _ trivial
theorem QsR(s:Sa)(x:Rc)(limit:Int)(h:s.fSteps.length<1000)(h0:0≤x.fStep):∃r,QfO.f 1000000000000 s x limit=some r∧(r.1.fSteps=s.fSteps∧(r.2=true→x.fKind=3→x.fStep<((s.fSteps.length:Nat):Int))):=by
 unfold QfO.f
 refine ZV (fun _=>True) (fun y _=> ?_) (fun g hg=> ?_)
 ·cases y with
  |true=>exact⟨_,rfl,rfl,fun e=>by cases e⟩
  | false =>
   simp only[Qh,Qb]
   obtain⟨d,hd⟩:=Quc s limit h
   refine Qq hd ?_
   refine ZV (fun _=>x.fKind=4→JD.f 1000000000000 s=some x.fStep) (fun y hy=> ?_) (fun g hg=> ?_)
   ·by_cases h4:x.fKind=4
    ·rw[Qi (by simp[h4])]
     obtain⟨t,ht,hs⟩:=QnQ (s:={s with fSeq:=IntKind.wrap .i64 (s.fSeq+1) }) (limit:=limit) h (by rw[step_seq];exact hy h4) h0
     exact⟨_,QI ht rfl,hs,fun _ k3=>by omega⟩
    ·rw[Qj (by simp[h4])]
     exact⟨_,rfl,rfl,fun e=>by cases e⟩
   ·by_cases h2:x.fKind=2
    ·rw[Qj (QS h2)]
     cases d.2 with
     |false=>exact⟨_,rfl,rfl,fun e=>by cases e⟩
     |true=>
      simp only[Qg]
      unfold Qcy.f XT.f
      simp only[Qb]
      generalize (decide (d.1.fKind=x.fKind)&&(decide (d.1.fStep=x.fStep)&&(decide (d.1.fTry=x.fTry)&&(d.1.fBack==x.fBack&&(decide (d.1.fEnd=x.fEnd)&&true)))))=b
      cases b<;>exact⟨_,rfl,rfl,fun _ k3=>by omega⟩
    rw[Qi (QM h2)]
    by_cases h5:x.fKind=5
    ·rw[Qj (QS h5)]
     cases d.2 with
     |false=>exact⟨_,rfl,rfl,fun e=>by cases e⟩
     |true=>
      simp only[Qg]
      unfold Qcy.f XT.f
      simp only[Qb]
      generalize (decide (d.1.fKind=x.fKind)&&(decide (d.1.fStep=x.fStep)&&(decide (d.1.fTry=x.fTry)&&(d.1.fBack==x.fBack&&(decide (d.1.fEnd=x.fEnd)&&true)))))=b
      cases b<;>exact⟨_,rfl,rfl,fun _ k3=>by omega⟩
    rw[Qi (QM h5)]
    refine ZV (fun y=>y=false→x.fKind≠3∧x.fKind≠4) (fun y hy=> ?_) (fun g4 hg4=> ?_)
    ·cases y with
     |false=>exact hg () (fun e=>absurd e (hy rfl).2)
     | true=>
      simp only[Qg]
      refine ZV (fun y=>y=false→JD.f 1000000000000 s=some x.fStep) (fun y hy=> ?_) (fun g1 hg1=> ?_)
      ·cases y with
       |true=>exact⟨_,rfl,rfl,fun e=>by cases e⟩
       | false=>
        simp only[Qh]
        by_cases h3:x.fKind=3
        ·rw[Qj (QS h3)]
         obtain⟨t,ht,hs⟩:=Qku (s:={s with fSeq:=IntKind.wrap .i64 (s.fSeq+1) }) (x:=x) h (by rw[step_seq];exact hy rfl) h0
         exact⟨_,QI ht rfl,hs,fun _ _=>by
          obtain⟨r',q1,q2⟩:=Qdz s h
          rw[hy rfl]at q1
          cases q1
          exact q2⟩
        ·rw[Qi (QM h3)]
         exact hg () (fun _=>hy rfl)
      ·cases (!s.fWait)with
       |true=>exact hg1 true (fun e=>by cases e)
       | false=>
        simp only[Qh]
        obtain⟨r,hr,_⟩:=Qdz s h
        refine Qq hr ?_
        by_cases e:x.fStep=r
        ·rw[Qi (by simp[e])]
         have hq:JD.f 1000000000000 s=some x.fStep:=by rw[hr,e]
         cases (!decide (x.fTry=s.fTries))with
         |true=>exact hg1 true (fun e=>by cases e)
         |false=>exact hg1 _ (fun _=>hq)
        ·rw[Qj (by simp[e])]
         exact hg1 true (fun e=>by cases e)
    ·by_cases h3:x.fKind=3
     ·rw[Qj (QS h3)]
      exact hg4 true (fun e=>by cases e)
     ·rw[Qi (QM h3)]
      exact hg4 _ (fun e=>⟨h3,of_decide_eq_false e⟩)
 ·cases (!decide (x.fSeq=s.fSeq))with
  |true=>exact hg _ trivial
  | false=>
   simp only[Qh]
   cases decide (((s.fSteps.length:Nat):Int)=0)with
   |true=>exact hg _ trivial
   | false=>
    simp only[Qh]
    rw[QmF]
    simp only[Qb]
    cases inn s.fPhase 2 4 with
    |true=>exact hg _ trivial
    |false=>
     simp only[Qh]
     rw[Xz]
     exact hg _ trivial
theorem Qi5(l:List Sp)(h:l.length<1000):∃r,Qb3.f 1000000000000 l=some r:=by
 unfold Qb3.f
 rw[Xz]
 simp only[Qb]
 cases inn ((l.length:Nat):Int) 1 6 with
 |false=>exact⟨_,rfl⟩
 | true=>
  simp only[Bool.not_true,Qh]
  have key:∀(m i k:Nat) (last:Int),i+m=l.length→m<k→∃t,JC.l 1000000000000 l k (last,(i:Int))=some t∧True:=by
   intro m
   induction m with
   |zero=>
    intro i k last hi hk
    obtain⟨k,rfl⟩:∃j,k=j+1:=⟨k-1,by omega⟩
    refine⟨.inr (),?_,trivial⟩
    show JC.b 1000000000000 l (JC.l 1000000000000 l k) (last,(i:Int))=_
    unfold JC.b
    rw[Qi (QM (by simp only;omega))]
   | succ m ih=>
    intro i k last hi hk
    obtain⟨k,rfl⟩:∃j,k=j+1:=⟨k-1,by omega⟩
    show ∃t,JC.b 1000000000000 l (JC.l 1000000000000 l k) (last,(i:Int))=some t∧True
    unfold JC.b
    rw[Qj (QS (by simp only;omega))]
    refine ZV (fun _=>True) (fun y _=> ?_) (fun g hg=> ?_)
    ·rw[wrap_succ (by omega)]
     exact ih (i+1) k y (by omega) (by omega)
    ·obtain⟨x,hx⟩:=Jd (l:=l) (i:=i) (by omega)
     refine Qq hx ?_
     refine ZV (fun _=>True) (fun y _=> ?_) (fun g2 hg2=> ?_)
     ·cases y with
      |true=>exact⟨_,rfl,trivial⟩
      |false=>
       simp only[Qh]
       cases decide (x.fKind=2)<;>exact hg _ trivial
     ·rw[Xz,Xz]
      simp only[Qb]
      cases (!inn x.fPart 0 3)<;>exact hg2 _ trivial
  obtain⟨t,ht,_⟩:=key l.length 0 1000000000000 1 (by omega) (by omega)
  have ht:JC.l 1000000000000 l 1000000000000 (1,0)=some t:=ht
  rw[ht]
  cases t<;>exact⟨_,rfl⟩
theorem Qqs(l:List Sp)(h:l.length<1000):∃r,Qc1.f 1000000000000 l=some r∧r.fSteps.length≤l.length:=by
 unfold Qc1.f
 obtain⟨b,hb⟩:=Qi5 l h
 refine Qq hb ?_
 cases b with
 |false=>exact⟨_,rfl,Nat.zero_le _⟩
 | true=>
  simp only[Bool.not_true,Qh]
  have h1:QK.f 1000000000000 l=some l:=by
   unfold QK.f
   rw[Jk (by rw[List.length_nil];omega)];rfl
  refine Qq h1 ?_
  exact⟨_,rfl,Nat.le_refl _⟩
structure okK(b:Bk):Prop where
 n:b.fSagas.length≤12
 s:∀s∈b.fSagas,s.fSteps.length≤6
theorem QrY:okK ⟨Vector.replicate 4 0, []⟩:=⟨by simp,fun _ h=>by cases h⟩
theorem QgG{l:List Sa}(h:l.length≤12):QQ.f 1000000000000 l=some l:=by
 unfold QQ.f
 rw[Jk (by rw[List.length_nil];omega)];rfl
theorem QlN{α:Type}:∀{l:List α} {i:Nat} {x y:α},y∈l.set i x→y=x∨y∈l:=fun h=>(List.mem_or_eq_of_mem_set h).symm
theorem QrZ{b:Bk}{x:Rc}{limit:Int}(hb:okK b)(hs:0≤x.fSaga)(h0:0≤x.fStep):∃r,XU.f 1000000000000 b x limit=some r∧okK r.1:=by
 unfold XU.f
 by_cases h1:((b.fSagas.length:Nat):Int)≤x.fSaga
 ·rw[Qj (QS h1)]
  exact⟨_,rfl,hb⟩
 rw[Qi (QM h1)]
 obtain⟨i,hi⟩:=Int.eq_ofNat_of_zero_le hs
 rw[hi]
 obtain⟨s,hx⟩:=Jd (l:=b.fSagas) (i:=i) (by omega)
 have hm:s∈b.fSagas:=by rw[JG]at hx;exact List.mem_of_getElem? hx
 have hs6:=hb.s s hm
 refine Qq hx ?_
 obtain⟨r,hr,hr2,_⟩:=QsR s x limit (by omega) h0
 refine Qq hr ?_
 cases r.2 with
 |false=>exact⟨_,rfl,hb⟩
 |true=>
  simp only[Bool.not_true,Qh]
  refine Qq (QgG hb.n) ?_
  refine Qq hx ?_
  refine⟨_,rfl,by simpa using hb.n,fun y hy=> ?_⟩
  rcases QlN hy with rfl|hy
  ·rw[hr2];exact hs6
  ·exact hb.s y hy
theorem Qud{b:Bk}{x:Rc}{limit:Int}(hb:okK b)(hx:okD x):∃r,Qh4.f 1000000000000 b x limit=some r∧okK r.1:=by
 unfold Qh4.f
 refine ZV (fun y=>y=false→Je x=true) (fun y hy=> ?_) (fun g hg=> ?_)
 ·cases y with
  |true=>exact⟨_,rfl,hb⟩
  | false=>
   simp only[Qh]
   have hr:=hy rfl
   have hd:=Qct hr
   have hs:=hd.saga
   have hst:0≤x.fStep:=by
    by_cases k:x.fKind=2∨x.fKind=4∨x.fKind=3
    ·exact(hd.call k).2.1.1
    ·have hk:=hd.kept
     rw[hk]
     unfold QeY
     rcases hd.kind with k1|k1|k1|k1|k1|k1
     ·rw[if_pos k1];cases x.fGone<;>exact Int.le_refl _
     ·exact absurd (.inl k1) k
     ·exact absurd (.inr (.inr k1)) k
     ·exact absurd (.inr (.inl k1)) k
     ·rw[if_neg (by omega),if_neg (by omega),if_neg (by omega),if_pos k1];exact Int.le_refl _
     ·rw[if_neg (by omega),if_neg (by omega),if_neg (by omega),if_neg (by omega),if_pos k1];exact Int.le_refl _
   have hp:0≤x.fPart∧x.fPart<4:=by
    unfold Je QcG at hr
    simp only[Qd,qj]at hr
    omega
   have hcall:=QrZ (limit:=limit) hb hs.1 hst
   by_cases k1:x.fKind=1
   ·rw [Qj (QS k1)]
    have hl:x.fSteps.length≤6:=by have:=qj.1 (hd.beg k1).1;omega
    have:∃r,Qb4.f 1000000000000 b x limit=some r∧okK r.1:=by
     unfold Qb4.f
     refine ZV (fun y=>y=false→b.fSagas.length<12) (fun y hy=> ?_) (fun g hg=> ?_)
     ·cases y with
      |true=>exact⟨_,rfl,hb⟩
      |false=>
       simp only[Qh]
       refine Qq (QgG hb.n) ?_
       obtain⟨s,h1,h2⟩:=Qqs x.fSteps (by omega)
       refine Qq h1 ?_
       have:=hy rfl
       refine Qq (Jk (by simp only[List.length_singleton];omega)) ?_
       refine⟨_,rfl,by simp;omega,fun y hy=> ?_⟩
       rcases List.mem_append.1 hy with hy|hy
       ·exact hb.s y hy
       ·simp at hy;subst hy;omega
     ·cases (!decide (x.fSaga=((b.fSagas.length:Nat):Int)))with
      |true=>exact hg true (fun e=>by cases e)
      | false=>
       simp only[Qh]
       by_cases h12:(12:Int)≤((b.fSagas.length:Nat):Int)
       ·rw[Qj (QS h12)]
        exact hg true (fun e=>by cases e)
       ·rw[Qi (QM h12)]
        obtain⟨q,hq⟩:=Qi5 x.fSteps (by omega)
        refine Qq hq ?_
        exact hg _ (fun _=>by omega)
    obtain⟨r,h1,h2⟩:=this
    exact⟨_,QI h1 rfl,h2⟩
   rw[Qi (QM k1)]
   by_cases k2:x.fKind=2
   ·rw[Qj (QS k2)]
    obtain⟨r,h1,h2⟩:=hcall
    exact⟨_,QI h1 rfl,h2⟩
   rw[Qi (QM k2)]
   by_cases k3:x.fKind=3
   ·rw [Qj (QS k3)]
    have:∃r,Zw.f 1000000000000 b x limit=some r∧okK r.1:=by
     unfold Zw.f
     refine ZV (fun _=>True) (fun y _=> ?_) (fun g hg=> ?_)
     ·cases y with
      |true=>exact⟨_,rfl,hb⟩
      |false=>
       simp only[Qh]
       obtain⟨r,h1,h2⟩:=hcall
       exact⟨_,QI h1 rfl,h2⟩
     ·by_cases h1:((b.fSagas.length:Nat):Int)≤x.fSaga
      ·rw[Qj (QS h1)]
       exact hg _ trivial
      rw[Qi (QM h1)]
      obtain⟨i,hi⟩:=Int.eq_ofNat_of_zero_le hs.1
      rw[hi]
      obtain⟨s,hx⟩:=Jd (l:=b.fSagas) (i:=i) (by omega)
      refine Qq hx ?_
      by_cases h2:((s.fSteps.length:Nat):Int)≤x.fStep
      ·rw[Qj (QS h2)]
       exact hg _ trivial
      rw[Qi (QM h2)]
      refine Qq hx ?_
      obtain⟨j,hj⟩:=Int.eq_ofNat_of_zero_le hst
      rw[hj]
      obtain⟨z,hz⟩:=Jd (l:=s.fSteps) (i:=j) (by omega)
      refine Qq hz ?_
      cases (!decide (z.fPart=x.fPart))with
      |true=>exact hg _ trivial
      |false=>
       simp only[Qh,chk]
       obtain⟨p,hpp⟩:=Int.eq_ofNat_of_zero_le hp.1
       rw[hpp,Qj (Yz (by omega))]
       exact hg _ trivial
    obtain⟨r,h1,h2⟩:=this
    exact⟨_,QI h1 rfl,h2⟩
   rw[Qi (QM k3)]
   by_cases k4:x.fKind=4
   ·rw[Qj (QS k4)]
    obtain⟨r,h1,h2⟩:=hcall
    exact⟨_,QI h1 rfl,h2⟩
   rw[Qi (QM k4)]
   by_cases k5:x.fKind=5
   ·rw[Qj (QS k5)]
    obtain⟨r,h1,h2⟩:=hcall
    exact⟨_,QI h1 rfl,h2⟩
   have k6:x.fKind=6:=by rcases hd.kind with k|k|k|k|k|k<;>first|exact k|(exfalso;omega)
   rw[Qi (QM k5),Qj (QS k6)]
   have:∃r,QaB.f 1000000000000 b x limit=some r∧okK r.1:=by
    unfold QaB.f
    obtain⟨p,hpp⟩:=Int.eq_ofNat_of_zero_le hp.1
    simp only[chk]
    rw[hpp,Qj (Yz (by omega)),Qj (Yz (by omega))]
    cases (!decide (x.fEpoch=IntKind.wrap .i64 (vget b.fEpochs (Int.toNat ((p:Nat):Int))+1)))with
    |true=>exact⟨_,rfl,hb⟩
    |false=>exact⟨_,rfl,hb.n,hb.s⟩
   obtain⟨r,h1,h2⟩:=this
   exact⟨_,QI h1 rfl,h2⟩
 ·rw[right_eq (Nat.le_refl _) hx]
  simp only[Qb]
  cases hr:Je x with
  |false=>exact hg true (fun e=>by cases e)
  |true=>
   simp only[Bool.not_true,Qh]
   cases decide (limit<1)with
   |true=>exact hg true (fun e=>by cases e)
   |false=>exact hg _ (fun _=>hr)
theorem QgH(s:Sa):∃r,yZ.f 1000000000000 s=some r:=by
 unfold yZ.f
 cases decide (s.fPhase=2)<;>exact⟨_,rfl⟩
theorem QnR{b:Bk}(hb:b.fSagas.length≤12):∃r,QaC.f 1000000000000 b=some r∧r.length=b.fSagas.length:=by
 unfold QaC.f
 have key:∀(m i k:Nat) (l:List Qv),i+m=b.fSagas.length→m<k→l.length=i→∃t,YW.l 1000000000000 b k (l,(i:Int))=some t∧t.length=b.fSagas.length:=by
  intro m
  induction m with
  |zero=>
   intro i k l hi hk hl
   obtain⟨k,rfl⟩:∃j,k=j+1:=⟨k-1,by omega⟩
   refine⟨l,?_,by omega⟩
   show YW.b 1000000000000 b (YW.l 1000000000000 b k) (l,(i:Int))=_
   unfold YW.b
   rw[Qi (QM (by simp only;omega))]
  |succ m ih=>
   intro i k l hi hk hl
   obtain⟨k,rfl⟩:∃j,k=j+1:=⟨k-1,by omega⟩
   show ∃t,YW.b 1000000000000 b (YW.l 1000000000000 b k) (l,(i:Int))=some t∧_
   unfold YW.b
   rw[Qj (QS (by simp only;omega))]
   obtain⟨x,hx⟩:=Jd (l:=b.fSagas) (i:=i) (by omega)
   refine Qq hx ?_
   obtain⟨q,hq⟩:=QgH x
   refine Qq hq ?_
   refine Qq (Jk (by simp only[List.length_singleton];omega)) ?_
   rw[wrap_succ (by omega)]
   exact ih (i+1) k _ (by omega) (by omega) (by simp[hl])
 obtain⟨t,ht,hl⟩:=key b.fSagas.length 0 1000000000000 [] (by omega) (by omega) rfl
 have ht:YW.l 1000000000000 b 1000000000000 ([],0)=some t:=ht
 exact⟨t,QI ht rfl,hl⟩
end Go.Proofs.YtomndohdnfebgaaGreatDoor
namespace Go.Proofs.YtomndohdnfebgaaGreatDoor
open Go Go.Sep
theorem Qkv{h:H32}(hb:isB (Q7 h)):byH h:=fun j hj=>hb _ (by
 simp only[Q7,List.mem_map,List.mem_range]
 exact⟨j,hj,rfl⟩)
structure vBun(x:Bun):Prop where
 r:QsM x
 d:∀y∈x.fItems,okD y.fRec
 b:∀y∈x.fItems,okB y.fRec
 s:∀s∈x.fPoint.fSigs,byH s.fTag
 root:byH x.fPoint.fRoot
 path:∀y∈x.fItems,∀h∈y.fPath,byH h
theorem Que{x:Bun}(h:QlJ x)(hr:Qdw x=true):vBun x:=
 ⟨Qvt hr,fun y hy=>((QmB h).items y hy).d,(Qdy h).recs,fun s hs=>Qkv ((Qdy h).tags s hs),Qkv (Qdy h).root,fun y hy z hz=>Qkv ((Qdy h).path y hy z hz)⟩
def sgK(k:QA)(p:Qr):List Bool→List Sg→Bool
 |_, []=>true
 |had,s::l=>inn s.fWit 0 (((k.fWits.length:Nat):Int)-1)&&(!(had.getD s.fWit.toNat false)&&(decide (Qqp k s.fWit p=s.fTag)&&sgK k p (had.set s.fWit.toNat true) l))
def chkK(k:QA)(p:Qr):Int:=
 bif mayK k&&inn p.fSize 0 400 then(bif sgK k p [false,false,false,false] p.fSigs then(bif decide (((p.fSigs.length:Nat):Int)<k.fNeed)then 8 else 0)else 8)else 1
theorem Qvy{k:QA}{p:Qr}(hs:p.fSigs.length<1000)(ht:∀s∈p.fSigs,byH s.fTag):Qaa.f 1000000000000 k p=some (chkK k p):=by
 unfold Qaa.f chkK
 simp only[jn]
 rw[QmD]
 simp only[Qb]
 cases hm:mayK k with
 |false=>rfl
 | true =>
  have hl:=Qfi hm
  simp only[Bool.not_true,Qh,Bool.true_and]
  rw[jk]
  simp only[Qb]
  cases hz:inn p.fSize 0 400 with
  |false=>rfl
  | true=>
   simp only[Bool.not_true,Qh,Qg]
   have key:∀(m:List Sg) (i j:Nat) (had:List Bool),p.fSigs.drop i=m→i≤p.fSigs.length→m.length<j→had.length=4→Ja.l 1000000000000 k p j ((i:Int),had)=some (bif sgK k p had m then .inr ()else .inl 8):=by
    intro m
    induction m with
    |nil=>
     intro i j had hm hi hj hh
     obtain⟨j,rfl⟩:∃q,j=q+1:=⟨j-1,by simp at hj;omega⟩
     have hi2:p.fSigs.length≤i:=by simpa using hm
     show Ja.b 1000000000000 k p (Ja.l 1000000000000 k p j) ((i:Int),had)=_
     unfold Ja.b
     rw[Qi (QM (by simp only;omega))]
     rfl
    | cons s m ih=>
     intro i j had hm hi hj hh
     obtain⟨j,rfl⟩:∃q,j=q+1:=⟨j-1,by simp at hj;omega⟩
     have hlt:i<p.fSigs.length:=by
      have:=congrArg List.length hm
      simp at this;omega
     have hx:p.fSigs[i]?=some s:=by
      have:=congrArg (fun(l:List Sg)=>l[0]?) hm
      simpa using this
     have hd:p.fSigs.drop (i+1)=m:=by rw[←List.drop_drop,hm];rfl
     have hmem:s∈p.fSigs:=List.mem_of_getElem? hx
     show Ja.b 1000000000000 k p (Ja.l 1000000000000 k p j) ((i:Int),had)=_
     unfold Ja.b sgK
     rw[Qj (QS (by simp only;omega)),bnd (Qcw hx)]
     simp only[jn]
     rw[wrap64 (by omega) (by omega),jk]
     simp only[Qb]
     cases hw:inn s.fWit 0 (((k.fWits.length:Nat):Int)-1)with
     |false=>rfl
     | true=>
      have hw2:=qj.1 hw
      obtain⟨n,hn⟩:=Int.eq_ofNat_of_zero_le hw2.1
      have hn4:n<4:=by omega
      simp only[Bool.not_true,Qh,Bool.true_and,chk]
      rw[hn,Qj (Yz hn4),Int.toNat_natCast,JG,List.getElem?_eq_getElem (by omega)]
      simp only[Qb]
      have hg:had.getD n false=had[n]:=by rw[List.getD_eq_getElem?_getD,List.getElem?_eq_getElem (by omega)];rfl
      rw[hg]
      cases had[n]with
      |true=>rfl
      | false=>
       simp only[Qh,Bool.not_false,Bool.true_and]
       rw[bnd (Qqq k (n:Int) p).1]
       unfold yY.f
       rw[QmE (Qqq k (n:Int) p).2 (ht s hmem)]
       simp only[Qb]
       by_cases e:Qqp k (n:Int) p=s.fTag
       ·rw[QS e]
        simp only[Bool.not_true,Qh,Bool.true_and]
        rw[Qj (Yz hn4),wrap_succ (by omega)]
        exact ih (i+1) j _ hd (by omega) (by simp at hj;omega) (by simp[hh])
       ·rw[QM e]
        rfl
   have h:=key p.fSigs 0 1000000000000 [false,false,false,false] rfl (Nat.zero_le _) (by omega) rfl
   have h:Ja.l 1000000000000 k p 1000000000000 (0, [false,false,false,false])=_:=h
   rw[h]
   cases sgK k p [false,false,false,false] p.fSigs with
   |false=>rfl
   |true=>
    simp only[Qg,Qb]
    cases decide (((p.fSigs.length:Nat):Int)<k.fNeed)<;>rfl
def QmG(k:QA)(x:Rc):Bool:=Je x&&(decide (x.fKind=3)&&(QgF k x.fPart x.fEpoch&&decide (QrV k x=x.fTag)))
theorem Qr0{k:QA}{x:Rc}(hx:okD x)(ht:byH x.fTag):Qb2.f 1000000000000 k x=some (QmG k x):=by
 unfold Qb2.f QmG
 rw[bnd (Qqo k x).1]
 simp only[jn]
 rw[right_eq (Nat.le_refl _) hx]
 simp only[Qb]
 cases Je x with
 |false=>rfl
 | true=>
  cases decide (x.fKind=3)with
  |false=>rfl
  | true=>
   simp only[Qg,Bool.true_and]
   rw[Qi4]
   simp only[Qb]
   cases QgF k x.fPart x.fEpoch with
   |false=>rfl
   |true=>
    unfold yY.f
    rw[QmE (Qqo k x).2 ht]
    rfl
def rcK(k:QA)(x:Rc):Bool:= !decide (x.fKind=3)||QmG k x
theorem QnS{k:QA}{limit:Int}{x:Rc}(hx:okD x)(ht:byH x.fTag):Y0.fs 1000000000000 ⟨k,limit⟩ x=some (bif rcK k x then .inr ()else .inl 7):=by
 unfold Y0.fs rcK
 rw[Qr0 hx ht]
 cases decide (x.fKind=3)with
 |false=>rfl
 |true=>
  simp only[Bool.not_true,Qh,Qb,Bool.false_or]
  cases QmG k x<;>rfl
def Qr1(x:Rc):H32:=(yI.f 1000000000000 x).getD zH
theorem QmH{x:Rc}(hx:okD x)(hr:Je x=true):yI.f 1000000000000 x=some (Qr1 x):=by
 have hse:=Qua (K:=1000000000000) (Nat.le_refl _) hx
 rw[hr]at hse
 have hsl:=Qkt (K:=1000000000000) hr
 obtain⟨q,hq⟩:=QrR (b:=Qks 1000000000000 x) (by omega)
 have:yI.f 1000000000000 x=some q:=by
  unfold yI.f
  exact QI (x:=Qks 1000000000000 x) hse (QI hq rfl)
 unfold Qr1
 rw[this];rfl
def pc(n:Nat):Nat:=if n=0 then 0 else n%2+pc (n/2)
decreasing_by omega
theorem pc_0:pc 0=0:=by rw[pc];rfl
theorem pc_s{n:Nat}(h:n≠0):pc n=n%2+pc (n/2):=by rw[pc,if_neg h]
theorem Quf:∀(n:Nat),pc n≤n:=by
 intro n
 induction n using Nat.strongRecOn with
 | _ n ih=>
  by_cases h:n=0
  ·subst h;rw[pc_0];exact Nat.le_refl _
  ·rw[pc_s h]
   have:=ih (n/2) (by omega)
   omega
theorem Qr2:∀(c k:Nat) (l:List H32) (n:Int) (h:H32),c<k→l.length=pc c→c<1000000→∃r,Ji.l 1000000000000 k ((c:Int),l,n,h)=some r∧r.1.length+1=pc (c+1)∧r.2.1=n:=by
 intro c
 induction c using Nat.strongRecOn with
 | _ c ih=>
  intro k l n h hk hl hc
  obtain⟨k,rfl⟩:∃j,k=j+1:=⟨k-1,by omega⟩
  show ∃r,Ji.b 1000000000000 (Ji.l 1000000000000 k) ((c:Int),l,n,h)=some r∧_
  unfold Ji.b
  have e1:Int.tmod (c:Int) 2=((c%2:Nat):Int):=rfl
  have e2:Int.tdiv (c:Int) 2=((c/2:Nat):Int):=rfl
  simp only[e1,e2]
  by_cases h2:c%2=1
  ·rw[Qj (QS (by omega))]
   have hp:pc c=1+pc (c/2):=by rw[pc_s (by omega),h2]
   unfold qC.f
   have ew:IntKind.wrap .i64 (((l.length:Nat):Int)-1)=((l.length-1:Nat):Int):=by
    have:=Quf c
    rw[wrap64 (by omega) (by omega)];omega
   rw[ew]
   obtain⟨x,hx⟩:=Jd (l:=l) (i:=l.length-1) (by omega)
   rw[bnd hx,bnd hx,bnd (Qcl (by omega))]
   simp only[Qb]
   obtain⟨q,hq⟩:=Qfh x h
   refine Qq hq ?_
   rw[wrap64 (by omega) (by omega)]
   obtain⟨r,r1,r2,r3⟩:=ih (c/2) (by omega) k (l.take (l.length-1)) n q (by omega) (by simp;omega) (by omega)
   refine⟨r,r1,?_,r3⟩
   rw[r2,pc_s (n:=c+1) (by omega),show(c+1)%2=0 by omega,show(c+1)/2=c/2+1 by omega]
   omega
  ·rw[Qi (QM (by omega))]
   refine⟨_,rfl,?_,rfl⟩
   show l.length+1=_
   rw[pc_s (n:=c+1) (by omega),show(c+1)%2=1 by omega,show(c+1)/2=c/2 by omega,hl]
   by_cases h0:c=0
   ·subst h0;rw[show 0/2=0 by omega,pc_0]
   ·rw[pc_s h0];omega
theorem Qug{l:List H32}{n:Nat}(h:H32)(hl:l.length=pc n)(hn:n<100000):∃r,yP.f 1000000000000 h l (n:Int)=some (r,((n+1:Nat):Int))∧r.length=pc (n+1):=by
 unfold yP.f
 obtain⟨r,h1,h2,h3⟩:=Qr2 n 1000000000000 l (n:Int) h (by omega) hl (by omega)
 rw[bnd h1,h3]
 unfold J6.f
 have:=Quf (n+1)
 rw[bnd (Jk (by simp only[List.length_singleton];omega))]
 simp only[Qb]
 rw[wrap_succ (by omega)]
 exact⟨_,rfl,by simp;omega⟩
theorem Qqt{l:List H32}{n:Int}(hl:l.length<100000):∃r,yg.f 1000000000000 l n=some r:=by
 unfold yg.f XR.f J7.f
 simp only[Qb]
 cases decide (n=0)with
 |true=>
  obtain⟨r,hr,_⟩:=Qed (K:=1000000000000) (Nat.le_refl _) (x:= []) (by simp) (by simp)
  simp only[Qg]
  exact⟨_,QI hr rfl⟩
 | false=>
  simp only[Qh]
  have key:∀(j k:Nat) (h:H32) (f:Bool),j≤l.length→j<k→∃t,YE.l 1000000000000 (l,n) k ((j:Int)-1,h,f)=some t∧True:=by
   intro j
   induction j with
   |zero=>
    intro k h f hj hk
    obtain⟨k,rfl⟩:∃j,k=j+1:=⟨k-1,by omega⟩
    refine⟨(h,f),?_,trivial⟩
    show YE.b 1000000000000 (l,n) (YE.l 1000000000000 (l,n) k) (((0:Nat):Int)-1,h,f)=_
    unfold YE.b
    rw[Qi (by simp)]
   | succ j ih=>
    intro k h f hj hk
    obtain⟨k,rfl⟩:∃j,k=j+1:=⟨k-1,by omega⟩
    show ∃t,YE.b 1000000000000 (l,n) (YE.l 1000000000000 (l,n) k) (((j+1:Nat):Int)-1,h,f)=some t∧True
    have e:(((j+1:Nat):Int)-1)=(j:Int):=by omega
    rw[e]
    unfold YE.b
    rw[Qj (QS (by simp only;omega))]
    refine ZV (fun _=>True) (fun y _=> ?_) (fun g hg=> ?_)
    ·rw[wrap64 (by simp only;omega) (by simp only;omega)]
     exact ih k _ _ (by omega) (by omega)
    ·obtain⟨x,hx⟩:=Jd (l:=l) (i:=j) (by omega)
     refine Qq hx ?_
     refine Qq hx ?_
     cases f with
     |true=>exact hg _ trivial
     |false=>
      simp only[Qh]
      obtain⟨q,hq⟩:=Qfh x h
      refine Qq hq ?_
      exact hg _ trivial
  obtain⟨t,ht,_⟩:=key l.length 1000000000000 (Vector.replicate 32 0) true (Nat.le_refl _) (by omega)
  rw[wrap64 (by omega) (by omega),bnd ht]
  exact⟨_,rfl⟩
end Go.Proofs.YtomndohdnfebgaaGreatDoor
