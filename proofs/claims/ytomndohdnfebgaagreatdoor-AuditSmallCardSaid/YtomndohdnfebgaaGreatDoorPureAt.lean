/-
 Plain: the audit comes to a verdict.
-/
import Derived.Test.YtomndohdnfebgaaGreatDoorPureAk
namespace Go.Proofs.YtomndohdnfebgaaGreatDoor
open Go Go.Sep
abbrev Sa:=QF
abbrev Bk:=Yi
theorem Qad{α β:Type}{P:β→Prop}{g:α→Option β}{f:(α→Option β)→Option β}(Q:α→Prop)(hg:∀y,Q y→∃r,g y=some r∧P r)(hf:∀j:α→Option β,(∀y,Q y→∃r,j y=some r∧P r)→∃r,f j=some r∧P r):∃r,jn g f=some r∧P r:=hf g hg
theorem XM{K:Nat}(a b c:Int):qM.f K a b c=some (inn a b c):=by
 unfold qM.f inn
 cases decide (b≤a)<;>rfl
theorem Qm5{K:Nat}(s:Sa):QbF.f K s=some (inn s.fPhase 2 4):=by
 unfold QbF.f
 rw[XM];rfl
theorem Qoi(s:Sa)(h:s.fSteps.length<1000):∃r,jR.f 1000000000000 s=some r∧r<((s.fSteps.length:Nat):Int):=by
 have key:∀(j k:Nat),j≤s.fSteps.length→j<k→∃t,Yn.l 1000000000000 s s.fSteps k ((j:Int)-1)=some t∧(∀r,t= .inl r→r<((s.fSteps.length:Nat):Int)):=by
  intro j
  induction j with
  |zero=>
   intro k hj hk
   obtain⟨k,rfl⟩:∃j,k=j+1:=⟨k-1,by omega⟩
   refine⟨.inr (),?_,fun r e=>by cases e⟩
   show Yn.b 1000000000000 s s.fSteps (Yn.l 1000000000000 s s.fSteps k) (((0:Nat):Int)-1)=_
   unfold Yn.b
   rw[Qi (by simp)]
  | succ j ih=>
   intro k hj hk
   obtain⟨k,rfl⟩:∃j,k=j+1:=⟨k-1,by omega⟩
   show ∃t,Yn.b 1000000000000 s s.fSteps (Yn.l 1000000000000 s s.fSteps k) (((j+1:Nat):Int)-1)=some t∧_
   have e:(((j+1:Nat):Int)-1)=(j:Int):=by omega
   rw[e]
   unfold Yn.b
   rw[Qj (QX (by omega))]
   obtain⟨x,hx⟩:=Ji (l:=s.fSteps) (i:=j) (by omega)
   refine Qq hx ?_
   refine Qad (fun _=>True) (fun y _=> ?_) (fun g hg=> ?_)
   ·cases y with
    |true=>exact⟨_,rfl,fun r e=>by cases e;omega⟩
    |false=>
     rw[wrap64 (by omega) (by omega)]
     exact ih k (by omega) (by omega)
   ·cases decide (x.fKind=1)with
    |true=>
     simp only[Qg,chk]
     rw[Qj (by simp)]
     exact hg _ trivial
    |false=>exact hg _ trivial
 unfold jR.f Qdk.f
 simp only[Qb]
 obtain⟨t,h1,h2⟩:=key s.fSteps.length 1000000000000 (Nat.le_refl _) (by omega)
 rw[wrap64 (by omega) (by omega),h1]
 cases t with
 |inl r=>exact⟨r,rfl,h2 r rfl⟩
 |inr u=>exact⟨-1,rfl,by omega⟩
theorem QdQ(s:Sa)(h:s.fSteps.length<1000):∃r,JL.f 1000000000000 s=some r∧r<((s.fSteps.length:Nat):Int):=by
 unfold JL.f
 by_cases h1:s.fPhase=1
 ·rw[Qj (QX h1)]
  obtain⟨r,hr,hl⟩:=Qoi s h
  exact⟨r,QI hr rfl,hl⟩
 rw[Qi (QN h1)]
 by_cases h2:s.fAt<((s.fSteps.length:Nat):Int)
 ·rw[Qj (QX h2)]
  exact⟨_,rfl,h2⟩
 ·rw[Qi (QN h2)]
  exact⟨_,rfl,by omega⟩
theorem Qoj(s:Sa)(q:Int):jR.f 1000000000000 {s with fSeq:=q}=jR.f 1000000000000 s:=by
 have key:∀(k:Nat) (y:Int),Yn.l 1000000000000 {s with fSeq:=q} s.fSteps k y=Yn.l 1000000000000 s s.fSteps k y:=by
  intro k
  induction k with
  |zero=>intro y;rfl
  |succ k ih=>
   intro y
   show Yn.b 1000000000000 {s with fSeq:=q} s.fSteps (Yn.l 1000000000000 {s with fSeq:=q} s.fSteps k) y=Yn.b 1000000000000 s s.fSteps (Yn.l 1000000000000 s s.fSteps k) y
   unfold Yn.b
   simp only[ih]
 unfold jR.f Qdk.f
 simp only[Qb,key]
theorem step_seq(s:Sa)(q:Int):JL.f 1000000000000 {s with fSeq:=q}=JL.f 1000000000000 s:=by
 unfold JL.f
 simp only[Qoj]
theorem QuT(s:Sa)(limit:Int)(h:s.fSteps.length<1000):∃r,Qdl.f 1000000000000 s limit=some r:=by
 have :∃r,Qdl.f 1000000000000 s limit=some r∧True:=by
  unfold Qdl.f
  refine Qad (fun _=>True) (fun y _=> ?_) (fun g hg=> ?_)
  ·cases y with
   |true=>exact⟨_,rfl,trivial⟩
   | false=>
    simp only[Qh]
    obtain⟨r,hr,_⟩:=QdQ s h
    refine Qq hr ?_
    refine Qad (fun _=>True) (fun y _=> ?_) (fun g hg=> ?_)
    ·cases y with
     |true=>exact⟨_,rfl,trivial⟩
     | false=>
      simp only[Qh]
      cases decide (r<0)with
      |true=>exact⟨_,rfl,trivial⟩
      |false=>
       simp only[Qh]
       cases decide (s.fTries<limit)<;>exact⟨_,rfl,trivial⟩
    ·cases decide (r<0)<;>exact hg _ trivial
  ·cases s.fWait with
   |true=>exact hg _ trivial
   | false=>
    simp only[Qh]
    rw[Qm5]
    simp only[Qb]
    cases inn s.fPhase 2 4 with
    |true=>exact hg _ trivial
    | false=>
     simp only[Qh]
     cases decide (((s.fSteps.length:Nat):Int)=0)with
     |true=>exact hg _ trivial
     |false=>
      simp only[Qh]
      rw[XM]
      exact hg _ trivial
 obtain⟨r,hr,_⟩:=this
 exact⟨r,hr⟩
theorem QkV{s:Sa}{x:Rc}{r:Int}(h:s.fSteps.length<1000)(hr:JL.f 1000000000000 s=some r)(h0:0≤r):∃t,XB.f 1000000000000 s x=some t∧t.fSteps=s.fSteps:=by
 obtain⟨r',hr',hl⟩:=QdQ s h
 rw[hr]at hr'
 cases hr'
 unfold XB.f
 refine Qq hr ?_
 simp only[chk]
 rw[Qj (by simp[h0])]
 refine Qad (fun y=>y.fSteps=s.fSteps) (fun y hy=>⟨_,rfl,hy⟩) (fun g hg=> ?_)
 refine Qad (fun _=>True) (fun y _=> ?_) (fun g2 hg2=> ?_)
 ·cases y with
  |true=>exact hg _ rfl
  | false=>
   simp only[Qh]
   cases s.fBack with
   |true=>exact hg _ rfl
   | false=>
    simp only[Qh]
    cases x.fGood with
    |true=>exact hg _ rfl
    |false=>
     simp only[Qh]
     obtain⟨i,rfl⟩:=Int.eq_ofNat_of_zero_le h0
     obtain⟨z,hz⟩:=Ji (l:=s.fSteps) (i:=i) (by omega)
     refine Qq hz ?_
     cases (!decide (z.fKind=3))with
     |true=>exact hg _ rfl
     |false=>exact hg _ rfl
 ·cases s.fBack with
  |true=>exact hg2 _ trivial
  |false=>exact hg2 _ trivial
theorem Qok{s:Sa}{limit r:Int}(h:s.fSteps.length<1000)(hr:JL.f 1000000000000 s=some r)(h0:0≤r):∃t,QaQ.f 1000000000000 s limit=some t∧t.fSteps=s.fSteps:=by
 obtain⟨r',hr',hl⟩:=QdQ s h
 rw[hr]at hr'
 cases hr'
 unfold QaQ.f
 refine Qq hr ?_
 cases (!s.fBack)with
 |false=>exact⟨_,rfl,rfl⟩
 | true=>
  simp only[Qg,chk]
  rw[Qj (by simp[h0])]
  simp only[Qb]
  refine Qad (fun _=>True) (fun y _=> ?_) (fun g hg=> ?_)
  ·cases y with
   |true=>exact⟨_,rfl,rfl⟩
   |false=>exact⟨_,rfl,rfl⟩
  ·obtain⟨i,rfl⟩:=Int.eq_ofNat_of_zero_le h0
   obtain⟨z,hz⟩:=Ji (l:=s.fSteps) (i:=i) (by omega)
   refine Qq hz ?_
   cases decide (z.fKind=1)<;>exact hg _ trivial
theorem Qts(s:Sa)(x:Rc)(limit:Int)(h:s.fSteps.length<1000)(h0:0≤x.fStep):∃r,Qf5.f 1000000000000 s x limit=some r∧(r.1.fSteps=s.fSteps∧(r.2=true→x.fKind=3→x.fStep<((s.fSteps.length:Nat):Int))):=by
 unfold Qf5.f
 refine Qad (fun _=>True) (fun y _=> ?_) (fun g hg=> ?_)
 ·cases y with
  |true=>exact⟨_,rfl,rfl,fun e=>by cases e⟩
  | false =>
   simp only[Qh,Qb]
   obtain⟨d,hd⟩:=QuT s limit h
   refine Qq hd ?_
   refine Qad (fun _=>x.fKind=4→JL.f 1000000000000 s=some x.fStep) (fun y hy=> ?_) (fun g hg=> ?_)
   ·by_cases h4:x.fKind=4
    ·rw[Qi (by simp[h4])]
     obtain⟨t,ht,hs⟩:=Qok (s:={s with fSeq:=IntKind.wrap .i64 (s.fSeq+1) }) (limit:=limit) h (by rw[step_seq];exact hy h4) h0
     exact⟨_,QI ht rfl,hs,fun _ k3=>by omega⟩
    ·rw[Qj (by simp[h4])]
     exact⟨_,rfl,rfl,fun e=>by cases e⟩
   ·by_cases h2:x.fKind=2
    ·rw[Qj (QX h2)]
     cases d.2 with
     |false=>exact⟨_,rfl,rfl,fun e=>by cases e⟩
     |true=>
      simp only[Qg]
      unfold QcO.f X9.f
      simp only[Qb]
      generalize (decide (d.1.fKind=x.fKind)&&(decide (d.1.fStep=x.fStep)&&(decide (d.1.fTry=x.fTry)&&(d.1.fBack==x.fBack&&(decide (d.1.fEnd=x.fEnd)&&true)))))=b
      cases b<;>exact⟨_,rfl,rfl,fun _ k3=>by omega⟩
    rw[Qi (QN h2)]
    by_cases h5:x.fKind=5
    ·rw[Qj (QX h5)]
     cases d.2 with
     |false=>exact⟨_,rfl,rfl,fun e=>by cases e⟩
     |true=>
      simp only[Qg]
      unfold QcO.f X9.f
      simp only[Qb]
      generalize (decide (d.1.fKind=x.fKind)&&(decide (d.1.fStep=x.fStep)&&(decide (d.1.fTry=x.fTry)&&(d.1.fBack==x.fBack&&(decide (d.1.fEnd=x.fEnd)&&true)))))=b
      cases b<;>exact⟨_,rfl,rfl,fun _ k3=>by omega⟩
    rw[Qi (QN h5)]
    refine Qad (fun y=>y=false→x.fKind≠3∧x.fKind≠4) (fun y hy=> ?_) (fun g4 hg4=> ?_)
    ·cases y with
     |false=>exact hg () (fun e=>absurd e (hy rfl).2)
     | true=>
      simp only[Qg]
      refine Qad (fun y=>y=false→JL.f 1000000000000 s=some x.fStep) (fun y hy=> ?_) (fun g1 hg1=> ?_)
      ·cases y with
       |true=>exact⟨_,rfl,rfl,fun e=>by cases e⟩
       | false=>
        simp only[Qh]
        by_cases h3:x.fKind=3
        ·rw[Qj (QX h3)]
         obtain⟨t,ht,hs⟩:=QkV (s:={s with fSeq:=IntKind.wrap .i64 (s.fSeq+1) }) (x:=x) h (by rw[step_seq];exact hy rfl) h0
         exact⟨_,QI ht rfl,hs,fun _ _=>by
          obtain⟨r',q1,q2⟩:=QdQ s h
          rw[hy rfl]at q1
          cases q1
          exact q2⟩
        ·rw[Qi (QN h3)]
         exact hg () (fun _=>hy rfl)
      ·cases (!s.fWait)with
       |true=>exact hg1 true (fun e=>by cases e)
       | false=>
        simp only[Qh]
        obtain⟨r,hr,_⟩:=QdQ s h
        refine Qq hr ?_
        by_cases e:x.fStep=r
        ·rw[Qi (by simp[e])]
         have hq:JL.f 1000000000000 s=some x.fStep:=by rw[hr,e]
         cases (!decide (x.fTry=s.fTries))with
         |true=>exact hg1 true (fun e=>by cases e)
         |false=>exact hg1 _ (fun _=>hq)
        ·rw[Qj (by simp[e])]
         exact hg1 true (fun e=>by cases e)
    ·by_cases h3:x.fKind=3
     ·rw[Qj (QX h3)]
      exact hg4 true (fun e=>by cases e)
     ·rw[Qi (QN h3)]
      exact hg4 _ (fun e=>⟨h3,of_decide_eq_false e⟩)
 ·cases (!decide (x.fSeq=s.fSeq))with
  |true=>exact hg _ trivial
  | false=>
   simp only[Qh]
   cases decide (((s.fSteps.length:Nat):Int)=0)with
   |true=>exact hg _ trivial
   | false=>
    simp only[Qh]
    rw[Qm5]
    simp only[Qb]
    cases inn s.fPhase 2 4 with
    |true=>exact hg _ trivial
    |false=>
     simp only[Qh]
     rw[XM]
     exact hg _ trivial
theorem Qjr(l:List Sp)(h:l.length<1000):∃r,Qci.f 1000000000000 l=some r:=by
 unfold Qci.f
 rw[XM]
 simp only[Qb]
 cases inn ((l.length:Nat):Int) 1 6 with
 |false=>exact⟨_,rfl⟩
 | true=>
  simp only[Bool.not_true,Qh]
  have key:∀(m i k:Nat) (last:Int),i+m=l.length→m<k→∃t,JK.l 1000000000000 l k (last,(i:Int))=some t∧True:=by
   intro m
   induction m with
   |zero=>
    intro i k last hi hk
    obtain⟨k,rfl⟩:∃j,k=j+1:=⟨k-1,by omega⟩
    refine⟨.inr (),?_,trivial⟩
    show JK.b 1000000000000 l (JK.l 1000000000000 l k) (last,(i:Int))=_
    unfold JK.b
    rw[Qi (QN (by simp only;omega))]
   | succ m ih=>
    intro i k last hi hk
    obtain⟨k,rfl⟩:∃j,k=j+1:=⟨k-1,by omega⟩
    show ∃t,JK.b 1000000000000 l (JK.l 1000000000000 l k) (last,(i:Int))=some t∧True
    unfold JK.b
    rw[Qj (QX (by simp only;omega))]
    refine Qad (fun _=>True) (fun y _=> ?_) (fun g hg=> ?_)
    ·rw[wrap_succ (by omega)]
     exact ih (i+1) k y (by omega) (by omega)
    ·obtain⟨x,hx⟩:=Ji (l:=l) (i:=i) (by omega)
     refine Qq hx ?_
     refine Qad (fun _=>True) (fun y _=> ?_) (fun g2 hg2=> ?_)
     ·cases y with
      |true=>exact⟨_,rfl,trivial⟩
      |false=>
       simp only[Qh]
       cases decide (x.fKind=2)<;>exact hg _ trivial
     ·rw[XM,XM]
      simp only[Qb]
      cases (!inn x.fPart 0 3)<;>exact hg2 _ trivial
  obtain⟨t,ht,_⟩:=key l.length 0 1000000000000 1 (by omega) (by omega)
  have ht:JK.l 1000000000000 l 1000000000000 (1,0)=some t:=ht
  rw[ht]
  cases t<;>exact⟨_,rfl⟩
theorem Qq1(l:List Sp)(h:l.length<1000):∃r,Qdj.f 1000000000000 l=some r∧r.fSteps.length≤l.length:=by
 unfold Qdj.f
 obtain⟨b,hb⟩:=Qjr l h
 refine Qq hb ?_
 cases b with
 |false=>exact⟨_,rfl,Nat.zero_le _⟩
 | true=>
  simp only[Bool.not_true,Qh]
  have h1:QK.f 1000000000000 l=some l:=by
   unfold QK.f
   rw[Jm (by rw[List.length_nil];omega)];rfl
  refine Qq h1 ?_
  exact⟨_,rfl,Nat.le_refl _⟩
structure okK(b:Bk):Prop where
 n:b.fSagas.length≤12
 s:∀s∈b.fSagas,s.fSteps.length≤6
theorem Qsy:okK ⟨Vector.replicate 4 0, []⟩:=⟨by simp,fun _ h=>by cases h⟩
theorem QgW{l:List Sa}(h:l.length≤12):QQ.f 1000000000000 l=some l:=by
 unfold QQ.f
 rw[Jm (by rw[List.length_nil];omega)];rfl
theorem Qmc{α:Type}:∀{l:List α} {i:Nat} {x y:α},y∈l.set i x→y=x∨y∈l:=fun h=>(List.mem_or_eq_of_mem_set h).symm
theorem Qsz{b:Bk}{x:Rc}{limit:Int}(hb:okK b)(hs:0≤x.fSaga)(h0:0≤x.fStep):∃r,Za.f 1000000000000 b x limit=some r∧okK r.1:=by
 unfold Za.f
 by_cases h1:((b.fSagas.length:Nat):Int)≤x.fSaga
 ·rw[Qj (QX h1)]
  exact⟨_,rfl,hb⟩
 rw[Qi (QN h1)]
 obtain⟨i,hi⟩:=Int.eq_ofNat_of_zero_le hs
 rw[hi]
 obtain⟨s,hx⟩:=Ji (l:=b.fSagas) (i:=i) (by omega)
 have hm:s∈b.fSagas:=by rw[Jy]at hx;exact List.mem_of_getElem? hx
 have hs6:=hb.s s hm
 refine Qq hx ?_
 obtain⟨r,hr,hr2,_⟩:=Qts s x limit (by omega) h0
 refine Qq hr ?_
 cases r.2 with
 |false=>exact⟨_,rfl,hb⟩
 |true=>
  simp only[Bool.not_true,Qh]
  refine Qq (QgW hb.n) ?_
  refine Qq hx ?_
  refine⟨_,rfl,by simpa using hb.n,fun y hy=> ?_⟩
  rcases Qmc hy with rfl|hy
  ·rw[hr2];exact hs6
  ·exact hb.s y hy
theorem QuU{b:Bk}{x:Rc}{limit:Int}(hb:okK b)(hx:okD x):∃r,Qim.f 1000000000000 b x limit=some r∧okK r.1:=by
 unfold Qim.f
 refine Qad (fun y=>y=false→Ja x=true) (fun y hy=> ?_) (fun g hg=> ?_)
 ·cases y with
  |true=>exact⟨_,rfl,hb⟩
  | false=>
   simp only[Qh]
   have hr:=hy rfl
   have hd:=QcI hr
   have hs:=hd.saga
   have hst:0≤x.fStep:=by
    by_cases k:x.fKind=2∨x.fKind=4∨x.fKind=3
    ·exact(hd.call k).2.1.1
    ·have hk:=hd.kept
     rw[hk]
     unfold Qff
     rcases hd.kind with k1|k1|k1|k1|k1|k1
     ·rw[if_pos k1];cases x.fGone<;>exact Int.le_refl _
     ·exact absurd (.inl k1) k
     ·exact absurd (.inr (.inr k1)) k
     ·exact absurd (.inr (.inl k1)) k
     ·rw[if_neg (by omega),if_neg (by omega),if_neg (by omega),if_pos k1];exact Int.le_refl _
     ·rw[if_neg (by omega),if_neg (by omega),if_neg (by omega),if_neg (by omega),if_pos k1];exact Int.le_refl _
   have hp:0≤x.fPart∧x.fPart<4:=by
    unfold Ja QcX at hr
    simp only[Qd,qR]at hr
    omega
   have hcall:=Qsz (limit:=limit) hb hs.1 hst
   by_cases k1:x.fKind=1
   ·rw [Qj (QX k1)]
    have hl:x.fSteps.length≤6:=by have:=qR.1 (hd.beg k1).1;omega
    have:∃r,Qcj.f 1000000000000 b x limit=some r∧okK r.1:=by
     unfold Qcj.f
     refine Qad (fun y=>y=false→b.fSagas.length<12) (fun y hy=> ?_) (fun g hg=> ?_)
     ·cases y with
      |true=>exact⟨_,rfl,hb⟩
      |false=>
       simp only[Qh]
       refine Qq (QgW hb.n) ?_
       obtain⟨s,h1,h2⟩:=Qq1 x.fSteps (by omega)
       refine Qq h1 ?_
       have:=hy rfl
       refine Qq (Jm (by simp only[List.length_singleton];omega)) ?_
       refine⟨_,rfl,by simp;omega,fun y hy=> ?_⟩
       rcases List.mem_append.1 hy with hy|hy
       ·exact hb.s y hy
       ·simp at hy;subst hy;omega
     ·cases (!decide (x.fSaga=((b.fSagas.length:Nat):Int)))with
      |true=>exact hg true (fun e=>by cases e)
      | false=>
       simp only[Qh]
       by_cases h12:(12:Int)≤((b.fSagas.length:Nat):Int)
       ·rw[Qj (QX h12)]
        exact hg true (fun e=>by cases e)
       ·rw[Qi (QN h12)]
        obtain⟨q,hq⟩:=Qjr x.fSteps (by omega)
        refine Qq hq ?_
        exact hg _ (fun _=>by omega)
    obtain⟨r,h1,h2⟩:=this
    exact⟨_,QI h1 rfl,h2⟩
   rw[Qi (QN k1)]
   by_cases k2:x.fKind=2
   ·rw[Qj (QX k2)]
    obtain⟨r,h1,h2⟩:=hcall
    exact⟨_,QI h1 rfl,h2⟩
   rw[Qi (QN k2)]
   by_cases k3:x.fKind=3
   ·rw [Qj (QX k3)]
    have:∃r,ZM.f 1000000000000 b x limit=some r∧okK r.1:=by
     unfold ZM.f
     refine Qad (fun _=>True) (fun y _=> ?_) (fun g hg=> ?_)
     ·cases y with
      |true=>exact⟨_,rfl,hb⟩
      |false=>
       simp only[Qh]
       obtain⟨r,h1,h2⟩:=hcall
       exact⟨_,QI h1 rfl,h2⟩
     ·by_cases h1:((b.fSagas.length:Nat):Int)≤x.fSaga
      ·rw[Qj (QX h1)]
       exact hg _ trivial
      rw[Qi (QN h1)]
      obtain⟨i,hi⟩:=Int.eq_ofNat_of_zero_le hs.1
      rw[hi]
      obtain⟨s,hx⟩:=Ji (l:=b.fSagas) (i:=i) (by omega)
      refine Qq hx ?_
      by_cases h2:((s.fSteps.length:Nat):Int)≤x.fStep
      ·rw[Qj (QX h2)]
       exact hg _ trivial
      rw[Qi (QN h2)]
      refine Qq hx ?_
      obtain⟨j,hj⟩:=Int.eq_ofNat_of_zero_le hst
      rw[hj]
      obtain⟨z,hz⟩:=Ji (l:=s.fSteps) (i:=j) (by omega)
      refine Qq hz ?_
      cases (!decide (z.fPart=x.fPart))with
      |true=>exact hg _ trivial
      |false=>
       simp only[Qh,chk]
       obtain⟨p,hpp⟩:=Int.eq_ofNat_of_zero_le hp.1
       rw[hpp,Qj (YB (by omega))]
       exact hg _ trivial
    obtain⟨r,h1,h2⟩:=this
    exact⟨_,QI h1 rfl,h2⟩
   rw[Qi (QN k3)]
   by_cases k4:x.fKind=4
   ·rw[Qj (QX k4)]
    obtain⟨r,h1,h2⟩:=hcall
    exact⟨_,QI h1 rfl,h2⟩
   rw[Qi (QN k4)]
   by_cases k5:x.fKind=5
   ·rw[Qj (QX k5)]
    obtain⟨r,h1,h2⟩:=hcall
    exact⟨_,QI h1 rfl,h2⟩
   have k6:x.fKind=6:=by rcases hd.kind with k|k|k|k|k|k<;>first|exact k|(exfalso;omega)
   rw[Qi (QN k5),Qj (QX k6)]
   have:∃r,QaR.f 1000000000000 b x limit=some r∧okK r.1:=by
    unfold QaR.f
    obtain⟨p,hpp⟩:=Int.eq_ofNat_of_zero_le hp.1
    simp only[chk]
    rw[hpp,Qj (YB (by omega)),Qj (YB (by omega))]
    cases (!decide (x.fEpoch=IntKind.wrap .i64 (vget b.fEpochs (Int.toNat ((p:Nat):Int))+1)))with
    |true=>exact⟨_,rfl,hb⟩
    |false=>exact⟨_,rfl,hb.n,hb.s⟩
   obtain⟨r,h1,h2⟩:=this
   exact⟨_,QI h1 rfl,h2⟩
 ·rw[right_eq (Nat.le_refl _) hx]
  simp only[Qb]
  cases hr:Ja x with
  |false=>exact hg true (fun e=>by cases e)
  |true=>
   simp only[Bool.not_true,Qh]
   cases decide (limit<1)with
   |true=>exact hg true (fun e=>by cases e)
   |false=>exact hg _ (fun _=>hr)
theorem QgX(s:Sa):∃r,Xn.f 1000000000000 s=some r:=by
 unfold Xn.f
 cases decide (s.fPhase=2)<;>exact⟨_,rfl⟩
theorem Qol{b:Bk}(hb:b.fSagas.length≤12):∃r,QaS.f 1000000000000 b=some r∧r.length=b.fSagas.length:=by
 unfold QaS.f
 have key:∀(m i k:Nat) (l:List Qv),i+m=b.fSagas.length→m<k→l.length=i→∃t,YZ.l 1000000000000 b k (l,(i:Int))=some t∧t.length=b.fSagas.length:=by
  intro m
  induction m with
  |zero=>
   intro i k l hi hk hl
   obtain⟨k,rfl⟩:∃j,k=j+1:=⟨k-1,by omega⟩
   refine⟨l,?_,by omega⟩
   show YZ.b 1000000000000 b (YZ.l 1000000000000 b k) (l,(i:Int))=_
   unfold YZ.b
   rw[Qi (QN (by simp only;omega))]
  |succ m ih=>
   intro i k l hi hk hl
   obtain⟨k,rfl⟩:∃j,k=j+1:=⟨k-1,by omega⟩
   show ∃t,YZ.b 1000000000000 b (YZ.l 1000000000000 b k) (l,(i:Int))=some t∧_
   unfold YZ.b
   rw[Qj (QX (by simp only;omega))]
   obtain⟨x,hx⟩:=Ji (l:=b.fSagas) (i:=i) (by omega)
   refine Qq hx ?_
   obtain⟨q,hq⟩:=QgX x
   refine Qq hq ?_
   refine Qq (Jm (by simp only[List.length_singleton];omega)) ?_
   rw[wrap_succ (by omega)]
   exact ih (i+1) k _ (by omega) (by omega) (by simp[hl])
 obtain⟨t,ht,hl⟩:=key b.fSagas.length 0 1000000000000 [] (by omega) (by omega) rfl
 have ht:YZ.l 1000000000000 b 1000000000000 ([],0)=some t:=ht
 exact⟨t,QI ht rfl,hl⟩
end Go.Proofs.YtomndohdnfebgaaGreatDoor
namespace Go.Proofs.YtomndohdnfebgaaGreatDoor
open Go Go.Sep
theorem QkW{h:H32}(hb:isB (Q9 h)):byH h:=fun j hj=>hb _ (by
 simp only[Q9,List.mem_map,List.mem_range]
 exact⟨j,hj,rfl⟩)
structure vBun(x:Bun):Prop where
 r:Qtp x
 d:∀y∈x.fItems,okD y.fRec
 b:∀y∈x.fItems,okB y.fRec
 s:∀s∈x.fPoint.fSigs,byH s.fTag
 root:byH x.fPoint.fRoot
 path:∀y∈x.fItems,∀h∈y.fPath,byH h
theorem QuV{x:Bun}(h:QkI x)(hr:QdM x=true):vBun x:=
 ⟨Qv9 hr,fun y hy=>((QmZ h).items y hy).d,(Qb8 h).recs,fun s hs=>QkW ((Qb8 h).tags s hs),QkW (Qb8 h).root,fun y hy z hz=>QkW ((Qb8 h).path y hy z hz)⟩
def sgK(k:QC)(p:Qu):List Bool→List Sg→Bool
 |_, []=>true
 |had,s::l=>inn s.fWit 0 (((k.fWits.length:Nat):Int)-1)&&(!(had.getD s.fWit.toNat false)&&(decide (QqY k s.fWit p=s.fTag)&&sgK k p (had.set s.fWit.toNat true) l))
def chkK(k:QC)(p:Qu):Int:=
 bif mayK k&&inn p.fSize 0 400 then(bif sgK k p [false,false,false,false] p.fSigs then(bif decide (((p.fSigs.length:Nat):Int)<k.fNeed)then 8 else 0)else 8)else 1
theorem Qwf{k:QC}{p:Qu}(hs:p.fSigs.length<1000)(ht:∀s∈p.fSigs,byH s.fTag):Qap.f 1000000000000 k p=some (chkK k p):=by
 unfold Qap.f chkK
 simp only[jn]
 rw[Qm3]
 simp only[Qb]
 cases hm:mayK k with
 |false=>rfl
 | true =>
  have hl:=Qjp hm
  simp only[Bool.not_true,Qh,Bool.true_and]
  rw[jy]
  simp only[Qb]
  cases hz:inn p.fSize 0 400 with
  |false=>rfl
  | true=>
   simp only[Bool.not_true,Qh,Qg]
   have key:∀(m:List Sg) (i j:Nat) (had:List Bool),p.fSigs.drop i=m→i≤p.fSigs.length→m.length<j→had.length=4→Jf.l 1000000000000 k p j ((i:Int),had)=some (bif sgK k p had m then .inr ()else .inl 8):=by
    intro m
    induction m with
    |nil=>
     intro i j had hm hi hj hh
     obtain⟨j,rfl⟩:∃q,j=q+1:=⟨j-1,by simp at hj;omega⟩
     have hi2:p.fSigs.length≤i:=by simpa using hm
     show Jf.b 1000000000000 k p (Jf.l 1000000000000 k p j) ((i:Int),had)=_
     unfold Jf.b
     rw[Qi (QN (by simp only;omega))]
     rfl
    | cons s m ih=>
     intro i j had hm hi hj hh
     obtain⟨j,rfl⟩:∃q,j=q+1:=⟨j-1,by simp at hj;omega⟩
     have hlt:i<p.fSigs.length:=by
      have:=congrArg List.length hm
      simp at this;omega
     have hx:p.fSigs[i]?=some s:=by
      have:=congrArg (fun(l:List Sg)=>l[0]?) hm
      simpa using this
     have hd:p.fSigs.drop (i+1)=m:=by rw[←List.drop_drop,hm];rfl
     have hmem:s∈p.fSigs:=List.mem_of_getElem? hx
     show Jf.b 1000000000000 k p (Jf.l 1000000000000 k p j) ((i:Int),had)=_
     unfold Jf.b sgK
     rw[Qj (QX (by simp only;omega)),bnd (QcM hx)]
     simp only[jn]
     rw[wrap64 (by omega) (by omega),jy]
     simp only[Qb]
     cases hw:inn s.fWit 0 (((k.fWits.length:Nat):Int)-1)with
     |false=>rfl
     | true=>
      have hw2:=qR.1 hw
      obtain⟨n,hn⟩:=Int.eq_ofNat_of_zero_le hw2.1
      have hn4:n<4:=by omega
      simp only[Bool.not_true,Qh,Bool.true_and,chk]
      rw[hn,Qj (YB hn4),Int.toNat_natCast,Jy,List.getElem?_eq_getElem (by omega)]
      simp only[Qb]
      have hg:had.getD n false=had[n]:=by rw[List.getD_eq_getElem?_getD,List.getElem?_eq_getElem (by omega)];rfl
      rw[hg]
      cases had[n]with
      |true=>rfl
      | false=>
       simp only[Qh,Bool.not_false,Bool.true_and]
       rw[bnd (QqZ k (n:Int) p).1]
       unfold Xm.f
       rw[Qm4 (QqZ k (n:Int) p).2 (ht s hmem)]
       simp only[Qb]
       by_cases e:QqY k (n:Int) p=s.fTag
       ·rw[QX e]
        simp only[Bool.not_true,Qh,Bool.true_and]
        rw[Qj (YB hn4),wrap_succ (by omega)]
        exact ih (i+1) j _ hd (by omega) (by simp at hj;omega) (by simp[hh])
       ·rw[QN e]
        rfl
   have h:=key p.fSigs 0 1000000000000 [false,false,false,false] rfl (Nat.zero_le _) (by omega) rfl
   have h:Jf.l 1000000000000 k p 1000000000000 (0, [false,false,false,false])=_:=h
   rw[h]
   cases sgK k p [false,false,false,false] p.fSigs with
   |false=>rfl
   |true=>
    simp only[Qg,Qb]
    cases decide (((p.fSigs.length:Nat):Int)<k.fNeed)<;>rfl
def Qm6(k:QC)(x:Rc):Bool:=Ja x&&(decide (x.fKind=3)&&(QgV k x.fPart x.fEpoch&&decide (Qsv k x=x.fTag)))
theorem QsA{k:QC}{x:Rc}(hx:okD x)(ht:byH x.fTag):Qch.f 1000000000000 k x=some (Qm6 k x):=by
 unfold Qch.f Qm6
 rw[bnd (QqX k x).1]
 simp only[jn]
 rw[right_eq (Nat.le_refl _) hx]
 simp only[Qb]
 cases Ja x with
 |false=>rfl
 | true=>
  cases decide (x.fKind=3)with
  |false=>rfl
  | true=>
   simp only[Qg,Bool.true_and]
   rw[Qjq]
   simp only[Qb]
   cases QgV k x.fPart x.fEpoch with
   |false=>rfl
   |true=>
    unfold Xm.f
    rw[Qm4 (QqX k x).2 ht]
    rfl
def rcK(k:QC)(x:Rc):Bool:= !decide (x.fKind=3)||Qm6 k x
theorem Qom{k:QC}{limit:Int}{x:Rc}(hx:okD x)(ht:byH x.fTag):Y6.fs 1000000000000 ⟨k,limit⟩ x=some (bif rcK k x then .inr ()else .inl 7):=by
 unfold Y6.fs rcK
 rw[QsA hx ht]
 cases decide (x.fKind=3)with
 |false=>rfl
 |true=>
  simp only[Bool.not_true,Qh,Qb,Bool.false_or]
  cases Qm6 k x<;>rfl
def QsB(x:Rc):H32:=(y7.f 1000000000000 x).getD zH
theorem Qm7{x:Rc}(hx:okD x)(hr:Ja x=true):y7.f 1000000000000 x=some (QsB x):=by
 have hse:=QuR (K:=1000000000000) (Nat.le_refl _) hx
 rw[hr]at hse
 have hsl:=QkU (K:=1000000000000) hr
 obtain⟨q,hq⟩:=Qsr (b:=QkT 1000000000000 x) (by omega)
 have:y7.f 1000000000000 x=some q:=by
  unfold y7.f
  exact QI (x:=QkT 1000000000000 x) hse (QI hq rfl)
 unfold QsB
 rw[this];rfl
def pc(n:Nat):Nat:=if n=0 then 0 else n%2+pc (n/2)
decreasing_by omega
theorem pc_0:pc 0=0:=by rw[pc];rfl
theorem pc_s{n:Nat}(h:n≠0):pc n=n%2+pc (n/2):=by rw[pc,if_neg h]
theorem QuW:∀(n:Nat),pc n≤n:=by
 intro n
 induction n using Nat.strongRecOn with
 | _ n ih=>
  by_cases h:n=0
  ·subst h;rw[pc_0];exact Nat.le_refl _
  ·rw[pc_s h]
   have:=ih (n/2) (by omega)
   omega
theorem QsC:∀(c k:Nat) (l:List H32) (n:Int) (h:H32),c<k→l.length=pc c→c<1000000→∃r,Jo.l 1000000000000 k ((c:Int),l,n,h)=some r∧r.1.length+1=pc (c+1)∧r.2.1=n:=by
 intro c
 induction c using Nat.strongRecOn with
 | _ c ih=>
  intro k l n h hk hl hc
  obtain⟨k,rfl⟩:∃j,k=j+1:=⟨k-1,by omega⟩
  show ∃r,Jo.b 1000000000000 (Jo.l 1000000000000 k) ((c:Int),l,n,h)=some r∧_
  unfold Jo.b
  have e1:Int.tmod (c:Int) 2=((c%2:Nat):Int):=rfl
  have e2:Int.tdiv (c:Int) 2=((c/2:Nat):Int):=rfl
  simp only[e1,e2]
  by_cases h2:c%2=1
  ·rw[Qj (QX (by omega))]
   have hp:pc c=1+pc (c/2):=by rw[pc_s (by omega),h2]
   unfold qL.f
   have ew:IntKind.wrap .i64 (((l.length:Nat):Int)-1)=((l.length-1:Nat):Int):=by
    have:=QuW c
    rw[wrap64 (by omega) (by omega)];omega
   rw[ew]
   obtain⟨x,hx⟩:=Ji (l:=l) (i:=l.length-1) (by omega)
   rw[bnd hx,bnd hx,bnd (Qbe (by omega))]
   simp only[Qb]
   obtain⟨q,hq⟩:=QfB x h
   refine Qq hq ?_
   rw[wrap64 (by omega) (by omega)]
   obtain⟨r,r1,r2,r3⟩:=ih (c/2) (by omega) k (l.take (l.length-1)) n q (by omega) (by simp;omega) (by omega)
   refine⟨r,r1,?_,r3⟩
   rw[r2,pc_s (n:=c+1) (by omega),show(c+1)%2=0 by omega,show(c+1)/2=c/2+1 by omega]
   omega
  ·rw[Qi (QN (by omega))]
   refine⟨_,rfl,?_,rfl⟩
   show l.length+1=_
   rw[pc_s (n:=c+1) (by omega),show(c+1)%2=1 by omega,show(c+1)/2=c/2 by omega,hl]
   by_cases h0:c=0
   ·subst h0;rw[show 0/2=0 by omega,pc_0]
   ·rw[pc_s h0];omega
theorem QuX{l:List H32}{n:Nat}(h:H32)(hl:l.length=pc n)(hn:n<100000):∃r,Xe.f 1000000000000 h l (n:Int)=some (r,((n+1:Nat):Int))∧r.length=pc (n+1):=by
 unfold Xe.f
 obtain⟨r,h1,h2,h3⟩:=QsC n 1000000000000 l (n:Int) h (by omega) hl (by omega)
 rw[bnd h1,h3]
 unfold qj.f
 have:=QuW (n+1)
 rw[bnd (Jm (by simp only[List.length_singleton];omega))]
 simp only[Qb]
 rw[wrap_succ (by omega)]
 exact⟨_,rfl,by simp;omega⟩
theorem Qq2{l:List H32}{n:Int}(hl:l.length<100000):∃r,yH.f 1000000000000 l n=some r:=by
 unfold yH.f X8.f ql.f
 simp only[Qb]
 cases decide (n=0)with
 |true=>
  obtain⟨r,hr,_⟩:=Qex (K:=1000000000000) (Nat.le_refl _) (x:= []) (by simp) (by simp)
  simp only[Qg]
  exact⟨_,QI hr rfl⟩
 | false=>
  simp only[Qh]
  have key:∀(j k:Nat) (h:H32) (f:Bool),j≤l.length→j<k→∃t,YH.l 1000000000000 (l,n) k ((j:Int)-1,h,f)=some t∧True:=by
   intro j
   induction j with
   |zero=>
    intro k h f hj hk
    obtain⟨k,rfl⟩:∃j,k=j+1:=⟨k-1,by omega⟩
    refine⟨(h,f),?_,trivial⟩
    show YH.b 1000000000000 (l,n) (YH.l 1000000000000 (l,n) k) (((0:Nat):Int)-1,h,f)=_
    unfold YH.b
    rw[Qi (by simp)]
   | succ j ih=>
    intro k h f hj hk
    obtain⟨k,rfl⟩:∃j,k=j+1:=⟨k-1,by omega⟩
    show ∃t,YH.b 1000000000000 (l,n) (YH.l 1000000000000 (l,n) k) (((j+1:Nat):Int)-1,h,f)=some t∧True
    have e:(((j+1:Nat):Int)-1)=(j:Int):=by omega
    rw[e]
    unfold YH.b
    rw[Qj (QX (by simp only;omega))]
    refine Qad (fun _=>True) (fun y _=> ?_) (fun g hg=> ?_)
    ·rw[wrap64 (by simp only;omega) (by simp only;omega)]
     exact ih k _ _ (by omega) (by omega)
    ·obtain⟨x,hx⟩:=Ji (l:=l) (i:=j) (by omega)
     refine Qq hx ?_
     refine Qq hx ?_
     cases f with
     |true=>exact hg _ trivial
     |false=>
      simp only[Qh]
      obtain⟨q,hq⟩:=QfB x h
      refine Qq hq ?_
      exact hg _ trivial
  obtain⟨t,ht,_⟩:=key l.length 1000000000000 (Vector.replicate 32 0) true (Nat.le_refl _) (by omega)
  rw[wrap64 (by omega) (by omega),bnd ht]
  exact⟨_,rfl⟩
end Go.Proofs.YtomndohdnfebgaaGreatDoor
