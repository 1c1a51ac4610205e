/-
 Plain: the audit comes to a verdict.
-/
import Derived.Test.YtomndohdnfebgaaGreatDoorPureAk
namespace Go.Proofs.YtomndohdnfebgaaGreatDoor
open Go Go.Sep
abbrev Sa:=QL
abbrev Bk:=Yo
theorem Qay{α β:Type}{P:β→Prop}{g:α→Option β}{f:(α→Option β)→Option β}(Q:α→Prop)(hg:∀y,Q y→∃r,g y=some r∧P r)(hf:∀j:α→Option β,(∀y,Q y→∃r,j y=some r∧P r)→∃r,f j=some r∧P r):∃r,jn g f=some r∧P r:=hf g hg
theorem Ze{K:Nat}(a b c:Int):qX.f K a b c=some (inn a b c):=by
 unfold qX.f inn
 cases decide (b≤a)<;>rfl
theorem Qn4{K:Nat}(s:Sa):Qb5.f K s=some (inn s.fPhase 2 4):=by
 unfold Qb5.f
 rw[Ze];rfl
theorem Qpl(s:Sa)(h:s.fSteps.length<1000):∃r,yz.f 1000000000000 s=some r∧r<((s.fSteps.length:Nat):Int):=by
 have key:∀(j k:Nat),j≤s.fSteps.length→j<k→∃t,Yw.l 1000000000000 s s.fSteps k ((j:Int)-1)=some t∧(∀r,t= .inl r→r<((s.fSteps.length:Nat):Int)):=by
  intro j
  induction j with
  |zero=>
   intro k hj hk
   obtain⟨k,rfl⟩:∃j,k=j+1:=⟨k-1,by omega⟩
   refine⟨.inr (),?_,fun r e=>by cases e⟩
   show Yw.b 1000000000000 s s.fSteps (Yw.l 1000000000000 s s.fSteps k) (((0:Nat):Int)-1)=_
   unfold Yw.b
   rw[Qi (by simp)]
  | succ j ih=>
   intro k hj hk
   obtain⟨k,rfl⟩:∃j,k=j+1:=⟨k-1,by omega⟩
   show ∃t,Yw.b 1000000000000 s s.fSteps (Yw.l 1000000000000 s s.fSteps k) (((j+1:Nat):Int)-1)=some t∧_
   have e:(((j+1:Nat):Int)-1)=(j:Int):=by omega
   rw[e]
   unfold Yw.b
   rw[Qj (QT (by omega))]
   obtain⟨x,hx⟩:=Jq (l:=s.fSteps) (i:=j) (by omega)
   refine Qv hx ?_
   refine Qay (fun _=>True) (fun y _=> ?_) (fun g hg=> ?_)
   ·cases y with
    |true=>exact⟨_,rfl,fun r e=>by cases e;omega⟩
    |false=>
     rw[wrap64 (by omega) (by omega)]
     exact ih k (by omega) (by omega)
   ·cases decide (x.fKind=1)with
    |true=>
     simp only[Qg,chk]
     rw[Qj (by simp)]
     exact hg _ trivial
    |false=>exact hg _ trivial
 unfold yz.f QdM.f
 simp only[Qb]
 obtain⟨t,h1,h2⟩:=key s.fSteps.length 1000000000000 (Nat.le_refl _) (by omega)
 rw[wrap64 (by omega) (by omega),h1]
 cases t with
 |inl r=>exact⟨r,rfl,h2 r rfl⟩
 |inr u=>exact⟨-1,rfl,by omega⟩
theorem Qeg(s:Sa)(h:s.fSteps.length<1000):∃r,JW.f 1000000000000 s=some r∧r<((s.fSteps.length:Nat):Int):=by
 unfold JW.f
 by_cases h1:s.fPhase=1
 ·rw[Qj (QT h1)]
  obtain⟨r,hr,hl⟩:=Qpl s h
  exact⟨r,QD hr rfl,hl⟩
 rw[Qi (QG h1)]
 by_cases h2:s.fAt<((s.fSteps.length:Nat):Int)
 ·rw[Qj (QT h2)]
  exact⟨_,rfl,h2⟩
 ·rw[Qi (QG h2)]
  exact⟨_,rfl,by omega⟩
theorem Qpm(s:Sa)(q:Int):yz.f 1000000000000 {s with fSeq:=q}=yz.f 1000000000000 s:=by
 have key:∀(k:Nat) (y:Int),Yw.l 1000000000000 {s with fSeq:=q} s.fSteps k y=Yw.l 1000000000000 s s.fSteps k y:=by
  intro k
  induction k with
  |zero=>intro y;rfl
  |succ k ih=>
   intro y
   show Yw.b 1000000000000 {s with fSeq:=q} s.fSteps (Yw.l 1000000000000 {s with fSeq:=q} s.fSteps k) y=Yw.b 1000000000000 s s.fSteps (Yw.l 1000000000000 s s.fSteps k) y
   unfold Yw.b
   simp only[ih]
 unfold yz.f QdM.f
 simp only[Qb,key]
theorem step_seq(s:Sa)(q:Int):JW.f 1000000000000 {s with fSeq:=q}=JW.f 1000000000000 s:=by
 unfold JW.f
 simp only[Qpm]
theorem Qwo(s:Sa)(limit:Int)(h:s.fSteps.length<1000):∃r,QdN.f 1000000000000 s limit=some r:=by
 have :∃r,QdN.f 1000000000000 s limit=some r∧True:=by
  unfold QdN.f
  refine Qay (fun _=>True) (fun y _=> ?_) (fun g hg=> ?_)
  ·cases y with
   |true=>exact⟨_,rfl,trivial⟩
   | false=>
    simp only[Qh]
    obtain⟨r,hr,_⟩:=Qeg s h
    refine Qv hr ?_
    refine Qay (fun _=>True) (fun y _=> ?_) (fun g hg=> ?_)
    ·cases y with
     |true=>exact⟨_,rfl,trivial⟩
     | false=>
      simp only[Qh]
      cases decide (r<0)with
      |true=>exact⟨_,rfl,trivial⟩
      |false=>
       simp only[Qh]
       cases decide (s.fTries<limit)<;>exact⟨_,rfl,trivial⟩
    ·cases decide (r<0)<;>exact hg _ trivial
  ·cases s.fWait with
   |true=>exact hg _ trivial
   | false=>
    simp only[Qh]
    rw[Qn4]
    simp only[Qb]
    cases inn s.fPhase 2 4 with
    |true=>exact hg _ trivial
    | false=>
     simp only[Qh]
     cases decide (((s.fSteps.length:Nat):Int)=0)with
     |true=>exact hg _ trivial
     |false=>
      simp only[Qh]
      rw[Ze]
      exact hg _ trivial
 obtain⟨r,hr,_⟩:=this
 exact⟨r,hr⟩
theorem QlB{s:Sa}{x:Rc}{r:Int}(h:s.fSteps.length<1000)(hr:JW.f 1000000000000 s=some r)(h0:0≤r):∃t,X4.f 1000000000000 s x=some t∧t.fSteps=s.fSteps∧t.fSeq=s.fSeq:=by
 obtain⟨r',hr',hl⟩:=Qeg s h
 rw[hr]at hr'
 cases hr'
 unfold X4.f
 refine Qv hr ?_
 simp only[chk]
 rw[Qj (by simp[h0])]
 refine Qay (fun y=>y.fSteps=s.fSteps∧y.fSeq=s.fSeq) (fun y hy=>⟨_,rfl,hy⟩) (fun g hg=> ?_)
 refine Qay (fun _=>True) (fun y _=> ?_) (fun g2 hg2=> ?_)
 ·cases y with
  |true=>exact hg _ ⟨rfl,rfl⟩
  | false=>
   simp only[Qh]
   cases s.fBack with
   |true=>exact hg _ ⟨rfl,rfl⟩
   | false=>
    simp only[Qh]
    cases x.fGood with
    |true=>exact hg _ ⟨rfl,rfl⟩
    |false=>
     simp only[Qh]
     obtain⟨i,rfl⟩:=Int.eq_ofNat_of_zero_le h0
     obtain⟨z,hz⟩:=Jq (l:=s.fSteps) (i:=i) (by omega)
     refine Qv hz ?_
     cases (!decide (z.fKind=3))with
     |true=>exact hg _ ⟨rfl,rfl⟩
     |false=>exact hg _ ⟨rfl,rfl⟩
 ·cases s.fBack with
  |true=>exact hg2 _ trivial
  |false=>exact hg2 _ trivial
theorem Qpn{s:Sa}{limit r:Int}(h:s.fSteps.length<1000)(hr:JW.f 1000000000000 s=some r)(h0:0≤r):∃t,Qbe.f 1000000000000 s limit=some t∧t.fSteps=s.fSteps∧t.fSeq=s.fSeq:=by
 obtain⟨r',hr',hl⟩:=Qeg s h
 rw[hr]at hr'
 cases hr'
 unfold Qbe.f
 refine Qv hr ?_
 cases (!s.fBack)with
 |false=>exact⟨_,rfl,rfl,rfl⟩
 | true=>
  simp only[Qg,chk]
  rw[Qj (by simp[h0])]
  simp only[Qb]
  refine Qay (fun _=>True) (fun y _=> ?_) (fun g hg=> ?_)
  ·cases y with
   |true=>exact⟨_,rfl,rfl,rfl⟩
   |false=>exact⟨_,rfl,rfl,rfl⟩
  ·obtain⟨i,rfl⟩:=Int.eq_ofNat_of_zero_le h0
   obtain⟨z,hz⟩:=Jq (l:=s.fSteps) (i:=i) (by omega)
   refine Qv hz ?_
   cases decide (z.fKind=1)<;>exact hg _ trivial
theorem Qwp(s:Sa)(x:Rc)(limit:Int)(h:s.fSteps.length<1000)(h0:0≤x.fStep):∃r,Qbf.f 1000000000000 s x limit=some r∧(r.1.fSteps=s.fSteps∧(r.2=true→x.fKind=3→x.fStep<((s.fSteps.length:Nat):Int))∧(r.2=true→x.fSeq=s.fSeq∧inn s.fPhase 2 4=false∧r.1.fSeq=IntKind.wrap .i64 (s.fSeq+1))):=by
 unfold Qbf.f
 refine Qay (fun y=>y=false→x.fSeq=s.fSeq∧inn s.fPhase 2 4=false) (fun y hQ=> ?_) (fun g hg=> ?_)
 ·cases y with
  |true=>exact⟨_,rfl,rfl,fun e=>(by cases e),fun e=>(by cases e)⟩
  | false=>
   have hQ:=hQ rfl
   simp only[Qh,Qb]
   obtain⟨d,hd⟩:=Qwo s limit h
   refine Qv hd ?_
   refine Qay (fun _=>x.fKind=4→JW.f 1000000000000 s=some x.fStep) (fun y hy=> ?_) (fun g hg=> ?_)
   ·by_cases h4:x.fKind=4
    ·rw[Qi (by simp[h4])]
     obtain⟨t,ht,hs⟩:=Qpn (s:={s with fSeq:=IntKind.wrap .i64 (s.fSeq+1) }) (limit:=limit) h (by rw[step_seq];exact hy h4) h0
     exact⟨_,QD ht rfl,hs.1,fun _ k3=>(by omega),fun _=>⟨hQ.1,hQ.2,hs.2⟩⟩
    ·rw[Qj (by simp[h4])]
     exact⟨_,rfl,rfl,fun e=>(by cases e),fun e=>(by cases e)⟩
   ·by_cases h2:x.fKind=2
    ·rw[Qj (QT h2)]
     cases d.2 with
     |false=>exact⟨_,rfl,rfl,fun e=>(by cases e),fun e=>(by cases e)⟩
     |true=>
      simp only[Qg]
      unfold Qdi.f Zr.f
      simp only[Qb]
      generalize (decide (d.1.fKind=x.fKind)&&(decide (d.1.fStep=x.fStep)&&(decide (d.1.fTry=x.fTry)&&(d.1.fBack==x.fBack&&(decide (d.1.fEnd=x.fEnd)&&true)))))=b
      cases b
      ·exact⟨_,rfl,rfl,fun e=>(by cases e),fun e=>(by cases e)⟩
      ·exact⟨_,rfl,rfl,fun _ k3=>(by omega),fun _=>⟨hQ.1,hQ.2,rfl⟩⟩
    rw[Qi (QG h2)]
    by_cases h5:x.fKind=5
    ·rw[Qj (QT h5)]
     cases d.2 with
     |false=>exact⟨_,rfl,rfl,fun e=>(by cases e),fun e=>(by cases e)⟩
     |true=>
      simp only[Qg]
      unfold Qdi.f Zr.f
      simp only[Qb]
      generalize (decide (d.1.fKind=x.fKind)&&(decide (d.1.fStep=x.fStep)&&(decide (d.1.fTry=x.fTry)&&(d.1.fBack==x.fBack&&(decide (d.1.fEnd=x.fEnd)&&true)))))=b
      cases b
      ·exact⟨_,rfl,rfl,fun e=>(by cases e),fun e=>(by cases e)⟩
      ·exact⟨_,rfl,rfl,fun _ k3=>(by omega),fun _=>⟨hQ.1,hQ.2,rfl⟩⟩
    rw[Qi (QG h5)]
    refine Qay (fun y=>y=false→x.fKind≠3∧x.fKind≠4) (fun y hy=> ?_) (fun g4 hg4=> ?_)
    ·cases y with
     |false=>exact hg () (fun e=>absurd e (hy rfl).2)
     | true=>
      simp only[Qg]
      refine Qay (fun y=>y=false→JW.f 1000000000000 s=some x.fStep) (fun y hy=> ?_) (fun g1 hg1=> ?_)
      ·cases y with
       |true=>exact⟨_,rfl,rfl,fun e=>(by cases e),fun e=>(by cases e)⟩
       | false=>
        simp only[Qh]
        by_cases h3:x.fKind=3
        ·rw[Qj (QT h3)]
         obtain⟨t,ht,hs⟩:=QlB (s:={s with fSeq:=IntKind.wrap .i64 (s.fSeq+1) }) (x:=x) h (by rw[step_seq];exact hy rfl) h0
         refine⟨_,QD ht rfl,hs.1,fun _ _=> ?_,fun _=>⟨hQ.1,hQ.2,hs.2⟩⟩
         obtain⟨r',q1,q2⟩:=Qeg s h
         rw[hy rfl]at q1
         cases q1
         exact q2
        ·rw[Qi (QG h3)]
         exact hg () (fun _=>hy rfl)
      ·cases (!s.fWait)with
       |true=>exact hg1 true (fun e=>by cases e)
       | false=>
        simp only[Qh]
        obtain⟨r,hr,_⟩:=Qeg s h
        refine Qv hr ?_
        by_cases e:x.fStep=r
        ·rw[Qi (by simp[e])]
         have hq:JW.f 1000000000000 s=some x.fStep:=by rw[hr,e]
         cases (!decide (x.fTry=s.fTries))with
         |true=>exact hg1 true (fun e=>by cases e)
         |false=>exact hg1 _ (fun _=>hq)
        ·rw[Qj (by simp[e])]
         exact hg1 true (fun e=>by cases e)
    ·by_cases h3:x.fKind=3
     ·rw[Qj (QT h3)]
      exact hg4 true (fun e=>by cases e)
     ·rw[Qi (QG h3)]
      exact hg4 _ (fun e=>⟨h3,of_decide_eq_false e⟩)
 ·by_cases hsq:x.fSeq=s.fSeq
  ·rw[Qi (by simp[hsq])]
   cases decide (((s.fSteps.length:Nat):Int)=0)with
   |true=>exact hg true (fun e=>by cases e)
   | false=>
    simp only[Qh]
    rw[Qn4]
    simp only[Qb]
    refine Or.elim (Bool.eq_false_or_eq_true (inn s.fPhase 2 4)) (fun hph=> ?_) (fun hph=> ?_)
    ·rw[Qj hph]
     exact hg true (fun e=>by cases e)
    ·rw[Qi hph,Ze]
     exact hg _ (fun _=>⟨hsq,hph⟩)
  ·rw[Qj (by simp[hsq])]
   exact hg true (fun e=>by cases e)
theorem Qse(s:Sa)(x:Rc)(limit:Int)(h:s.fSteps.length<1000)(h0:0≤x.fStep):∃r,Qbf.f 1000000000000 s x limit=some r∧(r.1.fSteps=s.fSteps∧(r.2=true→x.fKind=3→x.fStep<((s.fSteps.length:Nat):Int))):=by
 obtain⟨r,h1,h2,h3,_⟩:=Qwp s x limit h h0
 exact⟨r,h1,h2,h3⟩
theorem Qf3(l:List Sp)(h:l.length<1000):∃r,yY.f 1000000000000 l=some r:=by
 unfold yY.f
 rw[Ze]
 simp only[Qb]
 cases inn ((l.length:Nat):Int) 1 6 with
 |false=>exact⟨_,rfl⟩
 | true=>
  simp only[Bool.not_true,Qh]
  have key:∀(m i k:Nat) (last:Int),i+m=l.length→m<k→∃t,JV.l 1000000000000 l k (last,(i:Int))=some t∧True:=by
   intro m
   induction m with
   |zero=>
    intro i k last hi hk
    obtain⟨k,rfl⟩:∃j,k=j+1:=⟨k-1,by omega⟩
    refine⟨.inr (),?_,trivial⟩
    show JV.b 1000000000000 l (JV.l 1000000000000 l k) (last,(i:Int))=_
    unfold JV.b
    rw[Qi (QG (by simp only;omega))]
   | succ m ih=>
    intro i k last hi hk
    obtain⟨k,rfl⟩:∃j,k=j+1:=⟨k-1,by omega⟩
    show ∃t,JV.b 1000000000000 l (JV.l 1000000000000 l k) (last,(i:Int))=some t∧True
    unfold JV.b
    rw[Qj (QT (by simp only;omega))]
    refine Qay (fun _=>True) (fun y _=> ?_) (fun g hg=> ?_)
    ·rw[wrap_succ (by omega)]
     exact ih (i+1) k y (by omega) (by omega)
    ·obtain⟨x,hx⟩:=Jq (l:=l) (i:=i) (by omega)
     refine Qv hx ?_
     refine Qay (fun _=>True) (fun y _=> ?_) (fun g2 hg2=> ?_)
     ·cases y with
      |true=>exact⟨_,rfl,trivial⟩
      |false=>
       simp only[Qh]
       cases decide (x.fKind=2)<;>exact hg _ trivial
     ·rw[Ze,Ze]
      simp only[Qb]
      cases (!inn x.fPart 0 3)<;>exact hg2 _ trivial
  obtain⟨t,ht,_⟩:=key l.length 0 1000000000000 1 (by omega) (by omega)
  have ht:JV.l 1000000000000 l 1000000000000 (1,0)=some t:=ht
  rw[ht]
  cases t<;>exact⟨_,rfl⟩
theorem QmZ(l:List Sp)(h:l.length<1000):∃r,X0.f 1000000000000 l=some r∧r.fSteps.length≤l.length:=by
 unfold X0.f
 obtain⟨b,hb⟩:=Qf3 l h
 refine Qv hb ?_
 cases b with
 |false=>exact⟨_,rfl,Nat.zero_le _⟩
 | true=>
  simp only[Bool.not_true,Qh]
  have h1:QJ.f 1000000000000 l=some l:=by
   unfold QJ.f
   rw[YQ (by rw[List.length_nil];omega)];rfl
  refine Qv h1 ?_
  exact⟨_,rfl,Nat.le_refl _⟩
structure okK(b:Bk):Prop where
 n:b.fSagas.length≤12
 s:∀s∈b.fSagas,s.fSteps.length≤6
theorem Qf4:okK ⟨Vector.replicate 4 0, []⟩:=⟨by simp,fun _ h=>by cases h⟩
theorem Qhx{l:List Sa}(h:l.length≤12):Q3.f 1000000000000 l=some l:=by
 unfold Q3.f
 rw[YQ (by rw[List.length_nil];omega)];rfl
theorem Qhy{α:Type}:∀{l:List α} {i:Nat} {x y:α},y∈l.set i x→y=x∨y∈l:=fun h=>(List.mem_or_eq_of_mem_set h).symm
def Qsf(b:Bk)(x:Rc)(limit:Int)(r:Bk×Bool):Prop:=∃s t,b.fSagas[x.fSaga.toNat]?=some s∧Qbf.f 1000000000000 s x limit=some (t,true)∧r.1.fSagas=b.fSagas.set x.fSaga.toNat t
def BkGo(b:Bk)(x:Rc)(limit:Int)(r:Bk×Bool):Prop:=r.2=true→Yx x=true∧((x.fKind=1∧x.fSaga=((b.fSagas.length:Nat):Int)∧yY.f 1000000000000 x.fSteps=some true∧∃s,X0.f 1000000000000 x.fSteps=some s∧r.1.fSagas=b.fSagas++ [s])∨(x.fKind≠1∧x.fKind≠6∧Qsf b x limit r)∨(x.fKind=6∧r.1.fSagas=b.fSagas))
theorem QtZ{b:Bk}{x:Rc}{limit:Int}(hb:okK b)(hs:0≤x.fSaga)(h0:0≤x.fStep):∃r,Zt.f 1000000000000 b x limit=some r∧okK r.1∧(r.2=true→Qsf b x limit r):=by
 unfold Zt.f
 by_cases h1:((b.fSagas.length:Nat):Int)≤x.fSaga
 ·rw[Qj (QT h1)]
  exact⟨_,rfl,hb,fun e=>by cases e⟩
 rw[Qi (QG h1)]
 obtain⟨i,hi⟩:=Int.eq_ofNat_of_zero_le hs
 rw[hi]
 obtain⟨s,hx⟩:=Jq (l:=b.fSagas) (i:=i) (by omega)
 have hm:s∈b.fSagas:=by rw[Jm]at hx;exact List.mem_of_getElem? hx
 have hs6:=hb.s s hm
 refine Qv hx ?_
 obtain⟨r,hr,hr2,_⟩:=Qse s x limit (by omega) h0
 refine Qv hr ?_
 obtain⟨t,g⟩:=r
 cases g with
 |false=>exact⟨_,rfl,hb,fun e=>by cases e⟩
 | true=>
  simp only[Bool.not_true,Qh]
  refine Qv (Qhx hb.n) ?_
  refine Qv hx ?_
  refine⟨_,rfl,⟨by simpa using hb.n,fun y hy=> ?_⟩,fun _=>⟨s,t,by rw[hi];rw[Jm]at hx;exact hx,hr,by rw[hi]⟩⟩
  rcases Qhy hy with rfl|hy
  ·have hr2:y.fSteps=s.fSteps:=hr2
   rw[hr2];exact hs6
  ·exact hb.s y hy
theorem Qt0{b:Bk}{x:Rc}{limit:Int}(hb:okK b)(hx:okD x):∃r,Qb6.f 1000000000000 b x limit=some r∧okK r.1∧BkGo b x limit r:=by
 unfold Qb6.f
 refine Qay (fun y=>y=false→Yx x=true) (fun y hy=> ?_) (fun g hg=> ?_)
 ·cases y with
  |true=>exact⟨_,rfl,hb,fun e=>by cases e⟩
  | false=>
   simp only[Qh]
   have hr:=hy rfl
   have hd:=QaX hr
   have hs:=hd.saga
   have hst:0≤x.fStep:=by
    by_cases k:x.fKind=2∨x.fKind=4∨x.fKind=3
    ·exact(hd.call k).2.1.1
    ·have hk:=hd.kept
     rw[hk]
     unfold QeQ
     rcases hd.kind with k1|k1|k1|k1|k1|k1
     ·rw[if_pos k1];cases x.fGone<;>exact Int.le_refl _
     ·exact absurd (.inl k1) k
     ·exact absurd (.inr (.inr k1)) k
     ·exact absurd (.inr (.inl k1)) k
     ·rw[if_neg (by omega),if_neg (by omega),if_neg (by omega),if_pos k1];exact Int.le_refl _
     ·rw[if_neg (by omega),if_neg (by omega),if_neg (by omega),if_neg (by omega),if_pos k1];exact Int.le_refl _
   have hp:0≤x.fPart∧x.fPart<4:=by
    unfold Yx Qcz at hr
    simp only[Qd,qm]at hr
    omega
   have hcall:=QtZ (limit:=limit) hb hs.1 hst
   by_cases k1:x.fKind=1
   ·rw [Qj (QT k1)]
    have hl:x.fSteps.length≤6:=by have:=qm.1 (hd.beg k1).1;omega
    have:∃r,Xt.f 1000000000000 b x limit=some r∧okK r.1∧(r.2=true→x.fSaga=((b.fSagas.length:Nat):Int)∧yY.f 1000000000000 x.fSteps=some true∧∃s,X0.f 1000000000000 x.fSteps=some s∧r.1.fSagas=b.fSagas++ [s]):=by
     unfold Xt.f
     refine Qay (fun y=>y=false→b.fSagas.length<12∧x.fSaga=((b.fSagas.length:Nat):Int)∧yY.f 1000000000000 x.fSteps=some true) (fun y hy=> ?_) (fun g hg=> ?_)
     ·cases y with
      |true=>exact⟨_,rfl,hb,fun e=>by cases e⟩
      |false=>
       simp only[Qh]
       refine Qv (Qhx hb.n) ?_
       obtain⟨s,h1,h2⟩:=QmZ x.fSteps (by omega)
       refine Qv h1 ?_
       obtain⟨hy1,hy2,hy3⟩:=hy rfl
       refine Qv (YQ (by simp only[List.length_singleton];omega)) ?_
       refine⟨_,rfl,⟨by simp;omega,fun y hy=> ?_⟩,fun _=>⟨hy2,hy3,s,h1,rfl⟩⟩
       rcases List.mem_append.1 hy with hy|hy
       ·exact hb.s y hy
       ·simp at hy;subst hy;omega
     ·by_cases hsl:x.fSaga=((b.fSagas.length:Nat):Int)
      ·rw[Qi (by simp[hsl])]
       by_cases h12:(12:Int)≤((b.fSagas.length:Nat):Int)
       ·rw[Qj (QT h12)]
        exact hg true (fun e=>by cases e)
       ·rw[Qi (QG h12)]
        obtain⟨q,hq⟩:=Qf3 x.fSteps (by omega)
        refine Qv hq ?_
        exact hg _ (fun e=>⟨by omega,hsl,by rw[hq];simpa using e⟩)
      ·rw[Qj (by simp[hsl])]
       exact hg true (fun e=>by cases e)
    obtain⟨r,h1,h2,h3⟩:=this
    exact⟨_,QD h1 rfl,h2,fun e=>⟨hr,.inl ⟨k1,h3 e⟩⟩⟩
   rw[Qi (QG k1)]
   by_cases k2:x.fKind=2
   ·rw[Qj (QT k2)]
    obtain⟨r,h1,h2,h3⟩:=hcall
    exact⟨_,QD h1 rfl,h2,fun e=>⟨hr,.inr (.inl ⟨k1,by omega,h3 e⟩)⟩⟩
   rw[Qi (QG k2)]
   by_cases k3:x.fKind=3
   ·rw [Qj (QT k3)]
    have:∃r,Qae.f 1000000000000 b x limit=some r∧okK r.1∧(r.2=true→Qsf b x limit r):=by
     unfold Qae.f
     refine Qay (fun _=>True) (fun y _=> ?_) (fun g hg=> ?_)
     ·cases y with
      |true=>exact⟨_,rfl,hb,fun e=>by cases e⟩
      |false=>
       simp only[Qh]
       obtain⟨r,h1,h2⟩:=hcall
       exact⟨_,QD h1 rfl,h2⟩
     ·by_cases h1:((b.fSagas.length:Nat):Int)≤x.fSaga
      ·rw[Qj (QT h1)]
       exact hg _ trivial
      rw[Qi (QG h1)]
      obtain⟨i,hi⟩:=Int.eq_ofNat_of_zero_le hs.1
      rw[hi]
      obtain⟨s,hx⟩:=Jq (l:=b.fSagas) (i:=i) (by omega)
      refine Qv hx ?_
      by_cases h2:((s.fSteps.length:Nat):Int)≤x.fStep
      ·rw[Qj (QT h2)]
       exact hg _ trivial
      rw[Qi (QG h2)]
      refine Qv hx ?_
      obtain⟨j,hj⟩:=Int.eq_ofNat_of_zero_le hst
      rw[hj]
      obtain⟨z,hz⟩:=Jq (l:=s.fSteps) (i:=j) (by omega)
      refine Qv hz ?_
      cases (!decide (z.fPart=x.fPart))with
      |true=>exact hg _ trivial
      |false=>
       simp only[Qh,chk]
       obtain⟨p,hpp⟩:=Int.eq_ofNat_of_zero_le hp.1
       rw[hpp,Qj (Yq (by omega))]
       exact hg _ trivial
    obtain⟨r,h1,h2,h3⟩:=this
    exact⟨_,QD h1 rfl,h2,fun e=>⟨hr,.inr (.inl ⟨k1,by omega,h3 e⟩)⟩⟩
   rw[Qi (QG k3)]
   by_cases k4:x.fKind=4
   ·rw[Qj (QT k4)]
    obtain⟨r,h1,h2,h3⟩:=hcall
    exact⟨_,QD h1 rfl,h2,fun e=>⟨hr,.inr (.inl ⟨k1,by omega,h3 e⟩)⟩⟩
   rw[Qi (QG k4)]
   by_cases k5:x.fKind=5
   ·rw[Qj (QT k5)]
    obtain⟨r,h1,h2,h3⟩:=hcall
    exact⟨_,QD h1 rfl,h2,fun e=>⟨hr,.inr (.inl ⟨k1,by omega,h3 e⟩)⟩⟩
   have k6:x.fKind=6:=by rcases hd.kind with k|k|k|k|k|k<;>first|exact k|(exfalso;omega)
   rw[Qi (QG k5),Qj (QT k6)]
   have:∃r,Qbg.f 1000000000000 b x limit=some r∧okK r.1∧r.1.fSagas=b.fSagas:=by
    unfold Qbg.f
    obtain⟨p,hpp⟩:=Int.eq_ofNat_of_zero_le hp.1
    simp only[chk]
    rw[hpp,Qj (Yq (by omega)),Qj (Yq (by omega))]
    cases (!decide (x.fEpoch=IntKind.wrap .i64 (vget b.fEpochs (Int.toNat ((p:Nat):Int))+1)))with
    |true=>exact⟨_,rfl,hb,rfl⟩
    |false=>exact⟨_,rfl,⟨hb.n,hb.s⟩,rfl⟩
   obtain⟨r,h1,h2,h3⟩:=this
   exact⟨_,QD h1 rfl,h2,fun _=>⟨hr,.inr (.inr ⟨k6,h3⟩)⟩⟩
 ·rw[right_eq (Nat.le_refl _) hx]
  simp only[Qb]
  cases hr:Yx x with
  |false=>exact hg true (fun e=>by cases e)
  |true=>
   simp only[Bool.not_true,Qh]
   cases decide (limit<1)with
   |true=>exact hg true (fun e=>by cases e)
   |false=>exact hg _ (fun _=>hr)
theorem Qsg{b:Bk}{x:Rc}{limit:Int}(hb:okK b)(hx:okD x):∃r,Qb6.f 1000000000000 b x limit=some r∧okK r.1:=by
 obtain⟨r,h1,h2,_⟩:=Qt0 (limit:=limit) hb hx
 exact⟨r,h1,h2⟩
theorem Qds(s:Sa):∃r,jq.f 1000000000000 s=some r:=by
 unfold jq.f
 cases decide (s.fPhase=2)<;>exact⟨_,rfl⟩
theorem Qpo{b:Bk}(hb:b.fSagas.length≤12):∃r,Xu.f 1000000000000 b=some r∧r.length=b.fSagas.length:=by
 unfold Xu.f
 have key:∀(m i k:Nat) (l:List Qu),i+m=b.fSagas.length→m<k→l.length=i→∃t,Yl.l 1000000000000 b k (l,(i:Int))=some t∧t.length=b.fSagas.length:=by
  intro m
  induction m with
  |zero=>
   intro i k l hi hk hl
   obtain⟨k,rfl⟩:∃j,k=j+1:=⟨k-1,by omega⟩
   refine⟨l,?_,by omega⟩
   show Yl.b 1000000000000 b (Yl.l 1000000000000 b k) (l,(i:Int))=_
   unfold Yl.b
   rw[Qi (QG (by simp only;omega))]
  |succ m ih=>
   intro i k l hi hk hl
   obtain⟨k,rfl⟩:∃j,k=j+1:=⟨k-1,by omega⟩
   show ∃t,Yl.b 1000000000000 b (Yl.l 1000000000000 b k) (l,(i:Int))=some t∧_
   unfold Yl.b
   rw[Qj (QT (by simp only;omega))]
   obtain⟨x,hx⟩:=Jq (l:=b.fSagas) (i:=i) (by omega)
   refine Qv hx ?_
   obtain⟨q,hq⟩:=Qds x
   refine Qv hq ?_
   refine Qv (YQ (by simp only[List.length_singleton];omega)) ?_
   rw[wrap_succ (by omega)]
   exact ih (i+1) k _ (by omega) (by omega) (by simp[hl])
 obtain⟨t,ht,hl⟩:=key b.fSagas.length 0 1000000000000 [] (by omega) (by omega) rfl
 have ht:Yl.l 1000000000000 b 1000000000000 ([],0)=some t:=ht
 exact⟨t,QD ht rfl,hl⟩
theorem Qhz{h:H32}(hb:isB (Ye h)):byH h:=fun j hj=>hb _ (by
 simp only[Ye,List.mem_map,List.mem_range]
 exact⟨j,hj,rfl⟩)
structure vBun(x:Bun):Prop where
 r:Qlo x
 d:∀y∈x.fItems,okD y.fRec
 b:∀y∈x.fItems,okB y.fRec
 s:∀s∈x.fPoint.fSigs,byH s.fTag
 root:byH x.fPoint.fRoot
 path:∀y∈x.fItems,∀h∈y.fPath,byH h
theorem Qsh{x:Bun}(h:QjV x)(hr:XQ x=true):vBun x:=
 ⟨Qlp hr,fun y hy=>((QjW h).items y hy).d,(QaZ h).recs,fun s hs=>Qhz ((QaZ h).tags s hs),Qhz (QaZ h).root,fun y hy z hz=>Qhz ((QaZ h).path y hy z hz)⟩
def sgK(k:Qq)(p:Qo):List Bool→List Sg→Bool
 |_, []=>true
 |had,s::l=>inn s.fWit 0 (((k.fWits.length:Nat):Int)-1)&&(!(had.getD s.fWit.toNat false)&&(decide (Qsb k s.fWit p=s.fTag)&&sgK k p (had.set s.fWit.toNat true) l))
def chkK(k:Qq)(p:Qo):Int:=
 bif mayK k&&inn p.fSize 0 400 then(bif sgK k p [false,false,false,false] p.fSigs then(bif decide (((p.fSigs.length:Nat):Int)<k.fNeed)then 8 else 0)else 8)else 1
theorem QxJ{k:Qq}{p:Qo}(hs:p.fSigs.length<1000)(ht:∀s∈p.fSigs,byH s.fTag):QaK.f 1000000000000 k p=some (chkK k p):=by
 unfold QaK.f chkK
 simp only[jn]
 rw[Qn2]
 simp only[Qb]
 cases hm:mayK k with
 |false=>rfl
 | true =>
  have hl:=Qj4 hm
  simp only[Bool.not_true,Qh,Bool.true_and]
  rw[jM]
  simp only[Qb]
  cases hz:inn p.fSize 0 400 with
  |false=>rfl
  | true=>
   simp only[Bool.not_true,Qh,Qg]
   have key:∀(m:List Sg) (i j:Nat) (had:List Bool),p.fSigs.drop i=m→i≤p.fSigs.length→m.length<j→had.length=4→Jo.l 1000000000000 k p j ((i:Int),had)=some (bif sgK k p had m then .inr ()else .inl 8):=by
    intro m
    induction m with
    |nil=>
     intro i j had hm hi hj hh
     obtain⟨j,rfl⟩:∃q,j=q+1:=⟨j-1,by simp at hj;omega⟩
     have hi2:p.fSigs.length≤i:=by simpa using hm
     show Jo.b 1000000000000 k p (Jo.l 1000000000000 k p j) ((i:Int),had)=_
     unfold Jo.b
     rw[Qi (QG (by simp only;omega))]
     rfl
    | cons s m ih=>
     intro i j had hm hi hj hh
     obtain⟨j,rfl⟩:∃q,j=q+1:=⟨j-1,by simp at hj;omega⟩
     have hlt:i<p.fSigs.length:=by
      have:=congrArg List.length hm
      simp at this;omega
     have hx:p.fSigs[i]?=some s:=by
      have:=congrArg (fun(l:List Sg)=>l[0]?) hm
      simpa using this
     have hd:p.fSigs.drop (i+1)=m:=by rw[←List.drop_drop,hm];rfl
     have hmem:s∈p.fSigs:=List.mem_of_getElem? hx
     show Jo.b 1000000000000 k p (Jo.l 1000000000000 k p j) ((i:Int),had)=_
     unfold Jo.b sgK
     rw[Qj (QT (by simp only;omega)),bnd (JJ hx)]
     simp only[jn]
     rw[wrap64 (by omega) (by omega),jM]
     simp only[Qb]
     cases hw:inn s.fWit 0 (((k.fWits.length:Nat):Int)-1)with
     |false=>rfl
     | true=>
      have hw2:=qm.1 hw
      obtain⟨n,hn⟩:=Int.eq_ofNat_of_zero_le hw2.1
      have hn4:n<4:=by omega
      simp only[Bool.not_true,Qh,Bool.true_and,chk]
      rw[hn,Qj (Yq hn4),Int.toNat_natCast,Jm,List.getElem?_eq_getElem (by omega)]
      simp only[Qb]
      have hg:had.getD n false=had[n]:=by rw[List.getD_eq_getElem?_getD,List.getElem?_eq_getElem (by omega)];rfl
      rw[hg]
      cases had[n]with
      |true=>rfl
      | false=>
       simp only[Qh,Bool.not_false,Bool.true_and]
       rw[bnd (Qsc k (n:Int) p).1]
       unfold XK.f
       rw[Qn3 (Qsc k (n:Int) p).2 (ht s hmem)]
       simp only[Qb]
       by_cases e:Qsb k (n:Int) p=s.fTag
       ·rw[QT e]
        simp only[Bool.not_true,Qh,Bool.true_and]
        rw[Qj (Yq hn4),wrap_succ (by omega)]
        exact ih (i+1) j _ hd (by omega) (by simp at hj;omega) (by simp[hh])
       ·rw[QG e]
        rfl
   have h:=key p.fSigs 0 1000000000000 [false,false,false,false] rfl (Nat.zero_le _) (by omega) rfl
   have h:Jo.l 1000000000000 k p 1000000000000 (0, [false,false,false,false])=_:=h
   rw[h]
   cases sgK k p [false,false,false,false] p.fSigs with
   |false=>rfl
   |true=>
    simp only[Qg,Qb]
    cases decide (((p.fSigs.length:Nat):Int)<k.fNeed)<;>rfl
def Qn5(k:Qq)(x:Rc):Bool:=Yx x&&(decide (x.fKind=3)&&(Qhw k x.fPart x.fEpoch&&decide (QtW k x=x.fTag)))
theorem Qt1{k:Qq}{x:Rc}(hx:okD x)(ht:byH x.fTag):QcN.f 1000000000000 k x=some (Qn5 k x):=by
 unfold QcN.f Qn5
 rw[bnd (Qsa k x).1]
 simp only[jn]
 rw[right_eq (Nat.le_refl _) hx]
 simp only[Qb]
 cases Yx x with
 |false=>rfl
 | true=>
  cases decide (x.fKind=3)with
  |false=>rfl
  | true=>
   simp only[Qg,Bool.true_and]
   rw[Qj5]
   simp only[Qb]
   cases Qhw k x.fPart x.fEpoch with
   |false=>rfl
   |true=>
    unfold XK.f
    rw[Qn3 (Qsa k x).2 ht]
    rfl
def rcK(k:Qq)(x:Rc):Bool:= !decide (x.fKind=3)||Qn5 k x
theorem QeX{k:Qq}{limit:Int}{x:Rc}(hx:okD x)(ht:byH x.fTag):Jf.fs 1000000000000 ⟨k,limit⟩ x=some (bif rcK k x then .inr ()else .inl 7):=by
 unfold Jf.fs rcK
 rw[Qt1 hx ht]
 cases decide (x.fKind=3)with
 |false=>rfl
 |true=>
  simp only[Bool.not_true,Qh,Qb,Bool.false_or]
  cases Qn5 k x<;>rfl
def Qa0(x:Rc):H32:=(jJ.f 1000000000000 x).getD zH
theorem Qf5{x:Rc}(hx:okD x)(hr:Yx x=true):jJ.f 1000000000000 x=some (Qa0 x):=by
 have hse:=Qr3 (K:=1000000000000) (Nat.le_refl _) hx
 rw[hr]at hse
 have hsl:=Qhv (K:=1000000000000) hr
 obtain⟨q,hq⟩:=Qn1 (b:=Qee 1000000000000 x) (by omega)
 have:jJ.f 1000000000000 x=some q:=by
  unfold jJ.f
  exact QD (x:=Qee 1000000000000 x) hse (QD hq rfl)
 unfold Qa0
 rw[this];rfl
def pc(n:Nat):Nat:=if n=0 then 0 else n%2+pc (n/2)
decreasing_by omega
theorem pc_0:pc 0=0:=by rw[pc];rfl
theorem pc_s{n:Nat}(h:n≠0):pc n=n%2+pc (n/2):=by rw[pc,if_neg h]
theorem Qwq:∀(n:Nat),pc n≤n:=by
 intro n
 induction n using Nat.strongRecOn with
 | _ n ih=>
  by_cases h:n=0
  ·subst h;rw[pc_0];exact Nat.le_refl _
  ·rw[pc_s h]
   have:=ih (n/2) (by omega)
   omega
theorem Qt2:∀(c k:Nat) (l:List H32) (n:Int) (h:H32),c<k→l.length=pc c→c<1000000→∃r,YN.l 1000000000000 k ((c:Int),l,n,h)=some r∧r.1.length+1=pc (c+1)∧r.2.1=n:=by
 intro c
 induction c using Nat.strongRecOn with
 | _ c ih=>
  intro k l n h hk hl hc
  obtain⟨k,rfl⟩:∃j,k=j+1:=⟨k-1,by omega⟩
  show ∃r,YN.b 1000000000000 (YN.l 1000000000000 k) ((c:Int),l,n,h)=some r∧_
  unfold YN.b
  have e1:Int.tmod (c:Int) 2=((c%2:Nat):Int):=rfl
  have e2:Int.tdiv (c:Int) 2=((c/2:Nat):Int):=rfl
  simp only[e1,e2]
  by_cases h2:c%2=1
  ·rw[Qj (QT (by omega))]
   have hp:pc c=1+pc (c/2):=by rw[pc_s (by omega),h2]
   unfold Jp.f
   have ew:IntKind.wrap .i64 (((l.length:Nat):Int)-1)=((l.length-1:Nat):Int):=by
    have:=Qwq c
    rw[wrap64 (by omega) (by omega)];omega
   rw[ew]
   obtain⟨x,hx⟩:=Jq (l:=l) (i:=l.length-1) (by omega)
   rw[bnd hx,bnd hx,bnd (QbD (by omega))]
   simp only[Qb]
   obtain⟨q,hq⟩:=Qef x h
   refine Qv hq ?_
   rw[wrap64 (by omega) (by omega)]
   obtain⟨r,r1,r2,r3⟩:=ih (c/2) (by omega) k (l.take (l.length-1)) n q (by omega) (by simp;omega) (by omega)
   refine⟨r,r1,?_,r3⟩
   rw[r2,pc_s (n:=c+1) (by omega),show(c+1)%2=0 by omega,show(c+1)/2=c/2+1 by omega]
   omega
  ·rw[Qi (QG (by omega))]
   refine⟨_,rfl,?_,rfl⟩
   show l.length+1=_
   rw[pc_s (n:=c+1) (by omega),show(c+1)%2=1 by omega,show(c+1)/2=c/2 by omega,hl]
   by_cases h0:c=0
   ·subst h0;rw[show 0/2=0 by omega,pc_0]
   ·rw[pc_s h0];omega
theorem Qwr{l:List H32}{n:Nat}(h:H32)(hl:l.length=pc n)(hn:n<100000):∃r,je.f 1000000000000 h l (n:Int)=some (r,((n+1:Nat):Int))∧r.length=pc (n+1):=by
 unfold je.f
 obtain⟨r,h1,h2,h3⟩:=Qt2 n 1000000000000 l (n:Int) h (by omega) hl (by omega)
 rw[bnd h1,h3]
 unfold JF.f
 have:=Qwq (n+1)
 rw[bnd (YQ (by simp only[List.length_singleton];omega))]
 simp only[Qb]
 rw[wrap_succ (by omega)]
 exact⟨_,rfl,by simp;omega⟩
theorem Qsi{l:List H32}{n:Int}(hl:l.length<100000):∃r,qH.f 1000000000000 l n=some r:=by
 unfold qH.f yX.f JG.f
 simp only[Qb]
 cases decide (n=0)with
 |true=>
  obtain⟨r,hr,_⟩:=Qdr (K:=1000000000000) (Nat.le_refl _) (x:= []) (by simp) (by simp)
  simp only[Qg]
  exact⟨_,QD hr rfl⟩
 | false=>
  simp only[Qh]
  have key:∀(j k:Nat) (h:H32) (f:Bool),j≤l.length→j<k→∃t,QU.l 1000000000000 (l,n) k ((j:Int)-1,h,f)=some t∧True:=by
   intro j
   induction j with
   |zero=>
    intro k h f hj hk
    obtain⟨k,rfl⟩:∃j,k=j+1:=⟨k-1,by omega⟩
    refine⟨(h,f),?_,trivial⟩
    show QU.b 1000000000000 (l,n) (QU.l 1000000000000 (l,n) k) (((0:Nat):Int)-1,h,f)=_
    unfold QU.b
    rw[Qi (by simp)]
   | succ j ih=>
    intro k h f hj hk
    obtain⟨k,rfl⟩:∃j,k=j+1:=⟨k-1,by omega⟩
    show ∃t,QU.b 1000000000000 (l,n) (QU.l 1000000000000 (l,n) k) (((j+1:Nat):Int)-1,h,f)=some t∧True
    have e:(((j+1:Nat):Int)-1)=(j:Int):=by omega
    rw[e]
    unfold QU.b
    rw[Qj (QT (by simp only;omega))]
    refine Qay (fun _=>True) (fun y _=> ?_) (fun g hg=> ?_)
    ·rw[wrap64 (by simp only;omega) (by simp only;omega)]
     exact ih k _ _ (by omega) (by omega)
    ·obtain⟨x,hx⟩:=Jq (l:=l) (i:=j) (by omega)
     refine Qv hx ?_
     refine Qv hx ?_
     cases f with
     |true=>exact hg _ trivial
     |false=>
      simp only[Qh]
      obtain⟨q,hq⟩:=Qef x h
      refine Qv hq ?_
      exact hg _ trivial
  obtain⟨t,ht,_⟩:=key l.length 1000000000000 (Vector.replicate 32 0) true (Nat.le_refl _) (by omega)
  rw[wrap64 (by omega) (by omega),bnd ht]
  exact⟨_,rfl⟩
end Go.Proofs.YtomndohdnfebgaaGreatDoor
