/-
 Plain: AuditAlone.
-/
import Derived.Test.YtomndohdnfebgaaGreatDoorPureBb
namespace Go.Proofs.YtomndohdnfebgaaGreatDoor
open Go Go.Sep
theorem Qzi{b:Bk}{x:Rc}{limit:Int}(hb:okK b)(hx:okD x):BkGo b x limit (goB b x limit):=by
 obtain⟨r,h1,_,h2⟩:=Qpi (limit:=limit) hb hx
 have:goB b x limit=r:=by unfold goB;rw[h1];rfl
 rw[this];exact h2
theorem Qx3{s t:Sa}{x:Rc}{limit:Int}(h:QaW.f 1000000000000 s x limit=some (t,true)):(goSt s x limit).2=true∧(goSt s x limit).1=t:=by
 unfold goSt;rw[h];exact⟨rfl,rfl⟩
def Goes(limit:Int)(as:List Rc)(s:Sa):Prop:=∃r rs,as=r::rs∧r.fKind=1∧(∀x∈rs,x.fKind≠1)∧Qf4 limit (Qja r.fSteps) rs=some s
theorem Goes.snoc{limit:Int}{as:List Rc}{s:Sa}{x:Rc}(h:Goes limit as s)(hk:x.fKind≠1)(hg:(goSt s x limit).2=true):Goes limit (as++ [x]) (goSt s x limit).1:=by
 obtain⟨r,rs,h1,h2,h3,h4⟩:=h
 refine⟨r,rs++ [x],by rw[h1];rfl,h2,fun y hy=> ?_,QmQ rs _ s h4 hg⟩
 rcases List.mem_append.1 hy with hy|hy
 ·exact h3 y hy
 ·rw[List.mem_singleton]at hy
  rw[hy];exact hk
def addP(sg:Nat)(as:List Rc)(x:Rc):List Rc:=as++(bif ownP (sg:Int) x then [x]else [])
theorem Qf5{sg:Nat}{as:List Rc}{x:Rc}(h:ownP (sg:Int) x=false):addP sg as x=as:=by unfold addP;rw[h];simp
theorem Qhc{sg:Nat}{as:List Rc}{x:Rc}(h:ownP (sg:Int) x=true):addP sg as x=as++ [x]:=by unfold addP;rw[h];rfl
theorem Qfj{sg:Nat}{x:Rc}:ownP (sg:Int) x=true↔0<x.fKind∧x.fKind<6∧x.fSaga=(sg:Int):=by
 unfold ownP
 simp
theorem QjP{sg:Nat}{x:Rc}(h: ¬(0<x.fKind∧x.fKind<6∧x.fSaga=(sg:Int))):ownP (sg:Int) x=false:=by
 cases hc:ownP (sg:Int) x with
 |false=>rfl
 |true=>exact absurd (Qfj.1 hc) h
theorem Qzj{x:Rc}(h:Yy x=true):0<x.fKind∧x.fKind≤6:=by
 have:=(Qag h).kind
 omega
def InvB(limit:Int)(sg:Nat)(as:List Rc)(b:Bk):Prop:=(as= []∧b.fSagas.length≤sg)∨∃s,Goes limit as s∧b.fSagas[sg]?=some s
theorem InvB.step{limit:Int}{sg:Nat}{as:List Rc}{b:Bk}{x:Rc}(hb:okK b)(hx:okD x)(h:InvB limit sg as b)(hg:(goB b x limit).2=true):InvB limit sg (addP sg as x) (goB b x limit).1:=by
 obtain⟨hr,hc⟩:=Qzi hb hx hg
 obtain⟨n,hn,hn12⟩:=Qa7 hr
 have hk:=Qzj hr
 rcases hc with⟨k1,e1,e2,s,e3,e4⟩|⟨k1,k6,s,t,e1,e2,e3⟩|⟨k6,e1⟩
 ·have hs:Qja x.fSteps=s:=by unfold Qja;rw[e3];rfl
  rw[hn]at e1
  have hnl:n=b.fSagas.length:=by omega
  by_cases hsg:n=sg
  ·rw[Qhc (Qfj.2 ⟨hk.1,by omega,by rw[hn,hsg]⟩)]
   rcases h with⟨h1,h2⟩|⟨s0,h1,h2⟩
   ·subst h1
    refine .inr ⟨s,⟨x, [],rfl,k1,fun _ h=>(by cases h),by rw[hs];rfl⟩,?_⟩
    rw[e4,←hsg,hnl]
    simp
   ·have:=(List.getElem?_eq_some_iff.1 h2).1;omega
  ·rw[Qf5 (QjP fun h=>hsg (by omega))]
   rcases h with⟨h1,h2⟩|⟨s0,h1,h2⟩
   ·exact .inl ⟨h1,by rw[e4];simp;omega⟩
   ·have:=(List.getElem?_eq_some_iff.1 h2).1
    exact .inr ⟨s0,h1,by rw[e4,List.getElem?_append_left this];exact h2⟩
 ·rw[hn,Int.toNat_natCast]at e1 e3
  have hnl:=(List.getElem?_eq_some_iff.1 e1).1
  obtain⟨q1,q2⟩:=Qx3 e2
  by_cases hsg:n=sg
  ·rw[Qhc (Qfj.2 ⟨hk.1,by omega,by rw[hn,hsg]⟩)]
   rcases h with⟨h1,h2⟩|⟨s0,h1,h2⟩
   ·omega
   ·rw[←hsg,e1]at h2
    cases h2
    refine .inr ⟨t,by rw[←q2];exact h1.snoc k1 q1,?_⟩
    rw[e3,←hsg,List.getElem?_set_self hnl]
  ·rw[Qf5 (QjP fun h=>hsg (by omega))]
   rcases h with⟨h1,h2⟩|⟨s0,h1,h2⟩
   ·exact .inl ⟨h1,by rw[e3];simpa using h2⟩
   ·exact .inr ⟨s0,h1,by rw[e3,List.getElem?_set_ne hsg];exact h2⟩
 ·rw[Qf5 (QjP fun h=>by omega)]
  rcases h with⟨h1,h2⟩|⟨s0,h1,h2⟩
  ·exact .inl ⟨h1,by rw[e1];exact h2⟩
  ·exact .inr ⟨s0,h1,by rw[e1];exact h2⟩
theorem QmT{sg:Nat}{as:List Rc}{x:Rc}{l:List Rc}:addP sg as x++l.filter (ownP (sg:Int))=as++(x::l).filter (ownP (sg:Int)):=by
 unfold addP
 rw[List.append_assoc,List.filter_cons]
 cases ownP (sg:Int) x<;>rfl
theorem Qpv{k:Qr}{limit:Int}{sg:Nat}:∀(l:List It) (as:List Rc) (b z:Bk),(∀y∈l,okD y.fRec)→okK b→InvB limit sg as b→runB k limit l b= .inr z→InvB limit sg (as++(l.map (·.fRec)).filter (ownP (sg:Int))) z
 | [],as,b,z,_,_,h,hr=>by cases hr;simpa using h
 | y::l,as,b,z,hd,hb,h,hr=>by
  unfold runB at hr
  cases h1:rcK k y.fRec with
  |false=>rw[h1]at hr;cases hr
  | true=>
   rw[h1]at hr
   simp only[Qg]at hr
   cases h2:(goB b y.fRec limit).2 with
   |false=>rw[h2]at hr;cases hr
   |true=>
    rw[h2]at hr
    have hy:=hd y List.mem_cons_self
    have:=Qpv l _ _ z (fun w hw=>hd w (List.mem_cons_of_mem _ hw)) (QtE (limit:=limit) hb hy).2 (h.step hb hy h2) hr
    rw[QmT]at this
    exact this
def sgA(sg:Nat)(st:StT):Sa:=st.2.2.getD sg Qw
def InvI(limit:Int)(sg:Nat)(as:List Rc)(st:StT):Prop:=
 ((sg:Int)∉st.2.1∧(st.1.getD sg false=false→as= []))∨(st.1.getD sg false=true∧Goes limit as (sgA sg st)∧(sgA sg st).fSteps.length≠0)
theorem QtS{l:List Sp}(hl:l.length<1000)(h:Qoe l=true):(Qja l).fSteps=l∧l.length≠0:=by
 have h1:=Qpm hl
 rw[h]at h1
 have hn:Xq.f 1000000000000 l=some {Qw with fSteps:=l,fSeq:=1}:=by
  unfold Xq.f
  rw[bnd h1]
  have h2:QF.f 1000000000000 l=some l:=by
   unfold QF.f
   rw[YX (by rw[List.length_nil];omega)];rfl
  simp only[Bool.not_true,Qh]
  rw[bnd h2]
  rfl
 refine⟨by unfold Qja;rw[hn];rfl,fun e=> ?_⟩
 have e:l= []:=List.eq_nil_of_length_eq_zero e
 subst e
 have:yQ.f 1000000000000 []=some false:=rfl
 rw[h1]at this
 cases this
theorem getD_set_ne{α:Type}{l:List α}{n m:Nat}{x d:α}(h:n≠m):(l.set n x).getD m d=l.getD m d:=by
 rw[List.getD_eq_getElem?_getD,List.getElem?_set_ne h,←List.getD_eq_getElem?_getD]
theorem Qam{α:Type}{l:List α}{n:Nat}{x d:α}(h:n<l.length):(l.set n x).getD n d=x:=by
 rw[List.getD_eq_getElem?_getD,List.getElem?_set_self h];rfl
theorem InvI.step{k:Qr}{limit:Int}{p:Qo}{sg:Nat}{as:List Rc}{y:It}{st z:StT}(hr:Yy y.fRec=true)(hs:okS st.1 st.2.1 st.2.2)(h:InvI limit sg as st)(he:QgQ k limit p y st= .inr z):InvI limit sg (addP sg as y.fRec) z:=by
 obtain⟨n,hn,hn12⟩:=Qa7 hr
 have hk:=Qzj hr
 have hl1:=hs.b
 have hl2:=hs.s
 unfold QgQ at he
 cases h1:inP p y with
 |false=>rw[h1]at he;cases he
 | true =>
  rw[h1]at he
  simp only[Qg]at he
  cases h2:rcK k y.fRec with
  |false=>rw[h2]at he;cases he
  | true=>
   rw[h2]at he
   simp only[Qg]at he
   by_cases k1:y.fRec.fKind=1
   ·rw [Qj (QK k1)]at he
    obtain⟨s,h4,rfl⟩:=Qfd he
    unfold begA at h4
    cases hc:(!(st.1.getD y.fRec.fSaga.toNat false)&&Qoe y.fRec.fSteps)with
    |false=>rw[hc]at h4;cases h4
    | true=>
     rw[hc]at h4
     cases h4
     rw[hn,Int.toNat_natCast,Qd]at hc
     obtain⟨hc1,hc2⟩:=hc
     have h6:=Qfb hr
     obtain⟨m1,m2⟩:=QtS (by omega) hc2
     by_cases hsg:n=sg
     ·subst hsg
      rw[Qhc (Qfj.2 ⟨hk.1,by omega,hn⟩)]
      rcases h with⟨h5,h6⟩|⟨h5,_⟩
      ·rw[h6 (by simpa using hc1)]
       refine .inr ⟨?_,?_,?_⟩
       ·simp only[hadA,hn,Int.toNat_natCast]
        exact Qam (by omega)
       ·unfold sgA
        simp only[hadA,hn,Int.toNat_natCast]
        rw[Qam (by omega)]
        exact⟨y.fRec, [],rfl,k1,fun _ h=>(by cases h),rfl⟩
       ·unfold sgA
        simp only[hadA,hn,Int.toNat_natCast]
        rw[Qam (by omega),m1]
        exact m2
      ·rw[h5]at hc1;cases hc1
     ·rw[Qf5 (QjP fun h=>hsg (by omega))]
      rcases h with⟨h5,h6⟩|⟨h5,h6,h7⟩
      ·refine .inl ⟨fun hm=> ?_,fun h8=>h6 ?_⟩
       ·rcases List.mem_append.1 hm with hm|hm
        ·exact h5 hm
        ·rw[List.mem_singleton]at hm;omega
       ·simp only[hadA,hn,Int.toNat_natCast]at h8
        rw[getD_set_ne hsg]at h8
        exact h8
      ·refine .inr ⟨?_,?_,?_⟩
       ·simp only[hadA,hn,Int.toNat_natCast]
        rw[getD_set_ne hsg];exact h5
       ·unfold sgA at h6⊢
        simp only[hadA,hn,Int.toNat_natCast]
        rw[getD_set_ne hsg];exact h6
       ·unfold sgA at h7⊢
        simp only[hadA,hn,Int.toNat_natCast]
        rw[getD_set_ne hsg];exact h7
   ·rw [Qi (QE k1)]at he
    by_cases k6:y.fRec.fKind=6
    ·rw[Qj (QK k6)]at he
     cases he
     rw[Qf5 (QjP fun h=>by omega)]
     exact h
    ·rw [Qi (QE k6)]at he
     obtain⟨s,h4,rfl⟩:=Qfd he
     have hsa:sagA y.fRec st=sgA n st:=by unfold sagA sgA;rw[hn];rfl
     have hord:s.2.1=st.2.1∧s.1=st.1∧(s.2.2=st.2.2∨((sgA n st).fSteps.length≠0∧(goSt (sgA n st) y.fRec limit).2=true∧s.2.2=st.2.2.set n (goSt (sgA n st) y.fRec limit).1))∧((sgA n st).fSteps.length≠0→(goSt (sgA n st) y.fRec limit).2=true∧s.2.2=st.2.2.set n (goSt (sgA n st) y.fRec limit).1):=by
      unfold Qjb at h4
      rw[hsa]at h4
      by_cases h0:(sgA n st).fSteps.length=0
      ·rw[Qj (QK h0)]at h4
       cases h4
       exact⟨rfl,rfl,.inl rfl,fun h=>absurd h0 h⟩
      ·rw[Qi (QE h0)]at h4
       cases hc:((goSt (sgA n st) y.fRec limit).2&&Qtz (sgA n st) y.fRec)with
       |false=>rw[hc]at h4;cases h4
       |true=>
        rw[hc]at h4
        cases h4
        rw[Qd]at hc
        rw[hn,Int.toNat_natCast]
        exact⟨rfl,rfl,.inr ⟨h0,hc.1,rfl⟩,fun _=>⟨hc.1,rfl⟩⟩
     obtain⟨o1,o2,o3,o4⟩:=hord
     by_cases hsg:n=sg
     ·subst hsg
      rw[Qhc (Qfj.2 ⟨hk.1,by omega,hn⟩)]
      have hh:(hadA y.fRec s).1.getD n false=true:=by
       simp only[hadA,hn,Int.toNat_natCast]
       exact Qam (by rw[o2];omega)
      rcases h with⟨h5,h6⟩|⟨h5,h6,h7⟩
      ·exact .inl ⟨by show(n:Int)∉s.2.1;rw[o1];exact h5,fun h8=>by rw[hh]at h8;cases h8⟩
      ·obtain⟨q1,q2⟩:=o4 h7
       have hz:sgA n (hadA y.fRec s)=(goSt (sgA n st) y.fRec limit).1:=by
        unfold sgA
        show s.2.2.getD n Qw=_
        rw[q2,Qam (by omega)];rfl
       refine .inr ⟨hh,by rw[hz];exact h6.snoc k1 q1,?_⟩
       have hm:=Qpo hr hs
       rw[hsa]at hm
       have h9:=hs.st _ hm
       rw[hz,(Qiz (by omega) (Qeg hr)).2.1]
       exact h7
     ·rw[Qf5 (QjP fun h=>hsg (by omega))]
      have hz:sgA sg (hadA y.fRec s)=sgA sg st:=by
       unfold sgA
       show s.2.2.getD sg Qw=_
       rcases o3 with o3|⟨_,_,o3⟩
       ·rw[o3]
       ·rw[o3,getD_set_ne hsg]
      have hh:(hadA y.fRec s).1.getD sg false=st.1.getD sg false:=by
       simp only[hadA,hn,Int.toNat_natCast]
       rw[getD_set_ne hsg,o2]
      rcases h with⟨h5,h6⟩|⟨h5,h6,h7⟩
      ·exact .inl ⟨by show(sg:Int)∉s.2.1;rw[o1];exact h5,fun h8=>h6 (by rw[hh]at h8;exact h8)⟩
      ·exact .inr ⟨by rw[hh];exact h5,by rw[hz];exact h6,by rw[hz];exact h7⟩
theorem Qpw{k:Qr}{limit:Int}{p:Qo}{sg:Nat}:∀(l:List It) (as:List Rc) (st z:StT),(∀y∈l,Yy y.fRec=true)→okS st.1 st.2.1 st.2.2→InvI limit sg as st→runI k limit p l st= .inr z→InvI limit sg (as++(l.map (·.fRec)).filter (ownP (sg:Int))) z
 | [],as,st,z,_,_,h,hr=>by cases hr;simpa using h
 | y::l,as,st,z,hd,hs,h,hr=>by
  unfold runI at hr
  cases hi:QgQ k limit p y st with
  |inl e=>rw[hi]at hr;cases hr
  |inr s=>
   rw[hi]at hr
   have hy:=hd y List.mem_cons_self
   have:=Qpw l _ _ z (fun w hw=>hd w (List.mem_cons_of_mem _ hw)) (Qli hy hs hi).1 (h.step hy hs hi) hr
   rw[QmT]at this
   exact this
theorem Qfk{x:Rc}:(redS 1000000000000 x).fKind=x.fKind∧(redS 1000000000000 x).fSaga=x.fSaga∧(redS 1000000000000 x).fSteps=x.fSteps:=by
 unfold redS
 cases h:begS x with
 |false=>exact⟨rfl,rfl,rfl⟩
 |true=>exact⟨(begD h).2.symm,rfl,rfl⟩
theorem Qpx{x:Rc}(h:x.fKind≠1):redS 1000000000000 x=x:=Qlb (by unfold begS;rw[QE h,Bool.and_false])
theorem QmU{α:Type}{f:Rc→α}{L:List Rc}{size:Int}:∀(l:List It) (lo:Int) (i:Nat),-1≤lo→yY false size lo i l=true→(∀y∈l,∃r,L[y.fAt.toNat]?=some r∧f r=f y.fRec)→(l.map fun y=>f y.fRec).Sublist ((L.drop (lo+1).toNat).map f)
 | [],_,_,_,_,_=>List.nil_sublist _
 | y::l,lo,i,hlo,h,hm=>by
  unfold yY Qir at h
  simp only[Qd]at h
  obtain⟨⟨_,h2,_,_⟩,h4⟩:=h
  have h2:=J8.1 h2
  obtain⟨r,hr,hf⟩:=hm y List.mem_cons_self
  have ih:=QmU l y.fAt (i+1) (by omega) h4 fun w hw=>hm w (List.mem_cons_of_mem _ hw)
  have hlt:=(List.getElem?_eq_some_iff.1 hr).1
  have hd:L.drop y.fAt.toNat=r::L.drop (y.fAt+1).toNat:=by
   rw[List.drop_eq_getElem_cons hlt,show y.fAt.toNat+1=(y.fAt+1).toNat by omega]
   rw[List.getElem?_eq_getElem hlt]at hr
   cases hr
   rfl
  have h5:((y::l).map fun y=>f y.fRec).Sublist ((L.drop y.fAt.toNat).map f):=by
   rw[hd,List.map_cons,List.map_cons,hf]
   exact .cons_cons _ ih
  have h6:(L.drop y.fAt.toNat).Sublist (L.drop (lo+1).toNat):=by
   have:L.drop y.fAt.toNat=(L.drop (lo+1).toNat).drop (y.fAt.toNat-(lo+1).toNat):=by
    rw[List.drop_drop]
    congr 1;omega
   rw[this]
   exact List.drop_sublist _ _
  exact h5.trans (h6.map f)
theorem Qvx{sg:Nat}{x:Rc}:ownP (sg:Int) (redS 1000000000000 x)=ownP (sg:Int) x:=by
 unfold ownP
 rw[Qfk.1,Qfk.2.1]
theorem Qpy{sg:Nat}{l:List Rc}:(l.map (redS 1000000000000)).filter (ownP (sg:Int))=(l.filter (ownP (sg:Int))).map (redS 1000000000000):=by
 rw[List.filter_map]
 congr 2
 funext x
 exact Qvx
theorem recOk{x:Rc}(h:Yy x=true):Qvw x:=by
 refine⟨Qeg h,?_⟩
 have hd:=Qag h
 have hk:=hd.kept
 by_cases k1:x.fKind=1
 ·have:x.fSeq=0:=by
   rw[hk];unfold Qe5;rw[if_pos k1];cases x.fGone<;>rfl
  omega
 by_cases k6:x.fKind=6
 ·have:x.fSeq=0:=by
   rw[hk];unfold Qe5;rw[if_neg (by omega),if_neg (by omega),if_neg (by omega),if_neg (by omega),if_pos k6]
  omega
 have hs:inn x.fSeq 1 400=true:=by
  unfold Yy Qdk at h
  rw[QE k1]at h
  simp only[Qd,Qh]at h
  cases hc:(decide (x.fKind=2)||(decide (x.fKind=4)||decide (x.fKind=3)))with
  |true=>
   simp only[hc,Qg,Qd]at h
   simp[h]
  |false=>
   simp only[Bool.or_eq_false_iff,decide_eq_false_iff_not]at hc
   have k5:x.fKind=5:=by rcases hd.kind with k|k|k|k|k|k<;>omega
   have hc2:(decide (x.fKind=2)||(decide (x.fKind=4)||decide (x.fKind=3)))=false:=by simp[k5]
   simp only[hc2,Qh,QK k5,Qg,Qd]at h
   simp[h]
 have:=J8.1 hs
 omega
theorem QqQ{k:Qr}{limit:Int}{x y:Bun}(hvx:vBun x)(hvy:vBun y)(hw:x.fWhole=false){zz:StT}{z:Bk}(hx:runI k limit x.fPoint x.fItems st0= .inr zz)(hy:runB k limit y.fItems bk0= .inr z)
  (hm:∀w∈x.fItems,∃r,(JM y)[w.fAt.toNat]?=some r∧redS 1000000000000 r=redS 1000000000000 w.fRec) {sg:Nat} (hsg:(sg:Int)∈zz.2.1) (hp:inn (sgA sg zz).fPhase 2 4=true):
  ((JM x).filter (ownP (sg:Int))).map (redS 1000000000000)=((JM y).filter (ownP (sg:Int))).map (redS 1000000000000)∧z.fSagas[sg]?=some (sgA sg zz):=by
 have hI:=Qpw (sg:=sg) x.fItems [] st0 zz (fun w hw=>(hvx.r.items w hw).1) Qfc (.inl ⟨by simp[st0],fun _=>rfl⟩) hx
 have hB:=Qpv (sg:=sg) y.fItems [] bk0 z hvy.d Qg9 (.inl ⟨rfl,Nat.zero_le _⟩) hy
 rw[List.nil_append]at hI hB
 have hox:=hvx.r.ok
 rw[hw]at hox
 have hsub:=QmU (f:=redS 1000000000000) (L:=JM y) x.fItems (-1) 0 (by omega) hox hm
 rw[show((-1:Int)+1).toNat=0 from rfl,List.drop_zero,show(x.fItems.map fun w=>redS 1000000000000 w.fRec)=(JM x).map (redS 1000000000000) by unfold JM;rw[List.map_map];rfl]at hsub
 have hsub:=hsub.filter (ownP (sg:Int))
 rw[Qpy,Qpy]at hsub
 rcases hI with⟨h1,_⟩|⟨_,⟨r,rs,e1,e2,e3,e4⟩,h0⟩
 ·exact absurd hsg h1
 change (JM x).filter (ownP (sg:Int))=r::rs at e1
 rw[e1,List.map_cons]at hsub
 rcases hB with⟨h1,_⟩|⟨s,⟨q,qs,f1,f2,f3,f4⟩,h2⟩
 ·change (JM y).filter (ownP (sg:Int))= []at h1
  rw[h1]at hsub
  cases hsub
 change (JM y).filter (ownP (sg:Int))=q::qs at f1
 rw[f1,List.map_cons]at hsub
 have m1:rs.map (redS 1000000000000)=rs:=by
  conv=>rhs;rw[←List.map_id rs]
  exact List.map_congr_left fun w hw=>Qpx (e3 w hw)
 have m2:qs.map (redS 1000000000000)=qs:=by
  conv=>rhs;rw[←List.map_id qs]
  exact List.map_congr_left fun w hw=>Qpx (f3 w hw)
 rw[m1,m2]at hsub
 have hoq:∀w∈qs,Qvw w:=fun w hw=>by
  have:w∈(JM y).filter (ownP (sg:Int)):=by rw[f1];exact List.mem_cons_of_mem _ hw
  obtain⟨v,hv,rfl⟩:=List.mem_map.1 (List.mem_filter.1 this).1
  exact recOk (hvy.r.items v hv).1
 have hmr:r∈(JM x).filter (ownP (sg:Int)):=by rw[e1];exact List.mem_cons_self
 have hrr:Yy r=true:=by
  obtain⟨v,hv,rfl⟩:=List.mem_map.1 (List.mem_filter.1 hmr).1
  exact(hvx.r.items v hv).1
 generalize hR:redS 1000000000000 r=R at hsub
 generalize hQ:redS 1000000000000 q=Q at hsub
 cases hsub with
 |cons _ h=>
  have h3:R∈qs:=h.subset List.mem_cons_self
  have h4:=f3 R h3
  rw[←hR,Qfk.1]at h4
  exact absurd e2 h4
 |cons_cons _ h=>
  have hst:q.fSteps=r.fSteps:=by rw[←(Qfk (x:=q)).2.2,hQ,←hR,Qfk.2.2]
  rw[hst]at f4
  have h6:=Qfb hrr
  have hns:=(Qlh (l:=r.fSteps) (by omega)).2
  have:=QmS qs rs _ _ _ (by omega) hoq h e4 f4 hp
  subst this
  rw[e4]at f4
  cases f4
  refine⟨?_,h2⟩
  rw[e1,f1,List.map_cons,List.map_cons,hR,hQ]
theorem Qvy{sg:List Int}{l:List Qq}{n:Int}(h:ovD sg l n false sg.length=true):∃(i:Nat) (x:Qq),sg[i]?=some n∧l[i]?=some x∧inn x.fPhase 2 4=true:=by
 unfold ovD at h
 rw[List.take_length]at h
 cases hf:sg.findIdx? (fun s=>decide (s=n))with
 |none=>rw[hf]at h;cases h
 | some i=>
  rw[hf]at h
  obtain⟨h1,h2,_⟩:=List.findIdx?_eq_some_iff_getElem.1 hf
  simp only[ovL]at h
  cases hx:l[i]? with
  |none=>rw[hx]at h;cases h
  |some x=>
   rw[hx]at h
   exact⟨i,x,by rw[List.getElem?_eq_getElem h1,of_decide_eq_true h2],hx,h⟩
theorem Qvz{p:Qo}{y:It}(hW:y.fPath.length<1000000){i n:Nat}(ha:y.fAt=(i:Int))(hs:p.fSize=(n:Int))(hi:i<n)(hn:n≤401)(hb:byH p.fRoot)(hl:byH (yh y.fRec))(h:inP p y=true):Qal y.fPath.reverse n i (yh y.fRec)=some (p.fRoot, []):=by
 obtain⟨r,h1,h2⟩:=Qlm hW hi hn (yh y.fRec)
 have h3:=Qwl (p:=p) (y:=y) hW (by omega)
 rw[h]at h3
 unfold QbM.f at h3
 rw[ha,hs,h1]at h3
 simp only[Qb]at h3
 obtain⟨g,t⟩:=r
 cases t with
 |false=>cases h3
 | true =>
  have hg:=(h2 g).1 rfl
  have hby:byH g:=by
   have :∀(P:List H32) (n i:Nat) (l g:H32),byH l→Qal P n i l=some (g, [])→byH g:=by
    intro P
    cases P with
    |nil=>
     intro n i l g hl h
     simp only[Qal]at h
     split at h
     ·cases h;exact hl
     ·cases h
    | cons x P=>
     intro n i l g hl h
     simp only[Qal]at h
     split at h
     ·cases h
     ·split at h
      ·split at h
       ·simp only[Qa,Qe]at h
        rw[←h.1];exact Qfi _ _
       ·cases h
      ·split at h
       ·simp only[Qa,Qe]at h
        rw[←h.1];exact Qfi _ _
       ·cases h
   exact this _ _ _ _ _ hl hg
  simp only[Qg]at h3
  rw[Qlg hby hb]at h3
  have:g=p.fRoot:=by simpa using h3
  rw[←this];exact hg
theorem Qom{size:Int}:∀{l:List It} {last:Int} {i:Nat},yY false size last i l=true→ -1≤last→∀y∈l,0≤y.fAt∧y.fAt<size:=by
 intro l
 induction l with
 |nil=>intro last i _ _ y hy;cases hy
 |cons x l ih=>
  intro last i h hl y hy
  unfold yY Qir at h
  simp only[Qd]at h
  obtain⟨⟨_,h2,_,_⟩,h4⟩:=h
  have h2:=J8.1 h2
  rcases List.mem_cons.1 hy with rfl|hy
  ·omega
  ·exact ih h4 (by omega) y hy
theorem Qon{x:Rc}(hx:okD x)(hr:Yy x=true):yh x=Qfh (QcC 1000000000000 x):=
 QjN hx hr (Qhb (by have:=Xy (K:=1000000000000) hr;omega))
theorem Qpz{x:Rc}(hx:okD x)(hr:Yy x=true):byH (yh x):=by
 rw[Qon hx hr]
 exact(Qds (by have:=Xy (K:=1000000000000) hr;simp;omega)).2
theorem QvA{x y:Bun×Int}(hvx:vBun x.1)(hvy:vBun y.1)(hw:x.1.fWhole=false){n:Nat}(hn:x.1.fPoint.fSize=(n:Int))(hl:(JM y.1).length=n)(hroot:yK (Qaj y.1)=x.1.fPoint.fRoot)(hp:∀w∈x.1.fItems,inP x.1.fPoint w=true):
  ∀(m j k:Nat),j+m=x.1.fItems.length→m<k→∃r,Ya.l 1000000000000 x (JM y.1) ((JM y.1).map yh) k (j:Int)=some r∧(r= .inl true∨(r= .inr ()∧∀t,j≤t→∀w,x.1.fItems[t]?=some w→∃q,(JM y.1)[w.fAt.toNat]?=some q∧redS 1000000000000 q=redS 1000000000000 w.fRec)):=by
 have h400:=hvx.r.len
 have hs4:=hvx.r.size
 intro m
 induction m with
 | zero=>
  intro j k hj hk
  obtain⟨k,rfl⟩:∃i,k=i+1:=⟨k-1,by omega⟩
  refine⟨.inr (),?_,.inr ⟨rfl,fun t ht w hw=> ?_⟩⟩
  ·show Ya.b 1000000000000 x (JM y.1) ((JM y.1).map yh) (Ya.l 1000000000000 x (JM y.1) ((JM y.1).map yh) k) _=_
   unfold Ya.b
   rw[Qi (QE (by omega))]
  ·have:=(List.getElem?_eq_some_iff.1 hw).1;omega
 | succ m ih=>
  intro j k hj hk
  obtain⟨k,rfl⟩:∃i,k=i+1:=⟨k-1,by omega⟩
  show ∃r,Ya.b 1000000000000 x (JM y.1) ((JM y.1).map yh) (Ya.l 1000000000000 x (JM y.1) ((JM y.1).map yh) k) _=_∧_
  have hlt:j<x.1.fItems.length:=by omega
  have hx:x.1.fItems[j]?=some x.1.fItems[j]:=List.getElem?_eq_getElem hlt
  have hm:x.1.fItems[j]∈x.1.fItems:=List.getElem_mem hlt
  generalize x.1.fItems[j]=w at hx hm
  have hox:=hvx.r.ok
  rw[hw]at hox
  obtain⟨a0,a1⟩:=Qom hox (by omega) w hm
  obtain⟨i,hi⟩:=Int.eq_ofNat_of_zero_le a0
  have hin:i<n:=by omega
  have hq:(JM y.1)[i]?=some (JM y.1)[i]:=List.getElem?_eq_getElem (by omega)
  have hqm:(JM y.1)[i]∈JM y.1:=List.getElem_mem (by omega)
  generalize (JM y.1)[i]=q at hq hqm
  obtain⟨v,hv,hvq⟩:=List.mem_map.1 hqm
  have rq:Yy q=true:=by rw[←hvq];exact(hvy.r.items v hv).1
  have dq:okD q:=by rw[←hvq];exact hvy.d v hv
  have bq:okB q:=by rw[←hvq];exact hvy.b v hv
  obtain⟨rw1,_,rp⟩:=hvx.r.items w hm
  have dw:=hvx.d w hm
  have bw:=hvx.b w hm
  have hlq:((JM y.1).map yh)[i]?=some (yh q):=by rw[List.getElem?_map,hq];rfl
  have hlen:((JM y.1).map yh).length=n:=by simp[hl]
  obtain⟨r,p1,p2,p3,p4⟩:=QqP 401 ((JM y.1).map yh) i 1000000000000 (by omega) (by omega) (by omega) (fun z hz=>by
   obtain⟨c,hc,rfl⟩:=List.mem_map.1 hz
   obtain⟨d,hd,rfl⟩:=List.mem_map.1 hc
   exact Qpz (hvy.d d hd) (hvy.r.items d hd).1) (yh q) hlq
  have hrt:yK ((JM y.1).map yh)=x.1.fPoint.fRoot:=by
   rw[←hroot]
   unfold JM Qaj
   rw[List.map_map];rfl
  rw[hlen]at p2 p3
  rw[hrt,Qon dq rq]at p3
  have c1:=Qvz (by omega) hi hn hin (by omega) hvx.root (Qpz dw rw1) (hp w hm)
  rw[Qon dw rw1]at c1
  have lw:=Xy (K:=1000000000000) rw1
  have lq:=Xy (K:=1000000000000) rq
  obtain⟨z,z1,z2⟩:=Qvv (Qfg (Nat.le_refl _) bw) (Qfg (Nat.le_refl _) bq) (by omega) (by omega) (by omega) (by omega) (hvx.path w hm) p4 hin (by omega) c1 p3
  have p1:JS.f 1000000000000 ((JM y.1).map yh) (i:Int)=some (r,true):=p1
  have s1:=Qiu (K:=1000000000000) (Nat.le_refl _) dw
  have s2:=Qiu (K:=1000000000000) (Nat.le_refl _) dq
  rw[rw1]at s1
  rw[rq]at s2
  simp only[Qg]at s1 s2
  unfold Ya.b yC.f
  rw[Qj (QK (by omega)),bnd (Yq hx),hi,p1]
  simp only[Qb,Bool.not_true,Qh]
  rw[bnd (Yq hx),bnd (Yq hx),hi,bnd (Yq hq),bnd s1,bnd s2,bnd (Yq hx),bnd (Yq hx),hi,hl,bnd z1]
  rcases z2 with⟨e1,e2⟩|⟨e1,e2⟩
  ·rw[e1]
   simp only[Qg]
   rw[bnd e2]
   exact⟨_,rfl,.inl rfl⟩
  ·rw[e1]
   simp only[Qh]
   have he:=Qvr (Nat.le_refl _) rw1 rq bw bq e2
   rw[bnd (Yq hx),bnd (Yq hx),hi,bnd (Yq hq),bnd (Qpe (Nat.le_refl _) dw),bnd (Qpe (Nat.le_refl _) dq),bnd (Qo9 (Nat.le_refl _) (Qoc dw) (Qoc dq)),QK he]
   simp only[Bool.not_true,Qh]
   rw[wrap_succ (by omega)]
   obtain⟨r',r1,r2⟩:=ih (j+1) k (by omega) (by omega)
   refine⟨r',r1,r2.imp_right fun r2=>⟨r2.1,fun t ht u hu=> ?_⟩⟩
   by_cases e:t=j
   ·subst e
    rw[hx]at hu
    cases hu
    exact⟨q,by rw[hi];exact hq,he.symm⟩
   ·exact r2.2 t (by omega) u hu
theorem QvB{a b:List Rc}(he:a.map (redS 1000000000000)=b.map (redS 1000000000000))(ha:∀x∈a,okD x)(hb:∀x∈b,okD x)(hl:a.length<1000):∀(m j k:Nat),j+m=a.length→m<k→Yb.l 1000000000000 a b k (j:Int)=some (.inr ()):=by
 have hlen:a.length=b.length:=by simpa using congrArg List.length he
 intro m
 induction m with
 |zero=>
  intro j k hj hk
  obtain⟨k,rfl⟩:∃i,k=i+1:=⟨k-1,by omega⟩
  show Yb.b 1000000000000 a b (Yb.l 1000000000000 a b k) _=_
  unfold Yb.b
  rw[Qi (QE (by omega))]
 |succ m ih=>
  intro j k hj hk
  obtain⟨k,rfl⟩:∃i,k=i+1:=⟨k-1,by omega⟩
  show Yb.b 1000000000000 a b (Yb.l 1000000000000 a b k) _=_
  have h1:a[j]?=some a[j]:=List.getElem?_eq_getElem (by omega)
  have h2:b[j]?=some b[j]:=List.getElem?_eq_getElem (by omega)
  have h3:=congrArg (fun(l:List Rc)=>l[j]?) he
  simp only[List.getElem?_map,h1,h2,Option.map_some,Qa]at h3
  have d1:=ha a[j] (List.getElem_mem _)
  have d2:=hb b[j] (List.getElem_mem _)
  unfold Yb.b
  rw[Qj (QK (by omega)),bnd (Yq h1),bnd (Yq h2),bnd (Qpe (Nat.le_refl _) d1),bnd (Qpe (Nat.le_refl _) d2),bnd (QtM (Nat.le_refl _) (Qoc d1)),QK h3]
  simp only[Bool.not_true,Qh]
  rw[wrap_succ (by omega)]
  exact ih (j+1) k (by omega) (by omega)
theorem QvC{z:StT}{L:List Qq}{v w:VdT}{sg:Nat}(hv:v=(0,z.2.1,QaP z))(hw:w.2.2=L)(hL:L[sg]?=some (Qdq (sgA sg z)))(hl:z.2.1.length<1000):∀(m j k:Nat),j+m=z.2.1.length→m<k→Yc.l 1000000000000 (sg:Int) v w k (j:Int)=some (.inr ()):=by
 subst hv
 intro m
 induction m with
 |zero=>
  intro j k hj hk
  obtain⟨k,rfl⟩:∃i,k=i+1:=⟨k-1,by omega⟩
  show Yc.b 1000000000000 (sg:Int) _ w (Yc.l 1000000000000 (sg:Int) _ w k) _=_
  unfold Yc.b
  rw[Qi (QE (by simp only;omega))]
 | succ m ih=>
  intro j k hj hk
  obtain⟨k,rfl⟩:∃i,k=i+1:=⟨k-1,by omega⟩
  show Yc.b 1000000000000 (sg:Int) _ w (Yc.l 1000000000000 (sg:Int) _ w k) _=_
  have h1:z.2.1[j]?=some z.2.1[j]:=List.getElem?_eq_getElem (by omega)
  unfold Yc.b
  rw[Qj (QK (by simp only;omega))]
  simp only[jn]
  rw[bnd (Yq h1),wrap_succ (by omega)]
  by_cases e:z.2.1[j]=(sg:Int)
  ·have hlt:=(List.getElem?_eq_some_iff.1 hL).1
   have h2:(QaP z)[j]?=some (Qdq (sgA sg z)):=by
    unfold QaP
    rw[List.getElem?_map,h1,e];rfl
   rw[Qj (QK e),hw,Qi (QE (by omega)),bnd (Yq h2),bnd (Yq hL),bnd (Yq hL)]
   simp only[decide_true,Bool.and_self,Bool.not_true,Qh]
   exact ih (j+1) k (by omega) (by omega)
  ·rw[Qi (QE e)]
   simp only[Qh]
   exact ih (j+1) k (by omega) (by omega)
theorem Qjc{K:Nat}(hK:K=1000000000000)(k:Qr)(limit:Int)(p:Qo)(b w:List Int)(saga:Int)(hb:isB b)(hw:isB w):qo.f K k limit p b w saga=some true:=by
 unfold qo.f
 rw[QxN hK]
 subst hK
 simp only[Qb,Bool.not_true,Qh,jn]
 rw[Qpp]
 simp only[Qb]
 cases hg:(decide ((20:Int)<((k.fParts.length:Nat):Int))||(decide ((20:Int)<((k.fWits.length:Nat):Int))||decide ((4000:Int)<((b.length:Nat):Int))))with
 |true=>rfl
 |false=>
 simp only[Qh]
 rw[Qpp]
 simp only[Qb]
 cases hg2:(decide ((20:Int)<((k.fParts.length:Nat):Int))||(decide ((20:Int)<((k.fWits.length:Nat):Int))||decide ((4000:Int)<((w.length:Nat):Int))))with
 |true=>rfl
 |false=>
 obtain⟨g1,g2,g3⟩:=QiC hg
 obtain⟨_,_,g4⟩:=QiC hg2
 have hl:b.length<1000000000:=by omega
 have hl2:w.length<1000000000:=by omega
 simp only[Qh]
 rw[bnd (Qpl hb hl),bnd (Qpl hw hl2),bnd (Qs7 (Nat.le_refl _) hb hl),bnd (Qs7 (Nat.le_refl _) hw hl2)]
 by_cases h0:(Qbv k limit p.fSize p.fRoot b).1=0
 ·rw [Qi (by simp[h0])]
  by_cases h1:(Qbv k limit p.fSize p.fRoot w).1=0
  ·rw[Qi (by simp[h1])]
   refine Or.elim (Bool.eq_false_or_eq_true (getS w).1.fWhole) (fun hyw=> ?_) (fun hyw=>by rw[Qj (by simp[hyw])];rfl)
   rw[Qi (by simp[hyw])]
   refine Or.elim (Bool.eq_false_or_eq_true (getS b).1.fWhole) (fun hxw=>by rw[Qj hxw];rfl) (fun hxw=> ?_)
   rw[Qi hxw]
   have hv:=Qwm h0
   have hu:=Qwm h1
   obtain⟨zz,hx,ex⟩:=hv.some hb hl hxw
   obtain⟨z,hy,ey,hroot⟩:=hu.whole hw hl2 hyw
   have hvx:=Qtx hb hl hv.get
   have hvy:=Qtx hw hl2 hu.get
   have hx4:=hvx.r.len
   have hy4:=hvy.r.len
   obtain⟨ok1,⟨oq,oq1,oq2⟩,hrc⟩:=Qof _ _ _ (fun y hy=>(hvx.r.items y hy).1) Qfc hx
   have hzl:zz.2.1.length<1000:=by rw[oq1];simp[st0];omega
   rw[ex,bnd (QxY rfl (by exact hzl))]
   cases hov:ovD zz.2.1 (QaP zz) saga false zz.2.1.length with
   |false=>rfl
   | true=>
    simp only[Bool.not_true,Qh]
    obtain⟨i,ln,o1,o2,o3⟩:=Qvy hov
    have hmem:saga∈zz.2.1:=List.mem_of_getElem? o1
    have hs12:=ok1.o saga hmem
    obtain⟨sg,rfl⟩:=Int.eq_ofNat_of_zero_le hs12.1
    have hln:ln=Qdq (sgA sg zz):=by
     unfold QaP at o2
     rw[List.getElem?_map,o1]at o2
     cases o2;rfl
    rw[hln]at o3
    obtain⟨a1,a2⟩:=QtL hvy
    rw[bnd (QtI hy4),bnd (QtJ a1 a2)]
    have hsz:(getS b).1.fPoint.fSize=(((JM (getS w).1).length:Nat):Int):=by
     have:=hvy.r.whole hyw
     rw[hv.size,←hu.size,←this];simp[JM]
    obtain⟨r,r1,r2⟩:=QvA (x:=getS b) (y:=getS w) hvx hvy hxw hsz rfl (by rw[hroot,hv.root]) (fun w hw=>(hrc w hw).1) (getS b).1.fItems.length 0 1000000000000 (by omega) (by omega)
    refine Qz r1 ?_
    rcases r2 with rfl|⟨rfl,r2⟩
    ·rfl
    simp only
    obtain⟨c1,c2⟩:=QqQ hvx hvy hxw hx hy (fun w hw=>by
     obtain⟨t,ht⟩:=List.getElem?_of_mem hw
     exact r2 t (Nat.zero_le _) w ht) hmem o3
    have hrx:(JM (getS b).1).length<1000:=by simp[JM];omega
    have hry:(JM (getS w).1).length<1000:=by simp[JM];omega
    rw[bnd (QtI hx4),bnd (QtR hrx _),bnd (QtR hry _)]
    have hle:((JM (getS b).1).filter (ownP (sg:Int))).length=((JM (getS w).1).filter (ownP (sg:Int))).length:=by simpa using congrArg List.length c1
    have hfl:=List.length_filter_le (ownP (sg:Int)) (JM (getS b).1)
    have dx:∀x∈JM (getS b).1,okD x:=fun x hx=>by
     obtain⟨v,hv,rfl⟩:=List.mem_map.1 hx
     exact hvx.d v hv
    have dy:∀x∈JM (getS w).1,okD x:=fun x hx=>by
     obtain⟨v,hv,rfl⟩:=List.mem_map.1 hx
     exact hvy.d v hv
    rw[Qi (by simp[hle])]
    refine Qz (QvB c1 (fun x hx=>dx x (List.mem_filter.1 hx).1) (fun x hx=>dy x (List.mem_filter.1 hx).1) (by omega) _ 0 1000000000000 (Nat.zero_add _) (by omega)) ?_
    simp only
    have hL:(z.fSagas.map Qdq)[sg]?=some (Qdq (sgA sg zz)):=by rw[List.getElem?_map,c2];rfl
    refine Qz (QvC (z:=zz) (L:=z.fSagas.map Qdq) rfl (by rw[ey]) hL hzl zz.2.1.length 0 1000000000000 (by omega) (by omega)) ?_
    simp only
    have h17:qN.f 1000000000000 (getS b).1 (getS w).1=some false:=by
     unfold qN.f
     simp only[jn]
     rw[hxw,hyw];rfl
    rw[bnd h17]
    rfl
  ·rw[Qj (by simp[h1])];rfl
 ·rw[Qj (by simp[h0])];rfl
end Go.Proofs.YtomndohdnfebgaaGreatDoor
