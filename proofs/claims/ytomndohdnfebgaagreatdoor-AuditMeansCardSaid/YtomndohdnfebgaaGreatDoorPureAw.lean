/-
 Plain: the audit, item by item.
-/
import Derived.Test.YtomndohdnfebgaaGreatDoorPureAu
import Derived.Test.YtomndohdnfebgaaGreatDoorTmDef
namespace Go.Proofs.YtomndohdnfebgaaGreatDoor
open Go Go.Sep
theorem QvH{K:Nat}(hK:K=1000000000000):jl.f K=some true:=by
 subst hK
 kernel_rfl
end Go.Proofs.YtomndohdnfebgaaGreatDoor
namespace Go.Proofs.YtomndohdnfebgaaGreatDoor
open Go Go.Sep
abbrev StT:=List Bool×List Int×List Sa
def QrG(l:List Sp):Bool:=(ZL.f 1000000000000 l).getD false
def QrH(l:List Sp):Sa:=(QaQ.f 1000000000000 l).getD QA
def goSt(s:Sa)(x:Rc)(limit:Int):Sa×Bool:=(QcT.f 1000000000000 s x limit).getD (s,false)
def inP(p:Qq)(y:It):Bool:=(Qcp.f 1000000000000 (Qbf y.fRec) y.fAt p.fSize y.fPath p.fRoot).getD false
def Qhg(s:Sa):Qp:=⟨s.fPhase,(ji.f 1000000000000 s).getD 0⟩
theorem gd{α:Type}{o:Option α}{d:α}(h:∃r,o=some r):o=some (o.getD d):=by
 obtain⟨r,h⟩:=h;rw[h];rfl
theorem Qtk{l:List Sp}(h:l.length<1000):ZL.f 1000000000000 l=some (QrG l):=gd (QfQ l h)
theorem QnE{l:List Sp}(h:l.length<1000):QaQ.f 1000000000000 l=some (QrH l)∧(QrH l).fSteps.length≤l.length:=by
 obtain⟨r,h1,h2⟩:=QmB l h
 have:QrH l=r:=by unfold QrH;rw[h1];rfl
 rw[this];exact⟨h1,h2⟩
theorem QrI{s:Sa}{x:Rc}{limit:Int}(h:s.fSteps.length<1000)(h0:0≤x.fStep):QcT.f 1000000000000 s x limit=some (goSt s x limit)∧((goSt s x limit).1.fSteps=s.fSteps∧((goSt s x limit).2=true→x.fKind=3→x.fStep<((s.fSteps.length:Nat):Int))):=by
 obtain⟨r,h1,h2⟩:=Qrz s x limit h h0
 have:goSt s x limit=r:=by unfold goSt;rw[h1];rfl
 rw[this];exact⟨h1,h2⟩
theorem Qw9{p:Qq}{y:It}(hW:y.fPath.length<1000000)(hn:p.fSize≤401):Qcp.f 1000000000000 (Qbf y.fRec) y.fAt p.fSize y.fPath p.fRoot=some (inP p y):=gd (Quf _ _ hW _ _ hn)
theorem QnF(s:Sa):ji.f 1000000000000 s=some (Qhg s).fMissing:=gd (Qc9 s)
def hadA(x:Rc)(st:StT):StT:=(st.1.set x.fSaga.toNat true,st.2.1,st.2.2)
def begA(x:Rc)(st:StT):Sum Int StT:=bif !(st.1.getD x.fSaga.toNat false)&&QrG x.fSteps then .inr (st.1,st.2.1++ [x.fSaga],st.2.2.set x.fSaga.toNat (QrH x.fSteps))else .inl 9
def Qtl(s:Sa)(x:Rc):Bool:= !decide (x.fKind=3)||decide ((s.fSteps.getD x.fStep.toNat QbE).fPart=x.fPart)
def sagA(x:Rc)(st:StT):Sa:=st.2.2.getD x.fSaga.toNat QA
def QjK(limit:Int)(x:Rc)(st:StT):Sum Int StT:=
 bif decide ((sagA x st).fSteps.length=0)then .inr st else
  bif (goSt (sagA x st) x limit).2&&Qtl (sagA x st) x then .inr (st.1,st.2.1,st.2.2.set x.fSaga.toNat (goSt (sagA x st) x limit).1)else .inl 9
def QvI(x:Rc):Sum Int StT→Sum Int StT
 | .inl e=> .inl e
 | .inr st=> .inr (hadA x st)
def QjL(k:Qo)(limit:Int)(p:Qq)(y:It)(st:StT):Sum Int StT:=
 bif inP p y then(bif rcK k y.fRec then
  (bif decide (y.fRec.fKind=1)then QvI y.fRec (begA y.fRec st)else
   bif decide (y.fRec.fKind=6)then .inr st else QvI y.fRec (QjK limit y.fRec st))else .inl 7)else .inl 10
def runI(k:Qo)(limit:Int)(p:Qq):List It→StT→Sum Int StT
 | [],st=> .inr st
 |y::l,st=>match QjL k limit p y st with
  | .inl e=> .inl e
  | .inr st=>runI k limit p l st
theorem getD_at{α:Type}{l:List α}{n:Nat}{d:α}(h:n<l.length):getI l (n:Int)=some (l.getD n d):=by
 rw[Jq,List.getElem?_eq_getElem h,List.getD_eq_getElem?_getD,List.getElem?_eq_getElem h];rfl
theorem QvJ{x:Rc}(hr:YM x=true){b:List Bool}{o:List Int}{s:List Sa}(h:okS b o s)(ho:o.length<1000):JS.fs 1000000000000 x b o s=some (begA x (b,o,s)):=by
 obtain⟨n,hn,hn12⟩:=Qch hr
 have h6:=QjJ hr
 unfold JS.fs begA
 simp only[jn,chk]
 rw[hn,Qj (Yn hn12),Int.toNat_natCast,bnd (getD_at (d:=false) (by rw[h.b];exact hn12))]
 cases b.getD n false with
 |true=>rfl
 | false=>
  simp only[Bool.not_false,Qg,Bool.true_and]
  rw[bnd (Qtk (by omega))]
  cases QrG x.fSteps with
  |false=>rfl
  |true=>
   simp only[Qg]
   refine Qda (fun h=>by cases h) (fun _=> ?_)
   rw[bnd (QnE (by omega)).1]
   rw[Qj (Yn hn12)]
   simp only[Qb]
   rw[bnd (Y4 (by simp only[List.length_singleton];omega))]
theorem Qtm{x:Rc}(hr:YM x=true){limit:Int}{b:List Bool}{o:List Int}{s:List Sa}(h:okS b o s):qm.fs 1000000000000 x limit b o s=some (QjK limit x (b,o,s)):=by
 obtain⟨n,hn,hn12⟩:=Qch hr
 unfold qm.fs QjK
 simp only[jn,chk]
 have hs:sagA x (b,o,s)=s.getD n QA:=by unfold sagA;rw[hn];rfl
 rw[hs,hn,Qj (Yn hn12),Int.toNat_natCast]
 have hg:=getD_at (l:=s) (n:=n) (d:=QA) (by rw[h.s];exact hn12)
 rw[bnd hg]
 have hm:s.getD n QA∈s:=by rw[Jq]at hg;exact List.mem_of_getElem? hg
 generalize s.getD n QA=t at hm
 have h6:=h.st t hm
 by_cases h0:t.fSteps.length=0
 ·rw[Qj (QS (by omega)),Qj (QS h0)]
 rw[Qi (QP (by omega)),Qi (QP h0)]
 obtain⟨h1,h2,h3⟩:=QrI (s:=t) (x:=x) (limit:=limit) (by omega) (Qhf hr)
 rw[bnd h1]
 cases h5:(goSt t x limit).2 with
 |false=>rfl
 | true=>
  simp only[Qg,Bool.true_and]
  unfold Qtl
  by_cases k3:x.fKind=3
  ·rw[Qi (by simp[k3])]
   have h7:=h3 h5 k3
   obtain⟨j,hj⟩:=Int.eq_ofNat_of_zero_le (Qhf hr)
   rw[hj,bnd (getD_at (d:=QbE) (by omega)),Int.toNat_natCast,QS k3]
   simp only[Bool.not_true,Bool.false_or]
   cases decide ((t.fSteps.getD j QbE).fPart=x.fPart)with
   |false=>rfl
   |true=>rw[Qj (Yn hn12)];rfl
  ·rw[Qj (by simp[k3]),QP k3,Qj (Yn hn12)]
   rfl
theorem QvK{x:Rc}(hr:YM x=true){st z:StT}(h:okS st.1 st.2.1 st.2.2)(he:begA x st= .inr z):okS z.1 z.2.1 z.2.2∧z.2.1=st.2.1++ [x.fSaga]:=by
 obtain⟨n,hn,hn12⟩:=Qch hr
 unfold begA at he
 cases hc:(!(st.1.getD x.fSaga.toNat false)&&QrG x.fSteps)with
 |false=>rw[hc]at he;cases he
 | true=>
  rw[hc]at he
  cases he
  refine⟨⟨h.b,fun m hm=> ?_,by simp[h.s],fun y hy=> ?_⟩,rfl⟩
  ·rcases List.mem_append.1 hm with hm|hm
   ·exact h.o m hm
   ·simp at hm;omega
  ·have h6:=QjJ hr
   rcases Qhe hy with rfl|hy
   ·have:=(QnE (l:=x.fSteps) (by omega)).2;omega
   ·exact h.st y hy
theorem Qtn{x:Rc}(hr:YM x=true){st:StT}(h:okS st.1 st.2.1 st.2.2):sagA x st∈st.2.2:=by
 obtain⟨n,hn,hn12⟩:=Qch hr
 unfold sagA
 rw[hn,Int.toNat_natCast]
 have hg:=getD_at (l:=st.2.2) (n:=n) (d:=QA) (by rw[h.s];exact hn12)
 rw[Jq]at hg
 exact List.mem_of_getElem? hg
theorem Qto{x:Rc}(hr:YM x=true){limit:Int}{st z:StT}(h:okS st.1 st.2.1 st.2.2)(he:QjK limit x st= .inr z):okS z.1 z.2.1 z.2.2∧z.2.1=st.2.1:=by
 have h6:=h.st _ (Qtn hr h)
 unfold QjK at he
 cases hc:decide ((sagA x st).fSteps.length=0)with
 |true=>rw[hc]at he;cases he;exact⟨h,rfl⟩
 | false=>
  rw[hc]at he
  simp only[Qh]at he
  cases hd:((goSt (sagA x st) x limit).2&&Qtl (sagA x st) x)with
  |false=>rw[hd]at he;cases he
  |true=>
   rw[hd]at he
   cases he
   refine⟨⟨h.b,h.o,by simp[h.s],fun y hy=> ?_⟩,rfl⟩
   rcases Qhe hy with rfl|hy
   ·rw[(QrI (by omega) (Qhf hr)).2.1];exact h6
   ·exact h.st y hy
theorem QrJ{x:Rc}{st:StT}(h:okS st.1 st.2.1 st.2.2):okS (hadA x st).1 (hadA x st).2.1 (hadA x st).2.2:=⟨by simp[hadA,h.b],h.o,h.s,h.st⟩
theorem Qld{x:Rc}{r:Sum Int StT}{z:StT}(h:QvI x r= .inr z):∃st,r= .inr st∧z=hadA x st:=by
 cases r with
 |inl e=>cases h
 |inr st=>exact⟨st,rfl,by cases h;rfl⟩
theorem QnG{k:Qo}{limit:Int}{p:Qq}{y:It}(hr:YM y.fRec=true){st z:StT}(h:okS st.1 st.2.1 st.2.2)(he:QjL k limit p y st= .inr z):
  okS z.1 z.2.1 z.2.2∧inP p y=true∧rcK k y.fRec=true∧(z.2.1=st.2.1∨z.2.1=st.2.1++ [y.fRec.fSaga]):=by
 unfold QjL at he
 cases h1:inP p y with
 |false=>rw[h1]at he;cases he
 | true=>
  rw[h1]at he
  simp only[Qg]at he
  cases h2:rcK k y.fRec with
  |false=>rw[h2]at he;cases he
  | true=>
   rw[h2]at he
   simp only[Qg]at he
   cases h3:decide (y.fRec.fKind=1)with
   |true=>
    rw[h3]at he
    obtain⟨s,h4,rfl⟩:=Qld he
    obtain⟨h5,h6⟩:=QvK hr h h4
    exact⟨QrJ h5,rfl,rfl,.inr h6⟩
   | false=>
    rw[h3]at he
    simp only[Qh]at he
    cases h7:decide (y.fRec.fKind=6)with
    |true=>rw[h7]at he;cases he;exact⟨h,rfl,rfl,.inl rfl⟩
    |false=>
     rw[h7]at he
     obtain⟨s,h4,rfl⟩:=Qld he
     obtain⟨h5,h6⟩:=Qto hr h h4
     exact⟨QrJ h5,rfl,rfl,.inl h6⟩
def lftA:Sum Int StT→Sum (Sum Int VdT) StT
 | .inl e=> .inl (.inl e)
 | .inr st=> .inr st
theorem Qtp{x:Bun}(hv:vBun x){k0:Qo}{limit:Int}:∀(l:List It) (i k:Nat) (st:StT),x.fItems.drop i=l→i≤x.fItems.length→l.length<k→okS st.1 st.2.1 st.2.2→st.2.1.length≤i→
  QJ.l 1000000000000 ⟨k0,limit⟩ x k ((i:Int),st.1,st.2.1,st.2.2)=some (lftA (runI k0 limit x.fPoint l st)):=by
 have h400:=hv.r.len
 intro l
 induction l with
 |nil=>
  intro i k st hl hi hk hs ho
  obtain⟨k,rfl⟩:∃j,k=j+1:=⟨k-1,by simp at hk;omega⟩
  have hi2:x.fItems.length≤i:=by simpa using hl
  show QJ.b 1000000000000 ⟨k0,limit⟩ x (QJ.l 1000000000000 ⟨k0,limit⟩ x k) ((i:Int),st.1,st.2.1,st.2.2)=_
  unfold QJ.b
  rw[Qi (QP (by simp only;omega))]
  rfl
 | cons y l ih=>
  intro i k st hl hi hk hs ho
  obtain⟨k,rfl⟩:∃j,k=j+1:=⟨k-1,by simp at hk;omega⟩
  have hlt:i<x.fItems.length:=by
   have:=congrArg List.length hl
   simp at this;omega
  have hy:x.fItems[i]?=some y:=by
   have:=congrArg (fun(l:List It)=>l[0]?) hl
   simpa using this
  have hd:x.fItems.drop (i+1)=l:=by rw[←List.drop_drop,hl];rfl
  have hm:y∈x.fItems:=List.mem_of_getElem? hy
  have hr:=(hv.r.items y hm).1
  obtain⟨n,hn,hn12⟩:=Qch hr
  show QJ.b 1000000000000 ⟨k0,limit⟩ x (QJ.l 1000000000000 ⟨k0,limit⟩ x k) ((i:Int),st.1,st.2.1,st.2.2)=_
  have hgo:∀z:StT,QjL k0 limit x.fPoint y st= .inr z→QJ.l 1000000000000 ⟨k0,limit⟩ x k (IntKind.wrap .i64 ((i:Int)+1),z.1,z.2.1,z.2.2)=some (lftA (runI k0 limit x.fPoint (y::l) st)):=fun z hz=>by
   obtain⟨h1,_,_,h2⟩:=QnG hr hs hz
   rw[wrap_succ (by omega)]
   unfold runI
   rw[hz]
   refine ih (i+1) k z hd (by omega) (by simp at hk;omega) h1 ?_
   rcases h2 with h2|h2
   ·rw[h2];omega
   ·rw[h2,List.length_append,List.length_singleton];omega
  have hno:∀e:Int,QjL k0 limit x.fPoint y st= .inl e→some (.inl (.inl e))=some (lftA (runI k0 limit x.fPoint (y::l) st)):=fun e he=>by
   unfold runI;rw[he];rfl
  generalize lftA (runI k0 limit x.fPoint (y::l) st)=R at hgo hno⊢
  unfold QjL at hgo hno
  unfold QJ.b
  rw[Qj (QS (by simp only;omega))]
  simp only[jn]
  rw[bnd (Js hy),bnd (QfR (hv.d y hm) hr),bnd (Qw9 (by have:=(hv.r.items y hm).2.2;omega) (by have:=hv.r.size;omega))]
  refine Qda (fun h=> ?_) (fun h=> ?_)
  ·rw[h]at hno;exact hno 10 rfl
  rw[h]at hgo hno
  simp only[Qg]at hgo hno
  rw[QeJ (hv.d y hm) (Qe5 (hv.b y hm).tag)]
  cases h7:rcK k0 y.fRec with
  |false=>rw[h7]at hno;exact hno 7 rfl
  | true=>
   rw[h7]at hgo hno
   simp only[Qg,sm]at hgo hno⊢
   cases h3:decide (y.fRec.fKind=1)with
   | true=>
    rw[h3]at hgo hno
    simp only[Qg]at hgo hno⊢
    rw[QvJ hr hs (by omega)]
    cases hb:begA y.fRec (st.1,st.2.1,st.2.2)with
    |inl e=>exact hno e (by rw[show begA y.fRec st= .inl e from hb];rfl)
    |inr z=>
     have:=hgo (hadA y.fRec z) (by rw[show begA y.fRec st= .inr z from hb];rfl)
     simp only[chk]
     rw[hn,Qj (Yn hn12)]
     simp only[hadA,hn]at this
     exact this
   | false=>
    rw[h3]at hgo hno
    simp only[Qh]at hgo hno⊢
    cases h6:decide (y.fRec.fKind=6)with
    |true=>
     rw[h6]at hgo
     simp only[Qg]
     exact hgo st rfl
    | false=>
     rw[h6]at hgo hno
     simp only[Qh]at hgo hno⊢
     rw[Qtm hr hs]
     cases hb:QjK limit y.fRec (st.1,st.2.1,st.2.2)with
     |inl e=>exact hno e (by rw[show QjK limit y.fRec st= .inl e from hb];rfl)
     |inr z=>
      have:=hgo (hadA y.fRec z) (by rw[show QjK limit y.fRec st= .inr z from hb];rfl)
      simp only[chk]
      rw[hn,Qj (Yn hn12)]
      simp only[hadA,hn]at this
      exact this
theorem QmC{k:Qo}{limit:Int}{p:Qq}:∀(l:List It) (st z:StT),(∀y∈l,YM y.fRec=true)→okS st.1 st.2.1 st.2.2→runI k limit p l st= .inr z→okS z.1 z.2.1 z.2.2∧(∃q,z.2.1=st.2.1++q∧q.length≤l.length)∧∀y∈l,inP p y=true∧rcK k y.fRec=true
 | [],st,z,_,hs,h=>by cases h;exact⟨hs,⟨[],by simp,by simp⟩,fun _ h=>by cases h⟩
 | y::l,st,z,hr,hs,h=>by
  unfold runI at h
  cases hi:QjL k limit p y st with
  |inl e=>rw[hi]at h;cases h
  | inr s=>
   rw[hi]at h
   obtain⟨h1,h2,h3,h4⟩:=QnG (hr y List.mem_cons_self) hs hi
   obtain⟨g1,⟨q,g2,g4⟩,g3⟩:=QmC l s z (fun y hy=>hr y (List.mem_cons_of_mem _ hy)) h1 h
   refine⟨g1,?_,fun x hx=> ?_⟩
   ·rcases h4 with h4|h4
    ·exact⟨q,by rw[g2,h4],by simp;omega⟩
    ·exact⟨[y.fRec.fSaga]++q,by rw[g2,h4,List.append_assoc],by simp;omega⟩
   ·rcases List.mem_cons.1 hx with rfl|hx
    ·exact⟨h2,h3⟩
    ·exact g3 x hx
def QcP(z:StT):List Qp:=z.2.1.map fun n=>Qhg (z.2.2.getD n.toNat QA)
theorem QoS{z:StT}(h:okS z.1 z.2.1 z.2.2)(hl:z.2.1.length<1000){c:Int}:∀(m i k:Nat) (l:List Int) (q:List Qp),i+m=z.2.1.length→m<k→l=z.2.1.take i→q=(QcP z).take i→
  QN.l 1000000000000 z k ((i:Int),c,l,q)=some (c,z.2.1,QcP z):=by
 intro m
 induction m with
 |zero=>
  intro i k l q hi hk h1 h2
  obtain⟨k,rfl⟩:∃j,k=j+1:=⟨k-1,by omega⟩
  show QN.b 1000000000000 z (QN.l 1000000000000 z k) ((i:Int),c,l,q)=_
  unfold QN.b
  rw[Qi (QP (by simp only;omega)),h1,h2,List.take_of_length_le (by omega),List.take_of_length_le (by unfold QcP;simp;omega)]
 | succ m ih=>
  intro i k l q hi hk h1 h2
  obtain⟨k,rfl⟩:∃j,k=j+1:=⟨k-1,by omega⟩
  show QN.b 1000000000000 z (QN.l 1000000000000 z k) ((i:Int),c,l,q)=_
  unfold QN.b
  rw[Qj (QS (by simp only;omega))]
  have hi2:i<z.2.1.length:=by omega
  have hn:getI z.2.1 (i:Int)=some z.2.1[i]:=by rw[Jq,List.getElem?_eq_getElem hi2]
  have hm:z.2.1[i]∈z.2.1:=List.getElem_mem hi2
  have hn2:=h.o _ hm
  obtain⟨j,hj⟩:=Int.eq_ofNat_of_zero_le hn2.1
  have hl1:l.length=i:=by rw[h1];simp;omega
  have hl2:q.length=i:=by rw[h2];unfold QcP;simp;omega
  rw[bnd hn,bnd (Y4 (by simp only[List.length_singleton];omega))]
  simp only[chk]
  have hline:(QcP z)[i]?=some (Qhg (z.2.2.getD j QA)):=by
   unfold QcP
   rw[List.getElem?_map,List.getElem?_eq_getElem hi2,hj];rfl
  rw[hj,Qj (Yn (by omega)),bnd (getD_at (d:=QA) (by rw[h.s];omega)),Qj (Yn (by omega)),bnd (getD_at (d:=QA) (by rw[h.s];omega)),bnd (QnF _),bnd (Y4 (by simp only[List.length_singleton];omega)),wrap_succ (by omega)]
  refine ih (i+1) k _ _ (by omega) (by omega) ?_ ?_
  ·rw[h1,List.take_add_one,List.getElem?_eq_getElem hi2,hj];rfl
  ·rw[h2,List.take_add_one,hline];rfl
def st0:StT:=([false,false,false,false,false,false,false,false,false,false,false,false], [], [QA,QA,QA,QA,QA,QA,QA,QA,QA,QA,QA,QA])
theorem QvL{x:Bun}(hv:vBun x)(k0:Qo)(limit:Int):YW.fs 1000000000000 ⟨k0,limit⟩ x=some (match runI k0 limit x.fPoint x.fItems st0 with
  | .inl e=> .inl e
  | .inr z=> .inr (0,z.2.1,QcP z)):=by
 unfold YW.fs
 have h400:=hv.r.len
 have h1:=Qtp hv (k0:=k0) (limit:=limit) x.fItems 0 1000000000000 st0 rfl (by omega) (by omega) QfS (Nat.le_refl _)
 have h1:QJ.l 1000000000000 ⟨k0,limit⟩ x 1000000000000 (0,_,_,_)=_:=h1
 refine QD h1 ?_
 cases hr:runI k0 limit x.fPoint x.fItems st0 with
 |inl e=>rfl
 |inr z=>
  obtain⟨h2,⟨q,h3,h4⟩,_⟩:=QmC _ _ _ (fun y hy=>(hv.r.items y hy).1) QfS hr
  have hz:z.2.1.length<1000:=by rw[h3];simp[st0];omega
  have h5:=QoS h2 hz (c:=0) z.2.1.length 0 1000000000000 [] [] (by omega) (by omega) rfl rfl
  have h5:QN.l 1000000000000 z 1000000000000 (0,0, [], [])=_:=h5
  exact QD h5 rfl
end Go.Proofs.YtomndohdnfebgaaGreatDoor
