/-
 Plain: AuditFewer.
-/
import Derived.Test.YtomndohdnfebgaaGreatDoorPureAu
import Derived.Test.YtomndohdnfebgaaGreatDoorTmDef
namespace Go.Proofs.YtomndohdnfebgaaGreatDoor
open Go Go.Sep
theorem Qvo{K:Nat}(hK:K=1000000000000):jf.f K=some true:=by
 subst hK
 kernel_rfl
end Go.Proofs.YtomndohdnfebgaaGreatDoor
namespace Go.Proofs.YtomndohdnfebgaaGreatDoor
open Go Go.Sep
abbrev StT:=List Bool×List Int×List Sa
def Qrp(l:List Sp):Bool:=(ZJ.f 1000000000000 l).getD false
def Qrq(l:List Sp):Sa:=(QaO.f 1000000000000 l).getD QA
def goSt(s:Sa)(x:Rc)(limit:Int):Sa×Bool:=(QcS.f 1000000000000 s x limit).getD (s,false)
def inP(p:Qo)(y:It):Bool:=(Qcq.f 1000000000000 (QoB y.fRec) y.fAt p.fSize y.fPath p.fRoot).getD false
def Qvp(s:Sa):Qu:=⟨s.fPhase,(je.f 1000000000000 s).getD 0⟩
theorem gd{α:Type}{o:Option α}{d:α}(h:∃r,o=some r):o=some (o.getD d):=by
 obtain⟨r,h⟩:=h;rw[h];rfl
theorem Qs4{l:List Sp}(h:l.length<1000):ZJ.f 1000000000000 l=some (Qrp l):=gd (QfJ l h)
theorem Qno{l:List Sp}(h:l.length<1000):QaO.f 1000000000000 l=some (Qrq l)∧(Qrq l).fSteps.length≤l.length:=by
 obtain⟨r,h1,h2⟩:=Qms l h
 have:Qrq l=r:=by unfold Qrq;rw[h1];rfl
 rw[this];exact⟨h1,h2⟩
theorem Qrr{s:Sa}{x:Rc}{limit:Int}(h:s.fSteps.length<1000)(h0:0≤x.fStep):QcS.f 1000000000000 s x limit=some (goSt s x limit)∧((goSt s x limit).1.fSteps=s.fSteps∧((goSt s x limit).2=true→x.fKind=3→x.fStep<((s.fSteps.length:Nat):Int))):=by
 obtain⟨r,h1,h2⟩:=Qri s x limit h h0
 have:goSt s x limit=r:=by unfold goSt;rw[h1];rfl
 rw[this];exact⟨h1,h2⟩
theorem QwA{p:Qo}{y:It}(hW:y.fPath.length<1000000)(hn:p.fSize≤401):Qcq.f 1000000000000 (QoB y.fRec) y.fAt p.fSize y.fPath p.fRoot=some (inP p y):=gd (QtS _ _ hW _ _ hn)
theorem Qs5(s:Sa):je.f 1000000000000 s=some (Qvp s).fMissing:=gd (Qc3 s)
def hadA(x:Rc)(st:StT):StT:=(st.1.set x.fSaga.toNat true,st.2.1,st.2.2)
def begA(x:Rc)(st:StT):Sum Int StT:=bif !(st.1.getD x.fSaga.toNat false)&&Qrp x.fSteps then .inr (st.1,st.2.1++ [x.fSaga],st.2.2.set x.fSaga.toNat (Qrq x.fSteps))else .inl 9
def Qs6(s:Sa)(x:Rc):Bool:= !decide (x.fKind=3)||decide ((s.fSteps.getD x.fStep.toNat QbA).fPart=x.fPart)
def sagA(x:Rc)(st:StT):Sa:=st.2.2.getD x.fSaga.toNat QA
def QjF(limit:Int)(x:Rc)(st:StT):Sum Int StT:=
 bif decide ((sagA x st).fSteps.length=0)then .inr st else
  bif (goSt (sagA x st) x limit).2&&Qs6 (sagA x st) x then .inr (st.1,st.2.1,st.2.2.set x.fSaga.toNat (goSt (sagA x st) x limit).1)else .inl 9
def Qvq(x:Rc):Sum Int StT→Sum Int StT
 | .inl e=> .inl e
 | .inr st=> .inr (hadA x st)
def QhI(k:Qw)(limit:Int)(p:Qo)(y:It)(st:StT):Sum Int StT:=
 bif inP p y then(bif rcK k y.fRec then
  (bif decide (y.fRec.fKind=1)then Qvq y.fRec (begA y.fRec st)else
   bif decide (y.fRec.fKind=6)then .inr st else Qvq y.fRec (QjF limit y.fRec st))else .inl 7)else .inl 10
def runI(k:Qw)(limit:Int)(p:Qo):List It→StT→Sum Int StT
 | [],st=> .inr st
 |y::l,st=>match QhI k limit p y st with
  | .inl e=> .inl e
  | .inr st=>runI k limit p l st
theorem getD_at{α:Type}{l:List α}{n:Nat}{d:α}(h:n<l.length):getI l (n:Int)=some (l.getD n d):=by
 rw[Jm,List.getElem?_eq_getElem h,List.getD_eq_getElem?_getD,List.getElem?_eq_getElem h];rfl
theorem Qvr{x:Rc}(hr:YQ x=true){b:List Bool}{o:List Int}{s:List Sa}(h:okS b o s)(ho:o.length<1000):JP.fs 1000000000000 x b o s=some (begA x (b,o,s)):=by
 obtain⟨n,hn,hn12⟩:=Qcf hr
 have h6:=QjE hr
 unfold JP.fs begA
 simp only[jn,chk]
 rw[hn,Qj (Yl hn12),Int.toNat_natCast,bnd (getD_at (d:=false) (by rw[h.b];exact hn12))]
 cases b.getD n false with
 |true=>rfl
 | false=>
  simp only[Bool.not_false,Qg,Bool.true_and]
  rw[bnd (Qs4 (by omega))]
  cases Qrp x.fSteps with
  |false=>rfl
  |true=>
   simp only[Qg]
   refine QeC (fun h=>by cases h) (fun _=> ?_)
   rw[bnd (Qno (by omega)).1]
   rw[Qj (Yl hn12)]
   simp only[Qb]
   rw[bnd (YV (by simp only[List.length_singleton];omega))]
theorem Qs7{x:Rc}(hr:YQ x=true){limit:Int}{b:List Bool}{o:List Int}{s:List Sa}(h:okS b o s):ql.fs 1000000000000 x limit b o s=some (QjF limit x (b,o,s)):=by
 obtain⟨n,hn,hn12⟩:=Qcf hr
 unfold ql.fs QjF
 simp only[jn,chk]
 have hs:sagA x (b,o,s)=s.getD n QA:=by unfold sagA;rw[hn];rfl
 rw[hs,hn,Qj (Yl hn12),Int.toNat_natCast]
 have hg:=getD_at (l:=s) (n:=n) (d:=QA) (by rw[h.s];exact hn12)
 rw[bnd hg]
 have hm:s.getD n QA∈s:=by rw[Jm]at hg;exact List.mem_of_getElem? hg
 generalize s.getD n QA=t at hm
 have h6:=h.st t hm
 by_cases h0:t.fSteps.length=0
 ·rw[Qj (QO (by omega)),Qj (QO h0)]
 rw[Qi (QJ (by omega)),Qi (QJ h0)]
 obtain⟨h1,h2,h3⟩:=Qrr (s:=t) (x:=x) (limit:=limit) (by omega) (Qg9 hr)
 rw[bnd h1]
 cases h5:(goSt t x limit).2 with
 |false=>rfl
 | true=>
  simp only[Qg,Bool.true_and]
  unfold Qs6
  by_cases k3:x.fKind=3
  ·rw[Qi (by simp[k3])]
   have h7:=h3 h5 k3
   obtain⟨j,hj⟩:=Int.eq_ofNat_of_zero_le (Qg9 hr)
   rw[hj,bnd (getD_at (d:=QbA) (by omega)),Int.toNat_natCast,QO k3]
   simp only[Bool.not_true,Bool.false_or]
   cases decide ((t.fSteps.getD j QbA).fPart=x.fPart)with
   |false=>rfl
   |true=>rw[Qj (Yl hn12)];rfl
  ·rw[Qj (by simp[k3]),QJ k3,Qj (Yl hn12)]
   rfl
theorem Qvs{x:Rc}(hr:YQ x=true){st z:StT}(h:okS st.1 st.2.1 st.2.2)(he:begA x st= .inr z):okS z.1 z.2.1 z.2.2∧z.2.1=st.2.1++ [x.fSaga]:=by
 obtain⟨n,hn,hn12⟩:=Qcf hr
 unfold begA at he
 cases hc:(!(st.1.getD x.fSaga.toNat false)&&Qrp x.fSteps)with
 |false=>rw[hc]at he;cases he
 | true=>
  rw[hc]at he
  cases he
  refine⟨⟨h.b,fun m hm=> ?_,by simp[h.s],fun y hy=> ?_⟩,rfl⟩
  ·rcases List.mem_append.1 hm with hm|hm
   ·exact h.o m hm
   ·simp at hm;omega
  ·have h6:=QjE hr
   rcases Qg8 hy with rfl|hy
   ·have:=(Qno (l:=x.fSteps) (by omega)).2;omega
   ·exact h.st y hy
theorem Qs8{x:Rc}(hr:YQ x=true){st:StT}(h:okS st.1 st.2.1 st.2.2):sagA x st∈st.2.2:=by
 obtain⟨n,hn,hn12⟩:=Qcf hr
 unfold sagA
 rw[hn,Int.toNat_natCast]
 have hg:=getD_at (l:=st.2.2) (n:=n) (d:=QA) (by rw[h.s];exact hn12)
 rw[Jm]at hg
 exact List.mem_of_getElem? hg
theorem Qs9{x:Rc}(hr:YQ x=true){limit:Int}{st z:StT}(h:okS st.1 st.2.1 st.2.2)(he:QjF limit x st= .inr z):okS z.1 z.2.1 z.2.2∧z.2.1=st.2.1:=by
 have h6:=h.st _ (Qs8 hr h)
 unfold QjF at he
 cases hc:decide ((sagA x st).fSteps.length=0)with
 |true=>rw[hc]at he;cases he;exact⟨h,rfl⟩
 | false=>
  rw[hc]at he
  simp only[Qh]at he
  cases hd:((goSt (sagA x st) x limit).2&&Qs6 (sagA x st) x)with
  |false=>rw[hd]at he;cases he
  |true=>
   rw[hd]at he
   cases he
   refine⟨⟨h.b,h.o,by simp[h.s],fun y hy=> ?_⟩,rfl⟩
   rcases Qg8 hy with rfl|hy
   ·rw[(Qrr (by omega) (Qg9 hr)).2.1];exact h6
   ·exact h.st y hy
theorem Qrs{x:Rc}{st:StT}(h:okS st.1 st.2.1 st.2.2):okS (hadA x st).1 (hadA x st).2.1 (hadA x st).2.2:=⟨by simp[hadA,h.b],h.o,h.s,h.st⟩
theorem Qla{x:Rc}{r:Sum Int StT}{z:StT}(h:Qvq x r= .inr z):∃st,r= .inr st∧z=hadA x st:=by
 cases r with
 |inl e=>cases h
 |inr st=>exact⟨st,rfl,by cases h;rfl⟩
theorem Qnp{k:Qw}{limit:Int}{p:Qo}{y:It}(hr:YQ y.fRec=true){st z:StT}(h:okS st.1 st.2.1 st.2.2)(he:QhI k limit p y st= .inr z):
  okS z.1 z.2.1 z.2.2∧inP p y=true∧rcK k y.fRec=true∧(z.2.1=st.2.1∨z.2.1=st.2.1++ [y.fRec.fSaga]):=by
 unfold QhI at he
 cases h1:inP p y with
 |false=>rw[h1]at he;cases he
 | true=>
  rw[h1]at he
  simp only[Qg]at he
  cases h2:rcK k y.fRec with
  |false=>rw[h2]at he;cases he
  | true=>
   rw[h2]at he
   simp only[Qg]at he
   cases h3:decide (y.fRec.fKind=1)with
   |true=>
    rw[h3]at he
    obtain⟨s,h4,rfl⟩:=Qla he
    obtain⟨h5,h6⟩:=Qvs hr h h4
    exact⟨Qrs h5,rfl,rfl,.inr h6⟩
   | false=>
    rw[h3]at he
    simp only[Qh]at he
    cases h7:decide (y.fRec.fKind=6)with
    |true=>rw[h7]at he;cases he;exact⟨h,rfl,rfl,.inl rfl⟩
    |false=>
     rw[h7]at he
     obtain⟨s,h4,rfl⟩:=Qla he
     obtain⟨h5,h6⟩:=Qs9 hr h h4
     exact⟨Qrs h5,rfl,rfl,.inl h6⟩
def lftA:Sum Int StT→Sum (Sum Int VdT) StT
 | .inl e=> .inl (.inl e)
 | .inr st=> .inr st
theorem Qta{x:Bun}(hv:vBun x){k0:Qw}{limit:Int}:∀(l:List It) (i k:Nat) (st:StT),x.fItems.drop i=l→i≤x.fItems.length→l.length<k→okS st.1 st.2.1 st.2.2→st.2.1.length≤i→
  QH.l 1000000000000 ⟨k0,limit⟩ x k ((i:Int),st.1,st.2.1,st.2.2)=some (lftA (runI k0 limit x.fPoint l st)):=by
 have h400:=hv.r.len
 intro l
 induction l with
 |nil=>
  intro i k st hl hi hk hs ho
  obtain⟨k,rfl⟩:∃j,k=j+1:=⟨k-1,by simp at hk;omega⟩
  have hi2:x.fItems.length≤i:=by simpa using hl
  show QH.b 1000000000000 ⟨k0,limit⟩ x (QH.l 1000000000000 ⟨k0,limit⟩ x k) ((i:Int),st.1,st.2.1,st.2.2)=_
  unfold QH.b
  rw[Qi (QJ (by simp only;omega))]
  rfl
 | cons y l ih=>
  intro i k st hl hi hk hs ho
  obtain⟨k,rfl⟩:∃j,k=j+1:=⟨k-1,by simp at hk;omega⟩
  have hlt:i<x.fItems.length:=by
   have:=congrArg List.length hl
   simp at this;omega
  have hy:x.fItems[i]?=some y:=by
   have:=congrArg (fun(l:List It)=>l[0]?) hl
   simpa using this
  have hd:x.fItems.drop (i+1)=l:=by rw[←List.drop_drop,hl];rfl
  have hm:y∈x.fItems:=List.mem_of_getElem? hy
  have hr:=(hv.r.items y hm).1
  obtain⟨n,hn,hn12⟩:=Qcf hr
  show QH.b 1000000000000 ⟨k0,limit⟩ x (QH.l 1000000000000 ⟨k0,limit⟩ x k) ((i:Int),st.1,st.2.1,st.2.2)=_
  have hgo:∀z:StT,QhI k0 limit x.fPoint y st= .inr z→QH.l 1000000000000 ⟨k0,limit⟩ x k (IntKind.wrap .i64 ((i:Int)+1),z.1,z.2.1,z.2.2)=some (lftA (runI k0 limit x.fPoint (y::l) st)):=fun z hz=>by
   obtain⟨h1,_,_,h2⟩:=Qnp hr hs hz
   rw[wrap_succ (by omega)]
   unfold runI
   rw[hz]
   refine ih (i+1) k z hd (by omega) (by simp at hk;omega) h1 ?_
   rcases h2 with h2|h2
   ·rw[h2];omega
   ·rw[h2,List.length_append,List.length_singleton];omega
  have hno:∀e:Int,QhI k0 limit x.fPoint y st= .inl e→some (.inl (.inl e))=some (lftA (runI k0 limit x.fPoint (y::l) st)):=fun e he=>by
   unfold runI;rw[he];rfl
  generalize lftA (runI k0 limit x.fPoint (y::l) st)=R at hgo hno⊢
  unfold QhI at hgo hno
  unfold QH.b
  rw[Qj (QO (by simp only;omega))]
  simp only[jn]
  rw[bnd (Qbz hy),bnd (QjD (hv.d y hm) hr),bnd (QwA (by have:=(hv.r.items y hm).2.2;omega) (by have:=hv.r.size;omega))]
  refine QeC (fun h=> ?_) (fun h=> ?_)
  ·rw[h]at hno;exact hno 10 rfl
  rw[h]at hgo hno
  simp only[Qg]at hgo hno
  rw[Qih (hv.d y hm) (Qig (hv.b y hm).tag)]
  cases h7:rcK k0 y.fRec with
  |false=>rw[h7]at hno;exact hno 7 rfl
  | true=>
   rw[h7]at hgo hno
   simp only[Qg,sm]at hgo hno⊢
   cases h3:decide (y.fRec.fKind=1)with
   | true=>
    rw[h3]at hgo hno
    simp only[Qg]at hgo hno⊢
    rw[Qvr hr hs (by omega)]
    cases hb:begA y.fRec (st.1,st.2.1,st.2.2)with
    |inl e=>exact hno e (by rw[show begA y.fRec st= .inl e from hb];rfl)
    |inr z=>
     have:=hgo (hadA y.fRec z) (by rw[show begA y.fRec st= .inr z from hb];rfl)
     simp only[chk]
     rw[hn,Qj (Yl hn12)]
     simp only[hadA,hn]at this
     exact this
   | false=>
    rw[h3]at hgo hno
    simp only[Qh]at hgo hno⊢
    cases h6:decide (y.fRec.fKind=6)with
    |true=>
     rw[h6]at hgo
     simp only[Qg]
     exact hgo st rfl
    | false=>
     rw[h6]at hgo hno
     simp only[Qh]at hgo hno⊢
     rw[Qs7 hr hs]
     cases hb:QjF limit y.fRec (st.1,st.2.1,st.2.2)with
     |inl e=>exact hno e (by rw[show QjF limit y.fRec st= .inl e from hb];rfl)
     |inr z=>
      have:=hgo (hadA y.fRec z) (by rw[show QjF limit y.fRec st= .inr z from hb];rfl)
      simp only[chk]
      rw[hn,Qj (Yl hn12)]
      simp only[hadA,hn]at this
      exact this
theorem QjG{k:Qw}{limit:Int}{p:Qo}:∀(l:List It) (st z:StT),(∀y∈l,YQ y.fRec=true)→okS st.1 st.2.1 st.2.2→runI k limit p l st= .inr z→okS z.1 z.2.1 z.2.2∧(∃q,z.2.1=st.2.1++q∧q.length≤l.length)∧∀y∈l,inP p y=true∧rcK k y.fRec=true
 | [],st,z,_,hs,h=>by cases h;exact⟨hs,⟨[],by simp,by simp⟩,fun _ h=>by cases h⟩
 | y::l,st,z,hr,hs,h=>by
  unfold runI at h
  cases hi:QhI k limit p y st with
  |inl e=>rw[hi]at h;cases h
  | inr s=>
   rw[hi]at h
   obtain⟨h1,h2,h3,h4⟩:=Qnp (hr y List.mem_cons_self) hs hi
   obtain⟨g1,⟨q,g2,g4⟩,g3⟩:=QjG l s z (fun y hy=>hr y (List.mem_cons_of_mem _ hy)) h1 h
   refine⟨g1,?_,fun x hx=> ?_⟩
   ·rcases h4 with h4|h4
    ·exact⟨q,by rw[g2,h4],by simp;omega⟩
    ·exact⟨[y.fRec.fSaga]++q,by rw[g2,h4,List.append_assoc],by simp;omega⟩
   ·rcases List.mem_cons.1 hx with rfl|hx
    ·exact⟨h2,h3⟩
    ·exact g3 x hx
theorem Qnq{k:Qw}{limit:Int}{p:Qo}:∀(l m:List It) (st:StT),runI k limit p (l++m) st=match runI k limit p l st with
  | .inl e=> .inl e
  | .inr s=>runI k limit p m s
 | [],_,_=>rfl
 |y::l,m,st=>by
  simp only[List.cons_append,runI]
  cases QhI k limit p y st with
  |inl e=>rfl
  |inr s=>exact Qnq (k:=k) (limit:=limit) (p:=p) l m s
def QdU(z:StT):List Qu:=z.2.1.map fun n=>Qvp (z.2.2.getD n.toNat QA)
theorem QoC{z:StT}(h:okS z.1 z.2.1 z.2.2)(hl:z.2.1.length<1000){c:Int}:∀(m i k:Nat) (l:List Int) (q:List Qu),i+m=z.2.1.length→m<k→l=z.2.1.take i→q=(QdU z).take i→
  QM.l 1000000000000 z k ((i:Int),c,l,q)=some (c,z.2.1,QdU z):=by
 intro m
 induction m with
 |zero=>
  intro i k l q hi hk h1 h2
  obtain⟨k,rfl⟩:∃j,k=j+1:=⟨k-1,by omega⟩
  show QM.b 1000000000000 z (QM.l 1000000000000 z k) ((i:Int),c,l,q)=_
  unfold QM.b
  rw[Qi (QJ (by simp only;omega)),h1,h2,List.take_of_length_le (by omega),List.take_of_length_le (by unfold QdU;simp;omega)]
 | succ m ih=>
  intro i k l q hi hk h1 h2
  obtain⟨k,rfl⟩:∃j,k=j+1:=⟨k-1,by omega⟩
  show QM.b 1000000000000 z (QM.l 1000000000000 z k) ((i:Int),c,l,q)=_
  unfold QM.b
  rw[Qj (QO (by simp only;omega))]
  have hi2:i<z.2.1.length:=by omega
  have hn:getI z.2.1 (i:Int)=some z.2.1[i]:=by rw[Jm,List.getElem?_eq_getElem hi2]
  have hm:z.2.1[i]∈z.2.1:=List.getElem_mem hi2
  have hn2:=h.o _ hm
  obtain⟨j,hj⟩:=Int.eq_ofNat_of_zero_le hn2.1
  have hl1:l.length=i:=by rw[h1];simp;omega
  have hl2:q.length=i:=by rw[h2];unfold QdU;simp;omega
  rw[bnd hn,bnd (YV (by simp only[List.length_singleton];omega))]
  simp only[chk]
  have hline:(QdU z)[i]?=some (Qvp (z.2.2.getD j QA)):=by
   unfold QdU
   rw[List.getElem?_map,List.getElem?_eq_getElem hi2,hj];rfl
  rw[hj,Qj (Yl (by omega)),bnd (getD_at (d:=QA) (by rw[h.s];omega)),Qj (Yl (by omega)),bnd (getD_at (d:=QA) (by rw[h.s];omega)),bnd (Qs5 _),bnd (YV (by simp only[List.length_singleton];omega)),wrap_succ (by omega)]
  refine ih (i+1) k _ _ (by omega) (by omega) ?_ ?_
  ·rw[h1,List.take_add_one,List.getElem?_eq_getElem hi2,hj];rfl
  ·rw[h2,List.take_add_one,hline];rfl
def st0:StT:=([false,false,false,false,false,false,false,false,false,false,false,false], [], [QA,QA,QA,QA,QA,QA,QA,QA,QA,QA,QA,QA])
theorem Qvt{x:Bun}(hv:vBun x)(k0:Qw)(limit:Int):YT.fs 1000000000000 ⟨k0,limit⟩ x=some (match runI k0 limit x.fPoint x.fItems st0 with
  | .inl e=> .inl e
  | .inr z=> .inr (0,z.2.1,QdU z)):=by
 unfold YT.fs
 have h400:=hv.r.len
 have h1:=Qta hv (k0:=k0) (limit:=limit) x.fItems 0 1000000000000 st0 rfl (by omega) (by omega) QfK (Nat.le_refl _)
 have h1:QH.l 1000000000000 ⟨k0,limit⟩ x 1000000000000 (0,_,_,_)=_:=h1
 refine QK h1 ?_
 cases hr:runI k0 limit x.fPoint x.fItems st0 with
 |inl e=>rfl
 |inr z=>
  obtain⟨h2,⟨q,h3,h4⟩,_⟩:=QjG _ _ _ (fun y hy=>(hv.r.items y hy).1) QfK hr
  have hz:z.2.1.length<1000:=by rw[h3];simp[st0];omega
  have h5:=QoC h2 hz (c:=0) z.2.1.length 0 1000000000000 [] [] (by omega) (by omega) rfl rfl
  have h5:QM.l 1000000000000 z 1000000000000 (0,0, [], [])=_:=h5
  exact QK h5 rfl
end Go.Proofs.YtomndohdnfebgaaGreatDoor
namespace Go.Proofs.YtomndohdnfebgaaGreatDoor
open Go Go.Sep
end Go.Proofs.YtomndohdnfebgaaGreatDoor
namespace Go.Proofs.YtomndohdnfebgaaGreatDoor
open Go Go.Sep
end Go.Proofs.YtomndohdnfebgaaGreatDoor
namespace Go.Proofs.YtomndohdnfebgaaGreatDoor
open Go Go.Sep
theorem Qtb{K:Nat}(k:Qw)(b:List Int):JV.f K k b=some (decide ((20:Int)<((k.fParts.length:Nat):Int))||(decide ((20:Int)<((k.fWits.length:Nat):Int))||decide ((4000:Int)<((b.length:Nat):Int)))):=by
 unfold JV.f
 cases decide ((20:Int)<((k.fParts.length:Nat):Int))with
 |true=>rfl
 |false=>cases decide ((20:Int)<((k.fWits.length:Nat):Int))<;>rfl
theorem Qmt{k:Qw}{b:List Int}(h:(decide ((20:Int)<((k.fParts.length:Nat):Int))||(decide ((20:Int)<((k.fWits.length:Nat):Int))||decide ((4000:Int)<((b.length:Nat):Int))))=false):k.fParts.length≤20∧k.fWits.length≤20∧b.length≤4000:=by
 simp only[Bool.or_eq_false_iff,decide_eq_false_iff_not]at h
 omega
structure vldA(k:Qw)(limit size:Int)(root:H32)(b:List Int):Prop where
 may:mayK k=true
 lim:inn limit 1 9=true
 get:(getS b).2=0
 chk:chkK k (getS b).1.fPoint=0
 size:(getS b).1.fPoint.fSize=size
 root:(getS b).1.fPoint.fRoot=root
 run:(outA (runA k limit (getS b).1)).1=0
theorem QwB{k:Qw}{limit size:Int}{root:H32}{b:List Int}(h:(Qaz k limit size root b).1=0):vldA k limit size root b:=by
 unfold Qaz at h
 cases h1:(mayK k&&inn limit 1 9)with
 |false=>rw[h1]at h;cases h
 | true=>
  rw[h1]at h
  simp only[Qd]at h1
  simp only[Qg]at h
  by_cases h2:(getS b).2=0
  ·rw [Qj (QO h2)]at h
   by_cases h3:chkK k (getS b).1.fPoint=0
   ·rw[Qj (QO h3)]at h
    by_cases h4:(getS b).1.fPoint.fSize=size
    ·by_cases h5:(getS b).1.fPoint.fRoot=root
     ·rw[QO h4,QO h5]at h
      exact⟨h1.1,h1.2,h2,h3,h4,h5,h⟩
     ·rw[QJ h5,Bool.and_false]at h;cases h
    ·rw[QJ h4,Bool.false_and]at h;cases h
   ·rw[Qi (QJ h3)]at h
    exact absurd h h3
  ·rw[Qi (QJ h2)]at h
   exact absurd h h2
theorem vldA.eq{k:Qw}{limit size:Int}{root:H32}{b:List Int}(h:vldA k limit size root b):Qaz k limit size root b=outA (runA k limit (getS b).1):=by
 unfold Qaz
 rw[h.may,h.lim,QO h.get,QO h.chk,QO h.size,QO h.root]
 rfl
end Go.Proofs.YtomndohdnfebgaaGreatDoor
namespace Go.Proofs.YtomndohdnfebgaaGreatDoor
open Go Go.Sep
theorem QeX{size:Int}:∀{l:List It} {last:Int} {i:Nat} (m:Nat),jK false size last i l=true→jK false size last i (l.take m)=true
 | [],_,_,m,h=>by simpa using h
 |x::l,last,i,0,_=>rfl
 |x::l,last,i,m+1,h=>by
  rw[List.take_succ_cons]
  unfold jK at h⊢
  rw[Qd]at h⊢
  exact⟨h.1,QeX m h.2⟩
theorem QoD{x:Bun}(hw:x.fWhole=false)(h:yT x=true)(m:Nat):yT {x with fItems:=x.fItems.take m}=true:=by
 unfold yT at h⊢
 simp only[Qd,hw,decide_eq_true_eq]at h⊢
 obtain⟨h1,h2,_,h4⟩:=h
 exact⟨h1,by simp only[List.length_take];omega,by simp,QeX m h4⟩
theorem Qtc{x:Bun}(h:QeT x)(m:Nat):QeT {x with fItems:=x.fItems.take m}:=
 ⟨h.root,h.tags,fun y hy=>h.recs y (List.mem_of_mem_take hy),fun y hy=>h.path y (List.mem_of_mem_take hy)⟩
theorem vldA.put{k:Qw}{limit size:Int}{root:H32}{b:List Int}(h:vldA k limit size root b){x:Bun}(hp:x.fPoint=(getS b).1.fPoint)(hr:yT x=true)(ha:QeT x):Qaz k limit size root (mark++bunW x)=outA (runA k limit x):=by
 have hs:=h.size
 have ht:=h.root
 have hc:=h.chk
 rw[←hp]at hs ht hc
 unfold Qaz
 rw[get_put hr ha,h.may,h.lim]
 simp only[QO hc,QO hs,QO ht]
 rfl
theorem Qlb{k:Qw}{limit:Int}{x:Bun}(hv:vBun x)(hw:x.fWhole=false):runA k limit x=match runI k limit x.fPoint x.fItems st0 with
  | .inl e=> .inl e
  | .inr z=> .inr (0,z.2.1,QdU z):=by
 unfold runA
 rw[hw]
 simp only[Qh]
 rw[Qvt hv];rfl
theorem Qvu{k:Qw}{limit:Int}{p:Qo}:∀{l:List It} {st:StT} {e:Int},runI k limit p l st= .inl e→e≠0:=by
 intro l
 induction l with
 |nil=>intro st e h;cases h
 | cons y l ih=>
  intro st e h
  unfold runI at h
  cases hi:QhI k limit p y st with
  |inr s=>rw[hi]at h;exact ih h
  | inl e'=>
   rw[hi]at h
   cases h
   unfold QhI at hi
   cases h1:inP p y with
   |false=>rw[h1]at hi;cases hi;decide
   | true=>
    rw[h1]at hi
    cases h2:rcK k y.fRec with
    |false=>rw[h2]at hi;cases hi;decide
    | true=>
     rw[h2]at hi
     simp only[Qg]at hi
     cases h3:decide (y.fRec.fKind=1)with
     |true=>
      rw[h3]at hi
      unfold begA at hi
      simp only[Qg]at hi
      cases h4:(!(st.1.getD y.fRec.fSaga.toNat false)&&Qrp y.fRec.fSteps)with
      |true=>rw[h4]at hi;cases hi
      |false=>rw[h4]at hi;cases hi;decide
     | false=>
      rw[h3]at hi
      simp only[Qh]at hi
      cases h5:decide (y.fRec.fKind=6)with
      |true=>rw[h5]at hi;cases hi
      | false=>
       rw[h5]at hi
       unfold QjF at hi
       simp only[Qh]at hi
       cases h6:decide ((sagA y.fRec st).fSteps.length=0)with
       |true=>rw[h6]at hi;cases hi
       |false=>
        rw[h6]at hi
        simp only[Qh]at hi
        cases h7:((goSt (sagA y.fRec st) y.fRec limit).2&&Qs6 (sagA y.fRec st) y.fRec)with
        |true=>rw[h7]at hi;cases hi
        |false=>rw[h7]at hi;cases hi;decide
theorem vldA.some{k:Qw}{limit size:Int}{root:H32}{b:List Int}(hb:isB b)(hl:b.length<1000000000)(h:vldA k limit size root b)(hw:(getS b).1.fWhole=false):∃z,runI k limit (getS b).1.fPoint (getS b).1.fItems st0= .inr z∧Qaz k limit size root b=(0,z.2.1,QdU z):=by
 have hr:=h.run
 have he:=h.eq
 rw[Qlb (Qvn hb hl h.get) hw]at hr he
 cases hi:runI k limit (getS b).1.fPoint (getS b).1.fItems st0 with
 |inl e=>rw[hi]at hr;exact absurd hr (Qvu hi)
 |inr z=>rw[hi]at he;exact⟨z,rfl,he⟩
theorem QhJ{K:Nat}(hK:K=1000000000000)(k:Qw)(limit:Int)(p:Qo)(b:List Int)(n:Int)(hb:isB b)(hn:0≤n∧n<256):JO.f K k limit p b n=some true:=by
 unfold JO.f
 rw[Qvo hK]
 subst hK
 simp only[Qb,Bool.not_true,Qh,jn]
 rw[Qtb]
 simp only[Qb]
 cases hg:(decide ((20:Int)<((k.fParts.length:Nat):Int))||(decide ((20:Int)<((k.fWits.length:Nat):Int))||decide ((4000:Int)<((b.length:Nat):Int))))with
 |true=>rfl
 | false=>
  obtain⟨g1,g2,g3⟩:=Qmt hg
  have hl:b.length<1000000000:=by omega
  simp only[Qh]
  rw[bnd (Qnn hb hl),bnd (QtP (Nat.le_refl _) hb hl)]
  by_cases h0:(Qaz k limit p.fSize p.fRoot b).1=0
  ·rw [QO h0]
   simp only[Bool.not_true,Qh]
   have hv:=QwB h0
   obtain⟨_,ho,hr⟩:=Qq5 hb hl hv.get
   have ha:=Qay ho
   rcases Bool.eq_false_or_eq_true (getS b).1.fWhole with hw|hw
   ·rw[Qj hw];rfl
   ·rw[Qi hw]
    by_cases hz:(((getS b).1.fItems.length:Nat):Int)=0
    ·rw[QO hz];rfl
    ·rw[QJ hz]
     obtain⟨z,hi,he⟩:=hv.some hb hl hw
     have hvb:=Qvn hb hl hv.get
     simp only[Qh,Bool.not_false,chk,Qg]
     have hw64:IntKind.wrap .i64 n=n:=wrap64 (by omega) (by omega)
     rw[hw64,QsI hn.1]
     have hml:n.toNat%(getS b).1.fItems.length<(getS b).1.fItems.length:=Nat.mod_lt _ (by omega)
     generalize n.toNat%(getS b).1.fItems.length=m at hml
     rw[bnd (Qby (by omega))]
     have hr2:=QoD hw hr m
     have ha2:=Qtc ha m
     have hvb2:=Qrj (Qjx hr2 ha2) hr2
     rw[bnd (put_eq (Nat.le_refl _) (Qjt (Qjx hr2 ha2))),hr2]
     simp only[Qg]
     rw[bnd (Qnn (Qvc ha2) (by have:=Qvb hr2;omega)),hv.put (x:={ (getS b).1 with fItems:=(getS b).1.fItems.take m}) rfl hr2 ha2,Qlb hvb2 hw,he]
     have hsplit:=Qnq (k:=k) (limit:=limit) (p:=(getS b).1.fPoint) ((getS b).1.fItems.take m) ((getS b).1.fItems.drop m) st0
     rw[List.take_append_drop,hi]at hsplit
     cases hi2:runI k limit (getS b).1.fPoint ((getS b).1.fItems.take m) st0 with
     |inl e=>rw[hi2]at hsplit;cases hsplit
     |inr z2=>
      rw[hi2]at hsplit
      obtain⟨g5,_,_⟩:=QjG _ _ _ (fun y hy=>(hvb2.r.items y hy).1) QfK hi2
      obtain⟨_,⟨q,g6,_⟩,_⟩:=QjG _ _ _ (fun y hy=>(hvb.r.items y (List.mem_of_mem_drop hy)).1) g5 hsplit.symm
      have:((z2.2.1.length:Nat):Int)≤((z.2.1.length:Nat):Int):=by rw[g6,List.length_append];omega
      exact congrArg some (QO this)
  ·rw[QJ h0]
   rfl
end Go.Proofs.YtomndohdnfebgaaGreatDoor
