/-
 Plain: the audit, item by item.
-/
import Derived.Test.YtomndohdnfebgaaGreatDoorPureAu
import Derived.Test.YtomndohdnfebgaaGreatDoorThDef
namespace Go.Proofs.YtomndohdnfebgaaGreatDoor
open Go Go.Sep
theorem Qwv{K:Nat}(hK:K=1000000000000):jr.f K=some true:=by
 subst hK
 kernel_rfl
abbrev StT:=List Bool×List Int×List Sa
def Qt7(l:List Sp):Bool:=(yY.f 1000000000000 l).getD false
def Qsn(l:List Sp):Sa:=(X0.f 1000000000000 l).getD QC
def goSt(s:Sa)(x:Rc)(limit:Int):Sa×Bool:=(Qbf.f 1000000000000 s x limit).getD (s,false)
def inP(p:Qo)(y:It):Bool:=(QcO.f 1000000000000 (Qa0 y.fRec) y.fAt p.fSize y.fPath p.fRoot).getD false
def Qih(s:Sa):Qu:=⟨s.fPhase,(jq.f 1000000000000 s).getD 0⟩
theorem gd{α:Type}{o:Option α}{d:α}(h:∃r,o=some r):o=some (o.getD d):=by
 obtain⟨r,h⟩:=h;rw[h];rfl
theorem Qt8{l:List Sp}(h:l.length<1000):yY.f 1000000000000 l=some (Qt7 l):=gd (Qf3 l h)
theorem Qn8{l:List Sp}(h:l.length<1000):X0.f 1000000000000 l=some (Qsn l)∧(Qsn l).fSteps.length≤l.length:=by
 obtain⟨r,h1,h2⟩:=QmZ l h
 have:Qsn l=r:=by unfold Qsn;rw[h1];rfl
 rw[this];exact⟨h1,h2⟩
theorem Qso{s:Sa}{x:Rc}{limit:Int}(h:s.fSteps.length<1000)(h0:0≤x.fStep):Qbf.f 1000000000000 s x limit=some (goSt s x limit)∧((goSt s x limit).1.fSteps=s.fSteps∧((goSt s x limit).2=true→x.fKind=3→x.fStep<((s.fSteps.length:Nat):Int))):=by
 obtain⟨r,h1,h2⟩:=Qse s x limit h h0
 have:goSt s x limit=r:=by unfold goSt;rw[h1];rfl
 rw[this];exact⟨h1,h2⟩
theorem QxM{p:Qo}{y:It}(hW:y.fPath.length<1000000)(hn:p.fSize≤401):QcO.f 1000000000000 (Qa0 y.fRec) y.fAt p.fSize y.fPath p.fRoot=some (inP p y):=gd (Qu1 _ _ hW _ _ hn)
theorem Qn9(s:Sa):jq.f 1000000000000 s=some (Qih s).fMissing:=gd (Qds s)
def hadA(x:Rc)(st:StT):StT:=(st.1.set x.fSaga.toNat true,st.2.1,st.2.2)
def begA(x:Rc)(st:StT):Sum Int StT:=bif !(st.1.getD x.fSaga.toNat false)&&Qt7 x.fSteps then .inr (st.1,st.2.1++ [x.fSaga],st.2.2.set x.fSaga.toNat (Qsn x.fSteps))else .inl 9
def Qww(s:Sa)(x:Rc):Bool:= !decide (x.fKind=3)||decide ((s.fSteps.getD x.fStep.toNat QbW).fPart=x.fPart)
def sagA(x:Rc)(st:StT):Sa:=st.2.2.getD x.fSaga.toNat QC
def QlC(limit:Int)(x:Rc)(st:StT):Sum Int StT:=
 bif decide ((sagA x st).fSteps.length=0)then .inr st else
  bif (goSt (sagA x st) x limit).2&&Qww (sagA x st) x then .inr (st.1,st.2.1,st.2.2.set x.fSaga.toNat (goSt (sagA x st) x limit).1)else .inl 9
def Qt9(x:Rc):Sum Int StT→Sum Int StT
 | .inl e=> .inl e
 | .inr st=> .inr (hadA x st)
def QeY(k:Qq)(limit:Int)(p:Qo)(y:It)(st:StT):Sum Int StT:=
 bif inP p y then(bif rcK k y.fRec then
  (bif decide (y.fRec.fKind=1)then Qt9 y.fRec (begA y.fRec st)else
   bif decide (y.fRec.fKind=6)then .inr st else Qt9 y.fRec (QlC limit y.fRec st))else .inl 7)else .inl 10
def runI(k:Qq)(limit:Int)(p:Qo):List It→StT→Sum Int StT
 | [],st=> .inr st
 |y::l,st=>match QeY k limit p y st with
  | .inl e=> .inl e
  | .inr st=>runI k limit p l st
theorem getD_at{α:Type}{l:List α}{n:Nat}{d:α}(h:n<l.length):getI l (n:Int)=some (l.getD n d):=by
 rw[Jm,List.getElem?_eq_getElem h,List.getD_eq_getElem?_getD,List.getElem?_eq_getElem h];rfl
theorem Qwx{x:Rc}(hr:Yx x=true){b:List Bool}{o:List Int}{s:List Sa}(h:okS b o s)(ho:o.length<1000):JZ.fs 1000000000000 x b o s=some (begA x (b,o,s)):=by
 obtain⟨n,hn,hn12⟩:=QcC hr
 have h6:=Qj6 hr
 unfold JZ.fs begA
 simp only[jn,chk]
 rw[hn,Qj (Yq hn12),Int.toNat_natCast,bnd (getD_at (d:=false) (by rw[h.b];exact hn12))]
 cases b.getD n false with
 |true=>rfl
 | false=>
  simp only[Bool.not_false,Qg,Bool.true_and]
  rw[bnd (Qt8 (by omega))]
  cases Qt7 x.fSteps with
  |false=>rfl
  |true=>
   simp only[Qg]
   refine Qdt (fun h=>by cases h) (fun _=> ?_)
   rw[bnd (Qn8 (by omega)).1]
   rw[Qj (Yq hn12)]
   simp only[Qb]
   rw[bnd (YQ (by simp only[List.length_singleton];omega))]
theorem Qua{x:Rc}(hr:Yx x=true){limit:Int}{b:List Bool}{o:List Int}{s:List Sa}(h:okS b o s):qI.fs 1000000000000 x limit b o s=some (QlC limit x (b,o,s)):=by
 obtain⟨n,hn,hn12⟩:=QcC hr
 unfold qI.fs QlC
 simp only[jn,chk]
 have hs:sagA x (b,o,s)=s.getD n QC:=by unfold sagA;rw[hn];rfl
 rw[hs,hn,Qj (Yq hn12),Int.toNat_natCast]
 have hg:=getD_at (l:=s) (n:=n) (d:=QC) (by rw[h.s];exact hn12)
 rw[bnd hg]
 have hm:s.getD n QC∈s:=by rw[Jm]at hg;exact List.mem_of_getElem? hg
 generalize s.getD n QC=t at hm
 have h6:=h.st t hm
 by_cases h0:t.fSteps.length=0
 ·rw[Qj (QT (by omega)),Qj (QT h0)]
 rw[Qi (QG (by omega)),Qi (QG h0)]
 obtain⟨h1,h2,h3⟩:=Qso (s:=t) (x:=x) (limit:=limit) (by omega) (QhA hr)
 rw[bnd h1]
 cases h5:(goSt t x limit).2 with
 |false=>rfl
 | true=>
  simp only[Qg,Bool.true_and]
  unfold Qww
  by_cases k3:x.fKind=3
  ·rw[Qi (by simp[k3])]
   have h7:=h3 h5 k3
   obtain⟨j,hj⟩:=Int.eq_ofNat_of_zero_le (QhA hr)
   rw[hj,bnd (getD_at (d:=QbW) (by omega)),Int.toNat_natCast,QT k3]
   simp only[Bool.not_true,Bool.false_or]
   cases decide ((t.fSteps.getD j QbW).fPart=x.fPart)with
   |false=>rfl
   |true=>rw[Qj (Yq hn12)];rfl
  ·rw[Qj (by simp[k3]),QG k3,Qj (Yq hn12)]
   rfl
theorem Qwy{x:Rc}(hr:Yx x=true){st z:StT}(h:okS st.1 st.2.1 st.2.2)(he:begA x st= .inr z):okS z.1 z.2.1 z.2.2∧z.2.1=st.2.1++ [x.fSaga]:=by
 obtain⟨n,hn,hn12⟩:=QcC hr
 unfold begA at he
 cases hc:(!(st.1.getD x.fSaga.toNat false)&&Qt7 x.fSteps)with
 |false=>rw[hc]at he;cases he
 | true=>
  rw[hc]at he
  cases he
  refine⟨⟨h.b,fun m hm=> ?_,by simp[h.s],fun y hy=> ?_⟩,rfl⟩
  ·rcases List.mem_append.1 hm with hm|hm
   ·exact h.o m hm
   ·simp at hm;omega
  ·have h6:=Qj6 hr
   rcases Qhy hy with rfl|hy
   ·have:=(Qn8 (l:=x.fSteps) (by omega)).2;omega
   ·exact h.st y hy
theorem Qub{x:Rc}(hr:Yx x=true){st:StT}(h:okS st.1 st.2.1 st.2.2):sagA x st∈st.2.2:=by
 obtain⟨n,hn,hn12⟩:=QcC hr
 unfold sagA
 rw[hn,Int.toNat_natCast]
 have hg:=getD_at (l:=st.2.2) (n:=n) (d:=QC) (by rw[h.s];exact hn12)
 rw[Jm]at hg
 exact List.mem_of_getElem? hg
theorem Quc{x:Rc}(hr:Yx x=true){limit:Int}{st z:StT}(h:okS st.1 st.2.1 st.2.2)(he:QlC limit x st= .inr z):okS z.1 z.2.1 z.2.2∧z.2.1=st.2.1:=by
 have h6:=h.st _ (Qub hr h)
 unfold QlC at he
 cases hc:decide ((sagA x st).fSteps.length=0)with
 |true=>rw[hc]at he;cases he;exact⟨h,rfl⟩
 | false=>
  rw[hc]at he
  simp only[Qh]at he
  cases hd:((goSt (sagA x st) x limit).2&&Qww (sagA x st) x)with
  |false=>rw[hd]at he;cases he
  |true=>
   rw[hd]at he
   cases he
   refine⟨⟨h.b,h.o,by simp[h.s],fun y hy=> ?_⟩,rfl⟩
   rcases Qhy hy with rfl|hy
   ·rw[(Qso (by omega) (QhA hr)).2.1];exact h6
   ·exact h.st y hy
theorem Qsp{x:Rc}{st:StT}(h:okS st.1 st.2.1 st.2.2):okS (hadA x st).1 (hadA x st).2.1 (hadA x st).2.2:=⟨by simp[hadA,h.b],h.o,h.s,h.st⟩
theorem QlD{x:Rc}{r:Sum Int StT}{z:StT}(h:Qt9 x r= .inr z):∃st,r= .inr st∧z=hadA x st:=by
 cases r with
 |inl e=>cases h
 |inr st=>exact⟨st,rfl,by cases h;rfl⟩
theorem Qoa{k:Qq}{limit:Int}{p:Qo}{y:It}(hr:Yx y.fRec=true){st z:StT}(h:okS st.1 st.2.1 st.2.2)(he:QeY k limit p y st= .inr z):
  okS z.1 z.2.1 z.2.2∧inP p y=true∧rcK k y.fRec=true∧(z.2.1=st.2.1∨z.2.1=st.2.1++ [y.fRec.fSaga]):=by
 unfold QeY at he
 cases h1:inP p y with
 |false=>rw[h1]at he;cases he
 | true=>
  rw[h1]at he
  simp only[Qg]at he
  cases h2:rcK k y.fRec with
  |false=>rw[h2]at he;cases he
  | true=>
   rw[h2]at he
   simp only[Qg]at he
   cases h3:decide (y.fRec.fKind=1)with
   |true=>
    rw[h3]at he
    obtain⟨s,h4,rfl⟩:=QlD he
    obtain⟨h5,h6⟩:=Qwy hr h h4
    exact⟨Qsp h5,rfl,rfl,.inr h6⟩
   | false=>
    rw[h3]at he
    simp only[Qh]at he
    cases h7:decide (y.fRec.fKind=6)with
    |true=>rw[h7]at he;cases he;exact⟨h,rfl,rfl,.inl rfl⟩
    |false=>
     rw[h7]at he
     obtain⟨s,h4,rfl⟩:=QlD he
     obtain⟨h5,h6⟩:=Quc hr h h4
     exact⟨Qsp h5,rfl,rfl,.inl h6⟩
def lftA:Sum Int StT→Sum (Sum Int VdT) StT
 | .inl e=> .inl (.inl e)
 | .inr st=> .inr st
theorem Qud{x:Bun}(hv:vBun x){k0:Qq}{limit:Int}:∀(l:List It) (i k:Nat) (st:StT),x.fItems.drop i=l→i≤x.fItems.length→l.length<k→okS st.1 st.2.1 st.2.2→st.2.1.length≤i→
  QK.l 1000000000000 ⟨k0,limit⟩ x k ((i:Int),st.1,st.2.1,st.2.2)=some (lftA (runI k0 limit x.fPoint l st)):=by
 have h400:=hv.r.len
 intro l
 induction l with
 |nil=>
  intro i k st hl hi hk hs ho
  obtain⟨k,rfl⟩:∃j,k=j+1:=⟨k-1,by simp at hk;omega⟩
  have hi2:x.fItems.length≤i:=by simpa using hl
  show QK.b 1000000000000 ⟨k0,limit⟩ x (QK.l 1000000000000 ⟨k0,limit⟩ x k) ((i:Int),st.1,st.2.1,st.2.2)=_
  unfold QK.b
  rw[Qi (QG (by simp only;omega))]
  rfl
 | cons y l ih=>
  intro i k st hl hi hk hs ho
  obtain⟨k,rfl⟩:∃j,k=j+1:=⟨k-1,by simp at hk;omega⟩
  have hlt:i<x.fItems.length:=by
   have:=congrArg List.length hl
   simp at this;omega
  have hy:x.fItems[i]?=some y:=by
   have:=congrArg (fun(l:List It)=>l[0]?) hl
   simpa using this
  have hd:x.fItems.drop (i+1)=l:=by rw[←List.drop_drop,hl];rfl
  have hm:y∈x.fItems:=List.mem_of_getElem? hy
  have hr:=(hv.r.items y hm).1
  obtain⟨n,hn,hn12⟩:=QcC hr
  show QK.b 1000000000000 ⟨k0,limit⟩ x (QK.l 1000000000000 ⟨k0,limit⟩ x k) ((i:Int),st.1,st.2.1,st.2.2)=_
  have hgo:∀z:StT,QeY k0 limit x.fPoint y st= .inr z→QK.l 1000000000000 ⟨k0,limit⟩ x k (IntKind.wrap .i64 ((i:Int)+1),z.1,z.2.1,z.2.2)=some (lftA (runI k0 limit x.fPoint (y::l) st)):=fun z hz=>by
   obtain⟨h1,_,_,h2⟩:=Qoa hr hs hz
   rw[wrap_succ (by omega)]
   unfold runI
   rw[hz]
   refine ih (i+1) k z hd (by omega) (by simp at hk;omega) h1 ?_
   rcases h2 with h2|h2
   ·rw[h2];omega
   ·rw[h2,List.length_append,List.length_singleton];omega
  have hno:∀e:Int,QeY k0 limit x.fPoint y st= .inl e→some (.inl (.inl e))=some (lftA (runI k0 limit x.fPoint (y::l) st)):=fun e he=>by
   unfold runI;rw[he];rfl
  generalize lftA (runI k0 limit x.fPoint (y::l) st)=R at hgo hno⊢
  unfold QeY at hgo hno
  unfold QK.b
  rw[Qj (QT (by simp only;omega))]
  simp only[jn]
  rw[bnd (JJ hy),bnd (Qf5 (hv.d y hm) hr),bnd (QxM (by have:=(hv.r.items y hm).2.2;omega) (by have:=hv.r.size;omega))]
  refine Qdt (fun h=> ?_) (fun h=> ?_)
  ·rw[h]at hno;exact hno 10 rfl
  rw[h]at hgo hno
  simp only[Qg]at hgo hno
  rw[QeX (hv.d y hm) (Qhz (hv.b y hm).tag)]
  cases h7:rcK k0 y.fRec with
  |false=>rw[h7]at hno;exact hno 7 rfl
  | true=>
   rw[h7]at hgo hno
   simp only[Qg,sm]at hgo hno⊢
   cases h3:decide (y.fRec.fKind=1)with
   | true=>
    rw[h3]at hgo hno
    simp only[Qg]at hgo hno⊢
    rw[Qwx hr hs (by omega)]
    cases hb:begA y.fRec (st.1,st.2.1,st.2.2)with
    |inl e=>exact hno e (by rw[show begA y.fRec st= .inl e from hb];rfl)
    |inr z=>
     have:=hgo (hadA y.fRec z) (by rw[show begA y.fRec st= .inr z from hb];rfl)
     simp only[chk]
     rw[hn,Qj (Yq hn12)]
     simp only[hadA,hn]at this
     exact this
   | false=>
    rw[h3]at hgo hno
    simp only[Qh]at hgo hno⊢
    cases h6:decide (y.fRec.fKind=6)with
    |true=>
     rw[h6]at hgo
     simp only[Qg]
     exact hgo st rfl
    | false=>
     rw[h6]at hgo hno
     simp only[Qh]at hgo hno⊢
     rw[Qua hr hs]
     cases hb:QlC limit y.fRec (st.1,st.2.1,st.2.2)with
     |inl e=>exact hno e (by rw[show QlC limit y.fRec st= .inl e from hb];rfl)
     |inr z=>
      have:=hgo (hadA y.fRec z) (by rw[show QlC limit y.fRec st= .inr z from hb];rfl)
      simp only[chk]
      rw[hn,Qj (Yq hn12)]
      simp only[hadA,hn]at this
      exact this
theorem Qm0{k:Qq}{limit:Int}{p:Qo}:∀(l:List It) (st z:StT),(∀y∈l,Yx y.fRec=true)→okS st.1 st.2.1 st.2.2→runI k limit p l st= .inr z→okS z.1 z.2.1 z.2.2∧(∃q,z.2.1=st.2.1++q∧q.length≤l.length)∧∀y∈l,inP p y=true∧rcK k y.fRec=true
 | [],st,z,_,hs,h=>by cases h;exact⟨hs,⟨[],by simp,by simp⟩,fun _ h=>by cases h⟩
 | y::l,st,z,hr,hs,h=>by
  unfold runI at h
  cases hi:QeY k limit p y st with
  |inl e=>rw[hi]at h;cases h
  | inr s=>
   rw[hi]at h
   obtain⟨h1,h2,h3,h4⟩:=Qoa (hr y List.mem_cons_self) hs hi
   obtain⟨g1,⟨q,g2,g4⟩,g3⟩:=Qm0 l s z (fun y hy=>hr y (List.mem_cons_of_mem _ hy)) h1 h
   refine⟨g1,?_,fun x hx=> ?_⟩
   ·rcases h4 with h4|h4
    ·exact⟨q,by rw[g2,h4],by simp;omega⟩
    ·exact⟨[y.fRec.fSaga]++q,by rw[g2,h4,List.append_assoc],by simp;omega⟩
   ·rcases List.mem_cons.1 hx with rfl|hx
    ·exact⟨h2,h3⟩
    ·exact g3 x hx
def Qeh(z:StT):List Qu:=z.2.1.map fun n=>Qih (z.2.2.getD n.toNat QC)
theorem Qpp{z:StT}(h:okS z.1 z.2.1 z.2.2)(hl:z.2.1.length<1000){c:Int}:∀(m i k:Nat) (l:List Int) (q:List Qu),i+m=z.2.1.length→m<k→l=z.2.1.take i→q=(Qeh z).take i→
  QQ.l 1000000000000 z k ((i:Int),c,l,q)=some (c,z.2.1,Qeh z):=by
 intro m
 induction m with
 |zero=>
  intro i k l q hi hk h1 h2
  obtain⟨k,rfl⟩:∃j,k=j+1:=⟨k-1,by omega⟩
  show QQ.b 1000000000000 z (QQ.l 1000000000000 z k) ((i:Int),c,l,q)=_
  unfold QQ.b
  rw[Qi (QG (by simp only;omega)),h1,h2,List.take_of_length_le (by omega),List.take_of_length_le (by unfold Qeh;simp;omega)]
 | succ m ih=>
  intro i k l q hi hk h1 h2
  obtain⟨k,rfl⟩:∃j,k=j+1:=⟨k-1,by omega⟩
  show QQ.b 1000000000000 z (QQ.l 1000000000000 z k) ((i:Int),c,l,q)=_
  unfold QQ.b
  rw[Qj (QT (by simp only;omega))]
  have hi2:i<z.2.1.length:=by omega
  have hn:getI z.2.1 (i:Int)=some z.2.1[i]:=by rw[Jm,List.getElem?_eq_getElem hi2]
  have hm:z.2.1[i]∈z.2.1:=List.getElem_mem hi2
  have hn2:=h.o _ hm
  obtain⟨j,hj⟩:=Int.eq_ofNat_of_zero_le hn2.1
  have hl1:l.length=i:=by rw[h1];simp;omega
  have hl2:q.length=i:=by rw[h2];unfold Qeh;simp;omega
  rw[bnd hn,bnd (YQ (by simp only[List.length_singleton];omega))]
  simp only[chk]
  have hline:(Qeh z)[i]?=some (Qih (z.2.2.getD j QC)):=by
   unfold Qeh
   rw[List.getElem?_map,List.getElem?_eq_getElem hi2,hj];rfl
  rw[hj,Qj (Yq (by omega)),bnd (getD_at (d:=QC) (by rw[h.s];omega)),Qj (Yq (by omega)),bnd (getD_at (d:=QC) (by rw[h.s];omega)),bnd (Qn9 _),bnd (YQ (by simp only[List.length_singleton];omega)),wrap_succ (by omega)]
  refine ih (i+1) k _ _ (by omega) (by omega) ?_ ?_
  ·rw[h1,List.take_add_one,List.getElem?_eq_getElem hi2,hj];rfl
  ·rw[h2,List.take_add_one,hline];rfl
def st0:StT:=([false,false,false,false,false,false,false,false,false,false,false,false], [], [QC,QC,QC,QC,QC,QC,QC,QC,QC,QC,QC,QC])
theorem Qwz{x:Bun}(hv:vBun x)(k0:Qq)(limit:Int):Y0.fs 1000000000000 ⟨k0,limit⟩ x=some (match runI k0 limit x.fPoint x.fItems st0 with
  | .inl e=> .inl e
  | .inr z=> .inr (0,z.2.1,Qeh z)):=by
 unfold Y0.fs
 have h400:=hv.r.len
 have h1:=Qud hv (k0:=k0) (limit:=limit) x.fItems 0 1000000000000 st0 rfl (by omega) (by omega) Qf6 (Nat.le_refl _)
 have h1:QK.l 1000000000000 ⟨k0,limit⟩ x 1000000000000 (0,_,_,_)=_:=h1
 refine QD h1 ?_
 cases hr:runI k0 limit x.fPoint x.fItems st0 with
 |inl e=>rfl
 |inr z=>
  obtain⟨h2,⟨q,h3,h4⟩,_⟩:=Qm0 _ _ _ (fun y hy=>(hv.r.items y hy).1) Qf6 hr
  have hz:z.2.1.length<1000:=by rw[h3];simp[st0];omega
  have h5:=Qpp h2 hz (c:=0) z.2.1.length 0 1000000000000 [] [] (by omega) (by omega) rfl rfl
  have h5:QQ.l 1000000000000 z 1000000000000 (0,0, [], [])=_:=h5
  exact QD h5 rfl
end Go.Proofs.YtomndohdnfebgaaGreatDoor
