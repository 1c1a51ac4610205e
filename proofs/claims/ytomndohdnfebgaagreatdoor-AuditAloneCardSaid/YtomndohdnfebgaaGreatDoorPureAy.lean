/-
 Plain: the audit of a whole bundle; books and hashes of its records.
-/
import Derived.Test.YtomndohdnfebgaaGreatDoorPureAu
import Derived.Test.YtomndohdnfebgaaGreatDoorTgDef
namespace Go.Proofs.YtomndohdnfebgaaGreatDoor
open Go Go.Sep
theorem QxN{K:Nat}(hK:K=1000000000000):jU.f K=some true:=by
 subst hK
 kernel_rfl
abbrev StT:=List Bool×List Int×List Sa
def Qoe(l:List Sp):Bool:=(yQ.f 1000000000000 l).getD false
def Qja(l:List Sp):Sa:=(Xq.f 1000000000000 l).getD Qw
def goSt(s:Sa)(x:Rc)(limit:Int):Sa×Bool:=(QaW.f 1000000000000 s x limit).getD (s,false)
def inP(p:Qo)(y:It):Bool:=(QbM.f 1000000000000 (yh y.fRec) y.fAt p.fSize y.fPath p.fRoot).getD false
def Qdq(s:Sa):Qq:=⟨s.fPhase,(jS.f 1000000000000 s).getD 0⟩
theorem gd{α:Type}{o:Option α}{d:α}(h:∃r,o=some r):o=some (o.getD d):=by
 obtain⟨r,h⟩:=h;rw[h];rfl
theorem Qpm{l:List Sp}(h:l.length<1000):yQ.f 1000000000000 l=some (Qoe l):=gd (Qg8 l h)
theorem Qlh{l:List Sp}(h:l.length<1000):Xq.f 1000000000000 l=some (Qja l)∧(Qja l).fSteps.length≤l.length:=by
 obtain⟨r,h1,h2⟩:=Qod l h
 have:Qja l=r:=by unfold Qja;rw[h1];rfl
 rw[this];exact⟨h1,h2⟩
theorem Qiz{s:Sa}{x:Rc}{limit:Int}(h:s.fSteps.length<1000)(h0:0≤x.fStep):QaW.f 1000000000000 s x limit=some (goSt s x limit)∧((goSt s x limit).1.fSteps=s.fSteps∧((goSt s x limit).2=true→x.fKind=3→x.fStep<((s.fSteps.length:Nat):Int))):=by
 obtain⟨r,h1,h2⟩:=Qtp s x limit h h0
 have:goSt s x limit=r:=by unfold goSt;rw[h1];rfl
 rw[this];exact⟨h1,h2⟩
theorem Qwl{p:Qo}{y:It}(hW:y.fPath.length<1000000)(hn:p.fSize≤401):QbM.f 1000000000000 (yh y.fRec) y.fAt p.fSize y.fPath p.fRoot=some (inP p y):=gd (Qwk _ _ hW _ _ hn)
theorem Qpn(s:Sa):jS.f 1000000000000 s=some (Qdq s).fMissing:=gd (Qef s)
def hadA(x:Rc)(st:StT):StT:=(st.1.set x.fSaga.toNat true,st.2.1,st.2.2)
def begA(x:Rc)(st:StT):Sum Int StT:=bif !(st.1.getD x.fSaga.toNat false)&&Qoe x.fSteps then .inr (st.1,st.2.1++ [x.fSaga],st.2.2.set x.fSaga.toNat (Qja x.fSteps))else .inl 9
def Qtz(s:Sa)(x:Rc):Bool:= !decide (x.fKind=3)||decide ((s.fSteps.getD x.fStep.toNat QcI).fPart=x.fPart)
def sagA(x:Rc)(st:StT):Sa:=st.2.2.getD x.fSaga.toNat Qw
def Qjb(limit:Int)(x:Rc)(st:StT):Sum Int StT:=
 bif decide ((sagA x st).fSteps.length=0)then .inr st else
  bif (goSt (sagA x st) x limit).2&&Qtz (sagA x st) x then .inr (st.1,st.2.1,st.2.2.set x.fSaga.toNat (goSt (sagA x st) x limit).1)else .inl 9
def QxO(x:Rc):Sum Int StT→Sum Int StT
 | .inl e=> .inl e
 | .inr st=> .inr (hadA x st)
def QgQ(k:Qr)(limit:Int)(p:Qo)(y:It)(st:StT):Sum Int StT:=
 bif inP p y then(bif rcK k y.fRec then
  (bif decide (y.fRec.fKind=1)then QxO y.fRec (begA y.fRec st)else
   bif decide (y.fRec.fKind=6)then .inr st else QxO y.fRec (Qjb limit y.fRec st))else .inl 7)else .inl 10
def runI(k:Qr)(limit:Int)(p:Qo):List It→StT→Sum Int StT
 | [],st=> .inr st
 |y::l,st=>match QgQ k limit p y st with
  | .inl e=> .inl e
  | .inr st=>runI k limit p l st
theorem getD_at{α:Type}{l:List α}{n:Nat}{d:α}(h:n<l.length):getI l (n:Int)=some (l.getD n d):=by
 rw[Jz,List.getElem?_eq_getElem h,List.getD_eq_getElem?_getD,List.getElem?_eq_getElem h];rfl
theorem QxP{x:Rc}(hr:Yy x=true){b:List Bool}{o:List Int}{s:List Sa}(h:okS b o s)(ho:o.length<1000):qw.fs 1000000000000 x b o s=some (begA x (b,o,s)):=by
 obtain⟨n,hn,hn12⟩:=Qa7 hr
 have h6:=Qfb hr
 unfold qw.fs begA
 simp only[jn,chk]
 rw[hn,Qj (YB hn12),Int.toNat_natCast,bnd (getD_at (d:=false) (by rw[h.b];exact hn12))]
 cases b.getD n false with
 |true=>rfl
 | false=>
  simp only[Bool.not_false,Qg,Bool.true_and]
  rw[bnd (Qpm (by omega))]
  cases Qoe x.fSteps with
  |false=>rfl
  |true=>
   simp only[Qg]
   refine Qeh (fun h=>by cases h) (fun _=> ?_)
   rw[bnd (Qlh (by omega)).1]
   rw[Qj (YB hn12)]
   simp only[Qb]
   rw[bnd (YX (by simp only[List.length_singleton];omega))]
theorem Qvj{x:Rc}(hr:Yy x=true){limit:Int}{b:List Bool}{o:List Int}{s:List Sa}(h:okS b o s):qW.fs 1000000000000 x limit b o s=some (Qjb limit x (b,o,s)):=by
 obtain⟨n,hn,hn12⟩:=Qa7 hr
 unfold qW.fs Qjb
 simp only[jn,chk]
 have hs:sagA x (b,o,s)=s.getD n Qw:=by unfold sagA;rw[hn];rfl
 rw[hs,hn,Qj (YB hn12),Int.toNat_natCast]
 have hg:=getD_at (l:=s) (n:=n) (d:=Qw) (by rw[h.s];exact hn12)
 rw[bnd hg]
 have hm:s.getD n Qw∈s:=by rw[Jz]at hg;exact List.mem_of_getElem? hg
 generalize s.getD n Qw=t at hm
 have h6:=h.st t hm
 by_cases h0:t.fSteps.length=0
 ·rw[Qj (QK (by omega)),Qj (QK h0)]
 rw[Qi (QE (by omega)),Qi (QE h0)]
 obtain⟨h1,h2,h3⟩:=Qiz (s:=t) (x:=x) (limit:=limit) (by omega) (Qeg hr)
 rw[bnd h1]
 cases h5:(goSt t x limit).2 with
 |false=>rfl
 | true=>
  simp only[Qg,Bool.true_and]
  unfold Qtz
  by_cases k3:x.fKind=3
  ·rw[Qi (by simp[k3])]
   have h7:=h3 h5 k3
   obtain⟨j,hj⟩:=Int.eq_ofNat_of_zero_le (Qeg hr)
   rw[hj,bnd (getD_at (d:=QcI) (by omega)),Int.toNat_natCast,QK k3]
   simp only[Bool.not_true,Bool.false_or]
   cases decide ((t.fSteps.getD j QcI).fPart=x.fPart)with
   |false=>rfl
   |true=>rw[Qj (YB hn12)];rfl
  ·rw[Qj (by simp[k3]),QE k3,Qj (YB hn12)]
   rfl
theorem QxQ{x:Rc}(hr:Yy x=true){st z:StT}(h:okS st.1 st.2.1 st.2.2)(he:begA x st= .inr z):okS z.1 z.2.1 z.2.2∧z.2.1=st.2.1++ [x.fSaga]:=by
 obtain⟨n,hn,hn12⟩:=Qa7 hr
 unfold begA at he
 cases hc:(!(st.1.getD x.fSaga.toNat false)&&Qoe x.fSteps)with
 |false=>rw[hc]at he;cases he
 | true=>
  rw[hc]at he
  cases he
  refine⟨⟨h.b,fun m hm=> ?_,by simp[h.s],fun y hy=> ?_⟩,rfl⟩
  ·rcases List.mem_append.1 hm with hm|hm
   ·exact h.o m hm
   ·simp at hm;omega
  ·have h6:=Qfb hr
   rcases Qix hy with rfl|hy
   ·have:=(Qlh (l:=x.fSteps) (by omega)).2;omega
   ·exact h.st y hy
theorem Qpo{x:Rc}(hr:Yy x=true){st:StT}(h:okS st.1 st.2.1 st.2.2):sagA x st∈st.2.2:=by
 obtain⟨n,hn,hn12⟩:=Qa7 hr
 unfold sagA
 rw[hn,Int.toNat_natCast]
 have hg:=getD_at (l:=st.2.2) (n:=n) (d:=Qw) (by rw[h.s];exact hn12)
 rw[Jz]at hg
 exact List.mem_of_getElem? hg
theorem Qvk{x:Rc}(hr:Yy x=true){limit:Int}{st z:StT}(h:okS st.1 st.2.1 st.2.2)(he:Qjb limit x st= .inr z):okS z.1 z.2.1 z.2.2∧z.2.1=st.2.1:=by
 have h6:=h.st _ (Qpo hr h)
 unfold Qjb at he
 cases hc:decide ((sagA x st).fSteps.length=0)with
 |true=>rw[hc]at he;cases he;exact⟨h,rfl⟩
 | false=>
  rw[hc]at he
  simp only[Qh]at he
  cases hd:((goSt (sagA x st) x limit).2&&Qtz (sagA x st) x)with
  |false=>rw[hd]at he;cases he
  |true=>
   rw[hd]at he
   cases he
   refine⟨⟨h.b,h.o,by simp[h.s],fun y hy=> ?_⟩,rfl⟩
   rcases Qix hy with rfl|hy
   ·rw[(Qiz (by omega) (Qeg hr)).2.1];exact h6
   ·exact h.st y hy
theorem QtA{x:Rc}{st:StT}(h:okS st.1 st.2.1 st.2.2):okS (hadA x st).1 (hadA x st).2.1 (hadA x st).2.2:=⟨by simp[hadA,h.b],h.o,h.s,h.st⟩
theorem Qfd{x:Rc}{r:Sum Int StT}{z:StT}(h:QxO x r= .inr z):∃st,r= .inr st∧z=hadA x st:=by
 cases r with
 |inl e=>cases h
 |inr st=>exact⟨st,rfl,by cases h;rfl⟩
theorem Qli{k:Qr}{limit:Int}{p:Qo}{y:It}(hr:Yy y.fRec=true){st z:StT}(h:okS st.1 st.2.1 st.2.2)(he:QgQ k limit p y st= .inr z):
  okS z.1 z.2.1 z.2.2∧inP p y=true∧rcK k y.fRec=true∧(z.2.1=st.2.1∨z.2.1=st.2.1++ [y.fRec.fSaga]):=by
 unfold QgQ at he
 cases h1:inP p y with
 |false=>rw[h1]at he;cases he
 | true=>
  rw[h1]at he
  simp only[Qg]at he
  cases h2:rcK k y.fRec with
  |false=>rw[h2]at he;cases he
  | true=>
   rw[h2]at he
   simp only[Qg]at he
   cases h3:decide (y.fRec.fKind=1)with
   |true=>
    rw[h3]at he
    obtain⟨s,h4,rfl⟩:=Qfd he
    obtain⟨h5,h6⟩:=QxQ hr h h4
    exact⟨QtA h5,rfl,rfl,.inr h6⟩
   | false=>
    rw[h3]at he
    simp only[Qh]at he
    cases h7:decide (y.fRec.fKind=6)with
    |true=>rw[h7]at he;cases he;exact⟨h,rfl,rfl,.inl rfl⟩
    |false=>
     rw[h7]at he
     obtain⟨s,h4,rfl⟩:=Qfd he
     obtain⟨h5,h6⟩:=Qvk hr h h4
     exact⟨QtA h5,rfl,rfl,.inl h6⟩
def lftA:Sum Int StT→Sum (Sum Int VdT) StT
 | .inl e=> .inl (.inl e)
 | .inr st=> .inr st
theorem Qvl{x:Bun}(hv:vBun x){k0:Qr}{limit:Int}:∀(l:List It) (i k:Nat) (st:StT),x.fItems.drop i=l→i≤x.fItems.length→l.length<k→okS st.1 st.2.1 st.2.2→st.2.1.length≤i→
  QO.l 1000000000000 ⟨k0,limit⟩ x k ((i:Int),st.1,st.2.1,st.2.2)=some (lftA (runI k0 limit x.fPoint l st)):=by
 have h400:=hv.r.len
 intro l
 induction l with
 |nil=>
  intro i k st hl hi hk hs ho
  obtain⟨k,rfl⟩:∃j,k=j+1:=⟨k-1,by simp at hk;omega⟩
  have hi2:x.fItems.length≤i:=by simpa using hl
  show QO.b 1000000000000 ⟨k0,limit⟩ x (QO.l 1000000000000 ⟨k0,limit⟩ x k) ((i:Int),st.1,st.2.1,st.2.2)=_
  unfold QO.b
  rw[Qi (QE (by simp only;omega))]
  rfl
 | cons y l ih=>
  intro i k st hl hi hk hs ho
  obtain⟨k,rfl⟩:∃j,k=j+1:=⟨k-1,by simp at hk;omega⟩
  have hlt:i<x.fItems.length:=by
   have:=congrArg List.length hl
   simp at this;omega
  have hy:x.fItems[i]?=some y:=by
   have:=congrArg (fun(l:List It)=>l[0]?) hl
   simpa using this
  have hd:x.fItems.drop (i+1)=l:=by rw[←List.drop_drop,hl];rfl
  have hm:y∈x.fItems:=List.mem_of_getElem? hy
  have hr:=(hv.r.items y hm).1
  obtain⟨n,hn,hn12⟩:=Qa7 hr
  show QO.b 1000000000000 ⟨k0,limit⟩ x (QO.l 1000000000000 ⟨k0,limit⟩ x k) ((i:Int),st.1,st.2.1,st.2.2)=_
  have hgo:∀z:StT,QgQ k0 limit x.fPoint y st= .inr z→QO.l 1000000000000 ⟨k0,limit⟩ x k (IntKind.wrap .i64 ((i:Int)+1),z.1,z.2.1,z.2.2)=some (lftA (runI k0 limit x.fPoint (y::l) st)):=fun z hz=>by
   obtain⟨h1,_,_,h2⟩:=Qli hr hs hz
   rw[wrap_succ (by omega)]
   unfold runI
   rw[hz]
   refine ih (i+1) k z hd (by omega) (by simp at hk;omega) h1 ?_
   rcases h2 with h2|h2
   ·rw[h2];omega
   ·rw[h2,List.length_append,List.length_singleton];omega
  have hno:∀e:Int,QgQ k0 limit x.fPoint y st= .inl e→some (.inl (.inl e))=some (lftA (runI k0 limit x.fPoint (y::l) st)):=fun e he=>by
   unfold runI;rw[he];rfl
  generalize lftA (runI k0 limit x.fPoint (y::l) st)=R at hgo hno⊢
  unfold QgQ at hgo hno
  unfold QO.b
  rw[Qj (QK (by simp only;omega))]
  simp only[jn]
  rw[bnd (Yq hy),bnd (Qha (hv.d y hm) hr),bnd (Qwl (by have:=(hv.r.items y hm).2.2;omega) (by have:=hv.r.size;omega))]
  refine Qeh (fun h=> ?_) (fun h=> ?_)
  ·rw[h]at hno;exact hno 10 rfl
  rw[h]at hgo hno
  simp only[Qg]at hgo hno
  rw[Qf1 (hv.d y hm) (Qiy (hv.b y hm).tag)]
  cases h7:rcK k0 y.fRec with
  |false=>rw[h7]at hno;exact hno 7 rfl
  | true=>
   rw[h7]at hgo hno
   simp only[Qg,sm]at hgo hno⊢
   cases h3:decide (y.fRec.fKind=1)with
   | true=>
    rw[h3]at hgo hno
    simp only[Qg]at hgo hno⊢
    rw[QxP hr hs (by omega)]
    cases hb:begA y.fRec (st.1,st.2.1,st.2.2)with
    |inl e=>exact hno e (by rw[show begA y.fRec st= .inl e from hb];rfl)
    |inr z=>
     have:=hgo (hadA y.fRec z) (by rw[show begA y.fRec st= .inr z from hb];rfl)
     simp only[chk]
     rw[hn,Qj (YB hn12)]
     simp only[hadA,hn]at this
     exact this
   | false=>
    rw[h3]at hgo hno
    simp only[Qh]at hgo hno⊢
    cases h6:decide (y.fRec.fKind=6)with
    |true=>
     rw[h6]at hgo
     simp only[Qg]
     exact hgo st rfl
    | false=>
     rw[h6]at hgo hno
     simp only[Qh]at hgo hno⊢
     rw[Qvj hr hs]
     cases hb:Qjb limit y.fRec (st.1,st.2.1,st.2.2)with
     |inl e=>exact hno e (by rw[show Qjb limit y.fRec st= .inl e from hb];rfl)
     |inr z=>
      have:=hgo (hadA y.fRec z) (by rw[show Qjb limit y.fRec st= .inr z from hb];rfl)
      simp only[chk]
      rw[hn,Qj (YB hn12)]
      simp only[hadA,hn]at this
      exact this
theorem Qof{k:Qr}{limit:Int}{p:Qo}:∀(l:List It) (st z:StT),(∀y∈l,Yy y.fRec=true)→okS st.1 st.2.1 st.2.2→runI k limit p l st= .inr z→okS z.1 z.2.1 z.2.2∧(∃q,z.2.1=st.2.1++q∧q.length≤l.length)∧∀y∈l,inP p y=true∧rcK k y.fRec=true
 | [],st,z,_,hs,h=>by cases h;exact⟨hs,⟨[],by simp,by simp⟩,fun _ h=>by cases h⟩
 | y::l,st,z,hr,hs,h=>by
  unfold runI at h
  cases hi:QgQ k limit p y st with
  |inl e=>rw[hi]at h;cases h
  | inr s=>
   rw[hi]at h
   obtain⟨h1,h2,h3,h4⟩:=Qli (hr y List.mem_cons_self) hs hi
   obtain⟨g1,⟨q,g2,g4⟩,g3⟩:=Qof l s z (fun y hy=>hr y (List.mem_cons_of_mem _ hy)) h1 h
   refine⟨g1,?_,fun x hx=> ?_⟩
   ·rcases h4 with h4|h4
    ·exact⟨q,by rw[g2,h4],by simp;omega⟩
    ·exact⟨[y.fRec.fSaga]++q,by rw[g2,h4,List.append_assoc],by simp;omega⟩
   ·rcases List.mem_cons.1 hx with rfl|hx
    ·exact⟨h2,h3⟩
    ·exact g3 x hx
def QaP(z:StT):List Qq:=z.2.1.map fun n=>Qdq (z.2.2.getD n.toNat Qw)
theorem QqJ{z:StT}(h:okS z.1 z.2.1 z.2.2)(hl:z.2.1.length<1000){c:Int}:∀(m i k:Nat) (l:List Int) (q:List Qq),i+m=z.2.1.length→m<k→l=z.2.1.take i→q=(QaP z).take i→
  QU.l 1000000000000 z k ((i:Int),c,l,q)=some (c,z.2.1,QaP z):=by
 intro m
 induction m with
 |zero=>
  intro i k l q hi hk h1 h2
  obtain⟨k,rfl⟩:∃j,k=j+1:=⟨k-1,by omega⟩
  show QU.b 1000000000000 z (QU.l 1000000000000 z k) ((i:Int),c,l,q)=_
  unfold QU.b
  rw[Qi (QE (by simp only;omega)),h1,h2,List.take_of_length_le (by omega),List.take_of_length_le (by unfold QaP;simp;omega)]
 | succ m ih=>
  intro i k l q hi hk h1 h2
  obtain⟨k,rfl⟩:∃j,k=j+1:=⟨k-1,by omega⟩
  show QU.b 1000000000000 z (QU.l 1000000000000 z k) ((i:Int),c,l,q)=_
  unfold QU.b
  rw[Qj (QK (by simp only;omega))]
  have hi2:i<z.2.1.length:=by omega
  have hn:getI z.2.1 (i:Int)=some z.2.1[i]:=by rw[Jz,List.getElem?_eq_getElem hi2]
  have hm:z.2.1[i]∈z.2.1:=List.getElem_mem hi2
  have hn2:=h.o _ hm
  obtain⟨j,hj⟩:=Int.eq_ofNat_of_zero_le hn2.1
  have hl1:l.length=i:=by rw[h1];simp;omega
  have hl2:q.length=i:=by rw[h2];unfold QaP;simp;omega
  rw[bnd hn,bnd (YX (by simp only[List.length_singleton];omega))]
  simp only[chk]
  have hline:(QaP z)[i]?=some (Qdq (z.2.2.getD j Qw)):=by
   unfold QaP
   rw[List.getElem?_map,List.getElem?_eq_getElem hi2,hj];rfl
  rw[hj,Qj (YB (by omega)),bnd (getD_at (d:=Qw) (by rw[h.s];omega)),Qj (YB (by omega)),bnd (getD_at (d:=Qw) (by rw[h.s];omega)),bnd (Qpn _),bnd (YX (by simp only[List.length_singleton];omega)),wrap_succ (by omega)]
  refine ih (i+1) k _ _ (by omega) (by omega) ?_ ?_
  ·rw[h1,List.take_add_one,List.getElem?_eq_getElem hi2,hj];rfl
  ·rw[h2,List.take_add_one,hline];rfl
def st0:StT:=([false,false,false,false,false,false,false,false,false,false,false,false], [], [Qw,Qw,Qw,Qw,Qw,Qw,Qw,Qw,Qw,Qw,Qw,Qw])
theorem QxR{x:Bun}(hv:vBun x)(k0:Qr)(limit:Int):Y9.fs 1000000000000 ⟨k0,limit⟩ x=some (match runI k0 limit x.fPoint x.fItems st0 with
  | .inl e=> .inl e
  | .inr z=> .inr (0,z.2.1,QaP z)):=by
 unfold Y9.fs
 have h400:=hv.r.len
 have h1:=Qvl hv (k0:=k0) (limit:=limit) x.fItems 0 1000000000000 st0 rfl (by omega) (by omega) Qfc (Nat.le_refl _)
 have h1:QO.l 1000000000000 ⟨k0,limit⟩ x 1000000000000 (0,_,_,_)=_:=h1
 refine Qz h1 ?_
 cases hr:runI k0 limit x.fPoint x.fItems st0 with
 |inl e=>rfl
 |inr z=>
  obtain⟨h2,⟨q,h3,h4⟩,_⟩:=Qof _ _ _ (fun y hy=>(hv.r.items y hy).1) Qfc hr
  have hz:z.2.1.length<1000:=by rw[h3];simp[st0];omega
  have h5:=QqJ h2 hz (c:=0) z.2.1.length 0 1000000000000 [] [] (by omega) (by omega) rfl rfl
  have h5:QU.l 1000000000000 z 1000000000000 (0,0, [], [])=_:=h5
  exact Qz h5 rfl
def splN(n:Nat):Nat:=max 1 (min (n-1) (2^Nat.log2 (n-1)))
theorem Qei{n:Nat}(h:2≤n):0<splN n∧splN n<n:=by unfold splN;omega
theorem QxS:((List.range 402).all fun n=>decide (n<2)||decide (yl.f 1000000000000 (n:Int)=some ((splN n:Nat):Int)))=true:=by kernel_rfl
theorem QmM{n:Nat}(h1:2≤n)(h2:n≤401):yl.f 1000000000000 (n:Int)=some ((splN n:Nat):Int):=by
 have h:=List.all_eq_true.1 QxS n (List.mem_range.2 (by omega))
 simp only[Bool.or_eq_true,decide_eq_true_eq]at h
 exact h.resolve_left (by omega)
theorem Qvm{n j:Nat}(h1:2^j<n)(h2:n≤2^(j+1)):splN n=2^j:=by
 have hp:0<2^j:=Nat.pow_pos (by omega)
 have:Nat.log2 (n-1)=j:=(Nat.log2_eq_iff (by omega)).2 ⟨by omega,by omega⟩
 unfold splN
 rw[this]
 omega
def Qf2(a b:H32):H32:=(jD.f 1000000000000 a b).getD zH
theorem Qf3(a b:H32):jD.f 1000000000000 a b=some (Qf2 a b):=gd (Qe9 a b)
def QxT:H32:=(shaQ.f 1000000000000 []).getD zH
theorem Qog:shaQ.f 1000000000000 []=some QxT:=by
 obtain⟨r,hr,_⟩:=Qdn (K:=1000000000000) (Nat.le_refl _) (x:= []) (by simp) (by simp)
 exact gd ⟨r,hr⟩
def yK(l:List H32):H32:=
 if l.length<2 then l.headD QxT else Qf2 (yK (l.take (splN l.length))) (yK (l.drop (splN l.length)))
termination_by l.length
decreasing_by
 ·have:=Qei (n:=l.length) (by omega);simp only[List.length_take];omega
 ·have:=Qei (n:=l.length) (by omega);simp only[List.length_drop];omega
theorem QiA:yK []=QxT:=by rw[yK];rfl
theorem Qfe(x:H32):yK [x]=x:=by rw[yK];rfl
theorem Qdr{l:List H32}(h:2≤l.length):yK l=Qf2 (yK (l.take (splN l.length))) (yK (l.drop (splN l.length))):=by
 conv=>lhs;rw[yK]
 rw[if_neg (by omega)]
theorem Qzg:∀(n:Nat) (l:List H32) (k:Nat),l.length≤n→l.length≤401→n<k→JO.r 1000000000000 k l=some (yK l):=by
 intro n
 induction n with
 |zero=>
  intro l k h _ hk
  obtain⟨k,rfl⟩:∃j,k=j+1:=⟨k-1,by omega⟩
  have e:l= []:=List.eq_nil_of_length_eq_zero (by omega)
  subst e
  show JO.b 1000000000000 (JO.r 1000000000000 k) []=_
  unfold JO.b
  rw[Qj (by rfl),QiA,bnd Qog]
 | succ n ih=>
  intro l k h h50 hk
  obtain⟨k,rfl⟩:∃j,k=j+1:=⟨k-1,by omega⟩
  show JO.b 1000000000000 (JO.r 1000000000000 k) l=_
  unfold JO.b
  by_cases h0:l.length=0
  ·have e:l= []:=List.eq_nil_of_length_eq_zero h0
   subst e
   rw[Qj (by rfl),QiA,bnd Qog]
  rw[Qi (QE (by omega))]
  by_cases h1:l.length=1
  ·obtain⟨x,rfl⟩:∃x,l= [x]:=by
    cases l with
    |nil=>cases h1
    |cons x l=>exact⟨x,by simp at h1;rw[h1]⟩
   rw[Qfe];rfl
  rw[Qi (QE (by omega))]
  have hs:=Qei (n:=l.length) (by omega)
  rw[bnd (QmM (by omega) h50),bnd (XV (by omega)),bnd (Qaz (by omega)),bnd (ih (l.take (splN l.length)) k (by simp;omega) (by simp;omega) (by omega)),bnd (ih (l.drop (splN l.length)) k (by simp;omega) (by simp;omega) (by omega)),bnd (Qf3 _ _),←Qdr (l:=l) (by omega)]
theorem QtB{l:List H32}(h:l.length≤401):JO.f 1000000000000 l=some (yK l):=Qzg 401 l _ h h (by omega)
theorem QmN{b m:List H32}{j:Nat}(hb:b.length=2^j)(h1:0<m.length)(h2:m.length≤2^j):yK (b++m)=Qf2 (yK b) (yK m):=by
 have hp:0<2^j:=Nat.pow_pos (by omega)
 have hl:splN (b++m).length=2^j:=Qvm (by simp;omega) (by rw[Nat.pow_succ];simp;omega)
 rw[Qdr (by simp;omega),hl,←hb,List.take_left,List.drop_left]
def frS(j c:Nat)(l:List H32):List H32:=
 if c=0 then []else if c%2=1 then frS (j+1) (c/2) (l.take ((c-1)*2^j))++ [yK (l.drop ((c-1)*2^j))]else frS (j+1) (c/2) l
termination_by c
decreasing_by
 ·omega
 ·omega
theorem QtC(j:Nat)(l:List H32):frS j 0 l= []:=by rw[frS];rfl
theorem QiB{j c:Nat}{l:List H32}(h:c%2=1):frS j c l=frS (j+1) (c/2) (l.take ((c-1)*2^j))++ [yK (l.drop ((c-1)*2^j))]:=by
 conv=>lhs;rw[frS]
 rw[if_neg (by omega),if_pos h]
theorem Qff{j c:Nat}{l:List H32}(h:c%2=0):frS j c l=frS (j+1) (c/2) l:=by
 by_cases h0:c=0
 ·subst h0;rw[QtC,show 0/2=0 from rfl,QtC]
 ·conv=>lhs;rw[frS]
  rw[if_neg h0,if_neg (by omega)]
theorem Qlj{c j:Nat}(h:c%2=1):(c-1)*2^j=c/2*2^(j+1):=by
 rw[Nat.pow_succ,show c-1=c/2*2 by omega,Nat.mul_assoc,Nat.mul_comm 2]
theorem Qlk{c j:Nat}(h:0<c):c*2^j=(c-1)*2^j+2^j:=by
 conv=>lhs;rw[show c=(c-1)+1 by omega]
 rw[Nat.add_mul,Nat.one_mul]
theorem Qoh:∀(c j:Nat) (l:List H32),(frS j c l).length≤c:=by
 intro c
 induction c using Nat.strongRecOn with
 | _ c ih=>
  intro j l
  by_cases h0:c=0
  ·subst h0;rw[QtC];simp
  ·by_cases h2:c%2=1
   ·rw[QiB h2]
    have:=ih (c/2) (by omega) (j+1) (l.take ((c-1)*2^j))
    simp;omega
   ·rw[Qff (by omega)]
    have:=ih (c/2) (by omega) (j+1) l
    omega
theorem QqK:∀(c j k:Nat) (l m:List H32) (n:Int),l.length=c*2^j→m.length=2^j→l.length+m.length≤401→c<k→c<1000000→
  ∃S h,YU.l 1000000000000 k ((c:Int),frS j c l,n,yK m)=some (S,n,h)∧S++ [h]=frS j (c+1) (l++m):=by
 intro c
 induction c using Nat.strongRecOn with
 | _ c ih=>
  intro j k l m n hl hm h4 hk hc
  obtain⟨k,rfl⟩:∃j,k=j+1:=⟨k-1,by omega⟩
  have hp:0<2^j:=Nat.pow_pos (by omega)
  show ∃S h,YU.b 1000000000000 (YU.l 1000000000000 k) ((c:Int),frS j c l,n,yK m)=some (S,n,h)∧_
  unfold YU.b
  have e1:Int.tmod (c:Int) 2=((c%2:Nat):Int):=rfl
  have e2:Int.tdiv (c:Int) 2=((c/2:Nat):Int):=rfl
  simp only[e1,e2]
  by_cases h2:c%2=1
  ·rw[Qj (QK (by omega)),QiB h2]
   have h5:=Qlk (c:=c) (j:=j) (by omega)
   generalize hb:l.drop ((c-1)*2^j)=b
   generalize hq:l.take ((c-1)*2^j)=l'
   have hlb:l'++b=l:=by rw[←hb,←hq,List.take_append_drop]
   have hb1:b.length=2^j:=by rw[←hb,List.length_drop];omega
   have hq1:l'.length=c/2*2^(j+1):=by rw[←Qlj h2,←hq,List.length_take];omega
   have hfr:∀(S:List H32) (h:H32),(S++ [h]).length<100000→JD.f 1000000000000 (S++ [h]) n=some (h,S,n):=fun S h hS=>by
    unfold JD.f
    have ew:IntKind.wrap .i64 ((((S++ [h]).length:Nat):Int)-1)=((S.length:Nat):Int):=by
     rw[wrap64 (by simp<;>omega) (by omega)];simp
    rw[ew,bnd (Yq (x:=h) (by simp)),bnd (Yq (x:=h) (by simp)),bnd (Qaz (by simp)),List.take_left]
   have hcl:c≤l.length:=by rw[hl];exact Nat.le_mul_of_pos_right c hp
   rw[bnd (hfr _ _ (by have:=Qoh (c/2) (j+1) l';simp;omega)),bnd (Qf3 _ _),←QmN hb1 (by omega) (by omega),wrap64 (by omega) (by omega)]
   obtain⟨S,h,r1,r2⟩:=ih (c/2) (by omega) (j+1) k l' (b++m) n hq1 (by rw[Nat.pow_succ];simp;omega) (by have:=congrArg List.length hlb;simp at this⊢;omega) (by omega) (by omega)
   refine⟨S,h,r1,?_⟩
   rw[r2,Qff (c:=c+1) (by omega),show(c+1)/2=c/2+1 by omega,←hlb,List.append_assoc]
  ·rw[Qi (QE (by omega))]
   refine⟨_,_,rfl,?_⟩
   rw[QiB (c:=c+1) (by omega),Nat.add_sub_cancel,←hl,List.take_left,List.drop_left,Qff (by omega),show(c+1)/2=c/2 by omega]
theorem QtD{l:List H32}(h:H32)(hl:l.length≤400):jG.f 1000000000000 h (frS 0 l.length l) ((l.length:Nat):Int)=some (frS 0 (l.length+1) (l++ [h]),((l.length+1:Nat):Int)):=by
 unfold jG.f
 obtain⟨S,g,h1,h2⟩:=QqK l.length 0 1000000000000 l [h] ((l.length:Nat):Int) (by simp) (by simp) (by simp;omega) (by omega) (by omega)
 rw[Qfe]at h1
 rw[bnd h1]
 unfold JU.f
 have h3:=Qoh (l.length+1) 0 (l++ [h])
 rw[←h2]at h3
 rw[bnd (YX (by simp at h3⊢;omega)),h2]
 simp only[Qb]
 rw[wrap_succ (by omega)]
theorem Qvn:∀(c j:Nat) (l m:List H32),l.length=c*2^j→0<m.length→m.length≤2^j→(frS j c l).foldr Qf2 (yK m)=yK (l++m):=by
 intro c
 induction c using Nat.strongRecOn with
 | _ c ih=>
  intro j l m hl h1 h2
  have hp:0<2^j:=Nat.pow_pos (by omega)
  by_cases h0:c=0
  ·subst h0
   have:l= []:=List.eq_nil_of_length_eq_zero (by omega)
   rw[QtC,this];rfl
  by_cases h3:c%2=1
  ·have h5:=Qlk (c:=c) (j:=j) (by omega)
   rw[QiB h3,List.foldr_append]
   generalize hb:l.drop ((c-1)*2^j)=b
   generalize hq:l.take ((c-1)*2^j)=l'
   have hlb:l'++b=l:=by rw[←hb,←hq,List.take_append_drop]
   have hb1:b.length=2^j:=by rw[←hb,List.length_drop];omega
   have hq1:l'.length=c/2*2^(j+1):=by rw[←Qlj h3,←hq,List.length_take];omega
   simp only[List.foldr_cons,List.foldr_nil]
   rw[←QmN hb1 h1 h2,ih (c/2) (by omega) (j+1) l' (b++m) hq1 (by simp;omega) (by rw[Nat.pow_succ];simp;omega),←hlb,List.append_assoc]
  ·rw[Qff (by omega)]
   refine ih (c/2) (by omega) (j+1) l m ?_ h1 (by rw[Nat.pow_succ];omega)
   rw[hl,Nat.pow_succ,Nat.mul_comm (2^j) 2,←Nat.mul_assoc,show c/2*2=c by omega]
theorem Qvo:∀(c j:Nat) (l:List H32),l.length=c*2^j→0<c→∃S t,frS j c l=S++ [t]∧S.foldr Qf2 t=yK l:=by
 intro c
 induction c using Nat.strongRecOn with
 | _ c ih=>
  intro j l hl h0
  have hp:0<2^j:=Nat.pow_pos (by omega)
  by_cases h3:c%2=1
  ·have h5:=Qlk (c:=c) (j:=j) (by omega)
   refine⟨_,_,QiB h3,?_⟩
   have hb1:(l.drop ((c-1)*2^j)).length=2^j:=by rw[List.length_drop];omega
   rw[Qvn (c/2) (j+1) _ _ (by rw[←Qlj h3,List.length_take];omega) (by omega) (by rw[Nat.pow_succ];omega),List.take_append_drop]
  ·rw[Qff (by omega)]
   refine ih (c/2) (by omega) (j+1) l ?_ (by omega)
   rw[hl,Nat.pow_succ,Nat.mul_comm (2^j) 2,←Nat.mul_assoc,show c/2*2=c by omega]
theorem QqL{S:List H32}{n:Int}(hS:S.length<100000):∀(j k:Nat) (h:H32),j≤S.length→j<k→QW.l 1000000000000 (S,n) k ((j:Int)-1,h,false)=some ((S.take j).foldr Qf2 h,false):=by
 intro j
 induction j with
 |zero=>
  intro k h hj hk
  obtain⟨k,rfl⟩:∃j,k=j+1:=⟨k-1,by omega⟩
  show QW.b 1000000000000 (S,n) (QW.l 1000000000000 (S,n) k) (((0:Nat):Int)-1,h,false)=_
  unfold QW.b
  rw[Qi (by simp)];rfl
 |succ j ih=>
  intro k h hj hk
  obtain⟨k,rfl⟩:∃j,k=j+1:=⟨k-1,by omega⟩
  show QW.b 1000000000000 (S,n) (QW.l 1000000000000 (S,n) k) (((j+1:Nat):Int)-1,h,false)=_
  have e:(((j+1:Nat):Int)-1)=(j:Int):=by omega
  rw[e]
  unfold QW.b
  have hx:S[j]?=some S[j]:=List.getElem?_eq_getElem (by omega)
  rw[Qj (QK (by simp only;omega))]
  simp only[jn]
  rw[bnd (Yq hx),bnd (Yq hx)]
  simp only[Qh]
  rw[bnd (Qf3 _ _),wrap64 (by omega) (by omega),ih k _ (by omega) (by omega),List.take_add_one,hx,List.foldr_append]
  simp only[Option.toList,List.foldr_cons,List.foldr_nil]
theorem QqM{l:List H32}(h400:l.length≤401):qV.f 1000000000000 (frS 0 l.length l) ((l.length:Nat):Int)=some (yK l,frS 0 l.length l,((l.length:Nat):Int)):=by
 unfold qV.f Xp.f JV.f
 simp only[Qb]
 by_cases h0:l.length=0
 ·have e:l= []:=List.eq_nil_of_length_eq_zero h0
  subst e
  rw[Qj (by rfl),QiA,bnd Qog]
 rw[Qi (QE (by omega))]
 obtain⟨S,t,h1,h2⟩:=Qvo l.length 0 l (by simp) (by omega)
 have h3:=Qoh l.length 0 l
 rw[h1]at h3⊢
 have hS:S.length<401:=by simp at h3;omega
 have e:IntKind.wrap .i64 ((((S++ [t]).length:Nat):Int)-1)=((S.length:Nat):Int):=by
  rw[wrap64 (by simp<;>omega) (by simp<;>omega)];simp
 have hb:∀k,500<k→QW.l 1000000000000 (S++ [t],((l.length:Nat):Int)) k (((S.length:Nat):Int),Vector.replicate 32 0,true)=some (yK l,false):=fun k hk=>by
  obtain⟨k,rfl⟩:∃j,k=j+1:=⟨k-1,by omega⟩
  show QW.b 1000000000000 (S++ [t],((l.length:Nat):Int)) (QW.l 1000000000000 (S++ [t],((l.length:Nat):Int)) k) (((S.length:Nat):Int),Vector.replicate 32 0,true)=_
  unfold QW.b
  rw[Qj (QK (by simp only;omega))]
  simp only[jn]
  rw[bnd (Yq (x:=t) (by simp)),bnd (Yq (x:=t) (by simp))]
  simp only[Qg]
  rw[wrap64 (by omega) (by omega),QqL (by simp;omega) S.length _ _ (by simp) (by omega),List.take_left,h2]
 rw[e]
 exact Qz (hb 1000000000000 (by omega)) rfl
def goB(b:Bk)(x:Rc)(limit:Int):Bk×Bool:=(Qd5.f 1000000000000 b x limit).getD (b,false)
theorem QtE{b:Bk}{x:Rc}{limit:Int}(hb:okK b)(hx:okD x):Qd5.f 1000000000000 b x limit=some (goB b x limit)∧okK (goB b x limit).1:=by
 obtain⟨r,h1,h2⟩:=Qtr (limit:=limit) hb hx
 have:goB b x limit=r:=by unfold goB;rw[h1];rfl
 rw[this];exact⟨h1,h2⟩
def runB(k:Qr)(limit:Int):List It→Bk→Sum Int Bk
 | [],b=> .inr b
 |y::l,b=>bif rcK k y.fRec then(bif (goB b y.fRec limit).2 then runB k limit l (goB b y.fRec limit).1 else .inl 9)else .inl 7
def lftB:Sum Int Bk→Sum (Sum Int VdT) Bk
 | .inl e=> .inl (.inl e)
 | .inr b=> .inr b
theorem QtF{x:Bun}(hv:vBun x){k0:Qr}{limit:Int}:∀(l:List It) (i k:Nat) (b:Bk),x.fItems.drop i=l→i≤x.fItems.length→l.length<k→okK b→
  QR.l 1000000000000 ⟨k0,limit⟩ x k ((i:Int),b)=some (lftB (runB k0 limit l b)):=by
 have h400:=hv.r.len
 intro l
 induction l with
 |nil=>
  intro i k b hl hi hk hb
  obtain⟨k,rfl⟩:∃j,k=j+1:=⟨k-1,by simp at hk;omega⟩
  have hi2:x.fItems.length≤i:=by simpa using hl
  show QR.b 1000000000000 ⟨k0,limit⟩ x (QR.l 1000000000000 ⟨k0,limit⟩ x k) ((i:Int),b)=_
  unfold QR.b
  rw[Qi (QE (by simp only;omega))]
  rfl
 | cons y l ih=>
  intro i k b hl hi hk hb
  obtain⟨k,rfl⟩:∃j,k=j+1:=⟨k-1,by simp at hk;omega⟩
  have hlt:i<x.fItems.length:=by
   have:=congrArg List.length hl
   simp at this;omega
  have hy:x.fItems[i]?=some y:=by
   have:=congrArg (fun(l:List It)=>l[0]?) hl
   simpa using this
  have hd:x.fItems.drop (i+1)=l:=by rw[←List.drop_drop,hl];rfl
  have hm:y∈x.fItems:=List.mem_of_getElem? hy
  show QR.b 1000000000000 ⟨k0,limit⟩ x (QR.l 1000000000000 ⟨k0,limit⟩ x k) ((i:Int),b)=_
  unfold QR.b runB
  rw[Qj (QK (by simp only;omega)),bnd (Yq hy),Qf1 (hv.d y hm) (Qiy (hv.b y hm).tag)]
  cases rcK k0 y.fRec with
  |false=>rfl
  | true=>
   obtain⟨h1,h2⟩:=QtE (limit:=limit) hb (hv.d y hm)
   simp only[Qg,sm]
   rw[bnd h1]
   have:=ih (i+1) k (goB b y.fRec limit).1 hd (by omega) (by simp at hk;omega) h2
   cases (goB b y.fRec limit).2 with
   |false=>rfl
   |true=>
    rw[wrap_succ (by omega)]
    exact this
theorem QtG{k:Qr}{limit:Int}:∀(l:List It) (b z:Bk),(∀y∈l,okD y.fRec)→okK b→runB k limit l b= .inr z→okK z∧∀y∈l,rcK k y.fRec=true
 | [],b,z,_,hb,h=>by cases h;exact⟨hb,fun _ h=>by cases h⟩
 | y::l,b,z,hd,hb,h=>by
  unfold runB at h
  cases h1:rcK k y.fRec with
  |false=>rw[h1]at h;cases h
  | true=>
   rw[h1]at h
   simp only[Qg]at h
   cases h2:(goB b y.fRec limit).2 with
   |false=>rw[h2]at h;cases h
   |true=>
    rw[h2]at h
    obtain⟨h3,h4⟩:=QtG l _ z (fun y hy=>hd y (List.mem_cons_of_mem _ hy)) (QtE hb (hd y List.mem_cons_self)).2 h
    refine⟨h3,fun x hx=> ?_⟩
    rcases List.mem_cons.1 hx with rfl|hx
    ·exact h1
    ·exact h4 x hx
theorem QxU{k:Qr}{limit:Int}:∀{l:List It} {b:Bk} {e:Int},runB k limit l b= .inl e→e≠0:=by
 intro l
 induction l with
 |nil=>intro b e h;cases h
 | cons y l ih=>
  intro b e h
  unfold runB at h
  cases h1:rcK k y.fRec with
  |false=>rw[h1]at h;cases h;decide
  |true=>
   rw[h1]at h
   simp only[Qg]at h
   cases h2:(goB b y.fRec limit).2 with
   |false=>rw[h2]at h;cases h;decide
   |true=>rw[h2]at h;exact ih h
theorem Qoi{x:Bun}(hv:vBun x):∀(m i k:Nat),i+m=x.fItems.length→m<k→
  QQ.l 1000000000000 x k ((i:Int),frS 0 i ((x.fItems.take i).map fun y=>yh y.fRec),(i:Int))=some (frS 0 x.fItems.length (x.fItems.map fun y=>yh y.fRec),((x.fItems.length:Nat):Int)):=by
 have h400:=hv.r.len
 intro m
 induction m with
 |zero=>
  intro i k hi hk
  obtain⟨k,rfl⟩:∃j,k=j+1:=⟨k-1,by omega⟩
  have e:i=x.fItems.length:=by omega
  subst e
  show QQ.b 1000000000000 x (QQ.l 1000000000000 x k) _=_
  unfold QQ.b
  rw[Qi (QE (by simp only;omega)),List.take_length]
 |succ m ih=>
  intro i k hi hk
  obtain⟨k,rfl⟩:∃j,k=j+1:=⟨k-1,by omega⟩
  show QQ.b 1000000000000 x (QQ.l 1000000000000 x k) _=_
  unfold QQ.b
  have hy:x.fItems[i]?=some x.fItems[i]:=List.getElem?_eq_getElem (by omega)
  have hm:x.fItems[i]∈x.fItems:=List.getElem_mem (by omega)
  rw[Qj (QK (by simp only;omega)),bnd (Yq hy),bnd (Qha (hv.d _ hm) (hv.r.items _ hm).1)]
  have hl:((x.fItems.take i).map fun y=>yh y.fRec).length=i:=by simp;omega
  have h1:=QtD (l:=(x.fItems.take i).map fun y=>yh y.fRec) (yh x.fItems[i].fRec) (by omega)
  rw[hl]at h1
  rw[bnd h1]
  have h2:=ih (i+1) k (by omega) (by omega)
  rw[List.take_add_one,hy,List.map_append]at h2
  rw[wrap_succ (by omega)]
  exact h2
theorem QtH{b:Bk}(hb:b.fSagas.length≤12):XO.f 1000000000000 b=some (b.fSagas.map Qdq):=by
 unfold XO.f
 have key:∀(m i k:Nat) (l:List Qq),i+m=b.fSagas.length→m<k→l=(b.fSagas.map Qdq).take i→Yv.l 1000000000000 b k (l,(i:Int))=some (b.fSagas.map Qdq):=by
  intro m
  induction m with
  |zero=>
   intro i k l hi hk hl
   obtain⟨k,rfl⟩:∃j,k=j+1:=⟨k-1,by omega⟩
   show Yv.b 1000000000000 b (Yv.l 1000000000000 b k) (l,(i:Int))=_
   unfold Yv.b
   rw[Qi (QE (by simp only;omega)),hl,List.take_of_length_le (by simp;omega)]
  |succ m ih=>
   intro i k l hi hk hl
   obtain⟨k,rfl⟩:∃j,k=j+1:=⟨k-1,by omega⟩
   have hll:l.length=i:=by rw[hl];simp;omega
   show Yv.b 1000000000000 b (Yv.l 1000000000000 b k) (l,(i:Int))=_
   unfold Yv.b
   have hx:b.fSagas[i]?=some b.fSagas[i]:=List.getElem?_eq_getElem (by omega)
   rw[Qj (QK (by simp only;omega)),bnd (Yq hx),bnd (Qpn _),bnd (YX (by simp only[List.length_singleton];omega)),wrap_succ (by omega)]
   refine ih (i+1) k _ (by omega) (by omega) ?_
   rw[hl,List.take_add_one,List.getElem?_map,hx];rfl
 have ht:Yv.l 1000000000000 b 1000000000000 ([],0)=some (b.fSagas.map Qdq):=key b.fSagas.length 0 1000000000000 [] (by omega) (by omega) rfl
 exact Qz ht rfl
def bk0:Bk:=⟨Vector.replicate 4 0, []⟩
def QxV(n:Nat):List Int:=(List.range n).map fun n=>((n:Nat):Int)
def Qaj(x:Bun):List H32:=x.fItems.map fun y=>yh y.fRec
def runW(k:Qr)(limit:Int)(x:Bun):Sum Int VdT:=
 bif decide (yK (Qaj x)=x.fPoint.fRoot)then(match runB k limit x.fItems bk0 with
  | .inl e=> .inl e
  | .inr b=> .inr (0,QxV b.fSagas.length,b.fSagas.map Qdq))else .inl 6
theorem Qvp{x:Bun}(hv:vBun x)(k0:Qr)(limit:Int):Y3.fs 1000000000000 ⟨k0,limit⟩ x=some (runW k0 limit x):=by
 have h400:=hv.r.len
 unfold Y3.fs runW
 have h1:=Qoi hv x.fItems.length 0 1000000000000 (by omega) (by omega)
 rw[List.take_zero,List.map_nil,QtC]at h1
 refine Qz h1 ?_
 have h2:=QqM (l:=Qaj x) (by unfold Qaj;simp;omega)
 have hll:(Qaj x).length=x.fItems.length:=by unfold Qaj;simp
 rw[hll]at h2
 refine Qz h2 ?_
 refine Qeh (fun h=>by rw[h];rfl) (fun h=> ?_)
 rw[h]
 simp only[Qg]
 have h3:=QtF hv (k0:=k0) (limit:=limit) x.fItems 0 1000000000000 bk0 rfl (by omega) (by omega) Qg9
 refine Qz h3 ?_
 cases hr:runB k0 limit x.fItems bk0 with
 |inl e=>rfl
 |inr b=>
  obtain⟨hb,_⟩:=QtG _ _ _ (fun y hy=>hv.d y hy) Qg9 hr
  refine Qz (QtH hb.n) ?_
  have h5:=Qpk hb.n (c:=0) (r:=b.fSagas.map Qdq) b.fSagas.length 0 1000000000000 [] (by omega) (by have:=hb.n;omega) rfl
  exact Qz h5 rfl
theorem QqN{k:Qr}{limit:Int}{x:Bun}(hv:vBun x)(hw:x.fWhole=true):runA k limit x=runW k limit x:=by
 unfold runA
 rw[hw]
 simp only[Qg]
 rw[Qvp hv];rfl
def JM(x:Bun):List Rc:=x.fItems.map (·.fRec)
theorem QtI{x:Bun}(h400:x.fItems.length≤400):J4.f 1000000000000 x=some (JM x):=by
 unfold J4.f
 have key:∀(m i k:Nat) (l:List Rc),i+m=x.fItems.length→m<k→l=(JM x).take i→Yp.l 1000000000000 x k (l,(i:Int))=some (JM x):=by
  intro m
  induction m with
  |zero=>
   intro i k l hi hk hl
   obtain⟨k,rfl⟩:∃j,k=j+1:=⟨k-1,by omega⟩
   show Yp.b 1000000000000 x (Yp.l 1000000000000 x k) (l,(i:Int))=_
   unfold Yp.b
   rw[Qi (QE (by simp only;omega)),hl,List.take_of_length_le (by simp[JM];omega)]
  |succ m ih=>
   intro i k l hi hk hl
   obtain⟨k,rfl⟩:∃j,k=j+1:=⟨k-1,by omega⟩
   have hll:l.length=i:=by rw[hl];simp[JM];omega
   show Yp.b 1000000000000 x (Yp.l 1000000000000 x k) (l,(i:Int))=_
   unfold Yp.b
   have hx:x.fItems[i]?=some x.fItems[i]:=List.getElem?_eq_getElem (by omega)
   rw[Qj (QK (by simp only;omega)),bnd (Yq hx),bnd (YX (by simp only[List.length_singleton];omega)),wrap_succ (by omega)]
   refine ih (i+1) k _ (by omega) (by omega) ?_
   rw[hl,List.take_add_one]
   unfold JM
   rw[List.getElem?_map,hx];rfl
 have ht:Yp.l 1000000000000 x 1000000000000 ([],0)=some (JM x):=key x.fItems.length 0 1000000000000 [] (by omega) (by omega) rfl
 exact Qz ht rfl
theorem QjN{x:Rc}(hx:okD x)(hr:Yy x=true){q:H32}(h:jR.f 1000000000000 (QcC 1000000000000 x)=some q):yh x=q:=by
 have hse:=Qiu (K:=1000000000000) (Nat.le_refl _) hx
 rw[hr]at hse
 have:yw.f 1000000000000 x=some q:=by
  unfold yw.f
  exact Qz (x:=QcC 1000000000000 x) hse (Qz h rfl)
 unfold yh
 rw[this];rfl
theorem QtJ{l:List Rc}(h:okR l)(hr:l.all Yy=true):jl.f 1000000000000 l=some (l.map yh):=by
 unfold jl.f
 have h50:=h.1
 refine Qz (Qtg h) ?_
 rw[hr,Qi (by rfl)]
 have key:∀(m i:Nat) (out:List H32) (k:Nat),i+m=l.length→m<k→out=(l.map yh).take i→Y4.l 1000000000000 l k (out,(i:Int))=some (l.map yh):=by
  intro m
  induction m with
  |zero=>
   intro i out k hi hk ho
   obtain⟨k,rfl⟩:∃j,k=j+1:=⟨k-1,by omega⟩
   show Y4.b 1000000000000 l (Y4.l 1000000000000 l k) _=_
   unfold Y4.b
   rw[Qi (QE (by simp only;omega)),ho,List.take_of_length_le (by simp;omega)]
  |succ m ih=>
   intro i out k hi hk ho
   obtain⟨k,rfl⟩:∃j,k=j+1:=⟨k-1,by omega⟩
   have hx:l[i]?=some l[i]:=List.getElem?_eq_getElem (by omega)
   have hm:l[i]∈l:=List.getElem_mem (by omega)
   have hxr:=List.all_eq_true.1 hr _ hm
   have hse:=Qiu (K:=1000000000000) (Nat.le_refl _) (h.2 _ hm)
   rw[hxr]at hse
   have hsl:=Xy (K:=1000000000000) hxr
   obtain⟨q,hq⟩:=Qpf (b:=QcC 1000000000000 l[i]) (by omega)
   have hlen:out.length=i:=by rw[ho];simp;omega
   show Y4.b 1000000000000 l (Y4.l 1000000000000 l k) _=_
   unfold Y4.b
   rw[Qj (QK (by simp only;omega)),bnd (Yq hx)]
   refine Qz (x:=QcC 1000000000000 l[i]) hse ?_
   rw[bnd hq,bnd (YX (by simp only[List.length_singleton];omega)),wrap_succ (by omega)]
   refine ih (i+1) _ k (by omega) (by omega) ?_
   rw[ho,List.take_add_one,List.getElem?_map,hx,←QjN (h.2 _ hm) hxr hq];rfl
 have ht:Y4.l 1000000000000 l 1000000000000 ([],0)=some (l.map yh):=key l.length 0 [] 1000000000000 (by omega) (by omega) rfl
 exact Qz ht rfl
end Go.Proofs.YtomndohdnfebgaaGreatDoor
