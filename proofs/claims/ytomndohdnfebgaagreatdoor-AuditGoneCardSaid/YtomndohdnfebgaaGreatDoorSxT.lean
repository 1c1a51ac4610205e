/-
 Symbolic execution: regions that draw their order, the record of a run.
-/
import Derived.Test.YtomndohdnfebgaaGreatDoorSxS
set_option linter.unusedVariables false
set_option linter.unusedSimpArgs false
namespace Go.Sep
section
variable {T:Tb}{C:Cx T}{ops:Array Oper}{c:Dc T}{L0:List (Nat×Nat×SB T)}{M M':Nat→Bool}{α:Type}
theorem Out.run_some{k:SS T→Option α}{x:α}{o:Out T}(h:o.run k=some x):∃s,o.run some=some s∧k s=some x:=by
 cases o with
 |no=>cases h
 |non=>cases h
 |ok s=>exact⟨s,rfl,h⟩
 | dem y f=>
  cases y with
  |none=>cases h
  |some y=>
   simp only[Out.run,Qb]at h⊢
   split at h
   ·rename_i s hs;exact⟨s,rfl,h⟩
   ·cases h
 |chk b s=>
  cases b with
  |false=>cases h
  |true=>exact⟨s,rfl,h⟩
 | ix i n f=>
  have key:∀(n j:Nat),ixR i f k n j=some x→∃s,ixR i f some n j=some s∧k s=some x:=by
   intro n
   induction n with
   |zero=>intro j h;cases h
   | succ n ih=>
    intro j h
    unfold ixR at h⊢
    cases hb:decide (i=((j:Nat):Int))with
    |false=>rw[hb]at h;exact ih _ h
    |true=>
     rw[hb]at h
     simp only[Qg]at h⊢
     split at h
     ·rename_i s hs;exact⟨s,rfl,h⟩
     ·cases h
  exact key n 0 h
 | sw l z f=>
  have key:∀(l:List (Bool×SV T)),swR z f k l=some x→∃s,swR z f some l=some s∧k s=some x:=by
   intro l
   induction l with
   |nil=>intro h;exact⟨_,rfl,h⟩
   |cons e l ih=>
    obtain⟨b,v⟩:=e
    intro h
    simp only[swR]at h⊢
    cases b with
    |true=>exact⟨_,rfl,h⟩
    |false=>exact ih h
  exact key l h
theorem QnI{o:Oper}{s:SS T}{k:SS T→Option α}{x:α}(h:exO C o s k=some x):∃s',exO C o s some=some s'∧k s'=some x:=by
 unfold exO at h⊢
 split at h
 ·rename_i t b hp
  cases b with
  |true=>exact Out.run_some h
  |false=>exact Out.run_some h
 ·exact Out.run_some h
theorem Qte{o:Oper}{s:SS T}{k:SS T→Option α}{x:α}(h:exD C ops o s k=some x):∃s',exD C ops o s some=some s'∧k s'=some x:=by
 unfold exD at h⊢
 split at h
 ·exact QnI h
 ·exact⟨_,rfl,h⟩
 ·rename_i t b w hg
  cases b<;>cases w<;>first|exact QnI h|exact⟨_,rfl,h⟩
 ·cases h
theorem Qxq{sp:Bool}{v:SV T}{k:SV T→Option α}{x:α}(h:spO sp v k=some x):∃u,(u=v∨∃b,v= .dt .bool b∧u= .kb b)∧k u=some x:=by
 unfold spO at h
 split at h
 ·rename_i b
  cases b with
  |true=>exact⟨.kb true,.inr ⟨true,rfl,rfl⟩,h⟩
  |false=>exact⟨.kb false,.inr ⟨false,rfl,rfl⟩,h⟩
 ·exact⟨v,.inl rfl,h⟩
def nxO(n0:Nat):List (Rc T)→Nat
 | []=>n0
 |rc::_=>rc.n'
structure RcOk(C:Cx T)(ops:Array Oper)(c:Dc T)(l:List (Rc T))(rc:Rc T):Prop where
 ho:ops[rc.i]?=some rc.o
 hd:JI C.n rc.o.dst=true
 dep:Qgl l rc.o.after.toList=some rc.dm
 frs:frsO rc.i rc.o.dst l=true
 bar:barO rc.ow rc.dm l=true
 ow:rc.ow=owO c rc.o.dst
 lt:rc.lt=true→∀x∈l,isQ x.kd=true→rc.dm.testBit x.i=true
 q:∀x∈l,x.lt=true→isQ rc.kd=false
 ord:ordO rc.kd rc.dm l=true
 r:rc.r=rsO c l rc.dm rc.kd rc.n
 ids:idsO l rc.dm rc.kd rc.n rc.r.L=true
 ev:EvO C ops rc.o rc.kd rc.r rc.r'
 sv:rc.sv=valO rc.o.dst rc.r'∨∃b,valO rc.o.dst rc.r'= .dt .bool b∧rc.sv= .kb b
 ok:okO' c rc.kd rc.n rc.o.dst rc.lt rc.r rc.r'=true
 n:rc.n=nxO c.n0 l
 n':rc.n'=nwO rc.kd rc.n rc.r'
inductive TrOk(C:Cx T)(ops:Array Oper)(c:Dc T):List (Rc T)→Prop
 |nil:TrOk C ops c []
 |cons {rc:Rc T} {l:List (Rc T)}:RcOk C ops c l rc→TrOk C ops c l→TrOk C ops c (rc::l)
structure PnO(C:Cx T)(ops:Array Oper)(m:Nat)(c:Dc T)(l:List (Rc T))(i:Nat)(o:Oper)(dm:Nat)(q:POut T)(e:Int)(ord:List (Nat×Nat×Bool)):Prop where
 ho:ops[i]?=some o
 im:i<m
 hd:JI C.n o.dst=true
 gd:o.guard=none
 dep:Qgl l o.after.toList=some dm
 frs:frsO i o.dst l=true
 bar:barO (owO c o.dst) dm l=true
 od:ordO 3 dm l=true
 ids:idsO l dm 3 (nxO c.n0 l) (rsO c l dm 3 (nxO c.n0 l)).L=true
 pn:panS C (rsO c l dm 3 (nxO c.n0 l)) o=some q
 x:q.x=some (.inl e)
 pk:panK (rsO c l dm 3 (nxO c.n0 l)) q c.nb=true
 late:Qov ops [i] ord=true
 cov:covO l i ord m=true
theorem QqJ{o:Oper}{kd:Nat}{r:SS T}{q:POut T}(h:panD C o kd r=some q):o.guard=none∧kd=3∧panS C r o=some q:=by
 unfold panD at h
 split at h
 ·rename_i hg;exact⟨hg,rfl,h⟩
 ·cases h
theorem Qje{m:Nat}{kp:TypeId×Bool→Int→List (Nat×Nat×SB T)→Option α}{k:List (Rc T)→Nat→Option α}{x:α}:∀(ord:List (Nat×Nat×Bool)) (l:List (Rc T)) (n:Nat),QhM C ops m c kp k ord l n=some x→TrOk C ops c l→n=nxO c.n0 l→(∀y∈l,y.lt=true→∀z∈ord,isQ z.2.1=false)→
  ∃l',TrOk C ops c l'∧nxO c.n0 l'≤c.nb∧((allO l' m=true∧k l' (nxO c.n0 l')=some x)∨∃i o dm q e ord',PnO C ops m c l' i o dm q e ord'∧kp q.v e (Qow c q)=some x)
 | [],l,n,h,hl,hn,_=>by
  unfold QhM at h
  subst hn
  cases h1:(allO l m&&Nat.ble (nxO c.n0 l) c.nb)with
  |false=>rw[h1]at h;cases h
  |true=>
   rw[h1]at h
   rw[Qd]at h1
   exact⟨l,hl,Nat.le_of_ble_eq_true h1.2,.inl ⟨h1.1,h⟩⟩
 | (i, kd,sp)::ord,l,n,h,hl,hn,hq=>by
  unfold QhM at h
  split at h
  ·cases h
  ·rename_i o ho
   split at h
   ·cases h
   ·rename_i dm hdm
    simp only at h
    generalize hb:(JI C.n o.dst&&(frsO i o.dst l&&(barO (owO c o.dst) dm l&&(ordO kd dm l&&idsO l dm kd n (rsO c l dm kd n).L))))=b at h
    cases b with
    |false=>cases h
    | true=>
     simp only[Qg]at h
     simp only[Qd]at hb
     obtain⟨h1,h2,h3,h4,h5⟩:=hb
     have hgo:∀r',EvO C ops o kd (rsO c l dm kd n) r'→(bif okO' c kd n o.dst (ltO dm l ord) (rsO c l dm kd n) r' then spO sp (valO o.dst r') fun v=>QhM C ops m c kp k ord (⟨i,o,dm,kd,n,nwO kd n r',(rsO c l dm kd n),r',v,owO c o.dst,ltO dm l ord⟩::l) (nwO kd n r')else none)=some x→
       ∃l',TrOk C ops c l'∧nxO c.n0 l'≤c.nb∧((allO l' m=true∧k l' (nxO c.n0 l')=some x)∨∃i o dm q e ord',PnO C ops m c l' i o dm q e ord'∧kp q.v e (Qow c q)=some x):=by
      intro r' hev h
      cases hk:okO' c kd n o.dst (ltO dm l ord) (rsO c l dm kd n) r' with
      |false=>rw[hk]at h;cases h
      | true=>
       rw[hk]at h
       simp only[Qg]at h
       obtain⟨v,hv,h⟩:=Qxq h
       refine Qje ord _ _ h (.cons ⟨ho,h1,hdm,h2,h3,rfl,fun hlt x hx hxq=> ?_,fun x hx hxl=>hq x hx hxl _ List.mem_cons_self,h4,rfl,h5,hev,hv,hk,hn,rfl⟩ hl) rfl fun y hy hyl z hz=> ?_
       ·unfold ltO at hlt
        simp only[Qd,List.all_eq_true]at hlt
        have:=hlt.1 x hx
        rw[hxq]at this
        simpa using this
       ·rcases List.mem_cons.1 hy with rfl|hy
        ·unfold ltO at hyl
         simp only[Qd,List.all_eq_true]at hyl
         simpa using hyl.2 z hz
        ·exact hq y hy hyl z (List.mem_cons_of_mem _ hz)
     split at h
     ·rename_i q hpq
      obtain⟨hg,rfl,hp⟩:=QqJ hpq
      cases hlt:(Nat.blt i m&&(Qov ops [i] ord&&(covO l i ord m&&(Nat.ble n c.nb&&panK (rsO c l dm 3 n) q c.nb))))with
      |false=>rw[hlt]at h;cases h
      | true=>
       rw[hlt]at h
       simp only[Qg]at h
       simp only[Qd]at hlt
       obtain⟨g1,g2,g3,g4,g5⟩:=hlt
       unfold sm at h
       split at h
       ·rename_i e hqe
        subst hn
        exact⟨l,hl,Nat.le_of_ble_eq_true g4,.inr ⟨i,o,dm,q,e,ord,⟨ho,Qbq g1,h1,hg,hdm,h2,h3,h4,h5,hp,hqe,g5,g2,g3⟩,h⟩⟩
       ·rename_i y hqy
        simp only at h
        split at h
        ·rename_i r' hr'
         exact hgo r' (.inr ⟨q,y,hpq,hqy,hr'⟩) h
        ·cases h
       ·cases h
     ·obtain⟨r',hev,h⟩:=Qte h
      exact hgo r' (.inl hev) h
theorem Zz{rc:Rc T}(h:rc.kd=3)(X:List (Nat×Nat×Nat×SB T)):QhL rc X=tag 0 rc.r'.L++X.filter fun e=> !visO rc.dm e.1:=by unfold QhL;rw[h];rfl
theorem yB{rc:Rc T}(h:rc.kd=2)(X:List (Nat×Nat×Nat×SB T)):QhL rc X=tag (rc.i+1) (QhK rc)++X:=by unfold QhL;rw[h];rfl
theorem Y3(rc:Rc T)(l:List (Rc T)):lmL L0 M (rc::l)=bif M rc.i then QhL rc (lmL L0 M l)else lmL L0 M l:=rfl
theorem yC{rc:Rc T}(h:rc.kd=4)(X:List (Nat×Nat×Nat×SB T)):QhL rc X=X.filter fun e=> !visP rc.dm e.1:=by unfold QhL;rw[h];rfl
theorem jQ{rc:Rc T}(h3:rc.kd≠3)(h2:rc.kd≠2)(h4:rc.kd≠4)(X:List (Nat×Nat×Nat×SB T)):QhL rc X=X:=by
 unfold QhL
 split
 ·rename_i h;exact absurd h h3
 ·rename_i h;exact absurd h h2
 ·rename_i h;exact absurd h h4
 ·rfl
theorem QqK{x y k:Nat}(h:Nat.beq (x&&&y) 0=true)(hx:x.testBit k=true):y.testBit k=false:=by
 have h1:=congrArg (fun z=>Nat.testBit z k) (Qc h)
 simp only[Nat.testBit_and,Nat.zero_testBit,hx,Bool.true_and]at h1
 exact h1
theorem QqL{x y:Nat}(h:Nat.beq (x&&&y) 0=true):Nat.beq (y&&&x) 0=true:=by rw[Nat.and_comm];exact h
theorem QkH{dm dk:Nat}(h:Nat.beq (dm&&&dk) 0=true)(X:List (Nat×Nat×Nat×SB T)):(X.filter fun e=> !visP dk e.1).filter (fun e=>visO dm e.1)=X.filter fun e=>visO dm e.1:=by
 rw[List.filter_filter]
 refine List.filter_congr fun e _=> ?_
 obtain⟨k,e⟩:=e
 cases k with
 |zero=>rfl
 |succ k=>
  show(dm.testBit k&& !dk.testBit k)=dm.testBit k
  cases hx:dm.testBit k with
  |false=>rfl
  |true=>rw[QqK h hx];rfl
theorem QgL{dm dk:Nat}(h:Nat.beq (dm&&&dk) 0=true)(X:List (Nat×Nat×Nat×SB T)):(X.filter fun e=> !visO dk e.1).filter (fun e=>visP dm e.1)=X.filter fun e=>visP dm e.1:=by
 rw[List.filter_filter]
 refine List.filter_congr fun e _=> ?_
 obtain⟨k,e⟩:=e
 cases k with
 |zero=>rfl
 |succ k=>
  show(dm.testBit k&& !dk.testBit k)=dm.testBit k
  cases hx:dm.testBit k with
  |false=>rfl
  |true=>rw[QqK h hx];rfl
theorem QgM{dm dk:Nat}(h:Nat.beq (dm&&&dk) 0=true)(X:List (Nat×Nat×Nat×SB T)):(X.filter fun e=> !visP dk e.1).filter (fun e=>visP dm e.1)=X.filter fun e=>visP dm e.1:=by
 rw[List.filter_filter]
 refine List.filter_congr fun e _=> ?_
 obtain⟨k,e⟩:=e
 cases k with
 |zero=>rfl
 |succ k=>
  show(dm.testBit k&& !dk.testBit k)=dm.testBit k
  cases hx:dm.testBit k with
  |false=>rfl
  |true=>rw[QqK h hx];rfl
theorem ZA:∀(l:List (Rc T)),(∀rc∈l,M rc.i=M' rc.i)→lmL L0 M l=lmL L0 M' l
 | [],_=>rfl
 |rc::l,h=>by
  rw[Y3,Y3,h rc List.mem_cons_self,ZA l fun rc' h'=>h rc' (List.mem_cons_of_mem _ h')]
theorem qL(p:Nat→Bool)(k:Nat)(L:List (Nat×Nat×SB T)):(tag k L).filter (fun e=>p e.1)=if p k then tag k L else []:=by
 unfold tag
 rw[List.filter_map]
 by_cases h:p k=true
 ·rw[if_pos h]
  congr 1
  exact List.filter_eq_self.2 fun e _=>h
 ·rw[if_neg h]
  have:List.filter ((fun e:Nat×Nat×Nat×SB T=>p e.1)∘fun e=>(k,e)) L= []:=List.filter_eq_nil_iff.2 fun e _=>h
  rw[this];rfl
theorem jw{β:Type}(p q:β→Bool)(X:List β):(X.filter p).filter q=(X.filter q).filter p:=by
 simp only[List.filter_filter,Bool.and_comm]
theorem QqM{dm:Nat}(hM:∀k,dm.testBit k=true→M k=true):∀(l:List (Rc T)),(∀rc∈l,rc.kd=3→M rc.i=true)→(∀rc∈l,rc.kd=4→M rc.i=true∨Nat.beq (dm&&&rc.dm) 0=true)→
  (lmL L0 M l).filter (fun e=>visO dm e.1)=(lmL L0 (fun _=>true) l).filter (fun e=>visO dm e.1)
 | [],_,_=>rfl
 | rc ::l,h,h'=>by
  have ih:=QqM hM l (fun rc' hx=>h rc' (List.mem_cons_of_mem _ hx)) (fun rc' hx=>h' rc' (List.mem_cons_of_mem _ hx))
  rw[Y3,Y3]
  cases hm:M rc.i with
  | true=>
   simp only[Qg]
   by_cases h3:rc.kd=3
   ·have hc:∀X:List (Nat×Nat×Nat×SB T),(X.filter fun e=> !visO rc.dm e.1).filter (fun e=>visO dm e.1)=(X.filter fun e=>visO dm e.1).filter fun e=> !visO rc.dm e.1:=fun X=>jw _ _ X
    rw[Zz h3,Zz h3,List.filter_append,List.filter_append,hc,hc,ih]
   ·by_cases h2:rc.kd=2
    ·rw[yB h2,yB h2,List.filter_append,List.filter_append,ih]
    ·by_cases h4:rc.kd=4
     ·have hc:∀X:List (Nat×Nat×Nat×SB T),(X.filter fun e=> !visP rc.dm e.1).filter (fun e=>visO dm e.1)=(X.filter fun e=>visO dm e.1).filter fun e=> !visP rc.dm e.1:=fun X=>jw _ _ X
      rw[yC h4,yC h4,hc,hc,ih]
     ·rw[jQ h3 h2 h4,jQ h3 h2 h4,ih]
  | false=>
   simp only[Qg,Qh]
   have h3:rc.kd≠3:=fun e=>by rw[h rc List.mem_cons_self e]at hm;cases hm
   by_cases h2:rc.kd=2
   ·rw[yB h2,List.filter_append,qL (visO dm),ih,if_neg]
    ·rfl
    ·intro e
     have e:dm.testBit rc.i=true:=e
     rw[hM _ e]at hm;cases hm
   ·by_cases h4:rc.kd=4
    ·rcases h' rc List.mem_cons_self h4 with h5|h5
     ·rw[h5]at hm;cases hm
     ·rw[yC h4,QkH h5,ih]
    ·rw[jQ h3 h2 h4,ih]
theorem QkI{dm:Nat}{X:List (Rc T)}:∀(l:List (Rc T)),(∀rc∈l,M rc.i=true→rc.kd≠3)→(∀rc∈l,dm.testBit rc.i=false)→(∀rc∈l,M rc.i=true→rc.kd=4→Nat.beq (dm&&&rc.dm) 0=true)→
  (lmL L0 M (l++X)).filter (fun e=>visO dm e.1)=(lmL L0 M X).filter (fun e=>visO dm e.1)
 | [],_,_,_=>rfl
 | rc::l,h,hd,h'=>by
  have ih:=QkI (X:=X) l (fun rc' hx=>h rc' (List.mem_cons_of_mem _ hx)) (fun rc' hx=>hd rc' (List.mem_cons_of_mem _ hx)) (fun rc' hx=>h' rc' (List.mem_cons_of_mem _ hx))
  show(lmL L0 M (rc::(l++X))).filter _=_
  rw[Y3]
  cases hm:M rc.i with
  | true=>
   simp only[Qg]
   have h3:=h rc List.mem_cons_self hm
   by_cases h2:rc.kd=2
   ·rw[yB h2,List.filter_append,qL (visO dm),ih,if_neg]
    ·rfl
    ·intro e
     have e:dm.testBit rc.i=true:=e
     rw[hd rc List.mem_cons_self]at e;cases e
   ·by_cases h4:rc.kd=4
    ·rw[yC h4,QkH (h' rc List.mem_cons_self hm h4),ih]
    ·rw[jQ h3 h2 h4,ih]
  |false=>simp only[Qh];exact ih
theorem Qe8(dm:Nat)(L:List (Nat×Nat×SB T)):(tag 0 L).filter (fun e=>visP dm e.1)= []:=by rw[qL (visP dm)];rfl
theorem QqN{dm:Nat}(hM:∀k,dm.testBit k=true→M k=true):∀(l:List (Rc T)),(∀rc∈l,rc.kd=3∨rc.kd=4→M rc.i=true∨Nat.beq (dm&&&rc.dm) 0=true)→
  (lmL L0 M l).filter (fun e=>visP dm e.1)=(lmL L0 (fun _=>true) l).filter (fun e=>visP dm e.1)
 | [],_=>rfl
 | rc ::l,h'=>by
  have ih:=QqN hM l (fun rc' hx=>h' rc' (List.mem_cons_of_mem _ hx))
  rw[Y3,Y3]
  cases hm:M rc.i with
  | true=>
   simp only[Qg]
   by_cases h3:rc.kd=3
   ·have hc:∀X:List (Nat×Nat×Nat×SB T),(X.filter fun e=> !visO rc.dm e.1).filter (fun e=>visP dm e.1)=(X.filter fun e=>visP dm e.1).filter fun e=> !visO rc.dm e.1:=fun X=>jw _ _ X
    rw[Zz h3,Zz h3,List.filter_append,List.filter_append,hc,hc,ih]
   ·by_cases h2:rc.kd=2
    ·rw[yB h2,yB h2,List.filter_append,List.filter_append,ih]
    ·by_cases h4:rc.kd=4
     ·have hc:∀X:List (Nat×Nat×Nat×SB T),(X.filter fun e=> !visP rc.dm e.1).filter (fun e=>visP dm e.1)=(X.filter fun e=>visP dm e.1).filter fun e=> !visP rc.dm e.1:=fun X=>jw _ _ X
      rw[yC h4,yC h4,hc,hc,ih]
     ·rw[jQ h3 h2 h4,jQ h3 h2 h4,ih]
  | false=>
   simp only[Qg,Qh]
   have hno:M rc.i≠true:=by rw[hm];simp
   by_cases h3:rc.kd=3
   ·rw[Zz h3,List.filter_append,Qe8,List.nil_append,QgL ((h' rc List.mem_cons_self (.inl h3)).resolve_left hno),ih]
   ·by_cases h2:rc.kd=2
    ·rw[yB h2,List.filter_append,qL (visP dm),ih,if_neg]
     ·rfl
     ·intro e
      have e:dm.testBit rc.i=true:=e
      rw[hM _ e]at hm;cases hm
    ·by_cases h4:rc.kd=4
     ·rw[yC h4,QgM ((h' rc List.mem_cons_self (.inr h4)).resolve_left hno),ih]
     ·rw[jQ h3 h2 h4,ih]
theorem Qis{dm:Nat}{X:List (Rc T)}:∀(l:List (Rc T)),(∀rc∈l,dm.testBit rc.i=false)→(∀rc∈l,M rc.i=true→rc.kd=3∨rc.kd=4→Nat.beq (dm&&&rc.dm) 0=true)→
  (lmL L0 M (l++X)).filter (fun e=>visP dm e.1)=(lmL L0 M X).filter (fun e=>visP dm e.1)
 | [],_,_=>rfl
 | rc ::l,hd,h'=>by
  have ih:=Qis (X:=X) l (fun rc' hx=>hd rc' (List.mem_cons_of_mem _ hx)) (fun rc' hx=>h' rc' (List.mem_cons_of_mem _ hx))
  show(lmL L0 M (rc::(l++X))).filter _=_
  rw[Y3]
  cases hm:M rc.i with
  | true=>
   simp only[Qg]
   by_cases h3:rc.kd=3
   ·rw[Zz h3,List.filter_append,Qe8,List.nil_append,QgL (h' rc List.mem_cons_self hm (.inl h3)),ih]
   ·by_cases h2:rc.kd=2
    ·rw[yB h2,List.filter_append,qL (visP dm),ih,if_neg]
     ·rfl
     ·intro e
      have e:dm.testBit rc.i=true:=e
      rw[hd rc List.mem_cons_self]at e;cases e
    ·by_cases h4:rc.kd=4
     ·rw[yC h4,QgM (h' rc List.mem_cons_self hm (.inr h4)),ih]
     ·rw[jQ h3 h2 h4,ih]
  |false=>simp only[Qh];exact ih
theorem Qxr{rc:Rc T}{X:List (Rc T)}(hk:rc.kd=3)(hi:M rc.i=false)(hM:∀k,k≠rc.i→M' k=M k)(hi':M' rc.i=true)(hX:∀rc'∈X,rc'.i≠rc.i):∀(l:List (Rc T)),(∀rc'∈l,M rc'.i=true→rc'.kd≠3)→(∀rc'∈l,rc.dm.testBit rc'.i=false)→(∀rc'∈l,rc'.i≠rc.i)→
  (lmL L0 M' (l++rc::X)).Perm (tag 0 rc.r'.L++(lmL L0 M (l++rc::X)).filter fun e=> !visO rc.dm e.1)
 | [],_,_,_=>by
  show(lmL L0 M' (rc::X)).Perm (tag 0 rc.r'.L++(lmL L0 M (rc::X)).filter _)
  rw[Y3,Y3]
  rw[hi',hi]
  simp only[Qg,Qh]
  rw[Zz hk,ZA X fun rc' h'=>hM _ (hX rc' h')]
 | r2::l,h,hd,hn=>by
  have ih:=Qxr hk hi hM hi' hX l (fun rc' h'=>h rc' (List.mem_cons_of_mem _ h')) (fun rc' h'=>hd rc' (List.mem_cons_of_mem _ h')) (fun rc' h'=>hn rc' (List.mem_cons_of_mem _ h'))
  show(lmL L0 M' (r2::(l++rc::X))).Perm (tag 0 rc.r'.L++(lmL L0 M (r2::(l++rc::X))).filter _)
  rw[Y3,Y3]
  rw[hM _ (hn r2 List.mem_cons_self)]
  cases hm:M r2.i with
  |false=>simp only[Qh];exact ih
  | true=>
   simp only[Qg]
   have h3:=h r2 List.mem_cons_self hm
   by_cases h2:r2.kd=2
   ·rw[yB h2,yB h2,List.filter_append,qL (fun k=> !visO rc.dm k),if_pos]
    ·refine(List.Perm.append_left _ ih).trans ?_
     rw[←List.append_assoc,←List.append_assoc]
     exact List.Perm.append_right _ List.perm_append_comm
    ·have e:=hd r2 List.mem_cons_self
     show(!rc.dm.testBit r2.i)=true
     rw[e];rfl
   ·by_cases h4:r2.kd=4
    ·rw[yC h4,yC h4]
     have h5:=ih.filter fun e=> !visP r2.dm e.1
     rw[List.filter_append,qL (fun k=> !visP r2.dm k),if_pos (show(!visP r2.dm 0)=true from rfl),jw]at h5
     exact h5
    ·rw[jQ h3 h2 h4,jQ h3 h2 h4];exact ih
theorem Qxs{rc:Rc T}{X:List (Rc T)}(hk:rc.kd=2)(hi:M rc.i=false)(hM:∀k,k≠rc.i→M' k=M k)(hi':M' rc.i=true)(hX:∀rc'∈X,rc'.i≠rc.i):∀(l:List (Rc T)),(∀rc'∈l,M rc'.i=true→rc'.dm.testBit rc.i=false)→(∀rc'∈l,rc'.i≠rc.i)→
  (lmL L0 M' (l++rc::X)).Perm (tag (rc.i+1) (QhK rc)++lmL L0 M (l++rc::X))
 | [],_,_=>by
  show(lmL L0 M' (rc::X)).Perm (tag (rc.i+1) (QhK rc)++lmL L0 M (rc::X))
  rw[Y3,Y3]
  rw[hi',hi]
  simp only[Qg,Qh]
  rw[yB hk,ZA X fun rc' h'=>hM _ (hX rc' h')]
 | r2 ::l,h,hn=>by
  have ih:=Qxs hk hi hM hi' hX l (fun rc' h'=>h rc' (List.mem_cons_of_mem _ h')) (fun rc' h'=>hn rc' (List.mem_cons_of_mem _ h'))
  show(lmL L0 M' (r2::(l++rc::X))).Perm (tag (rc.i+1) (QhK rc)++lmL L0 M (r2::(l++rc::X)))
  rw[Y3,Y3]
  rw[hM _ (hn r2 List.mem_cons_self)]
  cases hm:M r2.i with
  |false=>simp only[Qh];exact ih
  | true=>
   simp only[Qg]
   have hb:=h r2 List.mem_cons_self hm
   by_cases h3:r2.kd=3
   ·rw[Zz h3,Zz h3]
    have h4:=ih.filter fun e=> !visO r2.dm e.1
    rw[List.filter_append,qL (fun k=> !visO r2.dm k),if_pos (by show(!r2.dm.testBit rc.i)=true;rw[hb];rfl)]at h4
    refine(List.Perm.append_left _ h4).trans ?_
    rw[←List.append_assoc,←List.append_assoc]
    exact List.Perm.append_right _ List.perm_append_comm
   ·by_cases h2:r2.kd=2
    ·rw[yB h2,yB h2]
     refine(List.Perm.append_left _ ih).trans ?_
     rw[←List.append_assoc,←List.append_assoc]
     exact List.Perm.append_right _ List.perm_append_comm
    ·by_cases h4:r2.kd=4
     ·rw[yC h4,yC h4]
      have h5:=ih.filter fun e=> !visP r2.dm e.1
      rw[List.filter_append,qL (fun k=> !visP r2.dm k),if_pos (by show(!r2.dm.testBit rc.i)=true;rw[hb];rfl)]at h5
      exact h5
     ·rw[jQ h3 h2 h4,jQ h3 h2 h4];exact ih
theorem Qxt{rc:Rc T}{X:List (Rc T)}(h3:rc.kd≠3)(h2:rc.kd≠2)(h4:rc.kd≠4)(hM:∀k,k≠rc.i→M' k=M k)(hX:∀rc'∈X,rc'.i≠rc.i):∀(l:List (Rc T)),(∀rc'∈l,rc'.i≠rc.i)→lmL L0 M' (l++rc::X)=lmL L0 M (l++rc::X)
 | [],_=>by
  show lmL L0 M' (rc::X)=lmL L0 M (rc::X)
  rw[Y3,Y3]
  rw[jQ h3 h2 h4,jQ h3 h2 h4,ZA X fun rc' h'=>hM _ (hX rc' h')]
  cases M' rc.i<;>cases M rc.i<;>rfl
 |r2::l,hn=>by
  show lmL L0 M' (r2::(l++rc::X))=lmL L0 M (r2::(l++rc::X))
  rw[Y3,Y3]
  rw[hM _ (hn r2 List.mem_cons_self),Qxt h3 h2 h4 hM hX l fun rc' h'=>hn rc' (List.mem_cons_of_mem _ h')]
theorem Qxu{rc:Rc T}{X:List (Rc T)}(hk:rc.kd=4)(hi:M rc.i=false)(hM:∀k,k≠rc.i→M' k=M k)(hi':M' rc.i=true)(hX:∀rc'∈X,rc'.i≠rc.i):∀(l:List (Rc T)),(∀rc'∈l,rc.dm.testBit rc'.i=false)→(∀rc'∈l,rc'.i≠rc.i)→
  lmL L0 M' (l++rc::X)=(lmL L0 M (l++rc::X)).filter fun e=> !visP rc.dm e.1
 | [],_,_=>by
  show lmL L0 M' (rc::X)=(lmL L0 M (rc::X)).filter _
  rw[Y3,Y3]
  rw[hi',hi]
  simp only[Qg,Qh]
  rw[yC hk,ZA X fun rc' h'=>hM _ (hX rc' h')]
 | r2::l,hd,hn=>by
  have ih:=Qxu hk hi hM hi' hX l (fun rc' h'=>hd rc' (List.mem_cons_of_mem _ h')) (fun rc' h'=>hn rc' (List.mem_cons_of_mem _ h'))
  show lmL L0 M' (r2::(l++rc::X))=(lmL L0 M (r2::(l++rc::X))).filter _
  rw[Y3,Y3]
  rw[hM _ (hn r2 List.mem_cons_self)]
  cases hm:M r2.i with
  |false=>simp only[Qh];exact ih
  | true=>
   simp only[Qg]
   rw[ih]
   by_cases h3:r2.kd=3
   ·rw[Zz h3,Zz h3,List.filter_append,qL (fun k=> !visP rc.dm k),if_pos (show(!visP rc.dm 0)=true from rfl),jw]
   ·by_cases h2:r2.kd=2
    ·rw[yB h2,yB h2,List.filter_append,qL (fun k=> !visP rc.dm k),if_pos (by show(!rc.dm.testBit r2.i)=true;rw[hd r2 List.mem_cons_self];rfl)]
    ·by_cases h4:r2.kd=4
     ·rw[yC h4,yC h4,jw]
     ·rw[jQ h3 h2 h4,jQ h3 h2 h4]
theorem TrOk.split{rc:Rc T}:∀{l:List (Rc T)},TrOk C ops c l→rc∈l→∃l1 l2,l=l1++rc::l2∧RcOk C ops c l2 rc∧TrOk C ops c l2
 | [],_,h=>by cases h
 | x::l,.cons h1 h2,h=>by
  rcases List.mem_cons.1 h with rfl|h
  ·exact⟨[],l,rfl,h1,h2⟩
  ·obtain⟨l1,l2,rfl,h3,h4⟩:=h2.split h
   exact⟨x::l1,l2,rfl,h3,h4⟩
theorem TrOk.drop{X:List (Rc T)}:∀{l:List (Rc T)},TrOk C ops c (l++X)→TrOk C ops c X
 | [],h=>h
 |_::_,.cons _ h=>TrOk.drop h
theorem ZB{i:Nat}{d:Option Nat}{l:List (Rc T)}(h:frsO i d l=true){rc:Rc T}(hm:rc∈l):rc.i≠i∧∀x,d=some x→rc.o.dst≠some x:=by
 unfold frsO at h
 rw[List.all_eq_true]at h
 have h1:=h rc hm
 rw[Qd]at h1
 refine⟨fun e=> ?_,fun x hx hy=> ?_⟩
 ·have:=h1.1
  rw[e]at this
  simp at this
 ·have:=h1.2
  rw[hx,hy]at this
  simp at this
theorem RcOk.le{l:List (Rc T)}{rc:Rc T}(h:RcOk C ops c l rc):rc.n≤rc.n':=by
 have h1:=h.ok
 rw[h.n']
 unfold okO' at h1
 simp only[Qd]at h1
 have h1:=h1.2.2
 unfold nwO
 split
 ·rename_i hk;rw[hk]at h1;simp only[Qd]at h1;exact Nat.le_of_ble_eq_true h1.1
 ·rename_i hk;rw[hk]at h1;simp only[Qd]at h1;exact Nat.le_of_ble_eq_true h1.1
 ·exact Nat.le_refl _
theorem TrOk.mono:∀{l:List (Rc T)},TrOk C ops c l→c.n0≤nxO c.n0 l∧∀rc∈l,c.n0≤rc.n∧rc.n≤rc.n'∧rc.n'≤nxO c.n0 l
 | [],_=>⟨Nat.le_refl _,fun _ h=>by cases h⟩
 | x::l,.cons h1 h2=>by
  obtain⟨h3,h4⟩:=h2.mono
  have h5:=h1.le
  have h6:=h1.n
  have h7:nxO c.n0 (x::l)=x.n':=rfl
  rw[h7]
  refine⟨by omega,fun rc hm=> ?_⟩
  rcases List.mem_cons.1 hm with rfl|hm
  ·exact⟨by omega,h5,Nat.le_refl _⟩
  ·have:=h4 rc hm
   exact⟨this.1,this.2.1,by omega⟩
theorem Qcd{i:Nat}{rc:Rc T}:∀{l:List (Rc T)},rcAt l i=some rc→rc∈l∧rc.i=i
 | [],h=>by cases h
 |x::l,h=>by
  unfold rcAt at h
  cases hb:Nat.beq x.i i with
  |true=>rw[hb]at h;simp only[Qg,Qa]at h;subst h;exact⟨List.mem_cons_self,Qc hb⟩
  |false=>rw[hb]at h;obtain⟨h1,h2⟩:=Qcd h;exact⟨List.mem_cons_of_mem _ h1,h2⟩
theorem X6{l:List (Rc T)}:∀{es:List Edge} {dm:Nat},Qgl l es=some dm→∀k,dm.testBit k=true→∃e∈es,Region.binds .any e=true∧∃rc∈l,rc.i=e.on∧(k=rc.i∨rc.dm.testBit k=true)
 | [],dm,h,k,hk=>by
  simp only[Qgl,Qa]at h
  subst h
  simp at hk
 | e ::es,dm,h,k,hk=>by
  unfold Qgl at h
  cases hb:Region.binds .any e with
  |false=>
   rw[hb]at h
   obtain⟨e',h1,h2⟩:=X6 (es:=es) h k hk
   exact⟨e',List.mem_cons_of_mem _ h1,h2⟩
  | true=>
   rw[hb]at h
   simp only[Qg]at h
   split at h
   ·rename_i rc m h1 h2
    simp only[Qa]at h
    subst h
    rw[Nat.testBit_or,Nat.testBit_or,Nat.testBit_two_pow]at hk
    simp only[Bool.or_eq_true,decide_eq_true_eq]at hk
    obtain⟨h3,h4⟩:=Qcd h1
    rcases hk with(hk|hk)|hk
    ·exact⟨e,List.mem_cons_self,hb,rc,h3,h4,.inr hk⟩
    ·exact⟨e,List.mem_cons_self,hb,rc,h3,h4,.inl hk.symm⟩
    ·obtain⟨e',h5,h6⟩:=X6 h2 k hk
     exact⟨e',List.mem_cons_of_mem _ h5,h6⟩
   ·cases h
theorem QaN{l:List (Rc T)}:∀{es:List Edge} {dm:Nat},Qgl l es=some dm→∀e∈es,Region.binds .any e=true→∃rc∈l,rc.i=e.on
 | [],_,_,e,he,_=>by cases he
 | x::es,dm,h,e,he,hb=>by
  unfold Qgl at h
  rcases List.mem_cons.1 he with rfl|he
  ·rw[hb]at h
   simp only[Qg]at h
   split at h
   ·rename_i rc m h1 h2
    obtain⟨h3,h4⟩:=Qcd h1
    exact⟨rc,h3,h4⟩
   ·cases h
  ·cases hx:Region.binds .any x with
   |false=>rw[hx]at h;exact QaN h e he hb
   |true=>
    rw[hx]at h
    simp only[Qg]at h
    split at h
    ·rename_i rc m h1 h2;exact QaN h2 e he hb
    ·cases h
theorem TrOk.deps:∀{l:List (Rc T)},TrOk C ops c l→∀rc∈l,∀k,rc.dm.testBit k=true→∃rc'∈l,rc'.i=k
 | [],_,_,h=>by cases h
 | x::l,.cons h1 h2,rc,hm=>by
  intro k hk
  rcases List.mem_cons.1 hm with rfl|hm
  ·obtain⟨e,_,_,rc',h3,h4,h5⟩:=X6 h1.dep k hk
   rcases h5 with h5|h5
   ·exact⟨rc',List.mem_cons_of_mem _ h3,h5.symm⟩
   ·obtain⟨r2,h6,h7⟩:=h2.deps rc' h3 k h5
    exact⟨r2,List.mem_cons_of_mem _ h6,h7⟩
  ·obtain⟨r2,h6,h7⟩:=h2.deps rc hm k hk
   exact⟨r2,List.mem_cons_of_mem _ h6,h7⟩
theorem RcOk.deps{l:List (Rc T)}{rc:Rc T}(h:RcOk C ops c l rc)(hl:TrOk C ops c l){k:Nat}(hk:rc.dm.testBit k=true):∃rc'∈l,rc'.i=k:=by
 obtain⟨e,_,_,rc',h3,h4,h5⟩:=X6 h.dep k hk
 rcases h5 with h5|h5
 ·exact⟨rc',h3,h5.symm⟩
 ·exact hl.deps rc' h3 k h5
theorem Qmd{l:List (Rc T)}:∀{n:Nat},allO l n=true→∀i<n,∃rc∈l,rc.i=i
 |0,_,i,h=>absurd h (Nat.not_lt_zero i)
 | n+1,h,i,hi=>by
  unfold allO at h
  rw[Qd]at h
  by_cases e:i=n
  ·subst e
   cases hr:rcAt l i with
   |none=>rw[hr]at h;cases h.1
   |some rc=>exact⟨rc,Qcd hr⟩
  ·exact Qmd h.2 i (by omega)
theorem Qme{dm t:Nat}{sv:SV T}:∀{l:List (Rc T)},lookA (preO dm l) t=some sv→∃rc∈l,dm.testBit rc.i=true∧rc.o.dst=some t∧rc.sv=sv
 | [],h=>by cases h
 | x ::l,h=>by
  have nx:lookA (preO dm l) t=some sv→∃rc∈x::l,dm.testBit rc.i=true∧rc.o.dst=some t∧rc.sv=sv:=fun h=>by
   obtain⟨rc,h1,h2⟩:=Qme h
   exact⟨rc,List.mem_cons_of_mem _ h1,h2⟩
  unfold preO at h
  cases hb:dm.testBit x.i with
  |false=>rw[hb]at h;exact nx h
  | true=>
   rw[hb]at h
   simp only[Qg]at h
   split at h
   ·rename_i d hd
    simp only[lookA]at h
    cases hdt:Nat.beq d t with
    |true=>
     rw[hdt]at h
     obtain rfl:=Qc hdt
     simp only[Qg,Qa]at h
     exact⟨x,List.mem_cons_self,hb,hd,h⟩
    |false=>rw[hdt]at h;exact nx h
   ·exact nx h
theorem Qmf{t:Nat}{sv:SV T}:∀{l:List (Rc T)},lookA (preA l) t=some sv→∃rc∈l,rc.o.dst=some t∧rc.sv=sv
 | [],h=>by cases h
 | x::l,h=>by
  have nx:lookA (preA l) t=some sv→∃rc∈x::l,rc.o.dst=some t∧rc.sv=sv:=fun h=>by
   obtain⟨rc,h1,h2⟩:=Qmf h
   exact⟨rc,List.mem_cons_of_mem _ h1,h2⟩
  unfold preA at h
  split at h
  ·rename_i d hd
   simp only[lookA]at h
   cases hdt:Nat.beq d t with
   |true=>
    rw[hdt]at h
    obtain rfl:=Qc hdt
    simp only[Qg,Qa]at h
    exact⟨x,List.mem_cons_self,hd,h⟩
   |false=>rw[hdt]at h;exact nx h
  ·exact nx h
theorem Qce{dm t:Nat}:∀{l:List (Rc T)} {x:Rc T},x∈l→dm.testBit x.i=true→x.o.dst=some t→lookA (preO dm l) t≠none
 | [],_,hx,_,_,_=>by cases hx
 | y ::l,x,hx,hb,hd,h=>by
  unfold preO at h
  rcases List.mem_cons.1 hx with rfl|hx
  ·rw[hb,hd]at h
   simp[lookA]at h
  ·cases hby:dm.testBit y.i with
   |false=>rw[hby]at h;exact Qce hx hb hd h
   | true=>
    rw[hby]at h
    simp only[Qg]at h
    split at h
    ·rename_i d hdy
     simp only[lookA]at h
     cases hdt:Nat.beq d t with
     |true=>rw[hdt]at h;cases h
     |false=>rw[hdt]at h;exact Qce hx hb hd h
    ·exact Qce hx hb hd h
theorem QdW{t:Nat}:∀{l:List (Rc T)} {x:Rc T},x∈l→x.o.dst=some t→lookA (preA l) t≠none
 | [],_,hx,_,_=>by cases hx
 | y::l,x,hx,hd,h=>by
  unfold preA at h
  rcases List.mem_cons.1 hx with rfl|hx
  ·rw[hd]at h
   simp[lookA]at h
  ·split at h
   ·rename_i d hdy
    simp only[lookA]at h
    cases hdt:Nat.beq d t with
    |true=>rw[hdt]at h;cases h
    |false=>rw[hdt]at h;exact QdW hx hd h
   ·exact QdW hx hd h
theorem Qmg{ow:Bool}{dm:Nat}{l:List (Rc T)}(h:barO ow dm l=true){x:Rc T}(hx:x∈l):(ow=true→dm.testBit x.i=true)∧(x.ow=true→dm.testBit x.i=true):=by
 unfold barO at h
 rw[List.all_eq_true]at h
 have:=h x hx
 simp only[Qd,Bool.or_eq_true,Bool.not_eq_true']at this
 exact⟨fun e=>by rw[e]at this;simpa using this.1,fun e=>by rw[e]at this;simpa using this.2⟩
end
end Go.Sep
