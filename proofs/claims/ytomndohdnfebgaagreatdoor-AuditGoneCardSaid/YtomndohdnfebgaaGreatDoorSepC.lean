/-
 Operations that touch memory, calls, returns, loops.
-/
import Derived.Test.YtomndohdnfebgaaGreatDoorSepA
import Derived.Laws.AppendOwn
import Derived.Laws.Tables
set_option linter.unusedVariables false
set_option linter.unusedSimpArgs false
namespace Go.Sep
def opre(o o':Obj):Prop:=
 match o with
 | .cells C _ _=>∃C' T' fr',o'= .cells C' T' fr'∧∀(i:Nat) u,C[i]?=some u→C'[i]?=some u
 |_=>o'=o
theorem Zb{C:Array Value}{T:TypeId}{fr:Nat×Nat}{o':Obj}(h:opre (.cells C T fr) o'):∃C' T' fr',o'= .cells C' T' fr'∧∀(i:Nat) u,C[i]?=some u→C'[i]?=some u:=h
theorem QbQ(o:Obj):opre o o:=by
 unfold opre
 split
 ·exact⟨_,_,_,rfl,fun _ _ h=>h⟩
 ·rfl
theorem Qij{o o' o2:Obj}(h:opre o o')(h':opre o' o2):opre o o2:=by
 cases o with
 |cells C T fr=>
  obtain⟨C',T',fr',rfl,h1⟩:=h
  obtain⟨C2,T2,fr2,rfl,h2⟩:=h'
  exact⟨_,_,_,rfl,fun i u hu=>h2 i u (h1 i u hu)⟩
 |_=>cases h;exact h'
def Qf9(n:Nat)(o:Obj):Prop:=∃C T fr,o= .cells C T fr∧C.size≤n
abbrev Snap:=Nat→Option Obj
def Snap.le(D D':Snap):Prop:=∀b o,D b=some o→∃o',D' b=some o'∧opre o o'
theorem Snap.le.refl(D:Snap):D.le D:=fun _ o h=>⟨o,h,QbQ o⟩
theorem Snap.le.trans{D D' D'':Snap}(h:D.le D')(h':D'.le D''):D.le D'':=fun b o e=>by
 obtain⟨o',h1,h2⟩:=h b o e
 obtain⟨o2,h3,h4⟩:=h' b o' h1
 exact⟨o2,h3,Qij h2 h4⟩
def Snap.ins(D:Snap)(b:Nat)(o:Obj):Snap:=fun x=>if x=b then some o else D x
theorem Snap.le_ins{D:Snap}{b:Nat}{o:Obj}(h:∀p,D b=some p→opre p o):D.le (D.ins b o):=fun x u e=>by
 unfold Snap.ins
 split
 ·subst x;exact⟨o,rfl,h u e⟩
 ·exact⟨u,e,QbQ u⟩
abbrev OB:=Obj×Nat
abbrev Blk:=Option (Nat×OB)
def bid(q:Blk):Option Nat:=q.map (·.1)
def ids(L:List Blk):List Nat:=L.filterMap bid
abbrev bx(b:Nat)(T:TypeId)(cs:List Value):Blk:=some (b,(.cells cs.toArray T (0,0),0))
structure St(g w:World)(D:Snap)(L:List Blk):Prop where
 os:w.os=g.os
 tape:w.tape=g.tape
 output:w.output=g.output
 d:∀b o,D b=some o→∃o',w.heap[b]?=some o'∧opre o o'
 l:∀b o,some (b,o)∈L→w.heap[b]?=some o.1∧∀p,D b=some p→Qf9 o.2 p
 nd:(ids L).Nodup
theorem Qa3{L:List Blk}{b:Nat}:b∈ids L↔∃o,some (b,o)∈L:=by
 simp only[ids,List.mem_filterMap,bid,Option.map_eq_some_iff]
 constructor
 ·rintro⟨q,hq,⟨x,o⟩,rfl,rfl⟩;exact⟨o,hq⟩
 ·rintro⟨o,h⟩;exact⟨_,h,(b,o),rfl,rfl⟩
theorem jc(L R:List Blk):ids (L++R)=ids L++ids R:=by simp[ids]
theorem YZ(b:Nat)(o:OB)(L:List Blk):ids (some (b,o)::L)=b::ids L:=rfl
theorem QiK(L:List Blk):ids (none::L)=ids L:=rfl
theorem lt_of_heap{w:World}{b:Nat}{o:Obj}(h:w.heap[b]?=some o):b<w.heap.size:=(Array.getElem?_eq_some_iff.1 h).1
structure Stp(g w:World)(D:Snap)(L:List Blk)(w':World)(D':Snap)(L':List Blk):Prop where
 keep:∀b,b<w.heap.size→b∉ids L→w'.heap[b]?=w.heap[b]?
 size:w.heap.size≤w'.heap.size
 dle:D.le D'
 dnew:∀b o,D' b=some o→D b=some o∨w.heap.size≤b∨b∈ids L
 st:St g w' D' L'
 lnew:∀b,b∈ids L'→b∈ids L∨w.heap.size≤b
section
variable {g w w' w0:World}{D D' D0:Snap}{L L' L0 R:List Blk}
theorem Stp.refl(h:St g w D L):Stp g w D L w D L:=
 ⟨fun _ _ _=>rfl,Nat.le_refl _,Snap.le.refl D,fun _ _ h=> .inl h,h,fun _ h=> .inl h⟩
theorem Stp.call(h0:Stp g w0 D0 L0 w D (L++R))(h:Stp g w D L w' D' L'):Stp g w0 D0 L0 w' D' (L'++R):=by
 have hR:∀b,b∈ids R→b<w.heap.size∧b∉ids L:=by
  intro b hb
  obtain⟨o,ho⟩:=Qa3.1 hb
  have:=(h0.st.l b o (by simp[ho])).1
  refine⟨lt_of_heap this,fun hL=> ?_⟩
  have hnd:=h0.st.nd
  rw[jc,List.nodup_append]at hnd
  exact hnd.2.2 b hL b hb rfl
 refine⟨?_,Nat.le_trans h0.size h.size,h0.dle.trans h.dle,?_,?_,?_⟩
 ·intro b hb hn
  have hL:b∉ids L:=fun hL=>by
   rcases h0.lnew b (by rw[jc];simp[hL])with h1|h1
   ·exact hn h1
   ·omega
  rw[h.keep b (Nat.lt_of_lt_of_le hb h0.size) hL,h0.keep b hb hn]
 ·intro b o hb
  rcases h.dnew b o hb with h1|h1|h1
  ·exact h0.dnew b o h1
  ·exact .inr (.inl (Nat.le_trans h0.size h1))
  ·rcases h0.lnew b (by rw[jc];simp[h1])with h2|h2
   ·exact .inr (.inr h2)
   ·exact .inr (.inl h2)
 ·refine⟨h.st.os,h.st.tape,h.st.output,h.st.d,?_,?_⟩
  ·intro b o hb
   rcases List.mem_append.1 hb with hb|hb
   ·exact h.st.l b o hb
   ·have hm:=hR b (Qa3.2 ⟨o,hb⟩)
    have hh:=h0.st.l b o (by simp[hb])
    refine⟨by rw[h.keep b hm.1 hm.2];exact hh.1,fun u hD=> ?_⟩
    rcases h.dnew b u hD with h1|h1|h1
    ·exact hh.2 u h1
    ·omega
    ·exact absurd h1 hm.2
  ·rw[jc,List.nodup_append]
   refine⟨h.st.nd,?_,?_⟩
   ·have hnd:=h0.st.nd
    rw[jc,List.nodup_append]at hnd
    exact hnd.2.1
   ·rintro a ha b hb rfl
    have hm:=hR a hb
    rcases h.lnew a ha with h1|h1
    ·exact hm.2 h1
    ·omega
 ·intro b hb
  rw[jc,List.mem_append]at hb
  rcases hb with hb|hb
  ·rcases h.lnew b hb with h1|h1
   ·exact h0.lnew b (by rw[jc];simp[h1])
   ·exact .inr (Nat.le_trans h0.size h1)
  ·exact h0.lnew b (by rw[jc];simp[hb])
theorem Stp.with_st(h:Stp g w0 D0 L0 w D L)(hs:St g w D L')(hl:∀b,b∈ids L'→b∈ids L):Stp g w0 D0 L0 w D L':=
 ⟨h.keep,h.size,h.dle,h.dnew,hs,fun b hb=>h.lnew b (hl b hb)⟩
theorem St.perm(h:St g w D L)(hp:L.Perm L'):St g w D L':=
 ⟨h.os,h.tape,h.output,h.d,fun b o hb=>h.l b o (hp.mem_iff.2 hb),(hp.filterMap bid).nodup_iff.1 h.nd⟩
theorem St.tail{x:Blk}(h:St g w D (x::L)):St g w D L:=
 ⟨h.os,h.tape,h.output,h.d,fun b o hb=>h.l b o (List.mem_cons_of_mem _ hb),by
  have:=h.nd
  cases x with
  |none=>exact this
  |some p=>rw[show ids (some p::L)=p.1::ids L from rfl,List.nodup_cons]at this;exact this.2⟩
theorem Stp.drop{x:Blk}(h:Stp g w0 D0 L0 w D (x::L)):Stp g w0 D0 L0 w D L:=
 h.with_st h.st.tail (fun b hb=>by cases x<;>simp[ids,bid]at* <;>simp[hb])
theorem St.fore{R:List Blk}(h:St g w D (L++R)):St g w D L:=
 ⟨h.os,h.tape,h.output,h.d,fun b u hb=>h.l b u (by simp[hb]),by have:=h.nd;rw[jc,List.nodup_append]at this;exact this.1⟩
theorem Stp.drops(h:Stp g w0 D0 L0 w D (L++R)):Stp g w0 D0 L0 w D R:=by
 induction L with
 |nil=>exact h
 |cons x L ih=>exact ih (Stp.drop h)
theorem Stp.nils(h:Stp g w0 D0 L0 w D L):Stp g w0 D0 L0 w D (none::L):=
 h.with_st ⟨h.st.os,h.st.tape,h.st.output,h.st.d,fun b o hb=>h.st.l b o (by simpa using hb),h.st.nd⟩ (fun _ hb=>hb)
theorem Stp.lt_d(h:Stp g w0 D0 L0 w D L){b:Nat}{u:Obj}(hb:D b=some u):b<w.heap.size:=by
 obtain⟨o',h1,_⟩:=h.st.d b u hb
 exact lt_of_heap h1
theorem Stp.alloc(h:Stp g w0 D0 L0 w D L)(o:Obj):Stp g w0 D0 L0 (w.alloc o) D (some (w.heap.size,(o,0))::L):=by
 refine⟨?_,?_,h.dle,h.dnew,⟨h.st.os,h.st.tape,h.st.output,?_,?_,?_⟩,?_⟩
 ·intro b hb hn
  rw[heap_alloc_old _ _ _ (Nat.lt_of_lt_of_le hb h.size)]
  exact h.keep b hb hn
 ·simp;exact Nat.le_trans h.size (Nat.le_succ _)
 ·intro b u hb
  rw[heap_alloc_old _ _ _ (h.lt_d hb)]
  exact h.st.d b u hb
 ·intro b u hb
  rcases List.mem_cons.1 hb with hb|hb
  ·simp only[Qa,Qe]at hb
   obtain⟨rfl,rfl⟩:=hb
   refine⟨heap_alloc_new _ _,fun u hD=> ?_⟩
   have:=h.lt_d hD;omega
  ·have:=h.st.l b u hb
   exact⟨by rw[heap_alloc_old _ _ _ (lt_of_heap this.1)];exact this.1,this.2⟩
 ·rw[YZ,List.nodup_cons]
  refine⟨fun hm=> ?_,h.st.nd⟩
  obtain⟨u,hu⟩:=Qa3.1 hm
  have:=lt_of_heap (h.st.l _ _ hu).1
  omega
 ·intro b hb
  rw[YZ,List.mem_cons]at hb
  rcases hb with rfl|hb
  ·exact .inr h.size
  ·exact h.lnew b hb
theorem Stp.drew(h:Stp g w0 D0 L0 w D L):Stp g w0 D0 L0 w.drew D L:=
 ⟨h.keep,h.size,h.dle,h.dnew,⟨h.st.os,h.st.tape,h.st.output,h.st.d,h.st.l,h.st.nd⟩,h.lnew⟩
theorem Stp.put{b:Nat}{o o':OB}(h:Stp g w0 D0 L0 w D (some (b,o)::L))(hpre:∀p,Qf9 o.2 p→opre p o.1→opre p o'.1∧Qf9 o'.2 p)(hs:w'.heap.size=w.heap.size)(hos:w'.os=w.os)(ht:w'.tape=w.tape)(hout:w'.output=w.output)
  (hb:w'.heap[b]?=some o'.1) (hk:∀k,k≠b→w'.heap[k]?=w.heap[k]?):Stp g w0 D0 L0 w' D (some (b,o')::L):=by
 have hnd:=h.st.nd
 have hb0:=h.st.l b o (by simp)
 have hup:∀p,D b=some p→opre p o'.1∧Qf9 o'.2 p:=fun p hp=>by
  obtain⟨o2,h1,h2⟩:=h.st.d b p hp
  rw[hb0.1]at h1
  cases h1
  exact hpre p (hb0.2 p hp) h2
 rw[YZ,List.nodup_cons]at hnd
 refine⟨?_,by rw[hs];exact h.size,h.dle,h.dnew,⟨hos.trans h.st.os,ht.trans h.st.tape,hout.trans h.st.output,?_,?_,by rw[YZ,List.nodup_cons];exact hnd⟩,h.lnew⟩
 ·intro k hk1 hk2
  have hne:k≠b:=fun e=>by
   subst e
   rcases h.lnew k (by rw[YZ];simp)with h1|h1
   ·exact hk2 h1
   ·omega
  rw[hk k hne]
  exact h.keep k hk1 hk2
 ·intro k u hu
  by_cases hne:k=b
  ·subst hne;exact⟨_,hb,(hup u hu).1⟩
  ·rw[hk k hne]
   exact h.st.d k u hu
 ·intro k u hu
  rcases List.mem_cons.1 hu with hu|hu
  ·simp only[Qa,Qe]at hu
   obtain⟨hk',rfl⟩:=hu
   subst hk'
   exact⟨hb,fun p hp=>(hup p hp).2⟩
  ·have hu':=hu
   have hne:k≠b:=fun e=>by subst e;exact hnd.1 (Qa3.2 ⟨u,hu'⟩)
   have:=h.st.l k u (List.mem_cons_of_mem _ hu')
   exact⟨by rw[hk k hne];exact this.1,this.2⟩
theorem Qpw{C C':Array Value}{T T':TypeId}{fr fr':Nat×Nat}{n:Nat}:∀p,Qf9 0 p→opre p (.cells C T fr)→opre p (.cells C' T' fr')∧Qf9 n p:=by
 rintro p ⟨C0,T0,fr0,rfl,h0⟩ _
 refine⟨⟨_,_,_,rfl,fun i u hu=> ?_⟩,_,_,_,rfl,by omega⟩
 have:=(Array.getElem?_eq_some_iff.1 hu).1
 omega
theorem Stp.put0{b:Nat}{C C':Array Value}{T T':TypeId}{fr fr':Nat×Nat}(h:Stp g w0 D0 L0 w D (some (b,(.cells C T fr,0))::L))(hs:w'.heap.size=w.heap.size)(hos:w'.os=w.os)(ht:w'.tape=w.tape)(hout:w'.output=w.output)
  (hb:w'.heap[b]?=some (.cells C' T' fr')) (hk:∀k,k≠b→w'.heap[k]?=w.heap[k]?):Stp g w0 D0 L0 w' D (some (b,(.cells C' T' fr',0))::L):=
 h.put (o':=(.cells C' T' fr',0)) Qpw hs hos ht hout hb hk
theorem Stp.lend{b n:Nat}{C:Array Value}{T:TypeId}{fr:Nat×Nat}(k:Nat)(hk:n≤k)(h:Stp g w0 D0 L0 w D (some (b,(.cells C T fr,n))::L)):
  D.le (D.ins b (.cells (C.toList.take k).toArray T fr))∧Stp g w0 D0 L0 w (D.ins b (.cells (C.toList.take k).toArray T fr)) (some (b,(.cells C T fr,k))::L):=by
 have hb:=h.st.l b _ (List.mem_cons_self)
 have hpre:opre (.cells (C.toList.take k).toArray T fr) (.cells C T fr):=⟨_,_,_,rfl,fun i u hu=>by
  simp only[List.getElem?_toArray,List.getElem?_take]at hu
  split at hu
  ·simpa using hu
  ·cases hu⟩
 have hle:D.le (D.ins b (.cells (C.toList.take k).toArray T fr)):=Snap.le_ins fun p hp=>by
  obtain⟨C0,T0,fr0,rfl,h0⟩:=hb.2 p hp
  obtain⟨o2,h1,h2⟩:=h.st.d b _ hp
  rw[hb.1]at h1
  cases h1
  obtain⟨C',T',fr',e,h3⟩:=Zb h2
  cases e
  refine⟨_,_,_,rfl,fun i u hu=> ?_⟩
  have hi:=(Array.getElem?_eq_some_iff.1 hu).1
  have:=h3 i u hu
  have hik : i < k := by have h0':C0.size≤n:=h0
                         omega
  simp only[List.getElem?_toArray,List.getElem?_take,hik,if_true]
  simpa using this
 have hnd:=h.st.nd
 have hnd':=hnd
 rw[YZ,List.nodup_cons]at hnd'
 refine⟨hle,⟨h.keep,h.size,h.dle.trans hle,?_,⟨h.st.os,h.st.tape,h.st.output,?_,?_,hnd⟩,h.lnew⟩⟩
 ·intro x u hu
  unfold Snap.ins at hu
  split at hu
  ·subst x
   rcases h.lnew b (by rw[YZ];simp)with h1|h1
   ·exact .inr (.inr h1)
   ·exact .inr (.inl h1)
  ·exact h.dnew x u hu
 ·intro x u hu
  unfold Snap.ins at hu
  split at hu
  ·subst x
   simp only[Qa]at hu
   subst hu
   exact⟨_,hb.1,hpre⟩
  ·exact h.st.d x u hu
 ·intro x u hu
  rcases List.mem_cons.1 hu with hu|hu
  ·simp only[Qa,Qe]at hu
   obtain⟨rfl,rfl⟩:=hu
   refine⟨hb.1,fun p hp=> ?_⟩
   simp only[Snap.ins,if_true,Qa]at hp
   subst hp
   exact⟨_,_,_,rfl,by simp;omega⟩
  ·have hu':=hu
   have:=h.st.l x u (List.mem_cons_of_mem _ hu)
   refine⟨this.1,fun p hp=> ?_⟩
   have hne:x≠b:=fun e=>by subst e;exact hnd'.1 (Qa3.2 ⟨u,hu'⟩)
   unfold Snap.ins at hp
   rw[if_neg hne]at hp
   exact this.2 p hp
theorem Stp.freeze{b n:Nat}{C:Array Value}{T:TypeId}{fr:Nat×Nat}(hn:n≤C.size)(h:Stp g w0 D0 L0 w D (some (b,(.cells C T fr,n))::L)):D.le (D.ins b (.cells C T fr))∧Stp g w0 D0 L0 w (D.ins b (.cells C T fr)) L:=by
 have:=h.lend C.size hn
 have e:(C.toList.take C.size).toArray=C:=by rw[List.take_of_length_le (by simp)]
 rw[e]at this
 exact⟨this.1,this.2.drop⟩
theorem Stp.freezeB{b:Nat}{T:TypeId}{cs:List Value}(h:Stp g w0 D0 L0 w D (bx b T cs::L)):∃D',D.le D'∧D' b=some (.cells cs.toArray T (0,0))∧Stp g w0 D0 L0 w D' L:=
 ⟨_,(h.freeze (Nat.zero_le _)).1,by simp[Snap.ins],(h.freeze (Nat.zero_le _)).2⟩
def Sees(D:Snap)(w:World):Prop:=∀b C T fr,D b=some (.cells C T fr)→∀(i:Nat) u,C[i]?=some u→∃C' T' fr',w.heap[b]?=some (.cells C' T' fr')∧∀(i:Nat) u,C[i]?=some u→C'[i]?=some u
theorem St.sees(h:St g w D L):Sees D w:=fun b C T fr hb _ _ _=>by
 obtain⟨o',h1,h2⟩:=h.d _ _ hb
 obtain⟨C',T',fr',rfl,h3⟩:=Zb h2
 exact⟨C',T',fr',h1,h3⟩
theorem Stp.heap0{b:Nat}{o:OB}(h:Stp g w0 D0 L0 w D (some (b,o)::L)):w.heap[b]?=some o.1:=(h.st.l b o (by simp)).1
theorem Stp.heapAt{j b:Nat}{o:OB}(h:Stp g w0 D0 L0 w D L)(hj:L[j]?=some (some (b,o))):w.heap[b]?=some o.1:=(h.st.l b o (List.mem_of_getElem? hj)).1
end
def Qga(D:Snap)(A:Option Addr)(cs:List Value):Prop:=
 cs= []∨∃b off c T fr,A=some ⟨b,off,none⟩∧D b=some (.cells c T fr)∧∀j u,cs[j]?=some u→c[off+j]?=some u
theorem Qga.mono{D D':Snap}{A:Option Addr}{cs:List Value}(h:Qga D A cs)(hd:D.le D'):Qga D' A cs:=by
 rcases h with h|⟨b,off,c,T,fr,h1,h2,h3⟩
 ·exact .inl h
 ·obtain⟨o',h4,h5⟩:=hd _ _ h2
  obtain⟨C',T',fr',rfl,h6⟩:=Zb h5
  exact .inr ⟨b,off,C',T',fr',h1,h4,fun j u hu=>h6 _ _ (h3 j u hu)⟩
structure Kd(α:Type) where
 n:Nat
 r:Snap→α→List Value→Prop
 len:∀D x cs,r D x cs→cs.length=n
 one:∀D x cs,r D x cs→∀u∈cs,u.oneCell'=true
 mono:∀D D' x cs,D.le D'→r D x cs→r D' x cs
def RL{α:Type}(K:Kd α)(D:Snap):List α→List Value→Prop
 | [],cs=>cs= []
 |x::l,cs=>∃c1 c2,cs=c1++c2∧K.r D x c1∧RL K D l c2
section
variable {α:Type}{K:Kd α}{D D':Snap}
theorem RL.len:∀{l:List α} {cs:List Value},RL K D l cs→cs.length=l.length*K.n:=by
 intro l
 induction l with
 |nil=>intro cs h;simp only[RL]at h;subst h;simp
 |cons x l ih=>
  intro cs h
  obtain⟨c1,c2,rfl,h1,h2⟩:=h
  simp[K.len _ _ _ h1,ih h2,Nat.succ_mul,Nat.add_comm]
theorem RL.one:∀{l:List α} {cs:List Value},RL K D l cs→∀u∈cs,u.oneCell'=true:=by
 intro l
 induction l with
 |nil=>intro cs h;simp only[RL]at h;subst h;simp
 |cons x l ih=>
  intro cs h
  obtain⟨c1,c2,rfl,h1,h2⟩:=h
  intro u hu
  rcases List.mem_append.1 hu with hu|hu
  ·exact K.one _ _ _ h1 u hu
  ·exact ih h2 u hu
theorem RL.mono(hd:D.le D'):∀{l:List α} {cs:List Value},RL K D l cs→RL K D' l cs:=by
 intro l
 induction l with
 |nil=>intro cs h;exact h
 |cons x l ih=>
  intro cs h
  obtain⟨c1,c2,rfl,h1,h2⟩:=h
  exact⟨c1,c2,rfl,K.mono _ _ _ _ hd h1,ih h2⟩
theorem RL.append:∀{l m:List α} {cs ds:List Value},RL K D l cs→RL K D m ds→RL K D (l++m) (cs++ds):=by
 intro l
 induction l with
 |nil=>intro m cs ds h h';simp only[RL]at h;subst h;exact h'
 |cons x l ih=>
  intro m cs ds h h'
  obtain⟨c1,c2,rfl,h1,h2⟩:=h
  exact⟨c1,c2++ds,by simp,h1,ih h2 h'⟩
theorem RL.split:∀{l m:List α} {cs:List Value},RL K D (l++m) cs→∃c1 c2,cs=c1++c2∧RL K D l c1∧RL K D m c2:=by
 intro l
 induction l with
 |nil=>intro m cs h;exact⟨[],cs,rfl,rfl,h⟩
 |cons x l ih=>
  intro m cs h
  obtain⟨c1,c2,rfl,h1,h2⟩:=h
  obtain⟨d1,d2,rfl,h3,h4⟩:=ih h2
  exact⟨c1++d1,d2,by simp,⟨c1,d1,rfl,h1,h3⟩,h4⟩
end
def Sl{α:Type}(K:Kd α)(D:Snap)(A:Option Addr)(cap:Nat)(l:List α):Prop:=
 l.length≤cap∧cap≤maxLen∧∃cs,RL K D l cs∧Qga D A cs
theorem Sl.mono{α:Type}{K:Kd α}{D D':Snap}{A:Option Addr}{cap:Nat}{l:List α}(h:Sl K D A cap l)(hd:D.le D'):Sl K D' A cap l:=
 ⟨h.1,h.2.1,h.2.2.elim fun cs hc=>⟨cs,hc.1.mono hd,hc.2.mono hd⟩⟩
theorem Sl.nil{α:Type}(K:Kd α)(D:Snap):Sl K D none 0 []:=⟨by simp,by simp, [],rfl,.inl rfl⟩
def OwnB(f:Bool)(T:TypeId)(sz:Nat)(D:Snap)(A:Option Addr)(n cap:Nat)(cs:List Value):Blk→Prop
 |none=>cap=n∧n≤maxLen∧Qga D A cs∧cs.length=n*sz∧(f=true→A=none∧n=0)
 |some (b,o)=>A=some ⟨b,0,none⟩∧n≤cap∧cap≤maxLen∧cs.length=n*sz∧∃(c:Array Value) (k:Nat),o=(.cells c T (0,0),k)∧k≤n*sz∧(f=true→k=0)∧c.size=cap*sz∧c.toList.take (n*sz)=cs
def OwnX(f:Bool){α:Type}(K:Kd α)(T:TypeId)(D:Snap)(A:Option Addr)(cap:Nat)(l:List α)(q:Blk):Prop:=
 ∃cs,OwnB f T K.n D A l.length cap cs q∧RL K D l cs
abbrev OwnD{α:Type}(K:Kd α)(T:TypeId)(D:Snap)(A:Option Addr)(cap:Nat)(l:List α)(q:Blk):Prop:=OwnX true K T D A cap l q
abbrev OwnL{α:Type}(K:Kd α)(T:TypeId)(D:Snap)(A:Option Addr)(cap:Nat)(l:List α)(q:Blk):Prop:=OwnX false K T D A cap l q
theorem OwnX.mono{f:Bool}{α:Type}{K:Kd α}{T:TypeId}{D D':Snap}{A:Option Addr}{cap:Nat}{l:List α}{q:Blk}(h:OwnX f K T D A cap l q)(hd:D.le D'):OwnX f K T D' A cap l q:=by
 obtain⟨cs,h1,h2⟩:=h
 refine⟨cs,?_,h2.mono hd⟩
 cases q with
 |none=>exact⟨h1.1,h1.2.1,h1.2.2.1.mono hd,h1.2.2.2⟩
 |some p=>exact h1
theorem OwnX.weak{f:Bool}{α:Type}{K:Kd α}{T:TypeId}{D:Snap}{A:Option Addr}{cap:Nat}{l:List α}{q:Blk}(h:OwnX f K T D A cap l q):OwnL K T D A cap l q:=by
 obtain⟨cs,h1,h2⟩:=h
 refine⟨cs,?_,h2⟩
 cases q with
 |none=>exact⟨h1.1,h1.2.1,h1.2.2.1,h1.2.2.2.1,fun e=>by cases e⟩
 |some p=>
  obtain⟨b,o⟩:=p
  obtain⟨e1,e2,e3,e4,c,k,e5,e6,_,e8⟩:=h1
  exact⟨e1,e2,e3,e4,c,k,e5,e6,(fun e=>by cases e),e8⟩
theorem OwnX.lc{f:Bool}{α:Type}{K:Kd α}{T:TypeId}{D:Snap}{A:Option Addr}{cap:Nat}{l:List α}{q:Blk}(h:OwnX f K T D A cap l q):l.length≤cap∧cap≤maxLen:=by
 obtain⟨cs,h1,_⟩:=h
 cases q with
 |none=>obtain⟨e1,e2,_⟩:=h1;omega
 |some p=>exact⟨h1.2.1,h1.2.2.1⟩
theorem OwnD.nil{f:Bool}{α:Type}(K:Kd α)(T:TypeId)(D:Snap):OwnX f K T D none 0 ([]:List α) none:=⟨[],⟨rfl,by simp,.inl rfl,by simp,fun _=>⟨rfl,rfl⟩⟩,rfl⟩
theorem OwnL.full{α:Type}{K:Kd α}{D:Snap}{A:Option Addr}{cap:Nat}{l:List α}(T:TypeId)(h:Sl K D A cap l)(hc:cap=l.length):OwnL K T D A cap l none:=by
 obtain⟨h1,h2,cs,h3,h4⟩:=h
 exact⟨cs,⟨hc,by omega,h4,h3.len,fun e=>by cases e⟩,h3⟩
theorem Stp.lent{f:Bool}{α:Type}{K:Kd α}{T:TypeId}{A:Option Addr}{cap:Nat}{l:List α}{q:Blk}{g w w0:World}{D D0:Snap}{L L0:List Blk}
  (hS:Stp g w0 D0 L0 w D (q::L)) (h:OwnX f K T D A cap l q):∃D' q',D.le D'∧Stp g w0 D0 L0 w D' (q'::L)∧OwnL K T D' A cap l q'∧Sl K D' A cap l:=by
 have hlc:=h.lc
 have hw:=h.weak
 obtain⟨cs,h,hr⟩:=h
 cases q with
 |none=>exact⟨D,none,Snap.le.refl D,hS,hw,hlc.1,hlc.2,cs,hr,h.2.2.1⟩
 |some p=>
  obtain⟨b,o⟩:=p
  obtain⟨rfl,h1,h2,h3,c,k,rfl,h4,_,h5,h6⟩:=h
  obtain⟨hle,hS'⟩:=hS.lend (l.length*K.n) h4
  refine⟨_,_,hle,hS',⟨cs,⟨rfl,h1,h2,h3,c,_,rfl,Nat.le_refl _,(fun e=>by cases e),h5,h6⟩,hr.mono hle⟩,h1,h2,cs,hr.mono hle,.inr ⟨b,0,(c.toList.take (l.length*K.n)).toArray,T,(0,0),rfl,by simp[Snap.ins],?_⟩⟩
  intro j u hu
  rw[h6,Nat.zero_add]
  simpa using hu
section
variable {P:Program}{ρ:Option Nat}{ops:Array Oper}{Q:Exit→Act→World→Prop}{a:Act}{n:Nat}{ds:List Deferred}{E:List (Nat×Value)}
variable {g w w0:World}{D D0:Snap}{L L0:List Blk}{i:Nat}{o:Oper}{d:Nat}{C:Act→World→Prop}{C1:Act→Prop}{R:World→World→Prop}
def ldv(P:Program)(t:TypeId)(c:List Value)(off:Nat):Option Value:=
 match P.underlying t,P.info? t with
 |some (.struct _),some i|some (.array _ _),some i=>bif Nat.ble (off+i.size) c.length then some (.agg ((c.drop off).take i.size).toArray)else none
 |some _,some _=>c[off]?
 |_,_=>none
theorem Qpx{t:TypeId}{dd:TypeDesc}(hs:∀fs,dd= .struct fs→False)(ha:∀m e,dd= .array m e→False)(h1:P.underlying t=some dd):(isAgg t).run P w= .ok false w:=by
 simp only[isAgg,Sem.run_bind,Ql h1,Result.andThen_ok]
 cases dd<;>first|rfl|exact(hs _ rfl).elim|exact(ha _ _ rfl).elim
theorem Qgb{t:TypeId}{c:List Value}{off:Nat}{v:Value}(h:ldv P t c off=some v):
  (∃i,P.info? t=some i∧(∀w,(isAgg t).run P w= .ok true w)∧off+i.size≤c.length∧v= .agg ((c.drop off).take i.size).toArray)∨((∀w,(isAgg t).run P w= .ok false w)∧c[off]?=some v):=by
 unfold ldv at h
 split at h
 ·rename_i ii h1 h2
  cases hle:Nat.ble (off+ii.size) c.length with
  |false=>rw[hle]at h;cases h
  |true=>
   rw[hle]at h
   simp only[Qg,Qa]at h
   exact .inl ⟨_,h2,fun w=>by simp[isAgg,Ql h1],Nat.le_of_ble_eq_true hle,h.symm⟩
 ·rename_i ii h1 h2
  cases hle:Nat.ble (off+ii.size) c.length with
  |false=>rw[hle]at h;cases h
  |true=>
   rw[hle]at h
   simp only[Qg,Qa]at h
   exact .inl ⟨_,h2,fun w=>by simp[isAgg,Ql h1],Nat.le_of_ble_eq_true hle,h.symm⟩
 ·rename_i dd ii hs ha h1 h2
  exact .inr ⟨fun w=>Qpx hs ha h1,h⟩
 ·cases h
theorem addr_add(b off j:Nat):(⟨b,off,none⟩:Addr).add j=⟨b,off+j,none⟩:=by unfold Addr.add;split<;>simp_all
theorem QcF{t:TypeId}{b off off0:Nat}{c:List Value}{C:Array Value}{T:TypeId}{fr:Nat×Nat}{v:Value}(hb:w.heap[b]?=some (.cells C T fr))(hC:∀j u,c[j]?=some u→C[off0+j]?=some u)(h:ldv P t c off=some v):
  (loadVar t ⟨b,off0+off,none⟩).run P w= .ok v w:=by
 have hcell:∀j,w.cell? ⟨b,j,none⟩=C[j]?:=fun j=>cell_of_row w b j C T fr hb
 rcases Qgb h with⟨ii,hi,hagg,hle,rfl⟩|⟨hagg,hv⟩
 ·have hl:=run_loadCells_list (P:=P) (w:=w) ⟨b,off0+off,none⟩ ((c.drop off).take ii.size) (fun j u hu=>by
    rw[addr_add,hcell,Nat.add_assoc]
    rw[List.getElem?_take]at hu
    split at hu
    ·rw[List.getElem?_drop]at hu;exact hC _ _ hu
    ·cases hu)
  have hlen:((c.drop off).take ii.size).length=ii.size:=by simp;omega
  rw[hlen]at hl
  simp[loadVar,hagg,sizeOf,typeInfo,hi,hl]
 ·have:=hC _ _ hv
  simp[loadVar,hagg,hcell,this]
theorem QlO{t:TypeId}{b off:Nat}{c:List Value}{T:TypeId}{fr:Nat×Nat}{v:Value}(hb:w.heap[b]?=some (.cells c.toArray T fr))(h:ldv P t c off=some v):
  (loadVar t ⟨b,off,none⟩).run P w= .ok v w:=by
 have:=QcF (off0:=0) hb (fun j u hu=>by simpa using hu) h
 simpa using this
def Q4:Value→List Value
 | .agg cs=>cs.toList
 |v=> [v]
theorem qE(v:Value):v.cells=(Q4 v).toArray:=by cases v<;>rfl
theorem QaB(v:Value):v.cells.size=(Q4 v).length:=by rw[qE];simp
def setCells(c:List Value)(off:Nat)(vs:List Value):List Value:=c.take off++vs++c.drop (off+vs.length)
theorem Qpy{t:TypeId}{b off:Nat}{c:List Value}{T:TypeId}{v:Value}(hb:w.heap[b]?=some (.cells c.toArray T (0,0)))(hsz:P.cellsOf t=(Q4 v).length)(hty:(P.info? t).isSome=true)
  (hfit:Nat.ble (off+(Q4 v).length) c.length=true) (h1:(Q4 v).all Value.oneCell'=true):
  (storeVar t ⟨b,off,none⟩ v).run P w= .ok () (w.setRow b (setCells c off (Q4 v)).toArray):=by
 obtain⟨i,hi⟩:=Option.isSome_iff_exists.1 hty
 have hs:i.size=(Q4 v).length:=by simpa[Program.cellsOf,hi] using hsz
 have hst:=run_storeCells_at P b off T (Q4 v) 0 c.toArray w hb (by simpa using Nat.le_of_ble_eq_true hfit) (fun u hu=>List.all_eq_true.1 h1 u hu)
 simp only[Nat.add_zero]at hst
 simp[storeVar,sizeOf,typeInfo,hi,hs,hst,setCells,qE]
theorem Qkd{s:TypeId}{x:Operand}{m:Nat}{b off:Nat}{fs:Array Field}{f:Field}(off':Nat)(ho:ops[i]?=some o)(hop:o.op= .fieldAddr s x m)(hg:guardOf ops E o=some true)(hd:o.dst=some d)(hE:Env a n ds E)(hn:Nat.blt d n=true)
  (hx:Yt E x=some (.pointer (some ⟨b,off,none⟩))) (hs:P.underlying s=some (.struct fs)) (hf:fs[m]?=some f) (hz:(P.info? f.type).map (fun q=>Nat.blt 0 q.size)=some true) (hoff:off+f.offset=off')
  (k:∀a,Env a n ds ((d,.pointer (some ⟨b,off',none⟩))::E)→C1 a):Tk P ops R i n ds E a w C1:=by
 subst hoff
 obtain⟨q,hq,hpos⟩:=Option.map_eq_some_iff.1 hz
 have hpos' : q.size ≠ 0 := by have:0<q.size:=by simpa[Nat.blt_eq] using hpos
                               omega
 have e:(⟨b,off,none⟩:Addr).add f.offset=⟨b,off+f.offset,none⟩:=by unfold Addr.add;split<;>simp_all
 refine ZO (v:= .pointer (some ⟨b,off+f.offset,none⟩)) hE ho hg hd hn (by simp[hop,Q5]) (fun w' _=> ?_) ?_
 ·simp[execOp,hop,hE.eval hx,Instr.fieldAt,Ql hs,hf,Instr.sureAddr,fieldPlace,sizeOf,typeInfo,hq,hpos',e]
 ·exact k
theorem QsB{s:TypeId}{x:Operand}{m:Nat}{cs:List Value}{fs:Array Field}{f:Field}(v:Value)(ho:ops[i]?=some o)(hop:o.op= .field s x m)(hg:guardOf ops E o=some true)(hd:o.dst=some d)(hE:Env a n ds E)(hn:Nat.blt d n=true)
  (hx:Yt E x=some (.agg cs.toArray)) (hs:P.underlying s=some (.struct fs)) (hf:fs[m]?=some f) (hv:ldv P f.type cs f.offset=some v)
  (k:∀a,Env a n ds ((d,v)::E)→C1 a):Tk P ops R i n ds E a w C1:=by
 refine ZO (v:=v) hE ho hg hd hn (by simp[hop,Q5]) (fun w' _=> ?_) ?_
 ·have:(part f.type cs.toArray f.offset).run P w'= .ok v w':=by
   rcases Qgb hv with⟨ii,hi,hagg,hle,rfl⟩|⟨hagg,hv⟩
   ·simp[part,hagg,sizeOf,typeInfo,hi]
   ·simp[part,hagg,hv]
  simp[execOp,hop,hE.eval hx,Instr.field,Ql hs,hf,asAgg,this]
 ·exact k
section sl
variable {α:Type}{K:Kd α}
theorem RL.at_:∀{l:List α} {cs:List Value} {m:Nat} {x:α},RL K D l cs→l[m]?=some x→∃c,K.r D x c∧∀j u,c[j]?=some u→cs[m*K.n+j]?=some u:=by
 intro l
 induction l with
 |nil=>intro cs m x h hx;cases hx
 | cons y l ih=>
  intro cs m x h hx
  obtain⟨c1,c2,rfl,h1,h2⟩:=h
  cases m with
  |zero=>
   simp only[List.getElem?_cons_zero,Qa]at hx
   subst hx
   refine⟨c1,h1,fun j u hu=> ?_⟩
   rw[Nat.zero_mul,Nat.zero_add,List.getElem?_append_left (List.getElem?_eq_some_iff.1 hu).1]
   exact hu
  |succ m=>
   simp only[List.getElem?_cons_succ]at hx
   obtain⟨c,hc,hj⟩:=ih h2 hx
   refine⟨c,hc,fun j u hu=> ?_⟩
   have:=hj j u hu
   rw[show(m+1)*K.n+j=c1.length+(m*K.n+j)from by rw[K.len _ _ _ h1,Nat.succ_mul];omega,List.getElem?_append_right (by omega)]
   simpa using this
def Cell(K:Kd α)(D:Snap)(b off:Nat)(x:α):Prop:=∃cs c T fr,K.r D x cs∧D b=some (.cells c T fr)∧∀j u,cs[j]?=some u→c[off+j]?=some u
theorem Cell.mono{D D':Snap}{b off:Nat}{x:α}(h:Cell K D b off x)(hd:D.le D'):Cell K D' b off x:=by
 obtain⟨cs,c,T,fr,h1,h2,h3⟩:=h
 obtain⟨o',h4,h5⟩:=hd _ _ h2
 obtain⟨C',T',fr',rfl,h6⟩:=Zb h5
 exact⟨cs,C',T',fr',K.mono _ _ _ _ hd h1,h4,fun j u hu=>h6 _ _ (h3 j u hu)⟩
theorem QsC{t:TypeId}{e:TypeId}{x ix:Operand}{A:Option Addr}{cap:Nat}{l:List α}{m:Int}{kk:IntKind}(y:α)(ho:ops[i]?=some o)(hop:o.op= .indexAddr t x ix)(hg:guardOf ops E o=some true)(hd:o.dst=some d)(hE:Env a n ds E)(hn:Nat.blt d n=true)
  (hx:Yt E x=some (.slice A l.length cap)) (hix:Yt E ix=some (.int kk m)) (ht:P.underlying t=some (.slice e)) (he:(P.info? e).map (·.size)=some K.n) (hpos:Nat.blt 0 K.n=true)
  (hl:Sl K D A cap l) (h0:0≤m) (hy:l[m.toNat]?=some y)
  (k:∀a b off,Env a n ds ((d,.pointer (some ⟨b,off,none⟩))::E)→Cell K D b off y→C1 a):Tk P ops R i n ds E a w C1:=by
 obtain⟨h1,h2,cs,hr,hc⟩:=hl
 obtain⟨c,hyc,hj⟩:=hr.at_ hy
 have hmlt:=(List.getElem?_eq_some_iff.1 hy).1
 have hlen:=hr.len
 have hpos':0<K.n:=by simpa[Nat.blt_eq] using hpos
 have hcn:=K.len _ _ _ hyc
 rcases hc with rfl|⟨b,off,C,T,fr,rfl,hb,hcell⟩
 ·have:=Nat.mul_pos (Nat.lt_of_le_of_lt (Nat.zero_le _) hmlt) hpos'
  simp at hlen;omega
 ·obtain⟨ii,hi,hsz⟩:=Option.map_eq_some_iff.1 he
  have e2:(⟨b,off,none⟩:Addr).add (m.toNat*ii.size)=⟨b,off+m.toNat*K.n,none⟩:=by
   rw[hsz];unfold Addr.add;split<;>simp_all
  have hlt:m<(l.length:Int):=by omega
  refine ZO (v:= .pointer (some ⟨b,off+m.toNat*K.n,none⟩)) hE ho hg hd hn (by simp[hop,Q5]) (fun w' _=> ?_) ?_
  ·simp[execOp,hop,hE.eval hx,hE.eval hix,Instr.indexAt,asIntOf,Ql ht,h0,hlt,sizeOf,typeInfo,hi,e2]
  ·intro a' h'
   refine k a' _ _ h' ⟨c,C,T,fr,hyc,hb,fun j u hu=> ?_⟩
   rw[Nat.add_assoc]
   exact hcell _ _ (hj j u hu)
end sl
theorem QlP{f:FuncId}{fv:Operand}{xs:Array Operand}{ts:Array TypeId}{captured:Array Value}{args all:List Value}{R:Value→World→Prop}(ho:ops[i]?=some o)(hop:o.op= .call {callee:= .value fv,args:=xs,argTypes:=ts})(hg:guardOf ops E o=some true)(hd:o.dst=some d)(hE:Env a n ds E)(hn:Nat.blt d n=true)
  (hf:Yt E fv=some (.func (.func f) #[] captured)) (hxs:JC E xs.toList=some args) (hall:args++captured.toList=all) (hfn:(P.funcs[f]?).map (fun F=>(F.name== "runtime.NumGoroutine",F.body.isNone))=some (false,false))
  (hc:CallsIn (Fw none) 0 P f all.toArray w fun e w2=>∃v,e= .returned v∧R v w2)
  (k:∀a v w',R v w'→Env a n ds ((d,v)::E)→C a w'):Op1 P ρ ops Q i C a w:=by
 have hallA:args.toArray++captured=all.toArray:=by subst hall;apply Array.ext';simp
 obtain⟨F,hF,hF2⟩:=Option.map_eq_some_iff.1 hfn
 simp only[Qe]at hF2
 have hargs:xs.map a.eval=args.toArray:=by
  have:=yD (E:=E) (ev:=a.eval) (fun _ _ h=>hE.eval h) _ _ hxs
  rw[←Array.toList_map]at this
  rw[←this]
 refine Qnc (R:=R) (w':=w) (f:=f) (args:=all.toArray) hE ho hg (by simp[hd,JI,hn]) (by simp[hop,Q5]) ?_ hc ?_
 ·have h1: ¬F.name= "runtime.NumGoroutine" :=by simpa using hF2.1
  have h2:F.body≠none:=by intro e;rw[e]at hF2;simp at hF2
  simp[execOp,hop,resolve,hE.eval hf,Deferred.ofValue,hargs,invoke,callFunc,hF,h1,h2,hallA]
 ·rw[hd]
  intro v w2 a' hR h'
  exact k a' v w2 hR h'
end
section control
variable {P:Program}{ρ:Option Nat}{Q:Exit→Act→World→Prop}{a:Act}{w:World}{n:Nat}{ds:List Deferred}{E:List (Nat×Value)}
theorem JD{x:Operand}{A B:Code}{b:Bool}(hE:Env a n ds E)(hx:Yt E x=some (.bool b))(ht:b=true→A.wpIn (Fw ρ) 0 P Q a w)(hf:b=false→B.wpIn (Fw ρ) 0 P Q a w):(Code.cond x A B).wpIn (Fw ρ) 0 P Q a w:=
 wpIn_cond_split (hE.eval hx) ht hf
theorem Qpz{c:Code}(I:Nat→Act→World→Prop)(k:Nat)(h0:I k a w)
  (round:∀k a w,I k a w→∃k',k=k'+1∧c.wpIn (Fw ρ) 0 P (Exit.then (fun a' w'=>I k' a' w') Q) a w):(Code.loop c).wpIn (Fw ρ) 0 P Q a w:=by
 intro b K cs hro hb hr
 have key:∀j a w,I j a w→∃e a' w',Q e a' w'∧ArrivesIn (Machine.fenced P (Fw ρ)) P (lone (b.atR a (.code c:: .inLoop c::K)) cs w) b K cs e a' w':=by
  intro j
  induction j with
  |zero=>intro a w h;obtain⟨k',h',_⟩:=round 0 a w h;omega
  | succ j ih=>
   intro a w hI
   obtain⟨k',hk',hw⟩:=round _ a w hI
   obtain rfl:j=k':=by omega
   obtain⟨e,a₁,w₁,hq,harr⟩:=hw b (.inLoop c::K) cs hro hb hr
   cases e with
   |normal=>
    obtain⟨e₂,a₂,w₂,hq₂,harr₂⟩:=ih a₁ w₁ hq
    exact⟨e₂,a₂,w₂,hq₂,.of_steps (StepsIn.trans harr (.one (fenced_calm hb hr rfl) stepR_inLoop)) harr₂⟩
   |exit id=>exact⟨_,a₁,w₁,hq,.pass (x:= .inLoop c) rfl (fun _ _=> .inl (by simp)) harr⟩
   |goto l=>exact⟨_,a₁,w₁,hq,.pass (x:= .inLoop c) rfl (fun _ _=> .inl (by simp)) harr⟩
   |ret=>exact⟨_,a₁,w₁,hq,.pass (x:= .inLoop c) rfl (fun _ _=> .inl (by simp)) harr⟩
   |panic ch=>exact⟨_,a₁,w₁,hq,.pass (x:= .inLoop c) rfl (fun _ _=> .inl (by simp)) harr⟩
   |outgrown=>exact⟨_,a₁,w₁,hq,.pass (x:= .inLoop c) rfl (fun _ _=> .inl (by simp)) harr⟩
 obtain⟨e,a',w',hq,harr⟩:=key k a w h0
 exact⟨e,a',w',hq,.of_steps (.one (fenced_calm hb hr rfl) stepR_loop) harr⟩
def argE:Nat→List Value→List (Nat×Value)
 |_, []=> []
 |i,v::vs=>(i,v)::argE (i+1) vs
theorem Qdu:∀(vs:List Value) (i t:Nat) (v:Value),look (argE i vs) t=some v→i≤t∧vs[t-i]?=some v:=by
 intro vs
 induction vs with
 |nil=>intro i t v h;cases h
 | cons u vs ih=>
  intro i t v h
  simp only[argE,look]at h
  cases hb:Nat.beq i t with
  |true=>
   rw[hb]at h
   have:=Qc hb
   subst this
   simp only[Qg,Qa]at h
   subst h
   simp
  |false=>
   rw[hb]at h
   obtain⟨h1,h2⟩:=ih (i+1) t v h
   refine⟨by omega,?_⟩
   rw[show t-i=(t-(i+1))+1 from by omega]
   simpa using h2
theorem jG{f:FuncId}{fn:Func}{c:Code}{args:List Value}{R:Ending→World→Prop}(hf:P.funcs[f]?=some fn)(hb:fn.body=some c)(hn:fn.ntmps=n)(hle:Nat.ble args.length n=true)
  (h:∀a,Env a n [] (argE 0 args)→c.wpIn (Fw none) 0 P (bodyPost P fn R) a w):CallsIn (Fw none) 0 P f args.toArray w R:=by
 refine callsIn_of_wp hf hb trivial (h _ ⟨?_,rfl,?_⟩)
 ·have:=Nat.le_of_ble_eq_true hle
  simp[hn];omega
 ·intro t v hv
  obtain⟨_,h2⟩:=Qdu args 0 t v hv
  simp only[Nat.sub_zero]at h2
  have hlt:=(List.getElem?_eq_some_iff.1 h2).1
  rw[Array.getElem?_append_left (by simpa using hlt)]
  simpa using h2
end control
end Go.Sep
