/-
 Memory: a snapshot D of blocks that no one writes any more, a list L of blocks that are owned; data in them.
-/
import Derived.Test.YtomndohdnfebgaaGreatDoorSepA
import Derived.Laws.AppendOwn
import Derived.Laws.Tables
namespace Go.Sep
/-- what is known of a block holds of another, too: its first cells, or all of it -/
def opre (o o' : Obj) : Prop :=
 match o with
 | .cells C _ _ => ∃ C' T' fr', o' = .cells C' T' fr' ∧ ∀ (i : Nat) u, C[i]? = some u → C'[i]? = some u
 | _ => o' = o
theorem opre_cells {C : Array Value} {T : TypeId} {fr : Nat × Nat} {o' : Obj} (h : opre (.cells C T fr) o') : ∃ C' T' fr', o' = .cells C' T' fr' ∧ ∀ (i : Nat) u, C[i]? = some u → C'[i]? = some u := h
theorem opre_refl (o : Obj) : opre o o := by
 unfold opre
 split
 ·exact ⟨_, _, _, rfl, fun _ _ h => h⟩
 ·rfl
theorem opre_trans {o o' o2 : Obj} (h : opre o o') (h' : opre o' o2) : opre o o2 := by
 cases o with
 | cells C T fr =>
  obtain ⟨C', T', fr', rfl, h1⟩ := h
  obtain ⟨C2, T2, fr2, rfl, h2⟩ := h'
  exact ⟨_, _, _, rfl, fun i u hu => h2 i u (h1 i u hu)⟩
 | _ => cases h; exact h'
/-- no more is known of a block than its first n cells -/
def oupto (n : Nat) (o : Obj) : Prop := ∃ C T fr, o = .cells C T fr ∧ C.size ≤ n
/-- what is known of blocks, and stays so -/
abbrev Snap := Nat → Option Obj
def Snap.le (D D' : Snap) : Prop := ∀ b o, D b = some o → ∃ o', D' b = some o' ∧ opre o o'
theorem Snap.le.refl (D : Snap) : D.le D := fun _ o h => ⟨o, h, opre_refl o⟩
theorem Snap.le.trans {D D' D'' : Snap} (h : D.le D') (h' : D'.le D'') : D.le D'' := fun b o e => by
 obtain ⟨o', h1, h2⟩ := h b o e
 obtain ⟨o2, h3, h4⟩ := h' b o' h1
 exact ⟨o2, h3, opre_trans h2 h4⟩
def Snap.ins (D : Snap) (b : Nat) (o : Obj) : Snap := fun x => if x = b then some o else D x
theorem Snap.le_ins {D : Snap} {b : Nat} {o : Obj} (h : ∀ p, D b = some p → opre p o) : D.le (D.ins b o) := fun x u e => by
 unfold Snap.ins
 split
 ·subst x; exact ⟨o, rfl, h u e⟩
 ·exact ⟨u, e, opre_refl u⟩
/-- a block's contents, and how many of its first cells are lent: known to others, who may keep them -/
abbrev OB := Obj × Nat
abbrev Blk := Option (Nat × OB)
def bid (q : Blk) : Option Nat := q.map (·.1)
def ids (L : List Blk) : List Nat := L.filterMap bid
/-- an owned block of cells -/
abbrev bx (b : Nat) (T : TypeId) (cs : List Value) : Blk := some (b, (.cells cs.toArray T (0, 0), 0))
structure St (g w : World) (D : Snap) (L : List Blk) : Prop where
 os : w.os = g.os
 tape : w.tape = g.tape
 output : w.output = g.output
 d : ∀ b o, D b = some o → ∃ o', w.heap[b]? = some o' ∧ opre o o'
 l : ∀ b o, some (b, o) ∈ L → w.heap[b]? = some o.1 ∧ ∀ p, D b = some p → oupto o.2 p
 nd : (ids L).Nodup
theorem mem_ids {L : List Blk} {b : Nat} : b ∈ ids L ↔ ∃ o, some (b, o) ∈ L := by
 simp only [ids, List.mem_filterMap, bid, Option.map_eq_some_iff]
 constructor
 ·rintro ⟨q, hq, ⟨x, o⟩, rfl, rfl⟩; exact ⟨o, hq⟩
 ·rintro ⟨o, h⟩; exact ⟨_, h, (b, o), rfl, rfl⟩
theorem ids_append (L R : List Blk) : ids (L ++ R) = ids L ++ ids R := by simp [ids]
theorem ids_cons_some (b : Nat) (o : OB) (L : List Blk) : ids (some (b, o) :: L) = b :: ids L := rfl
theorem ids_cons_none (L : List Blk) : ids (none :: L) = ids L := rfl
theorem lt_of_heap {w : World} {b : Nat} {o : Obj} (h : w.heap[b]? = some o) : b < w.heap.size := (Array.getElem?_eq_some_iff.1 h).1
/-- what a stretch of a run has done: from w, D and the owned blocks L on -/
structure Stp (g w : World) (D : Snap) (L : List Blk) (w' : World) (D' : Snap) (L' : List Blk) : Prop where
 keep : ∀ b, b < w.heap.size → b ∉ ids L → w'.heap[b]? = w.heap[b]?
 size : w.heap.size ≤ w'.heap.size
 dle : D.le D'
 dnew : ∀ b o, D' b = some o → D b = some o ∨ w.heap.size ≤ b ∨ b ∈ ids L
 st : St g w' D' L'
 lnew : ∀ b, b ∈ ids L' → b ∈ ids L ∨ w.heap.size ≤ b
theorem Stp.keeps {g w w' : World} {D D' : Snap} {L L' : List Blk} (h : Stp g w D L w' D' L') : Keeps (ids L) w w' := ⟨h.size, h.keep⟩
section
variable {g w w' w0 : World} {D D' D0 : Snap} {L L' L0 R : List Blk}
theorem Stp.refl (h : St g w D L) : Stp g w D L w D L :=
 ⟨fun _ _ _ => rfl, Nat.le_refl _, Snap.le.refl D, fun _ _ h => .inl h, h, fun _ h => .inl h⟩
/-- a call in a frame -/
theorem Stp.call (h0 : Stp g w0 D0 L0 w D (L ++ R)) (h : Stp g w D L w' D' L') : Stp g w0 D0 L0 w' D' (L' ++ R) := by
 have hR : ∀ b, b ∈ ids R → b < w.heap.size ∧ b ∉ ids L := by
  intro b hb
  obtain ⟨o, ho⟩ := mem_ids.1 hb
  have := (h0.st.l b o (by simp [ho])).1
  refine ⟨lt_of_heap this, fun hL => ?_⟩
  have hnd := h0.st.nd
  rw [ids_append, List.nodup_append] at hnd
  exact hnd.2.2 b hL b hb rfl
 refine ⟨?_, Nat.le_trans h0.size h.size, h0.dle.trans h.dle, ?_, ?_, ?_⟩
 ·intro b hb hn
  have hL : b ∉ ids L := fun hL => by
   rcases h0.lnew b (by rw [ids_append]; simp [hL]) with h1 | h1
   ·exact hn h1
   ·omega
  rw [h.keep b (Nat.lt_of_lt_of_le hb h0.size) hL, h0.keep b hb hn]
 ·intro b o hb
  rcases h.dnew b o hb with h1 | h1 | h1
  ·exact h0.dnew b o h1
  ·exact .inr (.inl (Nat.le_trans h0.size h1))
  ·rcases h0.lnew b (by rw [ids_append]; simp [h1]) with h2 | h2
   ·exact .inr (.inr h2)
   ·exact .inr (.inl h2)
 ·refine ⟨h.st.os, h.st.tape, h.st.output, h.st.d, ?_, ?_⟩
  ·intro b o hb
   rcases List.mem_append.1 hb with hb | hb
   ·exact h.st.l b o hb
   ·have hm := hR b (mem_ids.2 ⟨o, hb⟩)
    have hh := h0.st.l b o (by simp [hb])
    refine ⟨by rw [h.keep b hm.1 hm.2]; exact hh.1, fun u hD => ?_⟩
    rcases h.dnew b u hD with h1 | h1 | h1
    ·exact hh.2 u h1
    ·omega
    ·exact absurd h1 hm.2
  ·rw [ids_append, List.nodup_append]
   refine ⟨h.st.nd, ?_, ?_⟩
   ·have hnd := h0.st.nd
    rw [ids_append, List.nodup_append] at hnd
    exact hnd.2.1
   ·rintro a ha b hb rfl
    have hm := hR a hb
    rcases h.lnew a ha with h1 | h1
    ·exact hm.2 h1
    ·omega
 ·intro b hb
  rw [ids_append, List.mem_append] at hb
  rcases hb with hb | hb
  ·rcases h.lnew b hb with h1 | h1
   ·exact h0.lnew b (by rw [ids_append]; simp [h1])
   ·exact .inr (Nat.le_trans h0.size h1)
  ·exact h0.lnew b (by rw [ids_append]; simp [hb])
theorem Stp.with_st (h : Stp g w0 D0 L0 w D L) (hs : St g w D L') (hl : ∀ b, b ∈ ids L' → b ∈ ids L) : Stp g w0 D0 L0 w D L' :=
 ⟨h.keep, h.size, h.dle, h.dnew, hs, fun b hb => h.lnew b (hl b hb)⟩
theorem St.perm (h : St g w D L) (hp : L.Perm L') : St g w D L' :=
 ⟨h.os, h.tape, h.output, h.d, fun b o hb => h.l b o (hp.mem_iff.2 hb), (hp.filterMap bid).nodup_iff.1 h.nd⟩
theorem St.tail {x : Blk} (h : St g w D (x :: L)) : St g w D L :=
 ⟨h.os, h.tape, h.output, h.d, fun b o hb => h.l b o (List.mem_cons_of_mem _ hb), by
  have := h.nd
  cases x with
  | none => exact this
  | some p => rw [show ids (some p :: L) = p.1 :: ids L from rfl, List.nodup_cons] at this; exact this.2⟩
theorem Stp.drop {x : Blk} (h : Stp g w0 D0 L0 w D (x :: L)) : Stp g w0 D0 L0 w D L :=
 h.with_st h.st.tail (fun b hb => by cases x <;> simp [ids, bid] at * <;> simp [hb])
theorem idx_inj : ∀ {L : List Blk} {i j b : Nat} {o o' : OB}, (ids L).Nodup → L[i]? = some (some (b, o)) → L[j]? = some (some (b, o')) → i = j := by
 intro L
 induction L with
 | nil => intro i j b o o' _ h; cases h
 | cons x L ih =>
  intro i j b o o' hnd hi hj
  have hnd' : (ids L).Nodup := by
   cases x with
   | none => exact hnd
   | some p => rw [show ids (some p :: L) = p.1 :: ids L from rfl, List.nodup_cons] at hnd; exact hnd.2
  cases i with
  | zero =>
   simp only [List.getElem?_cons_zero, Option.some.injEq] at hi
   subst hi
   cases j with
   | zero => rfl
   | succ j =>
    simp only [List.getElem?_cons_succ] at hj
    rw [ids_cons_some, List.nodup_cons] at hnd
    exact absurd (mem_ids.2 ⟨_, List.mem_of_getElem? hj⟩) hnd.1
  | succ i =>
   simp only [List.getElem?_cons_succ] at hi
   cases j with
   | zero =>
    simp only [List.getElem?_cons_zero, Option.some.injEq] at hj
    subst hj
    rw [ids_cons_some, List.nodup_cons] at hnd
    exact absurd (mem_ids.2 ⟨_, List.mem_of_getElem? hi⟩) hnd.1
   | succ j =>
    simp only [List.getElem?_cons_succ] at hj
    exact congrArg Nat.succ (ih hnd' hi hj)
/-- some of the owned blocks, in another order -/
theorem Stp.sel (is : List Nat) (h : Stp g w0 D0 L0 w D L) (hL : is.map (fun i => L[i]?) = L'.map some) (hnd : is.Nodup) : Stp g w0 D0 L0 w D L' := by
 have hmem : ∀ x, x ∈ L' → x ∈ L := by
  intro x hx
  have : some x ∈ is.map (fun i => L[i]?) := by rw [hL]; exact List.mem_map.2 ⟨x, hx, rfl⟩
  obtain ⟨i, _, hi⟩ := List.mem_map.1 this
  exact List.mem_of_getElem? hi
 have hn : (ids L').Nodup := by
  clear hmem
  induction is generalizing L' with
  | nil =>
   cases L' with
   | nil => exact List.nodup_nil
   | cons x L' => simp at hL
  | cons i is ih =>
   cases L' with
   | nil => simp at hL
   | cons x L' =>
    simp only [List.map_cons, List.cons.injEq] at hL
    rw [List.nodup_cons] at hnd
    have h1 := ih hL.2 hnd.2
    cases x with
    | none => exact h1
    | some p =>
     obtain ⟨b, o⟩ := p
     rw [ids_cons_some, List.nodup_cons]
     refine ⟨fun hm => ?_, h1⟩
     obtain ⟨o', ho'⟩ := mem_ids.1 hm
     have : some (some (b, o')) ∈ is.map (fun i => L[i]?) := by rw [hL.2]; exact List.mem_map.2 ⟨_, ho', rfl⟩
     obtain ⟨j, hj, hje⟩ := List.mem_map.1 this
     have := idx_inj h.st.nd hL.1 hje
     subst this
     exact hnd.1 hj
 exact h.with_st ⟨h.st.os, h.st.tape, h.st.output, h.st.d, fun b o hb => h.st.l b o (hmem _ hb), hn⟩ (fun b hb => by
  obtain ⟨o, ho⟩ := mem_ids.1 hb
  exact mem_ids.2 ⟨o, hmem _ ho⟩)
theorem St.fore {R : List Blk} (h : St g w D (L ++ R)) : St g w D L :=
 ⟨h.os, h.tape, h.output, h.d, fun b u hb => h.l b u (by simp [hb]), by have := h.nd; rw [ids_append, List.nodup_append] at this; exact this.1⟩
theorem Stp.drops (h : Stp g w0 D0 L0 w D (L ++ R)) : Stp g w0 D0 L0 w D R := by
 induction L with
 | nil => exact h
 | cons x L ih => exact ih (Stp.drop h)
theorem Stp.nils (h : Stp g w0 D0 L0 w D L) : Stp g w0 D0 L0 w D (none :: L) :=
 h.with_st ⟨h.st.os, h.st.tape, h.st.output, h.st.d, fun b o hb => h.st.l b o (by simpa using hb), h.st.nd⟩ (fun _ hb => hb)
theorem Stp.lt_d (h : Stp g w0 D0 L0 w D L) {b : Nat} {u : Obj} (hb : D b = some u) : b < w.heap.size := by
 obtain ⟨o', h1, _⟩ := h.st.d b u hb
 exact lt_of_heap h1
theorem Stp.alloc (h : Stp g w0 D0 L0 w D L) (o : Obj) : Stp g w0 D0 L0 (w.alloc o) D (some (w.heap.size, (o, 0)) :: L) := by
 refine ⟨?_, ?_, h.dle, h.dnew, ⟨h.st.os, h.st.tape, h.st.output, ?_, ?_, ?_⟩, ?_⟩
 ·intro b hb hn
  rw [heap_alloc_old _ _ _ (Nat.lt_of_lt_of_le hb h.size)]
  exact h.keep b hb hn
 ·simp; exact Nat.le_trans h.size (Nat.le_succ _)
 ·intro b u hb
  rw [heap_alloc_old _ _ _ (h.lt_d hb)]
  exact h.st.d b u hb
 ·intro b u hb
  rcases List.mem_cons.1 hb with hb | hb
  ·simp only [Option.some.injEq, Prod.mk.injEq] at hb
   obtain ⟨rfl, rfl⟩ := hb
   refine ⟨heap_alloc_new _ _, fun u hD => ?_⟩
   have := h.lt_d hD; omega
  ·have := h.st.l b u hb
   exact ⟨by rw [heap_alloc_old _ _ _ (lt_of_heap this.1)]; exact this.1, this.2⟩
 ·rw [ids_cons_some, List.nodup_cons]
  refine ⟨fun hm => ?_, h.st.nd⟩
  obtain ⟨u, hu⟩ := mem_ids.1 hm
  have := lt_of_heap (h.st.l _ _ hu).1
  omega
 ·intro b hb
  rw [ids_cons_some, List.mem_cons] at hb
  rcases hb with rfl | hb
  ·exact .inr h.size
  ·exact h.lnew b hb
theorem Stp.drew (h : Stp g w0 D0 L0 w D L) : Stp g w0 D0 L0 w.drew D L :=
 ⟨h.keep, h.size, h.dle, h.dnew, ⟨h.st.os, h.st.tape, h.st.output, h.st.d, h.st.l, h.st.nd⟩, h.lnew⟩
/-- the front block holds something else, but for what is lent -/
theorem Stp.put {b : Nat} {o o' : OB} (h : Stp g w0 D0 L0 w D (some (b, o) :: L)) (hpre : ∀ p, oupto o.2 p → opre p o.1 → opre p o'.1 ∧ oupto o'.2 p) (hs : w'.heap.size = w.heap.size) (hos : w'.os = w.os) (ht : w'.tape = w.tape) (hout : w'.output = w.output)
  (hb : w'.heap[b]? = some o'.1) (hk : ∀ k, k ≠ b → w'.heap[k]? = w.heap[k]?) : Stp g w0 D0 L0 w' D (some (b, o') :: L) := by
 have hnd := h.st.nd
 have hb0 := h.st.l b o (by simp)
 have hup : ∀ p, D b = some p → opre p o'.1 ∧ oupto o'.2 p := fun p hp => by
  obtain ⟨o2, h1, h2⟩ := h.st.d b p hp
  rw [hb0.1] at h1
  cases h1
  exact hpre p (hb0.2 p hp) h2
 rw [ids_cons_some, List.nodup_cons] at hnd
 refine ⟨?_, by rw [hs]; exact h.size, h.dle, h.dnew, ⟨hos.trans h.st.os, ht.trans h.st.tape, hout.trans h.st.output, ?_, ?_, by rw [ids_cons_some, List.nodup_cons]; exact hnd⟩, h.lnew⟩
 ·intro k hk1 hk2
  have hne : k ≠ b := fun e => by
   subst e
   rcases h.lnew k (by rw [ids_cons_some]; simp) with h1 | h1
   ·exact hk2 h1
   ·omega
  rw [hk k hne]
  exact h.keep k hk1 hk2
 ·intro k u hu
  by_cases hne : k = b
  ·subst hne; exact ⟨_, hb, (hup u hu).1⟩
  ·rw [hk k hne]
   exact h.st.d k u hu
 ·intro k u hu
  rcases List.mem_cons.1 hu with hu | hu
  ·simp only [Option.some.injEq, Prod.mk.injEq] at hu
   obtain ⟨hk', rfl⟩ := hu
   subst hk'
   exact ⟨hb, fun p hp => (hup p hp).2⟩
  ·have hu' := hu
   have hne : k ≠ b := fun e => by subst e; exact hnd.1 (mem_ids.2 ⟨u, hu'⟩)
   have := h.st.l k u (List.mem_cons_of_mem _ hu')
   exact ⟨by rw [hk k hne]; exact this.1, this.2⟩
theorem opre_zero {C C' : Array Value} {T T' : TypeId} {fr fr' : Nat × Nat} {n : Nat} : ∀ p, oupto 0 p → opre p (.cells C T fr) → opre p (.cells C' T' fr') ∧ oupto n p := by
 rintro p ⟨C0, T0, fr0, rfl, h0⟩ _
 refine ⟨⟨_, _, _, rfl, fun i u hu => ?_⟩, _, _, _, rfl, by omega⟩
 have := (Array.getElem?_eq_some_iff.1 hu).1
 omega
/-- .. a block of cells of which nothing is lent -/
theorem Stp.put0 {b : Nat} {C C' : Array Value} {T T' : TypeId} {fr fr' : Nat × Nat} (h : Stp g w0 D0 L0 w D (some (b, (.cells C T fr, 0)) :: L)) (hs : w'.heap.size = w.heap.size) (hos : w'.os = w.os) (ht : w'.tape = w.tape) (hout : w'.output = w.output)
  (hb : w'.heap[b]? = some (.cells C' T' fr')) (hk : ∀ k, k ≠ b → w'.heap[k]? = w.heap[k]?) : Stp g w0 D0 L0 w' D (some (b, (.cells C' T' fr', 0)) :: L) :=
 h.put (o' := (.cells C' T' fr', 0)) opre_zero hs hos ht hout hb hk
/-- more of the front block is lent -/
theorem Stp.lend {b n : Nat} {C : Array Value} {T : TypeId} {fr : Nat × Nat} (k : Nat) (hk : n ≤ k) (h : Stp g w0 D0 L0 w D (some (b, (.cells C T fr, n)) :: L)) :
  D.le (D.ins b (.cells (C.toList.take k).toArray T fr)) ∧ Stp g w0 D0 L0 w (D.ins b (.cells (C.toList.take k).toArray T fr)) (some (b, (.cells C T fr, k)) :: L) := by
 have hb := h.st.l b _ (List.mem_cons_self)
 have hpre : opre (.cells (C.toList.take k).toArray T fr) (.cells C T fr) := ⟨_, _, _, rfl, fun i u hu => by
  simp only [List.getElem?_toArray, List.getElem?_take] at hu
  split at hu
  ·simpa using hu
  ·cases hu⟩
 have hle : D.le (D.ins b (.cells (C.toList.take k).toArray T fr)) := Snap.le_ins fun p hp => by
  obtain ⟨C0, T0, fr0, rfl, h0⟩ := hb.2 p hp
  obtain ⟨o2, h1, h2⟩ := h.st.d b _ hp
  rw [hb.1] at h1
  cases h1
  obtain ⟨C', T', fr', e, h3⟩ := opre_cells h2
  cases e
  refine ⟨_, _, _, rfl, fun i u hu => ?_⟩
  have hi := (Array.getElem?_eq_some_iff.1 hu).1
  have := h3 i u hu
  have hik : i < k := by have h0' : C0.size ≤ n := h0
                         omega
  simp only [List.getElem?_toArray, List.getElem?_take, hik, if_true]
  simpa using this
 have hnd := h.st.nd
 have hnd' := hnd
 rw [ids_cons_some, List.nodup_cons] at hnd'
 refine ⟨hle, ⟨h.keep, h.size, h.dle.trans hle, ?_, ⟨h.st.os, h.st.tape, h.st.output, ?_, ?_, hnd⟩, h.lnew⟩⟩
 ·intro x u hu
  unfold Snap.ins at hu
  split at hu
  ·subst x
   rcases h.lnew b (by rw [ids_cons_some]; simp) with h1 | h1
   ·exact .inr (.inr h1)
   ·exact .inr (.inl h1)
  ·exact h.dnew x u hu
 ·intro x u hu
  unfold Snap.ins at hu
  split at hu
  ·subst x
   simp only [Option.some.injEq] at hu
   subst hu
   exact ⟨_, hb.1, hpre⟩
  ·exact h.st.d x u hu
 ·intro x u hu
  rcases List.mem_cons.1 hu with hu | hu
  ·simp only [Option.some.injEq, Prod.mk.injEq] at hu
   obtain ⟨rfl, rfl⟩ := hu
   refine ⟨hb.1, fun p hp => ?_⟩
   simp only [Snap.ins, if_true, Option.some.injEq] at hp
   subst hp
   exact ⟨_, _, _, rfl, by simp; omega⟩
  ·have hu' := hu
   have := h.st.l x u (List.mem_cons_of_mem _ hu)
   refine ⟨this.1, fun p hp => ?_⟩
   have hne : x ≠ b := fun e => by subst e; exact hnd'.1 (mem_ids.2 ⟨u, hu'⟩)
   unfold Snap.ins at hp
   rw [if_neg hne] at hp
   exact this.2 p hp
/-- the front block goes over to what no one writes -/
theorem Stp.freeze {b n : Nat} {C : Array Value} {T : TypeId} {fr : Nat × Nat} (hn : n ≤ C.size) (h : Stp g w0 D0 L0 w D (some (b, (.cells C T fr, n)) :: L)) : D.le (D.ins b (.cells C T fr)) ∧ Stp g w0 D0 L0 w (D.ins b (.cells C T fr)) L := by
 have := h.lend C.size hn
 have e : (C.toList.take C.size).toArray = C := by rw [List.take_of_length_le (by simp)]
 rw [e] at this
 exact ⟨this.1, this.2.drop⟩
theorem Stp.freezeB {b : Nat} {T : TypeId} {cs : List Value} (h : Stp g w0 D0 L0 w D (bx b T cs :: L)) : ∃ D', D.le D' ∧ D' b = some (.cells cs.toArray T (0, 0)) ∧ Stp g w0 D0 L0 w D' L :=
 ⟨_, (h.freeze (Nat.zero_le _)).1, by simp [Snap.ins], (h.freeze (Nat.zero_le _)).2⟩
/-- what is known of cells is so -/
def Sees (D : Snap) (w : World) : Prop := ∀ b C T fr, D b = some (.cells C T fr) → ∀ (i : Nat) u, C[i]? = some u → ∃ C' T' fr', w.heap[b]? = some (.cells C' T' fr') ∧ ∀ (i : Nat) u, C[i]? = some u → C'[i]? = some u
theorem St.sees (h : St g w D L) : Sees D w := fun b C T fr hb _ _ _ => by
 obtain ⟨o', h1, h2⟩ := h.d _ _ hb
 obtain ⟨C', T', fr', rfl, h3⟩ := opre_cells h2
 exact ⟨C', T', fr', h1, h3⟩
theorem Stp.heap0 {b : Nat} {o : OB} (h : Stp g w0 D0 L0 w D (some (b, o) :: L)) : w.heap[b]? = some o.1 := (h.st.l b o (by simp)).1
theorem Stp.heapAt {j b : Nat} {o : OB} (h : Stp g w0 D0 L0 w D L) (hj : L[j]? = some (some (b, o))) : w.heap[b]? = some o.1 := (h.st.l b o (List.mem_of_getElem? hj)).1
end
/-! ### data -/
/-- these cells lie at an address, in blocks that no one writes -/
def CellsAt (D : Snap) (A : Option Addr) (cs : List Value) : Prop :=
 cs = [] ∨ ∃ b off c T fr, A = some ⟨b, off, none⟩ ∧ D b = some (.cells c T fr) ∧ ∀ j u, cs[j]? = some u → c[off + j]? = some u
theorem CellsAt.mono {D D' : Snap} {A : Option Addr} {cs : List Value} (h : CellsAt D A cs) (hd : D.le D') : CellsAt D' A cs := by
 rcases h with h | ⟨b, off, c, T, fr, h1, h2, h3⟩
 ·exact .inl h
 ·obtain ⟨o', h4, h5⟩ := hd _ _ h2
  obtain ⟨C', T', fr', rfl, h6⟩ := opre_cells h5
  exact .inr ⟨b, off, C', T', fr', h1, h4, fun j u hu => h6 _ _ (h3 j u hu)⟩
/-- a kind of data: how many cells one has, which they are -/
structure Kd (α : Type) where
 n : Nat
 r : Snap → α → List Value → Prop
 len : ∀ D x cs, r D x cs → cs.length = n
 one : ∀ D x cs, r D x cs → ∀ u ∈ cs, u.oneCell' = true
 mono : ∀ D D' x cs, D.le D' → r D x cs → r D' x cs
def RL {α : Type} (K : Kd α) (D : Snap) : List α → List Value → Prop
 | [], cs => cs = []
 | x :: l, cs => ∃ c1 c2, cs = c1 ++ c2 ∧ K.r D x c1 ∧ RL K D l c2
section
variable {α : Type} {K : Kd α} {D D' : Snap}
theorem RL.len : ∀ {l : List α} {cs : List Value}, RL K D l cs → cs.length = l.length * K.n := by
 intro l
 induction l with
 | nil => intro cs h; simp only [RL] at h; subst h; simp
 | cons x l ih =>
  intro cs h
  obtain ⟨c1, c2, rfl, h1, h2⟩ := h
  simp [K.len _ _ _ h1, ih h2, Nat.succ_mul, Nat.add_comm]
theorem RL.one : ∀ {l : List α} {cs : List Value}, RL K D l cs → ∀ u ∈ cs, u.oneCell' = true := by
 intro l
 induction l with
 | nil => intro cs h; simp only [RL] at h; subst h; simp
 | cons x l ih =>
  intro cs h
  obtain ⟨c1, c2, rfl, h1, h2⟩ := h
  intro u hu
  rcases List.mem_append.1 hu with hu | hu
  ·exact K.one _ _ _ h1 u hu
  ·exact ih h2 u hu
theorem RL.mono (hd : D.le D') : ∀ {l : List α} {cs : List Value}, RL K D l cs → RL K D' l cs := by
 intro l
 induction l with
 | nil => intro cs h; exact h
 | cons x l ih =>
  intro cs h
  obtain ⟨c1, c2, rfl, h1, h2⟩ := h
  exact ⟨c1, c2, rfl, K.mono _ _ _ _ hd h1, ih h2⟩
theorem RL.append : ∀ {l m : List α} {cs ds : List Value}, RL K D l cs → RL K D m ds → RL K D (l ++ m) (cs ++ ds) := by
 intro l
 induction l with
 | nil => intro m cs ds h h'; simp only [RL] at h; subst h; exact h'
 | cons x l ih =>
  intro m cs ds h h'
  obtain ⟨c1, c2, rfl, h1, h2⟩ := h
  exact ⟨c1, c2 ++ ds, by simp, h1, ih h2 h'⟩
theorem RL.split : ∀ {l m : List α} {cs : List Value}, RL K D (l ++ m) cs → ∃ c1 c2, cs = c1 ++ c2 ∧ RL K D l c1 ∧ RL K D m c2 := by
 intro l
 induction l with
 | nil => intro m cs h; exact ⟨[], cs, rfl, rfl, h⟩
 | cons x l ih =>
  intro m cs h
  obtain ⟨c1, c2, rfl, h1, h2⟩ := h
  obtain ⟨d1, d2, rfl, h3, h4⟩ := ih h2
  exact ⟨c1 ++ d1, d2, by simp, ⟨c1, d1, rfl, h1, h3⟩, h4⟩
end
/-- a slice that no one writes -/
def Sl {α : Type} (K : Kd α) (D : Snap) (A : Option Addr) (cap : Nat) (l : List α) : Prop :=
 l.length ≤ cap ∧ cap ≤ maxLen ∧ ∃ cs, RL K D l cs ∧ CellsAt D A cs
theorem Sl.mono {α : Type} {K : Kd α} {D D' : Snap} {A : Option Addr} {cap : Nat} {l : List α} (h : Sl K D A cap l) (hd : D.le D') : Sl K D' A cap l :=
 ⟨h.1, h.2.1, h.2.2.elim fun cs hc => ⟨cs, hc.1.mono hd, hc.2.mono hd⟩⟩
theorem Sl.nil {α : Type} (K : Kd α) (D : Snap) : Sl K D none 0 [] := ⟨by simp, by simp, [], rfl, .inl rfl⟩
/-- a slice that is owned: nil, or the head of a block of which nothing is lent (f); else, too: a slice that is full, or a block of whose first cells some are lent -/
def OwnB (f : Bool) (T : TypeId) (sz : Nat) (D : Snap) (A : Option Addr) (n cap : Nat) (cs : List Value) : Blk → Prop
 | none => cap = n ∧ n ≤ maxLen ∧ CellsAt D A cs ∧ cs.length = n * sz ∧ (f = true → A = none ∧ n = 0)
 | some (b, o) => A = some ⟨b, 0, none⟩ ∧ n ≤ cap ∧ cap ≤ maxLen ∧ cs.length = n * sz ∧ ∃ (c : Array Value) (k : Nat), o = (.cells c T (0, 0), k) ∧ k ≤ n * sz ∧ (f = true → k = 0) ∧ c.size = cap * sz ∧ c.toList.take (n * sz) = cs
def OwnX (f : Bool) {α : Type} (K : Kd α) (T : TypeId) (D : Snap) (A : Option Addr) (cap : Nat) (l : List α) (q : Blk) : Prop :=
 ∃ cs, OwnB f T K.n D A l.length cap cs q ∧ RL K D l cs
/-- nothing is lent -/
abbrev OwnD {α : Type} (K : Kd α) (T : TypeId) (D : Snap) (A : Option Addr) (cap : Nat) (l : List α) (q : Blk) : Prop := OwnX true K T D A cap l q
/-- some may be lent -/
abbrev OwnL {α : Type} (K : Kd α) (T : TypeId) (D : Snap) (A : Option Addr) (cap : Nat) (l : List α) (q : Blk) : Prop := OwnX false K T D A cap l q
theorem OwnX.mono {f : Bool} {α : Type} {K : Kd α} {T : TypeId} {D D' : Snap} {A : Option Addr} {cap : Nat} {l : List α} {q : Blk} (h : OwnX f K T D A cap l q) (hd : D.le D') : OwnX f K T D' A cap l q := by
 obtain ⟨cs, h1, h2⟩ := h
 refine ⟨cs, ?_, h2.mono hd⟩
 cases q with
 | none => exact ⟨h1.1, h1.2.1, h1.2.2.1.mono hd, h1.2.2.2⟩
 | some p => exact h1
theorem OwnX.weak {f : Bool} {α : Type} {K : Kd α} {T : TypeId} {D : Snap} {A : Option Addr} {cap : Nat} {l : List α} {q : Blk} (h : OwnX f K T D A cap l q) : OwnL K T D A cap l q := by
 obtain ⟨cs, h1, h2⟩ := h
 refine ⟨cs, ?_, h2⟩
 cases q with
 | none => exact ⟨h1.1, h1.2.1, h1.2.2.1, h1.2.2.2.1, fun e => by cases e⟩
 | some p =>
  obtain ⟨b, o⟩ := p
  obtain ⟨e1, e2, e3, e4, c, k, e5, e6, _, e8⟩ := h1
  exact ⟨e1, e2, e3, e4, c, k, e5, e6, (fun e => by cases e), e8⟩
theorem OwnX.lc {f : Bool} {α : Type} {K : Kd α} {T : TypeId} {D : Snap} {A : Option Addr} {cap : Nat} {l : List α} {q : Blk} (h : OwnX f K T D A cap l q) : l.length ≤ cap ∧ cap ≤ maxLen := by
 obtain ⟨cs, h1, _⟩ := h
 cases q with
 | none => obtain ⟨e1, e2, _⟩ := h1; omega
 | some p => exact ⟨h1.2.1, h1.2.2.1⟩
theorem OwnD.nil {f : Bool} {α : Type} (K : Kd α) (T : TypeId) (D : Snap) : OwnX f K T D none 0 ([] : List α) none := ⟨[], ⟨rfl, by simp, .inl rfl, by simp, fun _ => ⟨rfl, rfl⟩⟩, rfl⟩
/-- what is owned is lent: others may read it, and keep it -/
theorem Stp.lent {f : Bool} {α : Type} {K : Kd α} {T : TypeId} {A : Option Addr} {cap : Nat} {l : List α} {q : Blk} {g w w0 : World} {D D0 : Snap} {L L0 : List Blk}
  (hS : Stp g w0 D0 L0 w D (q :: L)) (h : OwnX f K T D A cap l q) : ∃ D' q', D.le D' ∧ Stp g w0 D0 L0 w D' (q' :: L) ∧ OwnL K T D' A cap l q' ∧ Sl K D' A cap l := by
 have hlc := h.lc
 have hw := h.weak
 obtain ⟨cs, h, hr⟩ := h
 cases q with
 | none => exact ⟨D, none, Snap.le.refl D, hS, hw, hlc.1, hlc.2, cs, hr, h.2.2.1⟩
 | some p =>
  obtain ⟨b, o⟩ := p
  obtain ⟨rfl, h1, h2, h3, c, k, rfl, h4, _, h5, h6⟩ := h
  obtain ⟨hle, hS'⟩ := hS.lend (l.length * K.n) h4
  refine ⟨_, _, hle, hS', ⟨cs, ⟨rfl, h1, h2, h3, c, _, rfl, Nat.le_refl _, (fun e => by cases e), h5, h6⟩, hr.mono hle⟩, h1, h2, cs, hr.mono hle, .inr ⟨b, 0, (c.toList.take (l.length * K.n)).toArray, T, (0, 0), rfl, by simp [Snap.ins], ?_⟩⟩
  intro j u hu
  rw [h6, Nat.zero_add]
  simpa using hu
end Go.Sep
