/-
  Memory: a snapshot D of blocks that no one writes any more, a list L of blocks that are owned; data in them.
-/
import Derived.Test.YtmjkjgidcmalhaaSepA
import Derived.Laws.AppendOwn
import Derived.Laws.Tables
namespace Go.Sep

abbrev Snap := Nat → Option Obj
def Snap.le (D D' : Snap) : Prop := ∀ b o, D b = some o → D' b = some o
theorem Snap.le.refl (D : Snap) : D.le D := fun _ _ h => h
theorem Snap.le.trans {D D' D'' : Snap} (h : D.le D') (h' : D'.le D'') : D.le D'' := fun b o e => h' b o (h b o e)
def Snap.ins (D : Snap) (b : Nat) (o : Obj) : Snap := fun x => if x = b then some o else D x
theorem Snap.le_ins {D : Snap} {b : Nat} {o : Obj} (h : D b = none) : D.le (D.ins b o) := fun x u e => by
  unfold Snap.ins
  split
  · subst x; rw [h] at e; cases e
  · exact e

abbrev Blk := Option (Nat × Obj)
def bid (q : Blk) : Option Nat := q.map (·.1)
def ids (L : List Blk) : List Nat := L.filterMap bid
/-- an owned block of cells -/
abbrev bx (b : Nat) (T : TypeId) (cs : List Value) : Blk := some (b, .cells cs.toArray T (0, 0))

structure St (g w : World) (D : Snap) (L : List Blk) : Prop where
  os : w.os = g.os
  tape : w.tape = g.tape
  output : w.output = g.output
  d : ∀ b o, D b = some o → w.heap[b]? = some o
  l : ∀ b o, some (b, o) ∈ L → w.heap[b]? = some o ∧ D b = none
  nd : (ids L).Nodup

theorem mem_ids {L : List Blk} {b : Nat} : b ∈ ids L ↔ ∃ o, some (b, o) ∈ L := by
  simp only [ids, List.mem_filterMap, bid, Option.map_eq_some_iff]
  constructor
  · rintro ⟨q, hq, ⟨x, o⟩, rfl, rfl⟩; exact ⟨o, hq⟩
  · rintro ⟨o, h⟩; exact ⟨_, h, (b, o), rfl, rfl⟩

theorem ids_append (L R : List Blk) : ids (L ++ R) = ids L ++ ids R := by simp [ids]
theorem ids_cons_some (b : Nat) (o : Obj) (L : List Blk) : ids (some (b, o) :: L) = b :: ids L := rfl
theorem ids_cons_none (L : List Blk) : ids (none :: L) = ids L := rfl

theorem lt_of_heap {w : World} {b : Nat} {o : Obj} (h : w.heap[b]? = some o) : b < w.heap.size := (Array.getElem?_eq_some_iff.1 h).1

/-- what a stretch of a run has done: from w, D and the owned blocks L on -/
structure Stp (g w : World) (D : Snap) (L : List Blk) (w' : World) (D' : Snap) (L' : List Blk) : Prop where
  keep : ∀ b, b < w.heap.size → b ∉ ids L → w'.heap[b]? = w.heap[b]?
  size : w.heap.size ≤ w'.heap.size
  dle : D.le D'
  dnew : ∀ b o, D' b = some o → D b = some o ∨ w.heap.size ≤ b ∨ b ∈ ids L
  st : St g w' D' L'
  lnew : ∀ b, b ∈ ids L' → b ∈ ids L ∨ w.heap.size ≤ b

theorem Stp.keeps {g w w' : World} {D D' : Snap} {L L' : List Blk} (h : Stp g w D L w' D' L') : Keeps (ids L) w w' := ⟨h.size, h.keep⟩

section
variable {g w w' w0 : World} {D D' D0 : Snap} {L L' L0 R : List Blk}

theorem Stp.refl (h : St g w D L) : Stp g w D L w D L :=
  ⟨fun _ _ _ => rfl, Nat.le_refl _, Snap.le.refl D, fun _ _ h => .inl h, h, fun _ h => .inl h⟩

/-- a call in a frame -/
theorem Stp.call (h0 : Stp g w0 D0 L0 w D (L ++ R)) (h : Stp g w D L w' D' L') : Stp g w0 D0 L0 w' D' (L' ++ R) := by
  have hR : ∀ b, b ∈ ids R → b < w.heap.size ∧ b ∉ ids L := by
    intro b hb
    obtain ⟨o, ho⟩ := mem_ids.1 hb
    have := (h0.st.l b o (by simp [ho])).1
    refine ⟨lt_of_heap this, fun hL => ?_⟩
    have hnd := h0.st.nd
    rw [ids_append, List.nodup_append] at hnd
    exact hnd.2.2 b hL b hb rfl
  refine ⟨?_, Nat.le_trans h0.size h.size, h0.dle.trans h.dle, ?_, ?_, ?_⟩
  · intro b hb hn
    have hL : b ∉ ids L := fun hL => by
      rcases h0.lnew b (by rw [ids_append]; simp [hL]) with h1 | h1
      · exact hn h1
      · omega
    rw [h.keep b (Nat.lt_of_lt_of_le hb h0.size) hL, h0.keep b hb hn]
  · intro b o hb
    rcases h.dnew b o hb with h1 | h1 | h1
    · exact h0.dnew b o h1
    · exact .inr (.inl (Nat.le_trans h0.size h1))
    · rcases h0.lnew b (by rw [ids_append]; simp [h1]) with h2 | h2
      · exact .inr (.inr h2)
      · exact .inr (.inl h2)
  · refine ⟨h.st.os, h.st.tape, h.st.output, h.st.d, ?_, ?_⟩
    · intro b o hb
      rcases List.mem_append.1 hb with hb | hb
      · exact h.st.l b o hb
      · have hm := hR b (mem_ids.2 ⟨o, hb⟩)
        have hh := h0.st.l b o (by simp [hb])
        refine ⟨by rw [h.keep b hm.1 hm.2]; exact hh.1, ?_⟩
        cases hD : D' b with
        | none => rfl
        | some u =>
          rcases h.dnew b u hD with h1 | h1 | h1
          · rw [hh.2] at h1; cases h1
          · omega
          · exact absurd h1 hm.2
    · rw [ids_append, List.nodup_append]
      refine ⟨h.st.nd, ?_, ?_⟩
      · have hnd := h0.st.nd
        rw [ids_append, List.nodup_append] at hnd
        exact hnd.2.1
      · rintro a ha b hb rfl
        have hm := hR a hb
        rcases h.lnew a ha with h1 | h1
        · exact hm.2 h1
        · omega
  · intro b hb
    rw [ids_append, List.mem_append] at hb
    rcases hb with hb | hb
    · rcases h.lnew b hb with h1 | h1
      · exact h0.lnew b (by rw [ids_append]; simp [h1])
      · exact .inr (Nat.le_trans h0.size h1)
    · exact h0.lnew b (by rw [ids_append]; simp [hb])

theorem Stp.with_st (h : Stp g w0 D0 L0 w D L) (hs : St g w D L') (hl : ∀ b, b ∈ ids L' → b ∈ ids L) : Stp g w0 D0 L0 w D L' :=
  ⟨h.keep, h.size, h.dle, h.dnew, hs, fun b hb => h.lnew b (hl b hb)⟩

theorem St.perm (h : St g w D L) (hp : L.Perm L') : St g w D L' :=
  ⟨h.os, h.tape, h.output, h.d, fun b o hb => h.l b o (hp.mem_iff.2 hb), (hp.filterMap bid).nodup_iff.1 h.nd⟩

theorem perm_pick {α : Type} {x : α} : ∀ (i : Nat) (L : List α), L[i]? = some x → L.Perm (x :: L.eraseIdx i) := by
  intro i
  induction i with
  | zero => intro L h; cases L with
    | nil => cases h
    | cons y L => simp only [List.getElem?_cons_zero, Option.some.injEq] at h; subst h; exact .refl _
  | succ i ih => intro L h; cases L with
    | nil => cases h
    | cons y L =>
      simp only [List.getElem?_cons_succ] at h
      exact ((ih L h).cons y).trans (.swap x y _)

/-- the i-th owned block to the front -/
theorem Stp.pick (i : Nat) {x : Blk} (h : Stp g w0 D0 L0 w D L) (hx : L[i]? = some x) (he : L.eraseIdx i = L') : Stp g w0 D0 L0 w D (x :: L') := by
  subst he
  have hp := perm_pick i L hx
  exact h.with_st (h.st.perm hp) (fun b hb => (hp.filterMap bid).mem_iff.2 hb)

theorem St.tail {x : Blk} (h : St g w D (x :: L)) : St g w D L :=
  ⟨h.os, h.tape, h.output, h.d, fun b o hb => h.l b o (List.mem_cons_of_mem _ hb), by
    have := h.nd
    cases x with
    | none => exact this
    | some p => rw [show ids (some p :: L) = p.1 :: ids L from rfl, List.nodup_cons] at this; exact this.2⟩

theorem Stp.drop {x : Blk} (h : Stp g w0 D0 L0 w D (x :: L)) : Stp g w0 D0 L0 w D L :=
  h.with_st h.st.tail (fun b hb => by cases x <;> simp [ids, bid] at * <;> simp [hb])

theorem idx_inj : ∀ {L : List Blk} {i j b : Nat} {o o' : Obj}, (ids L).Nodup → L[i]? = some (some (b, o)) → L[j]? = some (some (b, o')) → i = j := by
  intro L
  induction L with
  | nil => intro i j b o o' _ h; cases h
  | cons x L ih =>
    intro i j b o o' hnd hi hj
    have hnd' : (ids L).Nodup := by
      cases x with
      | none => exact hnd
      | some p => rw [show ids (some p :: L) = p.1 :: ids L from rfl, List.nodup_cons] at hnd; exact hnd.2
    cases i with
    | zero =>
      simp only [List.getElem?_cons_zero, Option.some.injEq] at hi
      subst hi
      cases j with
      | zero => rfl
      | succ j =>
        simp only [List.getElem?_cons_succ] at hj
        rw [ids_cons_some, List.nodup_cons] at hnd
        exact absurd (mem_ids.2 ⟨_, List.mem_of_getElem? hj⟩) hnd.1
    | succ i =>
      simp only [List.getElem?_cons_succ] at hi
      cases j with
      | zero =>
        simp only [List.getElem?_cons_zero, Option.some.injEq] at hj
        subst hj
        rw [ids_cons_some, List.nodup_cons] at hnd
        exact absurd (mem_ids.2 ⟨_, List.mem_of_getElem? hi⟩) hnd.1
      | succ j =>
        simp only [List.getElem?_cons_succ] at hj
        exact congrArg Nat.succ (ih hnd' hi hj)

theorem Stp.ne {i j b b' : Nat} {o o' : Obj} (h : Stp g w0 D0 L0 w D L) (hij : i ≠ j) (hi : L[i]? = some (some (b, o))) (hj : L[j]? = some (some (b', o'))) : b ≠ b' := fun e => by
  subst e
  exact hij (idx_inj h.st.nd hi hj)

/-- some of the owned blocks, in another order -/
theorem Stp.sel (is : List Nat) (h : Stp g w0 D0 L0 w D L) (hL : is.map (fun i => L[i]?) = L'.map some) (hnd : is.Nodup) : Stp g w0 D0 L0 w D L' := by
  have hmem : ∀ x, x ∈ L' → x ∈ L := by
    intro x hx
    have : some x ∈ is.map (fun i => L[i]?) := by rw [hL]; exact List.mem_map.2 ⟨x, hx, rfl⟩
    obtain ⟨i, _, hi⟩ := List.mem_map.1 this
    exact List.mem_of_getElem? hi
  have hn : (ids L').Nodup := by
    clear hmem
    induction is generalizing L' with
    | nil =>
      cases L' with
      | nil => exact List.nodup_nil
      | cons x L' => simp at hL
    | cons i is ih =>
      cases L' with
      | nil => simp at hL
      | cons x L' =>
        simp only [List.map_cons, List.cons.injEq] at hL
        rw [List.nodup_cons] at hnd
        have h1 := ih hL.2 hnd.2
        cases x with
        | none => exact h1
        | some p =>
          obtain ⟨b, o⟩ := p
          rw [ids_cons_some, List.nodup_cons]
          refine ⟨fun hm => ?_, h1⟩
          obtain ⟨o', ho'⟩ := mem_ids.1 hm
          have : some (some (b, o')) ∈ is.map (fun i => L[i]?) := by rw [hL.2]; exact List.mem_map.2 ⟨_, ho', rfl⟩
          obtain ⟨j, hj, hje⟩ := List.mem_map.1 this
          have := idx_inj h.st.nd hL.1 hje
          subst this
          exact hnd.1 hj
  exact h.with_st ⟨h.st.os, h.st.tape, h.st.output, h.st.d, fun b o hb => h.st.l b o (hmem _ hb), hn⟩ (fun b hb => by
    obtain ⟨o, ho⟩ := mem_ids.1 hb
    exact mem_ids.2 ⟨o, hmem _ ho⟩)

theorem St.fore {R : List Blk} (h : St g w D (L ++ R)) : St g w D L :=
  ⟨h.os, h.tape, h.output, h.d, fun b u hb => h.l b u (by simp [hb]), by have := h.nd; rw [ids_append, List.nodup_append] at this; exact this.1⟩

theorem Stp.drops (h : Stp g w0 D0 L0 w D (L ++ R)) : Stp g w0 D0 L0 w D R := by
  induction L with
  | nil => exact h
  | cons x L ih => exact ih (Stp.drop h)

theorem Stp.nils (h : Stp g w0 D0 L0 w D L) : Stp g w0 D0 L0 w D (none :: L) :=
  h.with_st ⟨h.st.os, h.st.tape, h.st.output, h.st.d, fun b o hb => h.st.l b o (by simpa using hb), h.st.nd⟩ (fun _ hb => hb)

theorem Stp.alloc (h : Stp g w0 D0 L0 w D L) (o : Obj) : Stp g w0 D0 L0 (w.alloc o) D (some (w.heap.size, o) :: L) := by
  refine ⟨?_, ?_, h.dle, h.dnew, ⟨h.st.os, h.st.tape, h.st.output, ?_, ?_, ?_⟩, ?_⟩
  · intro b hb hn
    rw [heap_alloc_old _ _ _ (Nat.lt_of_lt_of_le hb h.size)]
    exact h.keep b hb hn
  · simp; exact Nat.le_trans h.size (Nat.le_succ _)
  · intro b u hb
    have := h.st.d b u hb
    rw [heap_alloc_old _ _ _ (lt_of_heap this)]
    exact this
  · intro b u hb
    rcases List.mem_cons.1 hb with hb | hb
    · simp only [Option.some.injEq, Prod.mk.injEq] at hb
      obtain ⟨rfl, rfl⟩ := hb
      refine ⟨heap_alloc_new _ _, ?_⟩
      cases hD : D w.heap.size with
      | none => rfl
      | some u => have := lt_of_heap (h.st.d _ _ hD); omega
    · have := h.st.l b u hb
      exact ⟨by rw [heap_alloc_old _ _ _ (lt_of_heap this.1)]; exact this.1, this.2⟩
  · rw [ids_cons_some, List.nodup_cons]
    refine ⟨fun hm => ?_, h.st.nd⟩
    obtain ⟨u, hu⟩ := mem_ids.1 hm
    have := lt_of_heap (h.st.l _ _ hu).1
    omega
  · intro b hb
    rw [ids_cons_some, List.mem_cons] at hb
    rcases hb with rfl | hb
    · exact .inr h.size
    · exact h.lnew b hb

theorem Stp.drew (h : Stp g w0 D0 L0 w D L) : Stp g w0 D0 L0 w.drew D L :=
  ⟨h.keep, h.size, h.dle, h.dnew, ⟨h.st.os, h.st.tape, h.st.output, h.st.d, h.st.l, h.st.nd⟩, h.lnew⟩

/-- the front block holds something else -/
theorem Stp.put {b : Nat} {o o' : Obj} (h : Stp g w0 D0 L0 w D (some (b, o) :: L)) (hs : w'.heap.size = w.heap.size) (hos : w'.os = w.os) (ht : w'.tape = w.tape) (hout : w'.output = w.output)
    (hb : w'.heap[b]? = some o') (hk : ∀ k, k ≠ b → w'.heap[k]? = w.heap[k]?) : Stp g w0 D0 L0 w' D (some (b, o') :: L) := by
  have hnd := h.st.nd
  rw [ids_cons_some, List.nodup_cons] at hnd
  refine ⟨?_, by rw [hs]; exact h.size, h.dle, h.dnew, ⟨hos.trans h.st.os, ht.trans h.st.tape, hout.trans h.st.output, ?_, ?_, by rw [ids_cons_some, List.nodup_cons]; exact hnd⟩, h.lnew⟩
  · intro k hk1 hk2
    have hne : k ≠ b := fun e => by
      subst e
      rcases h.lnew k (by rw [ids_cons_some]; simp) with h1 | h1
      · exact hk2 h1
      · omega
    rw [hk k hne]
    exact h.keep k hk1 hk2
  · intro k u hu
    have hne : k ≠ b := fun e => by
      subst e
      have := (h.st.l k o (by simp)).2
      rw [this] at hu; cases hu
    rw [hk k hne]
    exact h.st.d k u hu
  · intro k u hu
    rcases List.mem_cons.1 hu with hu | hu
    · simp only [Option.some.injEq, Prod.mk.injEq] at hu
      obtain ⟨hk', rfl⟩ := hu
      subst hk'
      exact ⟨hb, (h.st.l k o (by simp)).2⟩
    · have hu' := hu
      have hne : k ≠ b := fun e => by subst e; exact hnd.1 (mem_ids.2 ⟨u, hu'⟩)
      have := h.st.l k u (List.mem_cons_of_mem _ hu')
      exact ⟨by rw [hk k hne]; exact this.1, this.2⟩

/-- the front block goes over to what no one writes -/
theorem Stp.freeze {b : Nat} {o : Obj} (h : Stp g w0 D0 L0 w D (some (b, o) :: L)) : D.le (D.ins b o) ∧ Stp g w0 D0 L0 w (D.ins b o) L := by
  have hb := h.st.l b o (by simp)
  have hle : D.le (D.ins b o) := Snap.le_ins hb.2
  have hnd := h.st.nd
  rw [ids_cons_some, List.nodup_cons] at hnd
  refine ⟨hle, ⟨h.keep, h.size, h.dle.trans hle, ?_, ⟨h.st.os, h.st.tape, h.st.output, ?_, ?_, hnd.2⟩, fun k hk => h.lnew k (by rw [ids_cons_some]; simp [hk])⟩⟩
  · intro k u hu
    unfold Snap.ins at hu
    split at hu
    · subst k
      rcases h.lnew b (by rw [ids_cons_some]; simp) with h1 | h1
      · exact .inr (.inr h1)
      · exact .inr (.inl h1)
    · exact h.dnew k u hu
  · intro k u hu
    unfold Snap.ins at hu
    split at hu
    · subst k
      simp only [Option.some.injEq] at hu
      subst hu
      exact hb.1
    · exact h.st.d k u hu
  · intro k u hu
    have := h.st.l k u (List.mem_cons_of_mem _ hu)
    refine ⟨this.1, ?_⟩
    have hne : k ≠ b := fun e => by subst e; exact hnd.1 (mem_ids.2 ⟨u, hu⟩)
    unfold Snap.ins
    rw [if_neg hne]
    exact this.2

theorem Stp.freezeB {b : Nat} {o : Obj} (h : Stp g w0 D0 L0 w D (some (b, o) :: L)) : ∃ D', D.le D' ∧ D' b = some o ∧ Stp g w0 D0 L0 w D' L :=
  ⟨D.ins b o, h.freeze.1, by simp [Snap.ins], h.freeze.2⟩

theorem Stp.heap0 {b : Nat} {o : Obj} (h : Stp g w0 D0 L0 w D (some (b, o) :: L)) : w.heap[b]? = some o := (h.st.l b o (by simp)).1
theorem Stp.heapAt {j b : Nat} {o : Obj} (h : Stp g w0 D0 L0 w D L) (hj : L[j]? = some (some (b, o))) : w.heap[b]? = some o := (h.st.l b o (List.mem_of_getElem? hj)).1
end

/-! ### data -/
/-- these cells lie at an address, in blocks that no one writes -/
def CellsAt (D : Snap) (A : Option Addr) (cs : List Value) : Prop :=
  cs = [] ∨ ∃ b off c T fr, A = some ⟨b, off, none⟩ ∧ D b = some (.cells c T fr) ∧ ∀ j u, cs[j]? = some u → c[off + j]? = some u

theorem CellsAt.mono {D D' : Snap} {A : Option Addr} {cs : List Value} (h : CellsAt D A cs) (hd : D.le D') : CellsAt D' A cs := by
  rcases h with h | ⟨b, off, c, T, fr, h1, h2, h3⟩
  · exact .inl h
  · exact .inr ⟨b, off, c, T, fr, h1, hd _ _ h2, h3⟩

/-- a kind of data: how many cells one has, which they are -/
structure Kd (α : Type) where
  n : Nat
  r : Snap → α → List Value → Prop
  len : ∀ D x cs, r D x cs → cs.length = n
  one : ∀ D x cs, r D x cs → ∀ u ∈ cs, u.oneCell' = true
  mono : ∀ D D' x cs, D.le D' → r D x cs → r D' x cs

def RL {α : Type} (K : Kd α) (D : Snap) : List α → List Value → Prop
  | [], cs => cs = []
  | x :: l, cs => ∃ c1 c2, cs = c1 ++ c2 ∧ K.r D x c1 ∧ RL K D l c2

section
variable {α : Type} {K : Kd α} {D D' : Snap}
theorem RL.len : ∀ {l : List α} {cs : List Value}, RL K D l cs → cs.length = l.length * K.n := by
  intro l
  induction l with
  | nil => intro cs h; simp only [RL] at h; subst h; simp
  | cons x l ih =>
    intro cs h
    obtain ⟨c1, c2, rfl, h1, h2⟩ := h
    simp [K.len _ _ _ h1, ih h2, Nat.succ_mul, Nat.add_comm]
theorem RL.one : ∀ {l : List α} {cs : List Value}, RL K D l cs → ∀ u ∈ cs, u.oneCell' = true := by
  intro l
  induction l with
  | nil => intro cs h; simp only [RL] at h; subst h; simp
  | cons x l ih =>
    intro cs h
    obtain ⟨c1, c2, rfl, h1, h2⟩ := h
    intro u hu
    rcases List.mem_append.1 hu with hu | hu
    · exact K.one _ _ _ h1 u hu
    · exact ih h2 u hu
theorem RL.mono (hd : D.le D') : ∀ {l : List α} {cs : List Value}, RL K D l cs → RL K D' l cs := by
  intro l
  induction l with
  | nil => intro cs h; exact h
  | cons x l ih =>
    intro cs h
    obtain ⟨c1, c2, rfl, h1, h2⟩ := h
    exact ⟨c1, c2, rfl, K.mono _ _ _ _ hd h1, ih h2⟩
theorem RL.append : ∀ {l m : List α} {cs ds : List Value}, RL K D l cs → RL K D m ds → RL K D (l ++ m) (cs ++ ds) := by
  intro l
  induction l with
  | nil => intro m cs ds h h'; simp only [RL] at h; subst h; exact h'
  | cons x l ih =>
    intro m cs ds h h'
    obtain ⟨c1, c2, rfl, h1, h2⟩ := h
    exact ⟨c1, c2 ++ ds, by simp, h1, ih h2 h'⟩
theorem RL.split : ∀ {l m : List α} {cs : List Value}, RL K D (l ++ m) cs → ∃ c1 c2, cs = c1 ++ c2 ∧ RL K D l c1 ∧ RL K D m c2 := by
  intro l
  induction l with
  | nil => intro m cs h; exact ⟨[], cs, rfl, rfl, h⟩
  | cons x l ih =>
    intro m cs h
    obtain ⟨c1, c2, rfl, h1, h2⟩ := h
    obtain ⟨d1, d2, rfl, h3, h4⟩ := ih h2
    exact ⟨c1 ++ d1, d2, by simp, ⟨c1, d1, rfl, h1, h3⟩, h4⟩
theorem RL.single {x : α} {cs : List Value} (h : K.r D x cs) : RL K D [x] cs := ⟨cs, [], by simp, h, rfl⟩
theorem RL.nil : RL K D [] [] := rfl
end

/-- a slice that no one writes -/
def Sl {α : Type} (K : Kd α) (D : Snap) (A : Option Addr) (cap : Nat) (l : List α) : Prop :=
  l.length ≤ cap ∧ cap ≤ maxLen ∧ ∃ cs, RL K D l cs ∧ CellsAt D A cs

theorem Sl.mono {α : Type} {K : Kd α} {D D' : Snap} {A : Option Addr} {cap : Nat} {l : List α} (h : Sl K D A cap l) (hd : D.le D') : Sl K D' A cap l :=
  ⟨h.1, h.2.1, h.2.2.elim fun cs hc => ⟨cs, hc.1.mono hd, hc.2.mono hd⟩⟩

theorem Sl.nil {α : Type} (K : Kd α) (D : Snap) : Sl K D none 0 [] := ⟨by simp, by simp, [], rfl, .inl rfl⟩
theorem Sl.empty {α : Type} (K : Kd α) (D : Snap) (A : Option Addr) {cap : Nat} (h : cap ≤ maxLen) : Sl K D A cap [] := ⟨by simp, h, [], rfl, .inl rfl⟩

/-- a slice that is owned: nil, or the head of a block -/
def Own (T : TypeId) (sz : Nat) (A : Option Addr) (n cap : Nat) (cs : List Value) : Blk → Prop
  | none => A = none ∧ n = 0 ∧ cap = 0 ∧ cs = []
  | some (b, o) => A = some ⟨b, 0, none⟩ ∧ n ≤ cap ∧ cap ≤ maxLen ∧ cs.length = n * sz ∧ ∃ c : Array Value, o = .cells c T (0, 0) ∧ c.size = cap * sz ∧ c.toList.take (n * sz) = cs

def OwnD {α : Type} (K : Kd α) (T : TypeId) (D : Snap) (A : Option Addr) (cap : Nat) (l : List α) (q : Blk) : Prop :=
  ∃ cs, Own T K.n A l.length cap cs q ∧ RL K D l cs

theorem OwnD.mono {α : Type} {K : Kd α} {T : TypeId} {D D' : Snap} {A : Option Addr} {cap : Nat} {l : List α} {q : Blk} (h : OwnD K T D A cap l q) (hd : D.le D') : OwnD K T D' A cap l q :=
  h.elim fun cs hc => ⟨cs, hc.1, hc.2.mono hd⟩

theorem OwnD.nil {α : Type} (K : Kd α) (T : TypeId) (D : Snap) : OwnD K T D none 0 ([] : List α) none := ⟨[], ⟨rfl, rfl, rfl, rfl⟩, rfl⟩

/-- an owned slice is handed over to those that no one writes -/
theorem Stp.frozen {α : Type} {K : Kd α} {T : TypeId} {A : Option Addr} {cap : Nat} {l : List α} {q : Blk} {g w w0 : World} {D D0 : Snap} {L L0 : List Blk}
    (hS : Stp g w0 D0 L0 w D (q :: L)) (h : OwnD K T D A cap l q) : ∃ D', D.le D' ∧ Stp g w0 D0 L0 w D' L ∧ Sl K D' A cap l := by
  obtain ⟨cs, h, hr⟩ := h
  cases q with
  | none =>
    obtain ⟨rfl, hn, rfl, rfl⟩ := h
    exact ⟨D, Snap.le.refl D, hS.drop, by omega, by simp, [], hr, .inl rfl⟩
  | some p =>
    obtain ⟨b, o⟩ := p
    obtain ⟨rfl, h1, h2, h3, c, rfl, h4, h5⟩ := h
    obtain ⟨hle, hS'⟩ := hS.freeze
    refine ⟨_, hle, hS', h1, h2, cs, hr.mono hle, .inr ⟨b, 0, c, T, (0, 0), rfl, by simp [Snap.ins], ?_⟩⟩
    intro j u hu
    rw [← h5, List.getElem?_take] at hu
    split at hu
    · simpa using hu
    · cases hu
end Go.Sep
