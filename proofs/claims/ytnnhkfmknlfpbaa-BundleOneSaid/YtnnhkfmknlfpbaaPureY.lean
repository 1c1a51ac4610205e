/-
  Plain: what is put is read again; bytes that are read are put.
-/
import Derived.Test.YtnnhkfmknlfpbaaPureX
import Derived.Test.YtnnhkfmknlfpbaaSepK
namespace Go.Proofs.Ytnnhkfmknlfpbaa
open Go Go.Sep

theorem hK0 : (1000000000000 : Nat) ≤ 1000000000000 := Nat.le_refl _
theorem numW_isB (n : Int) : isB (numW n) := numS_isB _
theorem flat_isB {α : Type} {p : α → List Int} {l : List α} (h : ∀ x ∈ l, isB (p x)) : isB (l.map p).flatten := by
  intro b hb
  obtain ⟨m, hm, hb⟩ := List.mem_flatten.1 hb
  obtain ⟨x, hx, rfl⟩ := List.mem_map.1 hm
  exact h x hx b hb
theorem flag_isB (b : Bool) : isB [flagI b] := by
  intro x hx
  rw [List.mem_singleton] at hx
  subst hx
  exact flagI_B b
theorem bodyW_isB {k : Int} {x : Rc} (h : okB x) : isB (bodyW k x) := by
  unfold bodyW
  have hc : isB (callW x) := by
    unfold callW
    simp only [isB_append]
    exact ⟨numW_isB _, numW_isB _, numW_isB _, numW_isB _, flag_isB _⟩
  split
  · simp only [isB_append, stepsW, loadW]
    refine ⟨numW_isB _, ⟨numS_isB _, flat_isB (fun s _ => by unfold stepW; exact isB_append.2 ⟨numW_isB _, numW_isB _⟩)⟩, flag_isB _, ?_⟩
    cases x.fGone
    · exact isB_append.2 ⟨h.salt, isB_append.2 ⟨numS_isB _, h.data⟩⟩
    · exact h.com
  · split
    · exact hc
    · split
      · simp only [isB_append]
        exact ⟨hc, flag_isB _, numW_isB _, numW_isB _, h.tag⟩
      · split
        · simp only [isB_append]
          exact ⟨numW_isB _, numW_isB _, numW_isB _⟩
        · simp only [isB_append]
          exact ⟨numW_isB _, numW_isB _⟩
theorem openW_isB {x : Rc} (h : okB x) : isB (openW x) := isB_append.2 ⟨numW_isB _, bodyW_isB h⟩
theorem bunW_isB {x : Bun} (h : argBun x) : isB (bunW x) := by
  unfold bunW
  simp only [isB_append]
  refine ⟨flag_isB _, numW_isB _, h.root, isB_append.2 ⟨numS_isB _, flat_isB (fun s hs => isB_append.2 ⟨numW_isB _, h.tags s hs⟩)⟩, ?_⟩
  unfold itemsW
  cases x.fWhole
  · exact isB_append.2 ⟨numS_isB _, flat_isB (fun y hy => isB_append.2 ⟨numW_isB _, isB_append.2 ⟨openW_isB (h.recs y hy), isB_append.2 ⟨numS_isB _, flat_isB (fun z hz => h.path y hy z hz)⟩⟩⟩)⟩
  · exact flat_isB (fun y hy => openW_isB (h.recs y hy))
theorem mark_isB : isB mark := by unfold isB mark; decide
theorem itemsOk_at {size : Int} : ∀ {l : List It} {last : Int} {i : Nat}, itemsOk true size last i l = true → ∀ (j : Nat) x, l[j]? = some x → x.fAt = ((i + j : Nat) : Int) ∧ x.fPath = [] := by
  intro l
  induction l with
  | nil => intro last i _ j x hx; simp at hx
  | cons y l ih =>
    intro last i h j x hx
    unfold itemsOk itemOk at h
    simp only [Bool.and_eq_true, Bool.not_true, Bool.false_or] at h
    obtain ⟨⟨_, _, _, h4⟩, h5⟩ := h
    cases j with
    | zero =>
      simp at hx
      subst hx
      exact ⟨by simpa using h4.1, List.length_eq_zero_iff.1 (by simpa using h4.2)⟩
    | succ j =>
      have := ih h5 j x (by simpa using hx)
      rw [this.1, this.2]
      exact ⟨by congr 1; omega, rfl⟩
theorem bunOk_of {x : Bun} (h : rightB x = true) (ha : argBun x) : bunOk x := by
  have hp := rightP h
  refine ⟨hp.size, ha.root, ⟨by have := hp.sigs; omega, fun s hs => ⟨hp.wits s hs, ha.tags s hs⟩⟩, ?_⟩
  unfold itemsOkR
  cases hw : x.fWhole with
  | true =>
    have h1 := hp.whole hw
    have h2 := hp.ok
    rw [hw] at h2
    have h3 := itemsOk_at h2
    have h4 := hp.size
    refine ⟨h4.2, by omega, fun j y hy => ?_⟩
    have hy2 := List.mem_of_getElem? hy
    obtain ⟨e1, e2⟩ := h3 j y hy
    refine ⟨⟨(hp.items y hy2).1, ha.recs y hy2⟩, ?_⟩
    obtain ⟨a, b, c⟩ := y
    simp at e1 e2
    rw [e1, e2]
  | false =>
    refine ⟨hp.lens, fun y hy => ?_⟩
    obtain ⟨e1, e2, e3⟩ := hp.items y hy
    exact ⟨e2, ⟨e1, ha.recs y hy⟩, by omega, ha.path y hy⟩
theorem argBun_ok {x : Bun} (h : bunOk x) : argBun x := by
  have hi := h.items
  unfold itemsOkR at hi
  refine ⟨h.root, fun s hs => (h.sigs.2 s hs).2, fun y hy => ?_, fun y hy z hz => ?_⟩
  · cases hw : x.fWhole with
    | true =>
      rw [hw] at hi
      obtain ⟨j, hj⟩ := List.getElem?_of_mem hy
      exact (hi.2.2 j y hj).1.2
    | false => rw [hw] at hi; exact (hi.2 y hy).2.1.2
  · cases hw : x.fWhole with
    | true =>
      rw [hw] at hi
      obtain ⟨j, hj⟩ := List.getElem?_of_mem hy
      have := (hi.2.2 j y hj).2
      rw [← this] at hz
      cases hz
    | false => rw [hw] at hi; exact (hi.2 y hy).2.2.2 z hz

/-- what is put, and something behind it, is read -/
theorem bun_back {x : Bun} (h : bunOk x) {rest : List Int} (hb : isB rest) (hl : (bunW x).length + rest.length < 1000000000) : bunR ⟨bunW x ++ rest, 0⟩ = (x, ⟨rest, 0⟩) :=
  bunR_spec.ok x rest h ⟨isB_append.2 ⟨bunW_isB (argBun_ok h), hb⟩, by simp; omega⟩
theorem take_mark (l : List Int) : (mark ++ l).take 4 = mark := List.take_left' rfl
theorem drop_mark (l : List Int) : (mark ++ l).drop 4 = l := List.drop_left' rfl
theorem get_put {x : Bun} (h : rightB x = true) (ha : argBun x) : getS (mark ++ bunW x) = (x, 0) := by
  unfold getS
  rw [take_mark, drop_mark, if_pos rfl]
  have hl := bunW_len (rightP h)
  have := bun_back (bunOk_of h ha) (rest := []) isB_nil (by simp; omega)
  rw [List.append_nil] at this
  rw [this]
  simp [endS, h]
theorem get_err {b : List Int} (h : (getS b).2 ≠ 0) : (getS b).1 = zBun := by
  unfold getS at h ⊢
  by_cases hm : b.take 4 = mark
  · rw [if_pos hm] at h ⊢
    generalize bunR ⟨b.drop 4, 0⟩ = t at h ⊢
    unfold endS at h ⊢
    simp only at h ⊢
    generalize (if t.2.fBad ≠ 0 then t.2.fBad else if t.2.fB = [] then (0 : Int) else 2) = e at h ⊢
    by_cases he : e ≠ 0
    · rw [if_pos he]
    · rw [if_neg he] at h ⊢
      cases hr : rightB t.1 with
      | true => rw [hr] at h; simp at h
      | false => simp
  · rw [if_neg hm]
theorem get_ok {b : List Int} (hb : isB b) (hl : b.length < 1000000000) (h : (getS b).2 = 0) : b = mark ++ bunW (getS b).1 ∧ bunOk (getS b).1 ∧ rightB (getS b).1 = true := by
  unfold getS at h ⊢
  split
  · rename_i hm
    rw [if_pos hm] at h
    have hg : Good ⟨b.drop 4, 0⟩ := Good.drop (b := b) (e := 0) ⟨hb, hl⟩ 4
    have hs := bunR_spec.back ⟨b.drop 4, 0⟩ hg
    generalize bunR ⟨b.drop 4, 0⟩ = t at h hs
    obtain ⟨x, r⟩ := t
    unfold endS at h ⊢
    simp only at h hs ⊢
    by_cases h1 : r.fBad = 0
    · simp only [h1, ne_eq, not_true_eq_false, if_false] at h ⊢
      by_cases h2 : r.fB = []
      · simp only [h2, if_true, not_true_eq_false, if_false] at h ⊢
        cases h3 : rightB x with
        | true =>
          simp only [if_true]
          obtain ⟨_, e, o⟩ := hs h1
          refine ⟨?_, o, h3⟩
          rw [h2, List.append_nil] at e
          rw [← e, ← hm, List.take_append_drop]
        | false => simp [h3] at h
      · simp [h2] at h
    · simp [h1] at h
  · rename_i hm
    rw [if_neg hm] at h
    simp at h
set_option maxRecDepth 1000000 in
theorem alive17 : inspeximuslaw17_alive.f 1000000000000 = some true := by kernel_rfl
theorem tmod_nat {n : Int} (h : 0 ≤ n) (L : Nat) : Int.tmod n (L : Int) = ((n.toNat % L : Nat) : Int) := by
  obtain ⟨a, rfl⟩ := Int.eq_ofNat_of_zero_le h
  rfl
theorem hiB_length' {n : Nat} (h : 0 < n) : (hiB n).length = (hiB (n / 128)).length + 1 := by rw [hiB_pos h]; simp
theorem hiB_mono' : ∀ (m n : Nat), n ≤ m → (hiB n).length ≤ (hiB m).length := by
  intro m
  induction m using Nat.strongRecOn with
  | _ m ih =>
    intro n h
    by_cases hn : n = 0
    · subst hn; rw [hiB_zero]; simp
    · rw [hiB_length' (n := n) (by omega), hiB_length' (n := m) (by omega)]
      have := ih (m / 128) (by omega) (n / 128) (Nat.div_le_div_right h)
      omega
theorem numS_mono' {n m : Nat} (h : n ≤ m) : (numS n).length ≤ (numS m).length := by
  have := hiB_mono' (m / 128) (n / 128) (Nat.div_le_div_right h)
  simp [numS]; exact this
theorem vlist_inB {h : Vector Int 32} (hr : ∀ i, i < 32 → 0 ≤ vget h i ∧ vget h i < 256) : isB (vlist h) := by
  intro x hx
  simp [vlist] at hx
  obtain ⟨i, hi, rfl⟩ := hx
  exact hr i hi
theorem put_len {x : Bun} (h : rightB x = true) : (mark ++ bunW x).length < 1000000 := by
  have := bunW_len (rightP h)
  simp [mark]; omega
theorem put_isB {x : Bun} (ha : argBun x) : isB (mark ++ bunW x) := isB_append.2 ⟨mark_isB, bunW_isB ha⟩
end Go.Proofs.Ytnnhkfmknlfpbaa
