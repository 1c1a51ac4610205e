
/-
  Plain: the program reads a record as told.
-/
import Derived.Test.YthnfokfankaenaaDoorPureQ
namespace Go.Proofs.YthnfokfankaenaaDoor
open Go Go.Sep

theorem listR_len {α : Type} {one : Nat → Rd → α × Rd} : ∀ (n i : Nat) (r : Rd), (listR one n i r).1.length ≤ n := by
  intro n
  induction n with
  | zero => intro i r; simp [listR]
  | succ n ih =>
    intro i r
    unfold listR
    split
    · simp; exact ih _ _
    · simp
theorem listR_bad {α : Type} {one : Nat → Rd → α × Rd} {n i : Nat} {r : Rd} (h : r.fBad ≠ 0) : listR one n i r = ([], r) := by
  cases n with
  | zero => rfl
  | succ n => unfold listR; rw [if_neg h]
theorem bytesR_isB {most : Int} {r : Rd} (h : Good r) : isB (bytesR most r).1 ∧ (bytesR most r).1.length < 1000000000 := by
  unfold bytesR
  split
  · split
    · exact ⟨isB_nil, by simp⟩
    · split
      · exact ⟨isB_nil, by simp⟩
      · split
        · exact ⟨isB_nil, by simp⟩
        · refine ⟨fun x hx => h.1 x (List.mem_of_mem_drop (List.mem_of_mem_take hx)), ?_⟩
          have := h.2
          simp; omega
  · exact ⟨isB_nil, by simp⟩
theorem bind_of {α β : Type} {o : Option α} {x : α} {f : α → Option β} {y : Option β} (h : o = some x) (h2 : f x = y) : o.bind f = y := by rw [h]; exact h2
theorem bytes_ex {K : Nat} (hK : 1000000000000 ≤ K) {r : Rd} (hr : Good r) : ∃ n r', bytesR 60 r = (n, r') ∧ wire_Reader_Bytes.f K 60 r = some (n, r') ∧ Good r' ∧ isB n ∧ n.length < 1000000000 := ⟨_, _, rfl, bytesR_eq hK hr, (bytesR_spec (by omega)).good r hr, bytesR_isB hr⟩
end Go.Proofs.YthnfokfankaenaaDoor
