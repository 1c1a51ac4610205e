
/-
  Plain: records' open bytes, and how they are read.
-/
import Derived.Test.YthnfokfankaenaaDoorPureN
namespace Go.Proofs.YthnfokfankaenaaDoor
open Go Go.Sep

/-! ### open bytes -/
abbrev CallT := Int × Int × Int × Int × Bool
abbrev inN (n : Int) : Prop := 0 ≤ n ∧ n < 2147483648
theorem inn_N {n lo hi : Int} (h : inn n lo hi = true) (hl : 0 ≤ lo) (hh : hi < 2147483648) : inN n := by
  have := inn_iff.1 h; omega
theorem flat_len {α β : Type} {p : α → List β} {c : Nat} : ∀ {l : List α}, (∀ x ∈ l, (p x).length ≤ c) → (l.map p).flatten.length ≤ c * l.length := by
  intro l
  induction l with
  | nil => intro _; simp
  | cons a l ih =>
    intro h
    have h1 := ih (fun x hx => h x (by simp [hx]))
    have h2 := h a (by simp)
    simp only [List.map_cons, List.flatten_cons, List.length_append, List.length_cons, Nat.mul_add]
    omega
end Go.Proofs.YthnfokfankaenaaDoor
