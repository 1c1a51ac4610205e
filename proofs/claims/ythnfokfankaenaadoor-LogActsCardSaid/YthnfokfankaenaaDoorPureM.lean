/-
 Plain: records' open bytes, and how they are read.
-/
import Derived.Test.YthnfokfankaenaaDoorPureN
namespace Go.Proofs.YthnfokfankaenaaDoor
open Go Go.Sep
/-! ### open bytes -/
abbrev CallT := Int × Int × Int × Int × Bool
theorem flat_len {α β : Type} {p : α → List β} {c : Nat} : ∀ {l : List α}, (∀ x ∈ l, (p x).length ≤ c) → (l.map p).flatten.length ≤ c * l.length := by
 intro l
 induction l with
 | nil => intro _; simp
 | cons a l ih =>
  intro h
  have h1 := ih (fun x hx => h x (by simp [hx]))
  have h2 := h a (by simp)
  simp only [List.map_cons, List.flatten_cons, List.length_append, List.length_cons, Nat.mul_add]
  omega
end Go.Proofs.YthnfokfankaenaaDoor
