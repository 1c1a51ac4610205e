/-
 Plain: the document's comparisons of records and bundles, and when an exported bundle is right.
-/
import Derived.Test.YtjgaokcplofimaaDoorPureEy
namespace Go.Proofs.YtjgaokcplofimaaDoor
open Go Go.Sep
/-! ### the same -/
/-! ### when it is right -/
theorem places_len {l : List Rc} {p : T_api_Point} {sel : Nat → Bool} (hg : gd l p = true) : ((placesE l p sel).length : Int) ≤ p.fSize := by
 obtain ⟨_, n, hn, _⟩ := gd_iff hg
 have h1 : (placesE l p sel).length ≤ _ := List.length_filter_le sel _
 rw [List.length_range'] at h1
 omega
/-- a loop that goes on to its end -/
theorem loop_thru {β : Type} {L : Nat → Int → Option β} {n : Nat} {r : β} (hend : ∀ k, L (k + 1) (n : Int) = some r) (hstep : ∀ k (i : Nat), i < n → L (k + 1) (i : Int) = L k ((i + 1 : Nat) : Int)) : ∀ m i k, i + m = n → m < k → L k (i : Int) = some r := by
 intro m
 induction m with
 | zero =>
  intro i k hi hk
  obtain ⟨k, rfl⟩ : ∃ j, k = j + 1 := ⟨k - 1, by omega⟩
  rw [show i = n by omega]; exact hend k
 | succ m ih =>
  intro i k hi hk
  obtain ⟨k, rfl⟩ : ∃ j, k = j + 1 := ⟨k - 1, by omega⟩
  rw [hstep k i (by omega)]
  exact ih (i + 1) k (by omega) (by omega)
end Go.Proofs.YtjgaokcplofimaaDoor
