
/-
  Plain: what the laws of the records share: the document's comparison, what is too great, rec.Get, the example.
-/
import Derived.Test.YthnfokfankaenaaDoorPureC
namespace Go.Proofs.YthnfokfankaenaaDoor
open Go Go.Sep

theorem numS_one {n : Nat} (h : n < 128) : numS n = [(n : Int)] := by
  unfold numS
  rw [show n / 128 = 0 by omega, hiB_zero, Nat.mod_eq_of_lt h]; rfl
end Go.Proofs.YthnfokfankaenaaDoor
