/-
 Plain: readers as functions; what it means that a reader reads what is put; sequences and lists of readers.
-/
import Derived.Test.YtjgaokcplofimaaGreatDoorPureS
namespace Go.Proofs.YtjgaokcplofimaaGreatDoor
open Go Go.Sep
/-! ### numbers -/
def numR (r : Rd) : Int × Rd :=
 if r.fBad = 0 then
  (if (pN 0 0 r.fB).2.2 = 0 then ((pN 0 0 r.fB).1, ⟨r.fB.drop (pN 0 0 r.fB).2.1.toNat, 0⟩) else (0, ⟨[], (pN 0 0 r.fB).2.2⟩))
 else (0, r)
/-! ### flags -/
def flagR (r : Rd) : Bool × Rd :=
 if r.fBad = 0 then (match r.fB with | [] => (false, ⟨[], 3⟩) | c :: l => if 1 < c then (false, ⟨[], 2⟩) else (decide (c = 1), ⟨l, 0⟩)) else (false, r)
/-! ### hashes -/
/-! ### bytes -/
/-! ### one behind the other -/
def seqR {α β : Type} (p : Rd → α × Rd) (q : α → Rd → β × Rd) (r : Rd) : (α × β) × Rd := (((p r).1, (q (p r).1 (p r).2).1), (q (p r).1 (p r).2).2)
/-! ### lists -/
end Go.Proofs.YtjgaokcplofimaaGreatDoor
