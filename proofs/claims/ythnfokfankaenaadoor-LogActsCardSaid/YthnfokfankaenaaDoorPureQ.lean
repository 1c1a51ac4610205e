/-
 Plain: how records are read.
-/
import Derived.Test.YthnfokfankaenaaDoorPureM
namespace Go.Proofs.YthnfokfankaenaaDoor
open Go Go.Sep
def zH : H32 := Vector.replicate 32 0
def callR : Rd → CallT × Rd := seqR numR (fun _ => seqR numR (fun _ => seqR numR (fun _ => seqR numR (fun _ => flagR))))
theorem isB_zH : isB (vlist zH) := by
 unfold isB
 decide
/-! ### the program's -/
end Go.Proofs.YthnfokfankaenaaDoor
