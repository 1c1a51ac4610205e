/-
 Plain: how records are read.
-/
import Derived.Test.YtjgaokcplofimaaDoorPureM
namespace Go.Proofs.YtjgaokcplofimaaDoor
open Go Go.Sep
def zH : H32 := Vector.replicate 32 0
/-! ### the program's -/
end Go.Proofs.YtjgaokcplofimaaDoor
