/-
 Plain: how records are read.
-/
import Derived.Test.YtjgaokcplofimaaGreatDoorPureM
namespace Go.Proofs.YtjgaokcplofimaaGreatDoor
open Go Go.Sep
def callR : Rd → CallT × Rd := seqR numR (fun _ => seqR numR (fun _ => seqR numR (fun _ => seqR numR (fun _ => flagR))))
/-- a record whose data are bytes -/
structure okB (x : Rc) : Prop where
 data : isB x.fData
 tag : isB (vlist x.fTag)
 salt : isB (vlist x.fSalt)
 com : isB (vlist x.fCom)
/-! ### the program's -/
end Go.Proofs.YtjgaokcplofimaaGreatDoor
