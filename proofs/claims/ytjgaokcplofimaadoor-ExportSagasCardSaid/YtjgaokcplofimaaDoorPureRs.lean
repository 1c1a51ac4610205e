/-
 Plain: the document's comparison of bytes.
-/
import Derived.Test.YtjgaokcplofimaaDoorPureEy
namespace Go.Proofs.YtjgaokcplofimaaDoor
open Go Go.Sep
end Go.Proofs.YtjgaokcplofimaaDoor
