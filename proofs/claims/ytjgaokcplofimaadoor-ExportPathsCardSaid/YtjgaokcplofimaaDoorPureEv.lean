/-
 Plain: the document's example of exports.
-/
import Derived.Test.YtjgaokcplofimaaDoorPureEz
import Derived.Test.YtjgaokcplofimaaDoorXExportPathsDef
namespace Go.Proofs.YtjgaokcplofimaaDoor
open Go Go.Sep
theorem alive18 : inspeximuslaw18_alive.f 1000000000000 = some true := by kernel_rfl
end Go.Proofs.YtjgaokcplofimaaDoor
