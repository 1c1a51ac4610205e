/-
 Plain: readers as functions; what it means that a reader reads what is put; sequences and lists of readers.
-/
import Derived.Test.YtjgaokcplofimaaDoorPureS
namespace Go.Proofs.YtjgaokcplofimaaDoor
open Go Go.Sep
/-! ### numbers -/
/-! ### flags -/
/-! ### hashes -/
/-! ### bytes -/
/-! ### one behind the other -/
/-! ### lists -/
end Go.Proofs.YtjgaokcplofimaaDoor
