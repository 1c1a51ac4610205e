/-
 Plain: the program reads a record as told.
-/
import Derived.Test.YtjgaokcplofimaaDoorPureQ
namespace Go.Proofs.YtjgaokcplofimaaDoor
open Go Go.Sep
theorem bind_of {α β : Type} {o : Option α} {x : α} {f : α → Option β} {y : Option β} (h : o = some x) (h2 : f x = y) : o.bind f = y := by rw [h]; exact h2
end Go.Proofs.YtjgaokcplofimaaDoor
