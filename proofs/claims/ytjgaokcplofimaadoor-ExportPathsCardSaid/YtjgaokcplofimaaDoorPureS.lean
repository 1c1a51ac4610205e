/-
 What the functions of wire's reader come to.
-/
import Derived.Test.YtjgaokcplofimaaDoorPureW
namespace Go.Proofs.YtjgaokcplofimaaDoor
open Go Go.Sep
/-! ### the laws of pN -/
/-! ### the reader -/
end Go.Proofs.YtjgaokcplofimaaDoor
