/-
 What the functions of wire's reader come to.
-/
import Derived.Test.YtjgaokcplofimaaGreatDoorPureW
namespace Go.Proofs.YtjgaokcplofimaaGreatDoor
open Go Go.Sep
/-- the number that bytes begin with: the number, how many bytes, the error -/
def pN : Int → Nat → List Int → Int × Int × Int
 | _, _, [] => (0, 0, 3)
 | a, i, c :: l => if (i = 0 ∧ c = 128) ∨ i = 5 then (0, 0, 2) else if c < 128 then (if 2147483647 < a * 128 + c then (0, 0, 2) else (a * 128 + c, ((i + 1 : Nat) : Int), 0)) else pN (a * 128 + (c - 128)) (i + 1) l
/-! ### the laws of pN -/
/-! ### the reader -/
abbrev Rd := T_wire_Reader
end Go.Proofs.YtjgaokcplofimaaGreatDoor
