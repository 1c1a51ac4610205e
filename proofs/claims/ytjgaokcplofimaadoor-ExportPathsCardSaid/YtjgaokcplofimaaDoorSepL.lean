/-
 Division and shifts by what is not known ahead; slices with a bound on what is behind.
-/
import Derived.Test.YtjgaokcplofimaaDoorSepJ
namespace Go.Sep
section
variable {P : Program} {ρ : Option Nat} {ops : Array Oper} {Q : Exit → Act → World → Prop} {a : Act} {n : Nat} {ds : List Deferred} {E : List (Nat × Value)}
variable {g w w0 : World} {len : Nat} {D D0 : Snap} {L L0 : List Blk} {i : Nat} {o : Oper} {d : Nat} {C : Act → World → Prop} {C1 : Act → Prop} {R : World → World → Prop}
theorem shl_run {t : TypeId} {x y : Operand} {k k' : IntKind} {p q : Int} (hq : decide (q < 0) = false) (w : World) : (do eqGuard .shl t x y (.int k p) (.int k' q); binOp .shl t (.int k p) (.int k' q) : Sem Value).run P w = .ok (.int k (k.wrap (p * 2 ^ (min q.toNat k.bits)))) w := by
 have hq' : ¬ q < 0 := of_decide_eq_false hq
 refine bin_run (guard_run trivial) (fun w => ?_) w
 simp [binOp, Op.shift, hq']
theorem shr_run {t : TypeId} {x y : Operand} {k k' : IntKind} {p q : Int} (hq : decide (q < 0) = false) (w : World) : (do eqGuard .shr t x y (.int k p) (.int k' q); binOp .shr t (.int k p) (.int k' q) : Sem Value).run P w = .ok (.int k (Int.fdiv p (2 ^ (min q.toNat k.bits)))) w := by
 have hq' : ¬ q < 0 := of_decide_eq_false hq
 refine bin_run (guard_run trivial) (fun w => ?_) w
 simp [binOp, Op.shift, hq']
theorem chk_not {α : Type} {b : Bool} {x : Option α} {r : α} (h : chk (!b) x = some r) : b = false ∧ x = some r := by
 cases b with
 | true => cases h
 | false => exact ⟨rfl, h⟩
end
end Go.Sep
