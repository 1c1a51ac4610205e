/-
  The plain law of RecRight.
-/
import Derived.Test.YtlcnliiampfigaaDoorPureB
namespace Go.Proofs.YtlcnliiampfigaaDoor
open Go Go.Sep
theorem law_RecRight {K : Nat} (hK : 1000000000000 ≤ K) (x y : Rc) (bx : okB x) (by_ : okB y) : inspeximuslaw04_RecRight.f K x y = some true := by
  unfold inspeximuslaw04_RecRight.f
  refine bind_of (alive04 hK) ?_
  simp only [Bool.not_true, cond_false]
  refine Eq.trans (jn_val (greatR x || greatR y) (fun j => by
    rw [greatR_eq, greatR_eq]
    simp only [Option.bind_some]
    cases greatR x <;> rfl)) ?_
  cases hg : greatR x with
  | true => rfl
  | false =>
  cases hg2 : greatR y with
  | true => rfl
  | false =>
  have hx := okD_of hg bx
  have hy := okD_of hg2 by_
  simp only [Bool.or_false, cond_false]
  unfold jn
  refine bind_of (right_eq hK hx) ?_
  refine bind_of (rright_eq hK hx) ?_
  rw [bif_true (by simp)]
  refine bind_of (com_eq hK hx) ?_
  refine bind_of (rcom_eq hK hx bx) ?_
  rw [bif_true (by simp)]
  refine bind_of (red_eq hK hx) ?_
  refine bind_of (rred_eq hK hx bx) ?_
  refine bind_of (rrec_same hK (red_okD hx)) ?_
  rw [bif_true (by simp)]
  refine bind_of (rec_same hK hx hy) ?_
  refine bind_of (rrec_same hK hx) ?_
  simp
end Go.Proofs.YtlcnliiampfigaaDoor
