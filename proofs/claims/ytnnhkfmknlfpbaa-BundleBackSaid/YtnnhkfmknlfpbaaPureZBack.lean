/-
  The plain law of BundleBack.
-/
import Derived.Test.YtnnhkfmknlfpbaaPureY
namespace Go.Proofs.Ytnnhkfmknlfpbaa
open Go Go.Sep

theorem law_BundleBack {K : Nat} (hK : K = 1000000000000) (x : Bun) (ha : argBun x) : inspeximuslaw17_BundleBack.f K x = some true := by
  subst hK
  unfold inspeximuslaw17_BundleBack.f
  refine bind_of alive17 ?_
  simp only [Bool.not_true, cond_false, jn]
  refine bind_of (great_eq hK0 x) ?_
  cases hg : greatB x with
  | true => rfl
  | false =>
  have ho := okBun_of hg ha
  simp only [cond_false]
  refine bind_of (rightB_eq hK0 ho) ?_
  cases hr : rightB x with
  | false => rfl
  | true =>
  simp only [Bool.not_true, cond_false]
  refine bind_of (put_eq hK0 ho) ?_
  rw [hr]
  simp only [cond_true]
  have hl := put_len hr
  refine bind_of (get_eq hK0 (put_isB ha) (by omega)) ?_
  rw [get_put hr ha]
  simp only [decide_true, cond_true]
  refine bind_of (bun_same hK0 ho ho) ?_
  rw [bif_true (by simp)]
  refine bind_of (bun_same hK0 ho ho) ?_
  rw [bif_true (by simp), rightB_eq hK0 ho, hr]
  rfl
end Go.Proofs.Ytnnhkfmknlfpbaa
