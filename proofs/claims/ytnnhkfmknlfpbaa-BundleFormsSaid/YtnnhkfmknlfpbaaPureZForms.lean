/-
  The plain law of BundleForms.
-/
import Derived.Test.YtnnhkfmknlfpbaaPureF
import Derived.Test.YtnnhkfmknlfpbaaPureGr
namespace Go.Proofs.Ytnnhkfmknlfpbaa
open Go Go.Sep

/-! ### forms -/
theorem itemsOk_some {size : Int} : ∀ {l : List It} {last : Int} {i : Nat}, itemsOk true size last i l = true → itemsOk false size last i l = true := by
  intro l
  induction l with
  | nil => intros; rfl
  | cons x l ih =>
    intro last i h
    unfold itemsOk itemOk at h ⊢
    simp only [Bool.and_eq_true, Bool.not_false, Bool.true_or, and_true] at h ⊢
    exact ⟨⟨h.1.1, h.1.2.1, h.1.2.2.1⟩, ih h.2⟩
theorem law_BundleForms {K : Nat} (hK : K = 1000000000000) (x : Bun) (ha : argBun x) : inspeximuslaw17_BundleForms.f K x = some true := by
  subst hK
  unfold inspeximuslaw17_BundleForms.f
  refine bind_of alive17 ?_
  simp only [Bool.not_true, cond_false, jn]
  refine bind_of (great_eq hK0 x) ?_
  cases hg : greatB x with
  | true => rfl
  | false =>
  have ho := okBun_of hg ha
  simp only [cond_false]
  refine bind_of (rightB_eq hK0 ho) ?_
  cases hr : rightB x with
  | false => rfl
  | true =>
  simp only [Bool.not_true, cond_false]
  obtain ⟨w, ⟨size, root, sigs⟩, items⟩ := x
  cases w with
  | false => rfl
  | true =>
  simp only [Bool.not_true, cond_false, Option.bind_some]
  have hob : okBun ⟨false, ⟨size, root, sigs⟩, items⟩ := ⟨ho.sigs, ho.len, ho.items⟩
  have hab : argBun ⟨false, ⟨size, root, sigs⟩, items⟩ := ⟨ha.root, ha.tags, ha.recs, ha.path⟩
  have hrb : rightB ⟨false, ⟨size, root, sigs⟩, items⟩ = true := by
    unfold rightB at hr ⊢
    simp only [Bool.and_eq_true, Bool.not_false, Bool.true_or, true_and] at hr ⊢
    exact ⟨hr.1, hr.2.1, itemsOk_some hr.2.2.2⟩
  refine bind_of (put_eq hK0 hob) ?_
  rw [hrb]
  simp only [cond_true]
  have hl := put_len hrb
  have hl2 := put_len hr
  refine bind_of (get_eq hK0 (put_isB hab) (by omega)) ?_
  rw [get_put hrb hab]
  simp only
  refine bind_of (rightB_eq hK0 hob) ?_
  rw [hrb]
  simp only [cond_true, decide_true, Bool.not_false]
  refine bind_of (bun_same hK0 ho hob) ?_
  have hne : ¬ ((⟨true, ⟨size, root, sigs⟩, items⟩ : Bun) = ⟨false, ⟨size, root, sigs⟩, items⟩) := fun e => by
    have := congrArg (fun b : Bun => b.fWhole) e
    cases this
  rw [dec_f hne]
  simp only [Bool.not_false, cond_true]
  refine bind_of (put_eq hK0 ho) ?_
  refine bind_of (put_eq hK0 hob) ?_
  rw [hrb, hr]
  simp only [cond_true]
  refine bind_of (ref_same (by omega) (by omega)) ?_
  have hnb : ¬ (mark ++ bunW ⟨true, ⟨size, root, sigs⟩, items⟩ = mark ++ bunW ⟨false, ⟨size, root, sigs⟩, items⟩) := fun e => by
    have := congrArg (fun l => (l.drop 4)[0]?) e
    simp only [drop_mark] at this
    cases this
  rw [dec_f hnb]
  rfl
end Go.Proofs.Ytnnhkfmknlfpbaa
