/-
  The plain law of BundleItems.
-/
import Derived.Test.YtnnhkfmknlfpbaaPureY
namespace Go.Proofs.Ytnnhkfmknlfpbaa
open Go Go.Sep

/-! ### one of the items less -/
theorem itemsOk_mono {size : Int} : ∀ {l : List It} {last last' : Int} {i j : Nat}, last ≤ last' → itemsOk false size last' i l = true → itemsOk false size last j l = true := by
  intro l
  induction l with
  | nil => intros; rfl
  | cons x l ih =>
    intro last last' i j h hk
    unfold itemsOk itemOk at hk ⊢
    simp only [Bool.and_eq_true, Bool.not_false, Bool.true_or, and_true] at hk ⊢
    obtain ⟨⟨h1, h2, h3⟩, h4⟩ := hk
    have := inn_iff.1 h2
    exact ⟨⟨h1, inn_iff.2 ⟨by omega, this.2⟩, h3⟩, ih (Int.le_refl _) h4⟩
theorem items_less {size : Int} : ∀ (n : Nat) {l : List It} {last : Int} {i : Nat}, itemsOk false size last i l = true → itemsOk false size last i (l.take n ++ l.drop (n + 1)) = true := by
  intro n
  induction n with
  | zero =>
    intro l last i h
    cases l with
    | nil => rfl
    | cons x l =>
      unfold itemsOk itemOk at h
      simp only [Bool.and_eq_true] at h
      have := inn_iff.1 h.1.2.1
      simp only [List.take_zero, List.nil_append, List.drop_succ_cons, List.drop_zero]
      exact itemsOk_mono (by omega) h.2
  | succ n ih =>
    intro l last i h
    cases l with
    | nil => rfl
    | cons x l =>
      unfold itemsOk at h
      simp only [Bool.and_eq_true] at h
      simp only [List.take_succ_cons, List.drop_succ_cons, List.cons_append]
      unfold itemsOk
      rw [h.1, ih h.2]; rfl
theorem split_at {l : List It} {n : Nat} (h : n < l.length) : ∃ y, l = l.take n ++ y :: l.drop (n + 1) := by
  refine ⟨l[n], ?_⟩
  rw [List.getElem_cons_drop, List.take_append_drop]
theorem law_BundleItems {K : Nat} (hK : K = 1000000000000) (x : Bun) (k : Int) (ha : argBun x) (hk : 0 ≤ k ∧ k < 256) : inspeximuslaw17_BundleItems.f K x k = some true := by
  subst hK
  unfold inspeximuslaw17_BundleItems.f
  refine bind_of alive17 ?_
  simp only [Bool.not_true, cond_false, jn]
  refine bind_of (great_eq hK0 x) ?_
  cases hg : greatB x with
  | true => rfl
  | false =>
  have ho := okBun_of hg ha
  simp only [cond_false]
  refine bind_of (rightB_eq hK0 ho) ?_
  cases hr : rightB x with
  | false => rfl
  | true =>
  simp only [Bool.not_true, cond_false]
  obtain ⟨w, ⟨size, root, sigs⟩, items⟩ := x
  cases w with
  | true => rfl
  | false =>
  simp only [cond_false]
  by_cases h0 : (items.length : Int) = 0
  · rw [dec_t h0]; rfl
  rw [dec_f h0]
  simp only [cond_false, Bool.not_false, chk, cond_true, Option.bind_some]
  have hp := rightP hr
  have hl := hp.len
  simp only at hl
  have hw : IntKind.wrap .i64 k = k := wrap64 (by omega) (by omega)
  have ht : Int.tmod k (items.length : Int) = ((k.toNat % items.length : Nat) : Int) := tmod_nat hk.1 _
  rw [hw, ht]
  generalize hm : k.toNat % items.length = m
  have hml : m < items.length := by rw [← hm]; exact Nat.mod_lt _ (by omega)
  refine bind_of (subI_0 (by omega)) ?_
  refine bind_of (catI_ok (by simp; omega)) ?_
  rw [wrap_succ (by omega)]
  refine bind_of (subI_all (by omega)) ?_
  refine bind_of (catI_ok (by simp; omega)) ?_
  rw [List.nil_append]
  have hsub : ∀ y ∈ items.take m ++ items.drop (m + 1), y ∈ items := by
    intro y hy
    rcases List.mem_append.1 hy with hy | hy
    · exact List.mem_of_mem_take hy
    · exact List.mem_of_mem_drop hy
  have hll : (items.take m ++ items.drop (m + 1)).length + 1 = items.length := by simp; omega
  obtain ⟨y, hy⟩ := split_at hml
  have hri : itemsOk false size (-1) 0 (items.take m ++ items.drop (m + 1)) = true := items_less m hp.ok
  generalize hit : items.take m ++ items.drop (m + 1) = it2 at hsub hll hri
  have hob : okBun ⟨false, ⟨size, root, sigs⟩, it2⟩ := ⟨ho.sigs, by have := ho.len; simp only at this ⊢; omega, fun y hy => ho.items y (hsub y hy)⟩
  have hrb : rightB ⟨false, ⟨size, root, sigs⟩, it2⟩ = true := by
    unfold rightB at hr ⊢
    simp only [Bool.and_eq_true, Bool.not_false, Bool.true_or, true_and] at hr ⊢
    exact ⟨hr.1, by have := of_decide_eq_true hr.2.1; exact dec_t (by omega), hri⟩
  refine bind_of (rightB_eq hK0 hob) ?_
  rw [hrb]
  simp only [cond_true]
  refine bind_of (put_eq hK0 hob) ?_
  refine bind_of (put_eq hK0 ho) ?_
  rw [hrb, hr]
  simp only [cond_true]
  have hlen : (mark ++ bunW ⟨false, ⟨size, root, sigs⟩, it2⟩).length < (mark ++ bunW ⟨false, ⟨size, root, sigs⟩, items⟩).length := by
    have e1 : (items.map itemW).flatten.length = (it2.map itemW).flatten.length + (itemW y).length := by
      rw [← hit]
      conv => lhs; rw [hy]
      simp; omega
    have e2 := itemW_len (hp.items y (by show y ∈ items; rw [hy]; simp))
    have e3 := numS_mono' (n := it2.length) (m := items.length) (by omega)
    simp only [bunW, itemsW, cond_false, List.length_append]
    omega
  rw [bif_true (dec_t (by omega))]
  refine bind_of (bun_same hK0 ho hob) ?_
  have hne : ¬ ((⟨false, ⟨size, root, sigs⟩, items⟩ : Bun) = ⟨false, ⟨size, root, sigs⟩, it2⟩) := fun e => by
    have := congrArg (fun b : Bun => b.fItems.length) e
    simp only at this
    omega
  rw [dec_f hne]
  rfl
end Go.Proofs.Ytnnhkfmknlfpbaa
