/-
  The plain law of BundleSigs.
-/
import Derived.Test.YtnnhkfmknlfpbaaPureGr
namespace Go.Proofs.Ytnnhkfmknlfpbaa
open Go Go.Sep

/-! ### a signature more -/
theorem law_BundleSigs {K : Nat} (hK : K = 1000000000000) (x : Bun) (w : Int) (tag : Vector Int 32) (ha : argBun x) (ht : isB (vlist tag)) : inspeximuslaw17_BundleSigs.f K x w tag = some true := by
  subst hK
  unfold inspeximuslaw17_BundleSigs.f
  refine bind_of alive17 ?_
  simp only [Bool.not_true, cond_false, jn]
  refine bind_of (great_eq hK0 x) ?_
  cases hg : greatB x with
  | true => rfl
  | false =>
  have ho := okBun_of hg ha
  simp only [cond_false]
  refine bind_of (rightB_eq hK0 ho) ?_
  cases hr : rightB x with
  | false => rfl
  | true =>
  simp only [Bool.not_true, cond_false, Option.bind_some]
  obtain ⟨wh, ⟨size, root, sigs⟩, items⟩ := x
  have hp := rightP hr
  have hsl := hp.sigs
  simp only at hsl
  simp only
  refine bind_of (catI_ok (by simp; omega)) ?_
  refine bind_of (catI_ok (by simp; omega)) ?_
  rw [List.nil_append]
  have hob : okBun ⟨wh, ⟨size, root, sigs ++ [⟨w, tag⟩]⟩, items⟩ := ⟨by simp; omega, ho.len, ho.items⟩
  have hab : argBun ⟨wh, ⟨size, root, sigs ++ [⟨w, tag⟩]⟩, items⟩ := ⟨ha.root, fun s hs => by
    rcases List.mem_append.1 hs with hs | hs
    · exact ha.tags s hs
    · rw [List.mem_singleton] at hs; subst hs; exact ht, ha.recs, ha.path⟩
  have hrb : rightB ⟨wh, ⟨size, root, sigs ++ [⟨w, tag⟩]⟩, items⟩ = (decide (0 ≤ w) && (decide (w < 4) && decide ((sigs.length : Int) < 4))) := by
    unfold rightB pointOk at hr ⊢
    simp only [Bool.and_eq_true] at hr
    obtain ⟨⟨h1, h2, h3⟩, h4, h5, h6⟩ := hr
    simp only [h1, h4, h5, h6, Bool.and_true, Bool.true_and, List.all_append, h3]
    rw [Bool.eq_iff_iff]
    simp only [sigOk, inn, List.all_cons, List.all_nil, Bool.and_true, Bool.and_eq_true, decide_eq_true_eq, List.length_append, List.length_singleton]
    omega
  have fin : ∀ may : Bool, rightB ⟨wh, ⟨size, root, sigs ++ [⟨w, tag⟩]⟩, items⟩ = may →
      ((bundle_Right.f 1000000000000 ⟨wh, ⟨size, root, sigs ++ [⟨w, tag⟩]⟩, items⟩).bind fun (r383 : Bool) => (bif (!(r383 == may)) then (some false) else (bif (!may) then ((bundle_Put.f 1000000000000 ⟨wh, ⟨size, root, sigs ++ [⟨w, tag⟩]⟩, items⟩).bind fun (r398 : List Int) => (some (decide (((List.length (r398) : Nat) : Int) = (0 : Int)))))
        else ((bundle_Put.f 1000000000000 ⟨wh, ⟨size, root, sigs ++ [⟨w, tag⟩]⟩, items⟩).bind fun (r408 : List Int) => ((bundle_Get.f 1000000000000 (r408)).bind fun (r423 : (Bun × Int)) => (bif (decide (r423.2 = (0 : Int))) then ((bundle_Same.f 1000000000000 ⟨wh, ⟨size, root, sigs ++ [⟨w, tag⟩]⟩, items⟩ (r423.1)).bind fun (r511 : (Bool)) => (bif r511 then ((bundle_Put.f 1000000000000 ⟨wh, ⟨size, root, sigs ++ [⟨w, tag⟩]⟩, items⟩).bind fun (r516 : List Int) => ((bundle_Put.f 1000000000000 ⟨wh, ⟨size, root, sigs⟩, items⟩).bind fun (r526 : List Int) => (some (decide (((List.length (r516) : Nat) : Int) = (IntKind.wrap .i64 (((List.length (r526) : Nat) : Int) + (33 : Int)))))))) else (some false))) else (some false))))))) = some true := by
    intro may hmay
    refine bind_of (rightB_eq hK0 hob) ?_
    rw [hmay]
    rw [bif_false (by simp)]
    cases may with
    | false =>
      simp only [Bool.not_false, cond_true]
      refine bind_of (put_eq hK0 hob) ?_
      rw [hmay]; rfl
    | true =>
      simp only [Bool.not_true, cond_false]
      refine bind_of (put_eq hK0 hob) ?_
      rw [hmay]
      simp only [cond_true]
      have hl := put_len hmay
      have hl2 := put_len hr
      refine bind_of (get_eq hK0 (put_isB hab) (by omega)) ?_
      rw [get_put hmay hab]
      simp only [decide_true, cond_true]
      refine bind_of (bun_same hK0 hob hob) ?_
      rw [bif_true (by simp)]
      refine bind_of (put_eq hK0 hob) ?_
      refine bind_of (put_eq hK0 ho) ?_
      rw [hmay, hr]
      simp only [cond_true]
      refine congrArg some (dec_t ?_)
      rw [wrap64 (by omega) (by omega)]
      rw [hmay] at hrb
      have hrb := hrb.symm
      simp only [Bool.and_eq_true, decide_eq_true_eq] at hrb
      have n1 : ∀ n : Nat, n < 128 → (numS n).length = 1 := fun n hn => by
        unfold numS
        rw [show n / 128 = 0 by omega, hiB_zero]; rfl
      have e1 := n1 sigs.length (by omega)
      have e2 := n1 (sigs.length + 1) (by omega)
      have e3 := n1 w.toNat (by omega)
      simp only [bunW, sigsW, List.length_append, List.map_append, List.flatten_append, List.map_cons, List.map_nil, List.flatten_cons, List.flatten_nil, sigW, numW, List.length_singleton, e1, e2, e3, vlist_length, List.length_nil]
      omega
  by_cases h1 : 0 ≤ w
  · rw [dec_t h1]
    simp only [cond_true]
    by_cases h2 : w < 4
    · rw [dec_t h2]
      simp only [cond_true]
      exact fin _ (by rw [hrb, dec_t h1, dec_t h2]; simp)
    · rw [dec_f h2]
      simp only [cond_false]
      exact fin _ (by rw [hrb, dec_t h1, dec_f h2]; simp)
  · rw [dec_f h1]
    simp only [cond_false]
    exact fin _ (by rw [hrb, dec_f h1]; simp)
end Go.Proofs.Ytnnhkfmknlfpbaa
