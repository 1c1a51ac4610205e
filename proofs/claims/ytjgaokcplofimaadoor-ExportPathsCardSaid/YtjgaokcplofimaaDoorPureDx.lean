/-
 Plain: sealed bytes, as the program puts them.
-/
import Derived.Test.YtjgaokcplofimaaDoorPureC
namespace Go.Proofs.YtjgaokcplofimaaDoor
open Go Go.Sep
theorem seal_eq {K : Nat} (hK : 1000000000000 ≤ K) {x : Rc} (ho : okD x) : rec_Sealed.f K x = some (bif rightS x then sealW K x else []) := by
 unfold rec_Sealed.f rec_put.f
 rw [right_eq hK ho]
 simp only [Option.bind_some, jn]
 cases hr : rightS x with
 | false => rfl
 | true =>
 rw [bif_false (by rfl)]
 have hd := rightD hr
 rw [num_w hK (kind_N hr)]
 simp only [Option.bind_some]
 have hb := bodyW_len hr
 have hk := numW_len (kind_N hr)
 have w1 := numW_len hd.saga
 have w2 := numW_len hd.part
 have w3 := numW_len hd.epoch
 rw [show rec_forms.f K = some () from rfl]
 simp only [Option.bind_some]
 have e : ∀ k, x.fKind = k → k ≠ 1 → sealW K x = numW x.fKind ++ bodyW k x := fun k hk h1 => by
  unfold sealW sealB
  rw [bif_false (dec_f (by rw [hk]; exact h1)), hk]
 rcases hd.kind with k | k | k | k | k | k
 ·obtain ⟨b1, b2, b3⟩ := hd.beg k
  have b1 := inn_iff.1 b1
  have hl := stepsW_len b2 (by omega)
  rw [bif_false (dec_f (by omega)), bif_true (dec_t k), begin_eq hK hd.saga (by omega) b2]
  simp only [Option.bind_some]
  rw [all_eq hK (by simp; omega) (by simp)]
  simp only [Option.bind_some]
  rw [bif_true (dec_t k)]
  have hL : rec_Sealed_1.f K x = some (vlist (comS K x)) := by
   unfold rec_Sealed_1.f
   refine bind_of (com_eq hK ho) ?_
   rw [hash_eq]
   rfl
  rw [hL]
  simp only [Option.bind_some, cond_true]
  have hsl := sealW_len (K := K) hr
  unfold sealW sealB at hsl ⊢
  rw [bif_true (dec_t k)] at hsl ⊢
  simp only [List.length_append, vlist_length] at hsl
  rw [catI_ok (by simp [vlist_length]; omega)]
  simp
 ·have h4 := hd.call (.inl k)
  rw [bif_false (dec_f (by omega)), bif_false (dec_f (by omega)), bif_true (dec_t k), call_eq hK hd.saga h4.1 h4.2.1 h4.2.2]
  simp only [Option.bind_some]
  rw [e 2 k (by decide)]
  simp only [bodyW, k] at hb ⊢
  simp at hb
  rw [all_eq hK (by simp [k] at hk ⊢; omega) (by simp)]
  simp
 ·have h4 := hd.call (.inr (.inr k))
  rw [bif_false (dec_f (by omega)), bif_false (dec_f (by omega)), bif_false (dec_f (by omega)), bif_true (dec_t k)]
  have hL : rec_forms_1.f K x = some (bodyW 3 x) := by
   unfold rec_forms_1.f
   rw [call_eq hK hd.saga h4.1 h4.2.1 h4.2.2]
   simp only [Option.bind_some]
   rw [flag_eq]
   simp only [Option.bind_some]
   rw [nums_eq hK (by simp) (by intro n hn; simp at hn; rcases hn with rfl | rfl; exact hd.part; exact hd.epoch)]
   simp only [Option.bind_some]
   rw [hash_eq]
   simp only [Option.bind_some]
   simp only [k, bodyW] at hb
   simp [vlist_length] at hb
   rw [all_eq hK (by simp [vlist_length]; omega) (by simp)]
   simp [bodyW]
  rw [hL]
  simp only [Option.bind_some]
  rw [e 3 k (by decide)]
  simp only [k] at hb hk ⊢
  rw [all_eq hK (by simp; omega) (by simp)]
  simp
 ·have h4 := hd.call (.inr (.inl k))
  rw [bif_false (dec_f (by omega)), bif_false (dec_f (by omega)), bif_false (dec_f (by omega)), bif_false (dec_f (by omega)), bif_true (dec_t k), call_eq hK hd.saga h4.1 h4.2.1 h4.2.2]
  simp only [Option.bind_some]
  rw [e 4 k (by decide)]
  simp only [bodyW, k] at hb ⊢
  simp at hb
  rw [all_eq hK (by simp [k] at hk ⊢; omega) (by simp)]
  simp
 ·have h4 := hd.clo k
  rw [bif_false (dec_f (by omega)), bif_false (dec_f (by omega)), bif_false (dec_f (by omega)), bif_false (dec_f (by omega)), bif_false (dec_f (by omega)), bif_true (dec_t k)]
  have hL : rec_forms_2.f K x = some (bodyW 5 x) := by
   unfold rec_forms_2.f
   rw [nums_eq hK (by simp) (by intro n hn; simp at hn; rcases hn with rfl | rfl | rfl; exact hd.saga; exact h4.1; exact h4.2)]
   simp [bodyW]
  rw [hL]
  simp only [Option.bind_some]
  rw [e 5 k (by decide)]
  simp only [k] at hb hk ⊢
  rw [all_eq hK (by simp; omega) (by simp)]
  simp
 ·rw [bif_false (dec_f (by omega)), bif_false (dec_f (by omega)), bif_false (dec_f (by omega)), bif_false (dec_f (by omega)), bif_false (dec_f (by omega)), bif_false (dec_f (by omega)), bif_true (dec_t k)]
  have hL : rec_forms_3.f K x = some (bodyW 6 x) := by
   unfold rec_forms_3.f
   rw [nums_eq hK (by simp) (by intro n hn; simp at hn; rcases hn with rfl | rfl; exact hd.part; exact hd.epoch)]
   simp [bodyW]
  rw [hL]
  simp only [Option.bind_some]
  rw [e 6 k (by decide)]
  simp only [k] at hb hk ⊢
  rw [all_eq hK (by simp; omega) (by simp)]
  simp
end Go.Proofs.YtjgaokcplofimaaDoor
