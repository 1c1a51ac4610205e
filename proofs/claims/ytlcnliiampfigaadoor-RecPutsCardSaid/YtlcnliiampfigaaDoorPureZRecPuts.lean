/-
 The plain law of RecPuts: the document's bytes of a record.
-/
import Derived.Test.YtlcnliiampfigaaDoorPureB
namespace Go.Proofs.YtlcnliiampfigaaDoor
open Go Go.Sep
theorem ref_num {K : Nat} : ∀ (n k : Nat), n < k → n < 2147483648 → inspeximusref03_Num.r K k (n : Int) = some (numS n) := by
 intro n
 induction n using Nat.strongRecOn with
 | _ n ih =>
  intro k hk hn
  obtain ⟨k, rfl⟩ : ∃ j, k = j + 1 := ⟨k - 1, by omega⟩
  show inspeximusref03_Num.b K (inspeximusref03_Num.r K k) _ = _
  unfold inspeximusref03_Num.b
  simp only [jn]
  rw [bif_false (dec_f (by omega)), bif_false (dec_f (by omega))]
  by_cases h : n < 128
  ·rw [bif_true (dec_t (by omega)), wrap8 (by omega) (by omega)]
   unfold numS
   rw [show n / 128 = 0 by omega, hiB_zero, show n % 128 = n by omega]; rfl
  ·rw [bif_false (dec_f (by omega))]
   have e1 : IntKind.wrap .i64 (Int.tdiv (n : Int) 128) = ((n / 128 : Nat) : Int) := by
    rw [Int.tdiv_eq_ediv_of_nonneg (by omega), wrap64 (by omega) (by omega)]; omega
   have e2 : IntKind.wrap .u8 (Int.tmod (n : Int) 128) = ((n % 128 : Nat) : Int) := by
    rw [Int.tmod_eq_emod_of_nonneg (by omega), wrap8 (by omega) (by omega)]; omega
   rw [e1, e2, ih (n / 128) (by omega) k (by omega) (by omega)]
   simp only [Option.bind_some]
   have hl := hiB_len 4 (n / 128 / 128) (by omega)
   have e3 : IntKind.wrap .i64 (((numS (n / 128)).length : Nat) - 1 : Int) = ((hiB (n / 128 / 128)).length : Int) := by
    have hlen : (numS (n / 128)).length = (hiB (n / 128 / 128)).length + 1 := by simp [numS]
    rw [wrap64 (by omega) (by omega)]; omega
   rw [e3, getI_nat]
   have e4 : (numS (n / 128))[(hiB (n / 128 / 128)).length]? = some ((n / 128 % 128 : Nat) : Int) := by simp [numS]
   rw [e4]
   simp only [Option.bind_some]
   rw [wrap8 (by omega) (by omega)]
   have e5 : List.set (numS (n / 128)) (Int.toNat ((hiB (n / 128 / 128)).length : Int)) (((n / 128 % 128 : Nat) : Int) + 128) = hiB (n / 128) := by
    rw [hiB_pos (n := n / 128) (by omega)]
    simp [numS]
   rw [e5]
   have hl2 := hiB_len 4 (n / 128) (by omega)
   rw [catI_ok (by simp; omega)]
   rfl
theorem refN {K : Nat} (hK : 1000000000000 ≤ K) {n : Int} (h : inN n) : inspeximusref03_Num.f K n = some (numW n) := by
 have := ref_num (K := K) n.toNat K (by omega) (by omega)
 rw [Int.toNat_of_nonneg h.1] at this
 exact this
theorem rflag_w {K : Nat} (b : Bool) : inspeximusref04_flag.f K b = some (flagI b) := by cases b <;> rfl
theorem rbytes_w {K : Nat} (hK : 1000000000000 ≤ K) {b : List Int} (h : b.length < 1000000) : inspeximusref03_Bytes.f K b = some (numS b.length ++ b) := by
 unfold inspeximusref03_Bytes.f
 have hn := numS_len (n := b.length) (by omega)
 refine bind_of (refN hK (n := ((b.length : Nat) : Int)) ⟨by omega, by omega⟩) ?_
 unfold numW
 rw [Int.toNat_natCast, catI_ok (by omega)]
 rfl
theorem psteps_eq {K : Nat} (hK : 1000000000000 ≤ K) {x : Rc} (s : List Int) (hs : s.length < 1000) (h1 : x.fSteps.length ≤ 6) (h2 : x.fSteps.all stepOk = true) : inspeximusref04_Put_l1.l K x K (s, 0) = some (s ++ (x.fSteps.map stepW).flatten) := by
 have hfl : (x.fSteps.map stepW).flatten.length ≤ 10 * x.fSteps.length := flat_len (fun s hs => by
  have := step_N (List.all_eq_true.1 h2 s hs)
  have h3 := numW_len this.1
  have h4 := numW_len this.2
  simp only [stepW, List.length_append]; omega)
 exact cat_loop (L := inspeximusref04_Put_l1.l K x) x.fSteps stepW s (k := K) (by omega)
  (fun k s => by
   show inspeximusref04_Put_l1.b K x (inspeximusref04_Put_l1.l K x k) _ = _
   unfold inspeximusref04_Put_l1.b
   rw [bif_false (dec_f (by simp))])
  (fun k s i y hi hx hm hs => by
   show inspeximusref04_Put_l1.b K x (inspeximusref04_Put_l1.l K x k) _ = _
   unfold inspeximusref04_Put_l1.b
   rw [bif_true (dec_t (by simp only; omega))]
   have hy := step_N (List.all_eq_true.1 h2 y hm)
   simp only [stepW, List.length_append] at hs
   refine bind_of hx ?_
   refine bind_of (refN hK hy.1) ?_
   refine bind_of (catI_ok (by simp only; omega)) ?_
   refine bind_of hx ?_
   refine bind_of (refN hK hy.2) ?_
   refine bind_of (catI_ok (by simp only [List.length_append]; omega)) ?_
   rw [wrap_succ (by omega)]
   simp only [stepW, List.append_assoc])
  (by omega)
theorem arr_part {N : Nat} (v : Vector Int N) : subI (vlist v) 0 ((N : Nat) : Int) = some (vlist v) := by
 have hs := subI_0 (l := vlist v) (b := N) (by rw [vlist_length]; omega)
 rw [List.take_of_length_le (by rw [vlist_length]; omega)] at hs
 exact hs
theorem rput_eq {K : Nat} (hK : 1000000000000 ≤ K) {x : Rc} (ho : okD x) (hb : okB x) (op : Bool) : inspeximusref04_Put.f K x op = some (bif rightS x then (bif op then openW x else sealW K x) else []) := by
 unfold inspeximusref04_Put.f
 refine bind_of (rright_eq hK ho) ?_
 cases hr : rightS x with
 | false => rfl
 | true =>
 rw [bif_false (by rfl)]
 simp only [cond_true]
 have hd := rightD hr
 have hkN := kind_N hr
 have hk := numW_len hkN
 have w1 := numW_len hd.saga
 have w2 := numW_len hd.part
 have w3 := numW_len hd.epoch
 refine bind_of (refN hK hkN) ?_
 rw [show ∀ (f : (List Int → Option (List Int)) → Option (List Int)), jn (fun y => some y) f = f (fun y => some y) from fun _ => rfl]
 try dsimp only
 by_cases k1 : x.fKind = 1
 ·obtain ⟨b1, b2, b3⟩ := hd.beg k1
  have b1 := inn_iff.1 b1
  have hl := stepsW_len b2 (by omega)
  have hn := numS_len (n := x.fSteps.length) (by omega)
  have hn2 := numS_len (n := x.fData.length) (by omega)
  have hst : stepsW x.fSteps = numS x.fSteps.length ++ (x.fSteps.map stepW).flatten := rfl
  rw [hst, List.length_append] at hl
  rw [bif_true (dec_t k1)]
  unfold jn
  simp only
  refine bind_of (refN hK hd.saga) ?_
  refine bind_of (catI_ok (by omega)) ?_
  refine bind_of (refN hK (n := ((x.fSteps.length : Nat) : Int)) ⟨by omega, by omega⟩) ?_
  have en : numW ((x.fSteps.length : Nat) : Int) = numS x.fSteps.length := by unfold numW; rw [Int.toNat_natCast]
  rw [en]
  refine bind_of (catI_ok (by simp only [List.length_append]; omega)) ?_
  refine bind_of (psteps_eq hK _ (by simp only [List.length_append]; omega) (by omega) b2) ?_
  refine bind_of (rcom_eq hK ho hb) ?_
  have es : sealW K x = numW x.fKind ++ (numW x.fSaga ++ (stepsW x.fSteps ++ vlist (comS K x))) := by
   unfold sealW sealB
   rw [bif_true (dec_t k1)]
  have eo : openW x = numW x.fKind ++ (numW x.fSaga ++ (stepsW x.fSteps ++ loadW x)) := by
   unfold openW bodyW
   rw [if_pos k1]
  have vl : ∀ v : H32, (vlist v).length = 32 := fun v => vlist_length v
  cases op with
  | false =>
   simp only [cond_false]
   refine bind_of (arr_part _) ?_
   refine bind_of (catI_ok (by simp only [List.length_append, vl]; omega)) ?_
   rw [es, hst]
   simp only [List.append_assoc]
  | true =>
   simp only [cond_true]
   refine bind_of (rflag_w _) ?_
   refine bind_of (catI_ok (by simp only [List.length_append, List.length_singleton]; omega)) ?_
   rw [eo, hst]
   unfold loadW
   cases hg : x.fGone with
   | true =>
    simp only [Bool.not_true, cond_false, cond_true]
    have hbg : begS x = true := by unfold begS; rw [hr, dec_t k1]; rfl
    have hc : comS K x = x.fCom := by unfold comS; rw [hbg, hg]; rfl
    rw [hc]
    refine bind_of (arr_part _) ?_
    refine bind_of (catI_ok (by simp only [List.length_append, List.length_singleton, vl]; omega)) ?_
    simp only [List.append_assoc]
   | false =>
    simp only [Bool.not_false, cond_false, cond_true]
    refine bind_of (arr_part _) ?_
    refine bind_of (catI_ok (by simp only [List.length_append, List.length_singleton, vl]; omega)) ?_
    refine bind_of (rbytes_w hK (by omega)) ?_
    refine bind_of (catI_ok (by simp only [List.length_append, List.length_singleton, vl]; omega)) ?_
    simp only [List.append_assoc]
 ·have eo : ∀ k, x.fKind = k → (bif op then openW x else sealW K x) = numW x.fKind ++ bodyW k x := fun k h => by
   unfold openW sealW sealB
   rw [bif_false (dec_f k1), h]
   cases op <;> rfl
  rw [bif_false (dec_f k1)]
  have vl : ∀ v : H32, (vlist v).length = 32 := fun v => vlist_length v
  by_cases kc : x.fKind = 2 ∨ x.fKind = 3 ∨ x.fKind = 4
  ·have h4 := hd.call (by omega)
   have q1 := numW_len h4.1
   have q2 := numW_len h4.2.1
   have q3 := numW_len h4.2.2
   refine Eq.trans (jn_val true (fun j => by rcases kc with k | k | k <;> simp [k])) ?_
   simp only [cond_true]
   refine bind_of (refN hK hd.saga) ?_
   refine bind_of (catI_ok (by omega)) ?_
   refine bind_of (refN hK h4.1) ?_
   refine bind_of (catI_ok (by simp only [List.length_append]; omega)) ?_
   refine bind_of (refN hK h4.2.1) ?_
   refine bind_of (catI_ok (by simp only [List.length_append]; omega)) ?_
   refine bind_of (refN hK h4.2.2) ?_
   refine bind_of (catI_ok (by simp only [List.length_append]; omega)) ?_
   refine bind_of (rflag_w _) ?_
   refine bind_of (catI_ok (by simp only [List.length_append, List.length_singleton]; omega)) ?_
   by_cases k3 : x.fKind = 3
   ·rw [bif_true (dec_t k3)]
    refine bind_of (rflag_w _) ?_
    refine bind_of (catI_ok (by simp only [List.length_append, List.length_singleton]; omega)) ?_
    refine bind_of (refN hK hd.part) ?_
    refine bind_of (catI_ok (by simp only [List.length_append, List.length_singleton]; omega)) ?_
    refine bind_of (refN hK hd.epoch) ?_
    refine bind_of (catI_ok (by simp only [List.length_append, List.length_singleton]; omega)) ?_
    refine bind_of (arr_part _) ?_
    refine bind_of (catI_ok (by simp only [List.length_append, List.length_singleton, vl]; omega)) ?_
    rw [eo 3 k3]
    simp [bodyW, callW]
   ·rw [bif_false (dec_f k3)]
    rcases kc with k | k | k
    ·rw [eo 2 k]; simp [bodyW, callW]
    ·exact absurd k k3
    ·rw [eo 4 k]; simp [bodyW, callW]
  ·refine Eq.trans (jn_val false (fun j => by rw [dec_f (show ¬ x.fKind = 2 by omega), dec_f (show ¬ x.fKind = 3 by omega), dec_f (show ¬ x.fKind = 4 by omega)]; rfl)) ?_
   simp only [cond_false]
   by_cases k5 : x.fKind = 5
   ·have h4 := hd.clo k5
    have q1 := numW_len h4.1
    have q2 := numW_len h4.2
    rw [bif_true (dec_t k5)]
    refine bind_of (refN hK hd.saga) ?_
    refine bind_of (catI_ok (by omega)) ?_
    refine bind_of (refN hK h4.1) ?_
    refine bind_of (catI_ok (by simp only [List.length_append]; omega)) ?_
    refine bind_of (refN hK h4.2) ?_
    refine bind_of (catI_ok (by simp only [List.length_append]; omega)) ?_
    rw [eo 5 k5]
    simp [bodyW]
   ·have k6 : x.fKind = 6 := by have := hd.kind; omega
    rw [bif_false (dec_f k5)]
    refine bind_of (refN hK hd.part) ?_
    refine bind_of (catI_ok (by omega)) ?_
    refine bind_of (refN hK hd.epoch) ?_
    refine bind_of (catI_ok (by simp only [List.length_append]; omega)) ?_
    rw [eo 6 k6]
    simp [bodyW]
theorem law_RecPuts {K : Nat} (hK : 1000000000000 ≤ K) (x : Rc) (bx : okB x) : inspeximuslaw04_RecPuts.f K x = some true := by
 unfold inspeximuslaw04_RecPuts.f
 refine bind_of (alive04 hK) ?_
 simp only [Bool.not_true, cond_false]
 refine bind_of (greatR_eq x) ?_
 cases hg : greatR x with
 | true => rfl
 | false =>
 have hx := okD_of hg bx
 simp only [cond_false]
 refine bind_of (seal_eq hK hx) ?_
 refine bind_of (rput_eq hK hx bx false) ?_
 have h1 : (bif rightS x then sealW K x else []).length < 1000000 := by
  cases hr : rightS x with
  | false => simp
  | true => have := sealW_len (K := K) hr; simp only [cond_true]; omega
 have h2 : (bif rightS x then openW x else []).length < 1000000 := by
  cases hr : rightS x with
  | false => simp
  | true => have := openW_len hr; simp only [cond_true]; omega
 refine bind_of (ref_same (by omega) (by omega)) ?_
 rw [bif_true (by simp)]
 refine bind_of (open_eq hK hx) ?_
 refine bind_of (rput_eq hK hx bx true) ?_
 refine bind_of (ref_same (by omega) (by omega)) ?_
 simp
end Go.Proofs.YtlcnliiampfigaaDoor
