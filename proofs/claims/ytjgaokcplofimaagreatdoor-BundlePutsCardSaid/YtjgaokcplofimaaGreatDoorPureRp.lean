/-
 Plain: the document's bytes of a record.
-/
import Derived.Test.YtjgaokcplofimaaGreatDoorPureB
namespace Go.Proofs.YtjgaokcplofimaaGreatDoor
open Go Go.Sep
theorem ref_num {K : Nat} : ∀ (n k : Nat), n < k → n < 2147483648 → inspeximusref03_Num.r K k (n : Int) = some (numS n) := by
 intro n
 induction n using Nat.strongRecOn with
 | _ n ih =>
  intro k hk hn
  obtain ⟨k, rfl⟩ : ∃ j, k = j + 1 := ⟨k - 1, by omega⟩
  show inspeximusref03_Num.b K (inspeximusref03_Num.r K k) _ = _
  unfold inspeximusref03_Num.b
  simp only [jn]
  rw [bif_false (dec_f (by omega)), bif_false (dec_f (by omega))]
  by_cases h : n < 128
  ·rw [bif_true (dec_t (by omega)), wrap8 (by omega) (by omega)]
   unfold numS
   rw [show n / 128 = 0 by omega, hiB_zero, show n % 128 = n by omega]; rfl
  ·rw [bif_false (dec_f (by omega))]
   have e1 : IntKind.wrap .i64 (Int.tdiv (n : Int) 128) = ((n / 128 : Nat) : Int) := by
    rw [Int.tdiv_eq_ediv_of_nonneg (by omega), wrap64 (by omega) (by omega)]; omega
   have e2 : IntKind.wrap .u8 (Int.tmod (n : Int) 128) = ((n % 128 : Nat) : Int) := by
    rw [Int.tmod_eq_emod_of_nonneg (by omega), wrap8 (by omega) (by omega)]; omega
   rw [e1, e2, ih (n / 128) (by omega) k (by omega) (by omega)]
   simp only [Option.bind_some]
   have hl := hiB_len 4 (n / 128 / 128) (by omega)
   have e3 : IntKind.wrap .i64 (((numS (n / 128)).length : Nat) - 1 : Int) = ((hiB (n / 128 / 128)).length : Int) := by
    have hlen : (numS (n / 128)).length = (hiB (n / 128 / 128)).length + 1 := by simp [numS]
    rw [wrap64 (by omega) (by omega)]; omega
   rw [e3, getI_nat]
   have e4 : (numS (n / 128))[(hiB (n / 128 / 128)).length]? = some ((n / 128 % 128 : Nat) : Int) := by simp [numS]
   rw [e4]
   simp only [Option.bind_some]
   rw [wrap8 (by omega) (by omega)]
   have e5 : List.set (numS (n / 128)) (Int.toNat ((hiB (n / 128 / 128)).length : Int)) (((n / 128 % 128 : Nat) : Int) + 128) = hiB (n / 128) := by
    rw [hiB_pos (n := n / 128) (by omega)]
    simp [numS]
   rw [e5]
   have hl2 := hiB_len 4 (n / 128) (by omega)
   rw [catI_ok (by simp; omega)]
   rfl
theorem refN {K : Nat} (hK : 1000000000000 ≤ K) {n : Int} (h : inN n) : inspeximusref03_Num.f K n = some (numW n) := by
 have := ref_num (K := K) n.toNat K (by omega) (by omega)
 rw [Int.toNat_of_nonneg h.1] at this
 exact this
theorem rflag_w {K : Nat} (b : Bool) : inspeximusref04_flag.f K b = some (flagI b) := by cases b <;> rfl
theorem rbytes_w {K : Nat} (hK : 1000000000000 ≤ K) {b : List Int} (h : b.length < 1000000) : inspeximusref03_Bytes.f K b = some (numS b.length ++ b) := by
 unfold inspeximusref03_Bytes.f
 have hn := numS_len (n := b.length) (by omega)
 refine bind_of (refN hK (n := ((b.length : Nat) : Int)) ⟨by omega, by omega⟩) ?_
 unfold numW
 rw [Int.toNat_natCast, catI_ok (by omega)]
 rfl
theorem psteps_eq {K : Nat} (hK : 1000000000000 ≤ K) {x : Rc} (s : List Int) (hs : s.length < 1000) (h1 : x.fSteps.length ≤ 6) (h2 : x.fSteps.all stepOk = true) : inspeximusref04_Put_l1.l K x K (s, 0) = some (s ++ (x.fSteps.map stepW).flatten) := by
 have hfl : (x.fSteps.map stepW).flatten.length ≤ 10 * x.fSteps.length := flat_len (fun s hs => by
  have := step_N (List.all_eq_true.1 h2 s hs)
  have h3 := numW_len this.1
  have h4 := numW_len this.2
  simp only [stepW, List.length_append]; omega)
 exact cat_loop (L := inspeximusref04_Put_l1.l K x) x.fSteps stepW s (k := K) (by omega)
  (fun k s => by
   show inspeximusref04_Put_l1.b K x (inspeximusref04_Put_l1.l K x k) _ = _
   unfold inspeximusref04_Put_l1.b
   rw [bif_false (dec_f (by simp))])
  (fun k s i y hi hx hm hs => by
   show inspeximusref04_Put_l1.b K x (inspeximusref04_Put_l1.l K x k) _ = _
   unfold inspeximusref04_Put_l1.b
   rw [bif_true (dec_t (by simp only; omega))]
   have hy := step_N (List.all_eq_true.1 h2 y hm)
   simp only [stepW, List.length_append] at hs
   refine bind_of hx ?_
   refine bind_of (refN hK hy.1) ?_
   refine bind_of (catI_ok (by simp only; omega)) ?_
   refine bind_of hx ?_
   refine bind_of (refN hK hy.2) ?_
   refine bind_of (catI_ok (by simp only [List.length_append]; omega)) ?_
   rw [wrap_succ (by omega)]
   simp only [stepW, List.append_assoc])
  (by omega)
theorem arr_part {N : Nat} (v : Vector Int N) : subI (vlist v) 0 ((N : Nat) : Int) = some (vlist v) := by
 have hs := subI_0 (l := vlist v) (b := N) (by rw [vlist_length]; omega)
 rw [List.take_of_length_le (by rw [vlist_length]; omega)] at hs
 exact hs
end Go.Proofs.YtjgaokcplofimaaGreatDoor
