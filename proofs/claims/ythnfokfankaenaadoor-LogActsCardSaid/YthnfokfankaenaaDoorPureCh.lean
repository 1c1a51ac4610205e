/-
 Plain: a log's chain, and the document's.
-/
import Derived.Test.YthnfokfankaenaaDoorPureI
namespace Go.Proofs.YthnfokfankaenaaDoor
open Go Go.Sep
theorem chain_eq {K : Nat} (a : At) (d : List Int) (la r : Int) : log_Log_Chain.f K a d la r = some a.fChain := by
 unfold log_Log_Chain.f
 rw [vz]
 show (bif decide (a.fCount = 0) && (decide (a.fChain = zH) && true) then _ else _) = _
 cases h : decide (a.fCount = 0) && (decide (a.fChain = zH) && true) with
 | false => rfl
 | true =>
  simp only [Bool.and_true, Bool.and_eq_true, decide_eq_true_eq] at h
  rw [h.2]; rfl
theorem of5 {K : Nat} (hK : 1000000000000 ≤ K) {h : H32} {b : List Int} (hh : isB (vlist h)) (hb : isB b) (hl : b.length ≤ 10000) : inspeximusref02_Of.f K 5 [vlist h, b] = some (chS K h b) := by
 obtain ⟨r, h1, h2, _⟩ := of_same (K := K) hK (d := 5) (l := [vlist h, b]) (by simp) (fun x hx => by
  simp at hx
  rcases hx with rfl | rfl
  ·exact ⟨by rw [vlist_length]; omega, hh⟩
  ·exact ⟨hl, hb⟩)
 have h3 := (chS_eq hK (h := h) hl).1
 rw [h1] at h3
 rw [h2, h3]
theorem rchain_loop {K : Nat} (hK : 1000000000000 ≤ K) (x : List (List Int)) (hok : okL x) (hx : x.length < 1000000) : ∀ (l pre : List (List Int)) (k : Nat), x = pre ++ l → l.length < k → isB (vlist (endS K a0 pre).fChain) →
  inspeximusref09_Chain_l1.l K x k ((pre.length : Int), (endS K a0 pre).fChain) = some (endS K a0 x).fChain := by
 intro l
 induction l with
 | nil =>
  intro pre k h hk hB
  obtain ⟨k, rfl⟩ : ∃ j, k = j + 1 := ⟨k - 1, by omega⟩
  rw [List.append_nil] at h
  subst h
  show inspeximusref09_Chain_l1.b K x (inspeximusref09_Chain_l1.l K x k) _ = _
  unfold inspeximusref09_Chain_l1.b
  rw [bif_false (dec_f (by simp))]
 | cons b l ih =>
  intro pre k h hk hB
  obtain ⟨k, rfl⟩ : ∃ j, k = j + 1 := ⟨k - 1, by omega⟩
  have hg := getI_mid h
  have hl := congrArg List.length h
  simp only [List.length_append, List.length_cons] at hl hk
  have hbe := hok b (by rw [h]; simp)
  have hb2 : b.length ≤ 10000 := by have := hbe.2.1; omega
  show inspeximusref09_Chain_l1.b K x (inspeximusref09_Chain_l1.l K x k) _ = _
  unfold inspeximusref09_Chain_l1.b
  rw [bif_true (dec_t (by simp only; omega))]
  have hs := subI_0 (l := vlist (endS K a0 pre).fChain) (b := 32) (by rw [vlist_length]; omega)
  rw [List.take_of_length_le (by rw [vlist_length]; omega)] at hs
  refine bind_of hs ?_
  refine bind_of hg ?_
  refine bind_of (of5 hK hB hbe.2.2 hb2) ?_
  rw [wrap_succ (by omega)]
  have := ih (pre ++ [b]) k (by rw [h]; simp) (by omega) (by rw [endS_snoc]; exact (chS_eq hK hb2).2)
  rw [endS_snoc] at this
  simp only [List.length_append, List.length_singleton] at this
  exact this
theorem rchain_eq {K : Nat} (hK : 1000000000000 ≤ K) {x : List (List Int)} (hok : okL x) (hx : x.length < 1000000) : inspeximusref09_Chain.f K x = some (endS K a0 x).fChain := by
 unfold inspeximusref09_Chain.f
 have h0 : isB (vlist (endS K a0 []).fChain) := isB_zH
 have hL := rchain_loop hK x hok hx x [] K (by simp) (by omega) h0
 have hL : inspeximusref09_Chain_l1.l K x K (0, Vector.replicate 32 0) = some (endS K a0 x).fChain := hL
 exact bind_of hL rfl
end Go.Proofs.YthnfokfankaenaaDoor
