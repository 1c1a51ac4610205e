
/-
  The plain law of LogChained.
-/
import Derived.Test.YthnfokfankaenaaDoorPureI
namespace Go.Proofs.YthnfokfankaenaaDoor
open Go Go.Sep

theorem chain_eq {K : Nat} (a : At) (d : List Int) (la r : Int) : log_Log_Chain.f K a d la r = some a.fChain := by
  unfold log_Log_Chain.f
  rw [vz]
  show (bif decide (a.fCount = 0) && (decide (a.fChain = zH) && true) then _ else _) = _
  cases h : decide (a.fCount = 0) && (decide (a.fChain = zH) && true) with
  | false => rfl
  | true =>
    simp only [Bool.and_true, Bool.and_eq_true, decide_eq_true_eq] at h
    rw [h.2]; rfl
theorem of5 {K : Nat} (hK : 1000000000000 ≤ K) {h : H32} {b : List Int} (hh : isB (vlist h)) (hb : isB b) (hl : b.length ≤ 10000) : inspeximusref02_Of.f K 5 [vlist h, b] = some (chS K h b) := by
  obtain ⟨r, h1, h2, _⟩ := of_same (K := K) hK (d := 5) (l := [vlist h, b]) (by simp) (fun x hx => by
    simp at hx
    rcases hx with rfl | rfl
    · exact ⟨by rw [vlist_length]; omega, hh⟩
    · exact ⟨hl, hb⟩)
  have h3 := (chS_eq hK (h := h) hl).1
  rw [h1] at h3
  rw [h2, h3]
theorem rchain_loop {K : Nat} (hK : 1000000000000 ≤ K) (x : List (List Int)) (hok : okL x) (hx : x.length < 1000000) : ∀ (l pre : List (List Int)) (k : Nat), x = pre ++ l → l.length < k → isB (vlist (endS K a0 pre).fChain) →
    inspeximusref09_Chain_l1.l K x k ((pre.length : Int), (endS K a0 pre).fChain) = some (endS K a0 x).fChain := by
  intro l
  induction l with
  | nil =>
    intro pre k h hk hB
    obtain ⟨k, rfl⟩ : ∃ j, k = j + 1 := ⟨k - 1, by omega⟩
    rw [List.append_nil] at h
    subst h
    show inspeximusref09_Chain_l1.b K x (inspeximusref09_Chain_l1.l K x k) _ = _
    unfold inspeximusref09_Chain_l1.b
    rw [bif_false (dec_f (by simp))]
  | cons b l ih =>
    intro pre k h hk hB
    obtain ⟨k, rfl⟩ : ∃ j, k = j + 1 := ⟨k - 1, by omega⟩
    have hg := getI_mid h
    have hl := congrArg List.length h
    simp only [List.length_append, List.length_cons] at hl hk
    have hbe := hok b (by rw [h]; simp)
    have hb2 : b.length ≤ 10000 := by have := hbe.2.1; omega
    show inspeximusref09_Chain_l1.b K x (inspeximusref09_Chain_l1.l K x k) _ = _
    unfold inspeximusref09_Chain_l1.b
    rw [bif_true (dec_t (by simp only; omega))]
    have hs := subI_0 (l := vlist (endS K a0 pre).fChain) (b := 32) (by rw [vlist_length]; omega)
    rw [List.take_of_length_le (by rw [vlist_length]; omega)] at hs
    refine bind_of hs ?_
    refine bind_of hg ?_
    refine bind_of (of5 hK hB hbe.2.2 hb2) ?_
    rw [wrap_succ (by omega)]
    have := ih (pre ++ [b]) k (by rw [h]; simp) (by omega) (by rw [endS_snoc]; exact (chS_eq hK hb2).2)
    rw [endS_snoc] at this
    simp only [List.length_append, List.length_singleton] at this
    exact this
theorem rchain_eq {K : Nat} (hK : 1000000000000 ≤ K) {x : List (List Int)} (hok : okL x) (hx : x.length < 1000000) : inspeximusref09_Chain.f K x = some (endS K a0 x).fChain := by
  unfold inspeximusref09_Chain.f
  have h0 : isB (vlist (endS K a0 []).fChain) := isB_zH
  have hL := rchain_loop hK x hok hx x [] K (by simp) (by omega) h0
  have hL : inspeximusref09_Chain_l1.l K x K (0, Vector.replicate 32 0) = some (endS K a0 x).fChain := hL
  exact bind_of hL rfl
theorem chained_l1 {K : Nat} (hK : 1000000000000 ≤ K) (x1 : List (List Int)) (hx : ∀ b ∈ x1, isB b) (h12 : x1.length ≤ 12) : ∀ (l pre : List (List Int)) (k : Nat), x1 = pre ++ l → okL pre → (∀ b ∈ pre, b.length ≤ 300) → l.length < k →
    ∃ r, inspeximuslaw09_LogChained_l1.l K x1 ([], 0, 9000) ([], 0, 9000) ([], 0, [], 0, a0) k ((pre.length : Int), logW K a0 pre, endS K a0 pre, endS K a0 pre, logW K a0 pre, ((logW K a0 pre).length : Int)) = some r ∧
      (r = .inl true ∨ (okL x1 ∧ (∀ b ∈ x1, b.length ≤ 300) ∧ r = .inr (logW K a0 x1, endS K a0 x1, logW K a0 x1, ((logW K a0 x1).length : Int)))) := by
  intro l
  induction l with
  | nil =>
    intro pre k h hok h2 hk
    obtain ⟨k, rfl⟩ : ∃ j, k = j + 1 := ⟨k - 1, by omega⟩
    rw [List.append_nil] at h
    subst h
    show ∃ r, inspeximuslaw09_LogChained_l1.b K x1 ([], 0, 9000) ([], 0, 9000) ([], 0, [], 0, a0) (inspeximuslaw09_LogChained_l1.l K x1 ([], 0, 9000) ([], 0, 9000) ([], 0, [], 0, a0) k) _ = _ ∧ _
    unfold inspeximuslaw09_LogChained_l1.b
    rw [bif_false (dec_f (by simp))]
    exact ⟨_, rfl, .inr ⟨hok, h2, rfl⟩⟩
  | cons b l ih =>
    intro pre k h hok h2 hk
    obtain ⟨k, rfl⟩ : ∃ j, k = j + 1 := ⟨k - 1, by omega⟩
    have hg := getI_mid h
    have hl := congrArg List.length h
    simp only [List.length_append, List.length_cons] at hl hk
    show ∃ r, inspeximuslaw09_LogChained_l1.b K x1 ([], 0, 9000) ([], 0, 9000) ([], 0, [], 0, a0) (inspeximuslaw09_LogChained_l1.l K x1 ([], 0, 9000) ([], 0, 9000) ([], 0, [], 0, a0) k) _ = _ ∧ _
    unfold inspeximuslaw09_LogChained_l1.b
    rw [bif_true (dec_t (by simp only; omega))]
    simp only [jn]
    refine bind_exP hg ?_
    by_cases hb : (300 : Int) < (b.length : Int)
    · rw [bif_true (dec_t hb)]
      exact ⟨_, rfl, .inl rfl⟩
    · rw [bif_false (dec_f hb)]
      refine bind_exP hg ?_
      by_cases hb0 : b = []
      · subst hb0
        exact ⟨_, rfl, .inl rfl⟩
      · have hbe : okE b := ⟨hb0, by omega, hx b (by rw [h]; simp)⟩
        have hp := hbe.pos
        have hw := logW_le (K := K) (c := 300) (by omega) (l := pre) (a := a0) h2
        have he := entS_le (K := K) (a := endS K a0 pre) (b := b) (by omega)
        rw [bif_false (dec_f (by omega))]
        refine bind_exP hg ?_
        refine bind_exP (append_eq hK (d := logW K a0 pre) (a := endS K a0 pre) (la := ((logW K a0 pre).length : Int)) (room := 9000) hbe (endS_ok K (by omega)) (by omega) (by omega) (by omega)) ?_
        refine bind_exP hg ?_
        refine bind_exP (put_eq hK (d := logW K a0 pre) (a := endS K a0 pre) (la := 0) (room := 9000) hbe (endS_ok K (by omega)) (by omega) (by omega) (by omega)) ?_
        refine bind_exP (chain_eq _ _ _ _) ?_
        refine bind_exP (chain_eq _ _ _ _) ?_
        rw [bif_false (by simp)]
        refine bind_exP (x := (behS K (endS K a0 pre) b).fCount) rfl ?_
        refine bind_exP (x := (behS K (endS K a0 pre) b).fCount) rfl ?_
        rw [bif_false (by simp), wrap_succ (by omega)]
        have := ih (pre ++ [b]) k (by rw [h]; simp) (okL_snoc hok hbe) (fun x hx' => by
          rcases List.mem_append.1 hx' with hx' | hx'
          · exact h2 x hx'
          · simp at hx'; subst hx'; omega) (by omega)
        rw [logW_snoc, endS_snoc] at this
        simp only [List.length_append, List.length_singleton] at this ⊢
        exact this
theorem law_LogChained {K : Nat} (hK : K = 1000000000000) (x1 : List (List Int)) (hx1 : ∀ b ∈ x1, isB b) : inspeximuslaw09_LogChained.f K x1 = some true := by
  have hK2 : 1000000000000 ≤ K := by omega
  unfold inspeximuslaw09_LogChained.f
  refine bind_of (alive09 hK) ?_
  simp only [Bool.not_true, cond_false]
  by_cases h1 : (12 : Int) < (x1.length : Int)
  · rw [dec_t h1]; rfl
  rw [dec_f h1]
  simp only [cond_false]
  refine bind_of (new_eq (by omega) (by omega)) ?_
  refine bind_of (new_eq (by omega) (by omega)) ?_
  refine bind_of (open_new hK2 0 9000) ?_
  refine bind_of (open_new hK2 0 9000) ?_
  obtain ⟨r, hr, hc⟩ := chained_l1 hK2 x1 hx1 (by omega) x1 [] K (by simp) (by simp [okL]) (by simp) (by omega)
  have hr : inspeximuslaw09_LogChained_l1.l K x1 ([], 0, 9000) ([], 0, 9000) ([], 0, [], 0, a0) K (0, [], a0, a0, [], 0) = some r := hr
  refine bind_of (x := r) hr ?_
  rcases hc with rfl | ⟨hok, h1b, rfl⟩
  · rfl
  simp only
  have hw := logW_le (K := K) (c := 300) (by omega) (l := x1) (a := a0) h1b
  refine bind_of (x := ((logW K a0 x1).length : Int)) rfl ?_
  refine bind_of (open_eq' hK2 (l := x1) (T := []) (logW_isB hK2 hok) (by omega) (by simp) hok (noEnt_nil K _) _ 9000) ?_
  refine bind_of (chain_eq _ _ _ _) ?_
  refine bind_of (chain_eq _ _ _ _) ?_
  rw [bif_true (by simp)]
  refine bind_of (lists_same hK2 (l := x1) (m := x1) (by omega) (fun b hb => by have := h1b b hb; omega)) ?_
  rw [bif_true (by simp)]
  refine bind_of (chain_eq _ _ _ _) ?_
  refine bind_of (rchain_eq hK2 hok (by omega)) ?_
  simp
end Go.Proofs.YthnfokfankaenaaDoor
