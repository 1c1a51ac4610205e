
/-
  The plain law of LogCrash.
-/
import Derived.Test.YthnfokfankaenaaDoorPureI
namespace Go.Proofs.YthnfokfankaenaaDoor
open Go Go.Sep

theorem crash_l1 {K : Nat} (hK : 1000000000000 ≤ K) (x1 : List (List Int)) (hx : ∀ b ∈ x1, isB b) (h15 : x1.length ≤ 15) : ∀ (l pre : List (List Int)) (k : Nat), x1 = pre ++ l → okL pre → (∀ b ∈ pre, b.length ≤ 200) → l.length < k →
    ∃ r, inspeximuslaw09_LogCrash_l1.l K x1 ([], 0, 9000) k (pre, (pre.length : Int), logW K a0 pre, ((logW K a0 pre).length : Int), endS K a0 pre) = some r ∧
      (r = .inl true ∨ (okL x1 ∧ (∀ b ∈ x1, b.length ≤ 200) ∧ r = .inr (x1, logW K a0 x1, ((logW K a0 x1).length : Int), endS K a0 x1))) := by
  intro l
  induction l with
  | nil =>
    intro pre k h hok h2 hk
    obtain ⟨k, rfl⟩ : ∃ j, k = j + 1 := ⟨k - 1, by omega⟩
    rw [List.append_nil] at h
    subst h
    show ∃ r, inspeximuslaw09_LogCrash_l1.b K x1 ([], 0, 9000) (inspeximuslaw09_LogCrash_l1.l K x1 ([], 0, 9000) k) _ = _ ∧ _
    unfold inspeximuslaw09_LogCrash_l1.b
    rw [bif_false (dec_f (by simp))]
    exact ⟨_, rfl, .inr ⟨hok, h2, rfl⟩⟩
  | cons b l ih =>
    intro pre k h hok h2 hk
    obtain ⟨k, rfl⟩ : ∃ j, k = j + 1 := ⟨k - 1, by omega⟩
    have hg := getI_mid h
    have hl := congrArg List.length h
    simp only [List.length_append, List.length_cons] at hl hk
    show ∃ r, inspeximuslaw09_LogCrash_l1.b K x1 ([], 0, 9000) (inspeximuslaw09_LogCrash_l1.l K x1 ([], 0, 9000) k) _ = _ ∧ _
    unfold inspeximuslaw09_LogCrash_l1.b
    rw [bif_true (dec_t (by simp only; omega))]
    simp only [jn]
    refine bind_exP hg ?_
    by_cases hb : (200 : Int) < (b.length : Int)
    · rw [bif_true (dec_t hb)]
      simp only [cond_true]
      refine bind_exP hg ?_
      rw [bif_true (dec_t hb)]
      exact ⟨_, rfl, .inl rfl⟩
    · rw [bif_false (dec_f hb)]
      refine bind_exP hg ?_
      by_cases hb0 : b = []
      · subst hb0
        rw [append_nil]
        simp only [Option.bind_some]
        rw [bif_true (by rfl)]
        refine bind_exP hg ?_
        rw [bif_false (by rfl)]
        refine bind_exP hg ?_
        exact ⟨_, rfl, .inl rfl⟩
      · have hbe : okE b := ⟨hb0, by omega, hx b (by rw [h]; simp)⟩
        have hw := logW_le (K := K) (c := 200) (by omega) (l := pre) (a := a0) h2
        have he := entS_le (K := K) (a := endS K a0 pre) (b := b) (by omega)
        refine bind_exP (append_eq hK (la := ((logW K a0 pre).length : Int)) (room := 9000) hbe (endS_ok K (by omega)) (by omega) (by omega) (by omega)) ?_
        rw [bif_false (by rfl)]
        refine bind_exP hg ?_
        refine bind_exP (catI_ok (by simp; omega)) ?_
        rw [wrap_succ (by omega)]
        have := ih (pre ++ [b]) k (by rw [h]; simp) (okL_snoc hok hbe) (fun x hx' => by
          rcases List.mem_append.1 hx' with hx' | hx'
          · exact h2 x hx'
          · simp at hx'; subst hx'; omega) (by omega)
        rw [logW_snoc, endS_snoc] at this
        simp only [List.length_append, List.length_singleton] at this ⊢
        exact this
theorem crash_l2 {K : Nat} (hK : 1000000000000 ≤ K) (x1 x5 : List (List Int)) (hx : ∀ b ∈ x5, isB b) (h15 : x1.length ≤ 15) (h15' : x5.length ≤ 15) (hok1 : okL x1) (h1 : ∀ b ∈ x1, b.length ≤ 200) (z : List Int × Int × At) : ∀ (l pre : List (List Int)) (k : Nat), x5 = pre ++ l → okL pre → (∀ b ∈ pre, b.length ≤ 200) → l.length < k →
    ∃ r, inspeximuslaw09_LogCrash_l2.l K x5 ([], 0, 9000) (x1, z) k (x1 ++ pre, (pre.length : Int), logW K a0 (x1 ++ pre), endS K a0 (x1 ++ pre)) = some r ∧
      (r = .inl true ∨ (okL x5 ∧ (∀ b ∈ x5, b.length ≤ 200) ∧ r = .inr (x1 ++ x5, logW K a0 (x1 ++ x5)))) := by
  intro l
  induction l with
  | nil =>
    intro pre k h hok h2 hk
    obtain ⟨k, rfl⟩ : ∃ j, k = j + 1 := ⟨k - 1, by omega⟩
    rw [List.append_nil] at h
    subst h
    show ∃ r, inspeximuslaw09_LogCrash_l2.b K x5 ([], 0, 9000) (x1, z) (inspeximuslaw09_LogCrash_l2.l K x5 ([], 0, 9000) (x1, z) k) _ = _ ∧ _
    unfold inspeximuslaw09_LogCrash_l2.b
    rw [bif_false (dec_f (by simp))]
    exact ⟨_, rfl, .inr ⟨hok, h2, rfl⟩⟩
  | cons b l ih =>
    intro pre k h hok h2 hk
    obtain ⟨k, rfl⟩ : ∃ j, k = j + 1 := ⟨k - 1, by omega⟩
    have hg := getI_mid h
    have hl := congrArg List.length h
    simp only [List.length_append, List.length_cons] at hl hk
    show ∃ r, inspeximuslaw09_LogCrash_l2.b K x5 ([], 0, 9000) (x1, z) (inspeximuslaw09_LogCrash_l2.l K x5 ([], 0, 9000) (x1, z) k) _ = _ ∧ _
    unfold inspeximuslaw09_LogCrash_l2.b
    rw [bif_true (dec_t (by simp only; omega))]
    simp only [jn]
    refine bind_exP hg ?_
    by_cases hb : (200 : Int) < (b.length : Int)
    · rw [bif_true (dec_t hb)]
      simp only [cond_true]
      refine bind_exP hg ?_
      rw [bif_true (dec_t hb)]
      exact ⟨_, rfl, .inl rfl⟩
    · rw [bif_false (dec_f hb)]
      refine bind_exP hg ?_
      by_cases hb0 : b = []
      · subst hb0
        rw [put_nil]
        simp only [Option.bind_some]
        rw [bif_true (by rfl)]
        refine bind_exP hg ?_
        rw [bif_false (by rfl)]
        refine bind_exP hg ?_
        exact ⟨_, rfl, .inl rfl⟩
      · have hbe : okE b := ⟨hb0, by omega, hx b (by rw [h]; simp)⟩
        have h12 : ∀ b ∈ x1 ++ pre, b.length ≤ 200 := fun x hx' => by
          rcases List.mem_append.1 hx' with hx' | hx'
          · exact h1 x hx'
          · exact h2 x hx'
        have hw := logW_le (K := K) (c := 200) (by omega) (l := x1 ++ pre) (a := a0) h12
        have he := entS_le (K := K) (a := endS K a0 (x1 ++ pre)) (b := b) (by omega)
        simp only [List.length_append] at hw
        refine bind_exP (put_eq hK (la := z.2.1) (room := 9000) hbe (endS_ok K (by simp; omega)) (by omega) (by omega) (by omega)) ?_
        rw [bif_false (by rfl)]
        refine bind_exP hg ?_
        refine bind_exP (catI_ok (by simp; omega)) ?_
        rw [wrap_succ (by omega)]
        have := ih (pre ++ [b]) k (by rw [h]; simp) (okL_snoc hok hbe) (fun x hx' => by
          rcases List.mem_append.1 hx' with hx' | hx'
          · exact h2 x hx'
          · simp at hx'; subst hx'; omega) (by omega)
        rw [← List.append_assoc, logW_snoc, endS_snoc] at this
        simp only [List.length_append, List.length_singleton] at this ⊢
        exact this
theorem law_LogCrash {K : Nat} (hK : K = 1000000000000) (x1 x5 : List (List Int)) (x9 : Int) (hx1 : ∀ b ∈ x1, isB b) (hx5 : ∀ b ∈ x5, isB b) : inspeximuslaw09_LogCrash.f K x1 x5 x9 = some true := by
  have hK2 : 1000000000000 ≤ K := by omega
  unfold inspeximuslaw09_LogCrash.f
  refine bind_of (alive09 hK) ?_
  simp only [Bool.not_true, cond_false, jn]
  by_cases h1 : (15 : Int) < (x1.length : Int)
  · rw [dec_t h1]; rfl
  rw [dec_f h1]
  simp only [cond_false]
  by_cases h5 : (15 : Int) < (x5.length : Int)
  · rw [dec_t h5]; rfl
  rw [dec_f h5]
  simp only [cond_false]
  refine bind_of (new_eq (by omega) (by omega)) ?_
  refine bind_of (open_new hK2 0 9000) ?_
  obtain ⟨r, hr, hc⟩ := crash_l1 hK2 x1 hx1 (by omega) x1 [] K (by simp) (by simp [okL]) (by simp) (by omega)
  refine bind_of (x := r) hr ?_
  rcases hc with rfl | ⟨hok1, h1b, rfl⟩
  · rfl
  simp only
  obtain ⟨r, hr, hc⟩ := crash_l2 hK2 x1 x5 hx5 (by omega) (by omega) hok1 h1b (logW K a0 x1, ((logW K a0 x1).length : Int), endS K a0 x1) x5 [] K (by simp) (by simp [okL]) (by simp) (by omega)
  simp only [List.append_nil] at hr
  refine bind_of (x := r) hr ?_
  rcases hc with rfl | ⟨hok5, h5b, rfl⟩
  · rfl
  simp only
  have hok : okL (x1 ++ x5) := fun b hb => by
    rcases List.mem_append.1 hb with hb | hb
    · exact hok1 b hb
    · exact hok5 b hb
  have hb200 : ∀ b ∈ x1 ++ x5, b.length ≤ 200 := fun b hb => by
    rcases List.mem_append.1 hb with hb | hb
    · exact h1b b hb
    · exact h5b b hb
  have hw := logW_le (K := K) (c := 200) (by omega) (l := x1 ++ x5) (a := a0) hb200
  simp only [List.length_append] at hw
  have hla : (logW K a0 x1).length ≤ (logW K a0 (x1 ++ x5)).length := by rw [logW_app, List.length_append]; omega
  generalize hm : (logW K a0 x1).length + (min x9 (((logW K a0 (x1 ++ x5)).length : Int) - ((logW K a0 x1).length : Int))).toNat = m
  refine bind_of (crash_eq (room := 9000) hla (by omega) m hm.symm) ?_
  obtain ⟨w, T, t1, t2, t3, t4⟩ := torn hK2 (x1 ++ x5) a0 m hok
  have hB : isB ((logW K a0 (x1 ++ x5)).take m) := fun x hx => logW_isB hK2 hok x (List.mem_of_mem_take hx)
  refine bind_of (open_eq' hK2 hB (by rw [List.length_take]; omega) t2 (fun b hb => hok b (List.mem_of_mem_take hb)) t3 _ _) ?_
  have hwx : x1.length ≤ w := by
    have := t4 x1.length (by simp)
    rw [List.take_left] at this
    exact this.1 (by omega)
  have hlen : ((x1 ++ x5).take w).length = w := by rw [List.length_take]; omega
  rw [bif_true (by rfl), bif_true (dec_t (by rw [hlen]; omega)), bif_true (dec_t (by rw [hlen]; omega)), hlen]
  refine bind_of (subI_0 (by omega)) ?_
  refine bind_of (lists_same hK2 (by rw [hlen]; simp at t1; omega) (fun x hx => by have := hb200 x (List.mem_of_mem_take hx); omega)) ?_
  rw [dec_t rfl]
end Go.Proofs.YthnfokfankaenaaDoor
