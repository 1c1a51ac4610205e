
/-
  The plain law of LogSize.
-/
import Derived.Test.YthnfokfankaenaaDoorPureI
namespace Go.Proofs.YthnfokfankaenaaDoor
open Go Go.Sep

theorem bytes_cpy {K : Nat} {d : List Int} (la r : Int) (h : d.length < 1000000) : disk_Disk_Bytes.f K d la r = some d := by
  unfold disk_Disk_Bytes.f
  rw [catI_ok (by simp; omega)]
  rfl
theorem size_eq {K : Nat} (hK : 1000000000000 ≤ K) {n : Nat} (h1 : 0 < n) (h2 : n ≤ 2000) (a : At) (d : List Int) (la r : Int) : log_Log_Size.f K (n : Int) a d la r = some (((numS n).length + n + 8 : Nat) : Int) := by
  have hn := numS_len (n := n) (by omega)
  unfold log_Log_Size.f
  simp only [jn]
  rw [bif_false (dec_f (by omega)), bif_false (dec_f (by omega))]
  refine bind_of (num_eq hK (by omega)) ?_
  rw [wrap64 (n := ((numS n).length : Int) + (n : Int)) (by omega) (by omega), wrap64 (by omega) (by omega)]
  rfl
theorem size_l1 {K : Nat} (hK : 1000000000000 ≤ K) (x1 : List (List Int)) (hx : ∀ b ∈ x1, isB b) (h15 : x1.length ≤ 15) : ∀ (l pre : List (List Int)) (d : List Int) (a : At) (k : Nat), x1 = pre ++ l → d.length ≤ 313 * pre.length → cntA a (l.length + 1) → l.length < k →
    ∃ r, inspeximuslaw09_LogSize_l1.l K x1 ([], 0, 9000) k ((d.length : Int), (pre.length : Int), d, (d.length : Int), a) = some r ∧
      (r = .inl true ∨ ∃ (d : List Int) (a : At), d.length ≤ 5000 ∧ r = .inr ((d.length : Int), d, (d.length : Int), a)) := by
  intro l
  induction l with
  | nil =>
    intro pre d a k h hd ha hk
    obtain ⟨k, rfl⟩ : ∃ j, k = j + 1 := ⟨k - 1, by omega⟩
    rw [List.append_nil] at h
    subst h
    show ∃ r, inspeximuslaw09_LogSize_l1.b K x1 ([], 0, 9000) (inspeximuslaw09_LogSize_l1.l K x1 ([], 0, 9000) k) _ = _ ∧ _
    unfold inspeximuslaw09_LogSize_l1.b
    rw [bif_false (dec_f (by simp))]
    exact ⟨_, rfl, .inr ⟨d, a, by omega, rfl⟩⟩
  | cons b l ih =>
    intro pre d a k h hd ha hk
    obtain ⟨k, rfl⟩ : ∃ j, k = j + 1 := ⟨k - 1, by omega⟩
    have hg := getI_mid h
    have hl := congrArg List.length h
    simp only [List.length_append, List.length_cons] at hl hk ha
    show ∃ r, inspeximuslaw09_LogSize_l1.b K x1 ([], 0, 9000) (inspeximuslaw09_LogSize_l1.l K x1 ([], 0, 9000) k) _ = _ ∧ _
    unfold inspeximuslaw09_LogSize_l1.b
    rw [bif_true (dec_t (by simp only; omega))]
    refine bind_exP hg ?_
    by_cases hb : (300 : Int) < (b.length : Int)
    · rw [bif_true (dec_t hb)]
      exact ⟨_, rfl, .inl rfl⟩
    · rw [bif_false (dec_f hb)]
      refine bind_exP hg ?_
      simp only [jn]
      by_cases hb0 : b = []
      · subst hb0
        rw [append_nil]
        simp only [Option.bind_some]
        refine bind_exP hg ?_
        rw [bif_false (by rfl), bif_false (by rfl)]
        refine bind_exP (bytes_cpy _ _ (by omega)) ?_
        rw [bif_false (by simp)]
        refine bind_exP (x := (d.length : Int)) rfl ?_
        rw [bif_false (by simp), wrap_succ (by omega)]
        have := ih (pre ++ [[]]) d a k (by rw [h]; simp) (by simp; omega) ⟨ha.1, by have := ha.2; omega⟩ (by omega)
        simp only [List.length_append, List.length_singleton] at this
        exact this
      · have hbe : okE b := ⟨hb0, by omega, hx b (by rw [h]; simp)⟩
        have hp := hbe.pos
        have he := entS_le (K := K) (a := a) (b := b) (by omega)
        have hel := entS_len K a (b := b)
        refine bind_exP (append_eq hK (la := (d.length : Int)) (room := 9000) hbe ⟨ha.1, by have := ha.2; omega⟩ (by omega) (by omega) (by omega)) ?_
        refine bind_exP hg ?_
        rw [dec_t (show (0 : Int) < (b.length : Int) by omega), bif_false (by rfl), bif_true (by rfl)]
        refine bind_exP hg ?_
        refine bind_exP (size_eq hK hp (by omega) _ _ _ _) ?_
        rw [wrap64 (by omega) (by omega)]
        refine bind_exP (bytes_cpy _ _ (by simp; omega)) ?_
        have e1 : ((d ++ entS K a b).length : Int) = (d.length : Int) + (((numS b.length).length + b.length + 8 : Nat) : Int) := by rw [List.length_append, hel]; omega
        rw [bif_false (by simp; omega)]
        refine bind_exP (x := ((d ++ entS K a b).length : Int)) rfl ?_
        rw [bif_false (by simp; omega), wrap_succ (by omega)]
        have := ih (pre ++ [b]) (d ++ entS K a b) (behS K a b) k (by rw [h]; simp) (by simp; omega) ⟨by simp [behS]; have := ha.1; omega, by simp [behS]; have := ha.2; omega⟩ (by omega)
        rw [e1] at this
        simp only [List.length_append, List.length_singleton] at this e1 ⊢
        rw [e1]
        exact this
theorem law_LogSize {K : Nat} (hK : K = 1000000000000) (x1 : List (List Int)) (hx1 : ∀ b ∈ x1, isB b) : inspeximuslaw09_LogSize.f K x1 = some true := by
  have hK2 : 1000000000000 ≤ K := by omega
  unfold inspeximuslaw09_LogSize.f
  refine bind_of (alive09 hK) ?_
  simp only [Bool.not_true, cond_false]
  by_cases h1 : (15 : Int) < (x1.length : Int)
  · rw [dec_t h1]; rfl
  rw [dec_f h1]
  simp only [cond_false]
  refine bind_of (new_eq (by omega) (by omega)) ?_
  refine bind_of (open_new hK2 0 9000) ?_
  obtain ⟨r, hr, hc⟩ := size_l1 hK2 x1 hx1 (by omega) x1 [] [] a0 K (by simp) (by simp) ⟨by decide, by show (0 : Int) + _ < _; omega⟩ (by omega)
  refine bind_of (x := r) hr ?_
  rcases hc with rfl | ⟨d, a, hd, rfl⟩
  · rfl
  simp only
  refine bind_of (x := List.replicate 2001 0) rfl ?_
  have hp : log_Log_Put.f K (List.replicate 2001 0) a d (d.length : Int) 9000 = some (4, a, d) := by
    unfold log_Log_Put.f
    rw [bif_false (dec_f (by rw [List.length_replicate]; omega)), bif_true (dec_t (by rw [List.length_replicate]; omega))]
  refine bind_of (x := (4, a, d)) hp ?_
  rw [bif_true (by rfl)]
  refine bind_of (put_nil (K := K) (d := d) (a := a)) ?_
  rw [bif_true (by rfl)]
  refine bind_of (bytes_cpy (d := d) _ _ (by omega)) ?_
  rw [dec_t rfl]
end Go.Proofs.YthnfokfankaenaaDoor
