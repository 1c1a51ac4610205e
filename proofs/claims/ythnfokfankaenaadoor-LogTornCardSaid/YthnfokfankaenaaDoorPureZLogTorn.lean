
/-
  The plain law of LogTorn.
-/
import Derived.Test.YthnfokfankaenaaDoorPureI
namespace Go.Proofs.YthnfokfankaenaaDoor
open Go Go.Sep

theorem bytes_cpy {K : Nat} {d : List Int} (la r : Int) (h : d.length < 1000000) : disk_Disk_Bytes.f K d la r = some d := by
  unfold disk_Disk_Bytes.f
  rw [catI_ok (by simp; omega)]
  rfl
/-- where the first entries end -/
def endsT (K : Nat) (x : List (List Int)) (n : Nat) : List Int := (List.range (n + 1)).map fun j => ((logW K a0 (x.take j)).length : Int)
theorem endsT_succ (K : Nat) (x : List (List Int)) (n : Nat) : endsT K x (n + 1) = endsT K x n ++ [((logW K a0 (x.take (n + 1))).length : Int)] := by
  unfold endsT
  rw [List.range_succ, List.map_append]; rfl
theorem torn_l1 {K : Nat} (hK : 1000000000000 ≤ K) (x1 : List (List Int)) (hx : ∀ b ∈ x1, isB b) (h12 : x1.length ≤ 12) : ∀ (l pre : List (List Int)) (k : Nat), x1 = pre ++ l → okL pre → (∀ b ∈ pre, b.length ≤ 300) → l.length < k →
    ∃ r, inspeximuslaw09_LogTorn_l1.l K x1 ([], 0, 9000) k (endsT K x1 pre.length, (pre.length : Int), logW K a0 pre, ((logW K a0 pre).length : Int), endS K a0 pre) = some r ∧
      (r = .inl true ∨ (okL x1 ∧ (∀ b ∈ x1, b.length ≤ 300) ∧ r = .inr (endsT K x1 x1.length, logW K a0 x1, ((logW K a0 x1).length : Int)))) := by
  intro l
  induction l with
  | nil =>
    intro pre k h hok h2 hk
    obtain ⟨k, rfl⟩ : ∃ j, k = j + 1 := ⟨k - 1, by omega⟩
    rw [List.append_nil] at h
    subst h
    show ∃ r, inspeximuslaw09_LogTorn_l1.b K x1 ([], 0, 9000) (inspeximuslaw09_LogTorn_l1.l K x1 ([], 0, 9000) k) _ = _ ∧ _
    unfold inspeximuslaw09_LogTorn_l1.b
    rw [bif_false (dec_f (by simp))]
    exact ⟨_, rfl, .inr ⟨hok, h2, rfl⟩⟩
  | cons b l ih =>
    intro pre k h hok h2 hk
    obtain ⟨k, rfl⟩ : ∃ j, k = j + 1 := ⟨k - 1, by omega⟩
    have hg := getI_mid h
    have hl := congrArg List.length h
    simp only [List.length_append, List.length_cons] at hl hk
    show ∃ r, inspeximuslaw09_LogTorn_l1.b K x1 ([], 0, 9000) (inspeximuslaw09_LogTorn_l1.l K x1 ([], 0, 9000) k) _ = _ ∧ _
    unfold inspeximuslaw09_LogTorn_l1.b
    rw [bif_true (dec_t (by simp only; omega))]
    simp only [jn]
    refine bind_exP hg ?_
    by_cases hb : (300 : Int) < (b.length : Int)
    · rw [bif_true (dec_t hb)]
      simp only [cond_true]
      refine bind_exP hg ?_
      rw [bif_true (dec_t hb)]
      exact ⟨_, rfl, .inl rfl⟩
    · rw [bif_false (dec_f hb)]
      refine bind_exP hg ?_
      by_cases hb0 : b = []
      · subst hb0
        rw [append_nil]
        simp only [Option.bind_some]
        rw [bif_true (by rfl)]
        refine bind_exP hg ?_
        rw [bif_false (by rfl)]
        refine bind_exP hg ?_
        exact ⟨_, rfl, .inl rfl⟩
      · have hbe : okE b := ⟨hb0, by omega, hx b (by rw [h]; simp)⟩
        have hw := logW_le (K := K) (c := 300) (by omega) (l := pre) (a := a0) h2
        have he := entS_le (K := K) (a := endS K a0 pre) (b := b) (by omega)
        refine bind_exP (append_eq hK (la := ((logW K a0 pre).length : Int)) (room := 9000) hbe (endS_ok K (by omega)) (by omega) (by omega) (by omega)) ?_
        rw [bif_false (by rfl)]
        refine bind_exP (bytes_cpy _ _ (by simp; omega)) ?_
        refine bind_exP (catI_ok (by simp [endsT]; omega)) ?_
        rw [wrap_succ (by omega)]
        have := ih (pre ++ [b]) k (by rw [h]; simp) (okL_snoc hok hbe) (fun x hx' => by
          rcases List.mem_append.1 hx' with hx' | hx'
          · exact h2 x hx'
          · simp at hx'; subst hx'; omega) (by omega)
        have ht : x1.take (pre.length + 1) = pre ++ [b] := by
          rw [h, List.take_append]
          simp
          exact List.take_of_length_le (by omega)
        rw [show (pre ++ [b]).length = pre.length + 1 by simp, endsT_succ, ht, logW_snoc, endS_snoc] at this
        exact this
theorem torn_l2 {K : Nat} {x5 : Int} {z : List Int × List Int × Int} {r : List Int} {n w N : Nat} {L : Nat → Nat} (hz : z.1 = (List.range (N + 1)).map fun j => ((L j : Nat) : Int)) (hn : Int.tmod (IntKind.wrap .i64 x5) (IntKind.wrap .i64 (((List.length r : Nat) : Int) + 1)) = (n : Int)) (hw : w ≤ N) (hNN : N < 1000) (hL : ∀ j, j ≤ N → (L j ≤ n ↔ j ≤ w)) :
    ∀ (m i k : Nat), i + m = N + 1 → m < k → inspeximuslaw09_LogTorn_l2.l K x5 z r k (((min (i - 1) w : Nat) : Int), (i : Int)) = some (w : Int) := by
  have hzl : z.1.length = N + 1 := by rw [hz]; simp
  intro m
  induction m with
  | zero =>
    intro i k hi hk
    obtain ⟨k, rfl⟩ : ∃ j, k = j + 1 := ⟨k - 1, by omega⟩
    show inspeximuslaw09_LogTorn_l2.b K x5 z r (inspeximuslaw09_LogTorn_l2.l K x5 z r k) _ = _
    unfold inspeximuslaw09_LogTorn_l2.b
    rw [bif_false (dec_f (by simp only; omega))]
    have : min (i - 1) w = w := by omega
    simp only [this]
  | succ m ih =>
    intro i k hi hk
    obtain ⟨k, rfl⟩ : ∃ j, k = j + 1 := ⟨k - 1, by omega⟩
    show inspeximuslaw09_LogTorn_l2.b K x5 z r (inspeximuslaw09_LogTorn_l2.l K x5 z r k) _ = _
    unfold inspeximuslaw09_LogTorn_l2.b
    rw [bif_true (dec_t (by simp only; omega))]
    simp only [jn]
    have hg : getI z.1 (i : Int) = some ((L i : Nat) : Int) := getI_lt (by rw [hz, List.getElem?_map, List.getElem?_range (by omega)]; rfl)
    refine bind_of hg ?_
    rw [hn, wrap_succ (by omega)]
    have h1 := ih (i + 1) k (by omega) (by omega)
    have hLi := hL i (by omega)
    by_cases hc : L i ≤ n
    · rw [bif_true (dec_t (by omega))]
      have : min (i + 1 - 1) w = i := by have := hLi.1 hc; omega
      rw [this] at h1
      exact h1
    · rw [bif_false (dec_f (by omega))]
      have : min (i + 1 - 1) w = min (i - 1) w := by
        have : ¬ i ≤ w := fun e => hc (hLi.2 e)
        omega
      rw [this] at h1
      exact h1
theorem law_LogTorn {K : Nat} (hK : K = 1000000000000) (x1 : List (List Int)) (x5 : Int) (hx1 : ∀ b ∈ x1, isB b) (h5 : 0 ≤ x5 ∧ x5 < 65536) : inspeximuslaw09_LogTorn.f K x1 x5 = some true := by
  have hK2 : 1000000000000 ≤ K := by omega
  unfold inspeximuslaw09_LogTorn.f
  refine bind_of (alive09 hK) ?_
  simp only [Bool.not_true, cond_false]
  by_cases h1 : (12 : Int) < (x1.length : Int)
  · rw [dec_t h1]; rfl
  rw [dec_f h1]
  simp only [cond_false]
  refine bind_of (new_eq (by omega) (by omega)) ?_
  refine bind_of (open_new hK2 0 9000) ?_
  obtain ⟨r, hr, hc⟩ := torn_l1 hK2 x1 hx1 (by omega) x1 [] K (by simp) (by simp [okL]) (by simp) (by omega)
  refine bind_of (x := r) hr ?_
  rcases hc with rfl | ⟨hok, h1b, rfl⟩
  · rfl
  simp only
  have hw := logW_le (K := K) (c := 300) (by omega) (l := x1) (a := a0) h1b
  have hle : (logW K a0 x1).length ≤ 3756 := by omega
  refine bind_of (bytes_cpy _ _ (by omega)) ?_
  obtain ⟨n0, rfl⟩ := Int.eq_ofNat_of_zero_le h5.1
  have ew : IntKind.wrap .i64 (((logW K a0 x1).length : Int) + 1) = (((logW K a0 x1).length + 1 : Nat) : Int) := wrap_succ (by omega)
  have ew2 : IntKind.wrap .i64 ((n0 : Nat) : Int) = (n0 : Int) := wrap64 (by omega) (by omega)
  have em : Int.tmod (IntKind.wrap .i64 ((n0 : Nat) : Int)) (IntKind.wrap .i64 (((logW K a0 x1).length : Int) + 1)) = ((n0 % ((logW K a0 x1).length + 1) : Nat) : Int) := by
    rw [ew, ew2]; rfl
  generalize hn : n0 % ((logW K a0 x1).length + 1) = n at em
  have hnl : n ≤ (logW K a0 x1).length := by have := Nat.mod_lt n0 (y := (logW K a0 x1).length + 1) (by omega); omega
  have hc0 : (!(decide (IntKind.wrap .i64 (((logW K a0 x1).length : Int) + 1) = 0))) = true := by rw [ew]; simp; omega
  simp only [chk, hc0, cond_true]
  obtain ⟨w, T, t1, t2, t3, t4⟩ := torn hK2 x1 a0 n hok
  have hl2 := torn_l2 (K := K) (x5 := ((n0 : Nat) : Int)) (z := (endsT K x1 x1.length, logW K a0 x1, ((logW K a0 x1).length : Int))) (r := logW K a0 x1) (n := n) (w := w) (N := x1.length) (L := fun j => (logW K a0 (x1.take j)).length) rfl em t1 (by omega) t4 (x1.length + 1) 0 K (by omega) (by omega)
  have h00 : min (0 - 1) w = 0 := by omega
  rw [h00] at hl2
  refine bind_of (x := (w : Int)) hl2 ?_
  refine bind_of (new_eq (by omega) (by omega)) ?_
  rw [em]
  refine bind_of (subI_0 hnl) ?_
  have hwr : disk_Disk_Write.f K ((logW K a0 x1).take n) [] 0 9000 = some (0, (logW K a0 x1).take n) := by
    unfold disk_Disk_Write.f
    rw [wrap64 (by simp) (by simp), bif_false (dec_f (by simp; omega)), catI_ok (by simp; omega)]
    rfl
  refine bind_of (x := (0, (logW K a0 x1).take n)) hwr ?_
  have hB : isB ((logW K a0 x1).take n) := fun x hx => logW_isB hK2 hok x (List.mem_of_mem_take hx)
  refine bind_of (open_eq' hK2 hB (by rw [List.length_take]; omega) t2 (fun b hb => hok b (List.mem_of_mem_take hb)) t3 0 9000) ?_
  rw [bif_true (by rfl)]
  refine bind_of (subI_0 t1) ?_
  refine bind_of (lists_same hK2 (by rw [List.length_take]; omega) (fun x hx => by have := h1b x (List.mem_of_mem_take hx); omega)) ?_
  rw [bif_true (by simp)]
  have hg : getI (endsT K x1 x1.length) (w : Int) = some ((logW K a0 (x1.take w)).length : Int) := getI_lt (by unfold endsT; rw [List.getElem?_map, List.getElem?_range (by omega)]; rfl)
  refine bind_of hg ?_
  have hlw := (t4 w t1).2 (Nat.le_refl _)
  refine bind_of (bytes_cpy (d := logW K a0 (x1.take w)) _ _ (by omega)) ?_
  rw [dec_t rfl]
end Go.Proofs.YthnfokfankaenaaDoor
