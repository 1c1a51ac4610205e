
/-
  The plain law of LogAgain.
-/
import Derived.Test.YthnfokfankaenaaDoorPureI
namespace Go.Proofs.YthnfokfankaenaaDoor
open Go Go.Sep

def chnS (a : At) : H32 := bif decide (a.fCount = 0) && (decide (a.fChain = zH) && true) then zH else a.fChain
theorem chn_eq {K : Nat} (a : At) (d : List Int) (la r : Int) : log_Log_Chain.f K a d la r = some (chnS a) := by
  unfold log_Log_Chain.f chnS
  rw [vz]
  show (bif decide (a.fCount = 0) && (decide (a.fChain = zH) && true) then _ else _) = _
  cases decide (a.fCount = 0) && (decide (a.fChain = zH) && true) <;> rfl
theorem bytes_cpy {K : Nat} {d : List Int} (la r : Int) (h : d.length < 1000000) : disk_Disk_Bytes.f K d la r = some d := by
  unfold disk_Disk_Bytes.f
  rw [catI_ok (by simp; omega)]
  rfl
theorem again_l1 {K : Nat} (hK : 1000000000000 ≤ K) (x1 : List (List Int)) (o : Int × List Int × Int × At) (hok : okL x1) (hl : (logW K a0 x1).length ≤ 2000) : ∀ (l pre : List (List Int)) (k : Nat), x1 = pre ++ l → l.length < k →
    inspeximuslaw09_LogAgain_l1.l K ([], 0, 3000) (x1, o) k ((pre.length : Int), logW K a0 pre, ((logW K a0 pre).length : Int), endS K a0 pre) = some (.inr (logW K a0 x1, ((logW K a0 x1).length : Int), endS K a0 x1)) := by
  intro l
  have hn := logW_len_le K x1 a0
  induction l with
  | nil =>
    intro pre k h hk
    obtain ⟨k, rfl⟩ : ∃ j, k = j + 1 := ⟨k - 1, by omega⟩
    rw [List.append_nil] at h
    subst h
    show inspeximuslaw09_LogAgain_l1.b K ([], 0, 3000) (x1, o) (inspeximuslaw09_LogAgain_l1.l K ([], 0, 3000) (x1, o) k) _ = _
    unfold inspeximuslaw09_LogAgain_l1.b
    rw [bif_false (dec_f (by simp))]
  | cons b l ih =>
    intro pre k h hk
    obtain ⟨k, rfl⟩ : ∃ j, k = j + 1 := ⟨k - 1, by omega⟩
    have hg := getI_mid h
    have hll := congrArg List.length h
    simp only [List.length_append, List.length_cons] at hll hk
    have hbe := hok b (by rw [h]; simp)
    have hsum : (logW K a0 pre).length + (entS K (endS K a0 pre) b).length ≤ (logW K a0 x1).length := by
      rw [h, logW_app, List.length_append]
      simp only [logW, List.length_append]
      omega
    show inspeximuslaw09_LogAgain_l1.b K ([], 0, 3000) (x1, o) (inspeximuslaw09_LogAgain_l1.l K ([], 0, 3000) (x1, o) k) _ = _
    unfold inspeximuslaw09_LogAgain_l1.b
    rw [bif_true (dec_t (by simp only; omega))]
    refine bind_of hg ?_
    refine bind_of (append_eq hK (d := logW K a0 pre) (a := endS K a0 pre) (la := ((logW K a0 pre).length : Int)) (room := 3000) hbe (endS_ok K (by omega)) (by omega) (by omega) (by omega)) ?_
    rw [bif_false (by rfl)]
    rw [wrap_succ (by omega)]
    have := ih (pre ++ [b]) k (by rw [h]; simp) (by omega)
    rw [logW_snoc, endS_snoc] at this
    simp only [List.length_append, List.length_singleton] at this ⊢
    exact this
theorem law_LogAgain {K : Nat} (hK : K = 1000000000000) (x1 : List Int) (hx : isB x1) : inspeximuslaw09_LogAgain.f K x1 = some true := by
  have hK2 : 1000000000000 ≤ K := by omega
  unfold inspeximuslaw09_LogAgain.f
  refine bind_of (alive09 hK) ?_
  simp only [Bool.not_true, cond_false, jn]
  by_cases h1 : (2000 : Int) < (x1.length : Int)
  · rw [dec_t h1]; rfl
  rw [dec_f h1]
  simp only [cond_false]
  refine bind_of (new_eq (by omega) (by omega)) ?_
  refine bind_of (new_eq (by omega) (by omega)) ?_
  have hw : disk_Disk_Write.f K x1 [] 0 3000 = some (0, x1) := by
    unfold disk_Disk_Write.f
    rw [wrap64 (by simp) (by simp), bif_false (dec_f (by simp; omega)), catI_ok (by simp; omega)]
    rfl
  refine bind_of (x := (0, x1)) hw ?_
  obtain ⟨l, T, e, hok, hno⟩ := split_log K x1.length x1 a0 (Nat.le_refl _)
  have hlen := congrArg List.length e
  rw [List.length_append] at hlen
  have hn := logW_len_le K l a0
  refine bind_of (open_eq' hK2 (l := l) (T := T) hx (by omega) e hok hno 0 3000) ?_
  simp only
  refine bind_of (open_eq' hK2 (l := l) (T := []) (logW_isB hK2 hok) (by omega) (by simp) hok (noEnt_nil K _) _ 3000) ?_
  refine bind_of (open_new hK2 0 3000) ?_
  have hL := again_l1 hK2 l (0, logW K a0 l, ((logW K a0 l).length : Int), endS K a0 l) hok (by omega) l [] K (by simp) (by omega)
  have hL : inspeximuslaw09_LogAgain_l1.l K ([], 0, 3000) (l, 0, logW K a0 l, ((logW K a0 l).length : Int), endS K a0 l) K (0, [], 0, a0) = some (.inr (logW K a0 l, ((logW K a0 l).length : Int), endS K a0 l)) := hL
  refine bind_of (x := .inr (logW K a0 l, ((logW K a0 l).length : Int), endS K a0 l)) hL ?_
  simp only
  have hbl : ∀ b ∈ l, b.length < 1000000000 := fun b hb => by have := (hok b hb).2.1; omega
  refine bind_of (lists_same hK2 (by omega) hbl) ?_
  rw [bif_true (by simp)]
  refine bind_of (chn_eq _ _ _ _) ?_
  refine bind_of (chn_eq _ _ _ _) ?_
  rw [bif_true (by simp)]
  refine bind_of (x := (endS K a0 l).fCount) rfl ?_
  rw [bif_true (dec_t (by rw [endS_cnt]; show (0 : Int) + _ = _; omega))]
  refine bind_of (chn_eq _ _ _ _) ?_
  refine bind_of (chn_eq _ _ _ _) ?_
  rw [bif_true (by simp)]
  refine bind_of (bytes_cpy _ _ (by omega)) ?_
  refine bind_of (bytes_cpy _ _ (by omega)) ?_
  refine bind_of (ref_same (by omega) (by omega)) ?_
  rw [dec_t rfl]
end Go.Proofs.YthnfokfankaenaaDoor
