/-
 Plain: what the laws of the logs share: lists of bytes compared, crashes, torn logs, the example.
-/
import Derived.Test.YthnfokfankaenaaDoorPureJ
import Derived.Test.YthnfokfankaenaaDoorSepK
namespace Go.Proofs.YthnfokfankaenaaDoor
open Go Go.Sep
theorem lists_same {K : Nat} (hK : 1000000000000 ≤ K) {l m : List (List Int)} (hl : l.length < 1000000000) (hx : ∀ x ∈ l, x.length < 1000000000) : inspeximusref09_Same.f K l m = some (decide (l = m)) := by
 unfold inspeximusref09_Same.f
 by_cases hlm : l.length = m.length
 ·rw [bif_false (by simp [hlm])]
  have hz : (l.zip m).length = l.length := by simp [hlm]
  have hL := loop_all (L := inspeximusref09_Same_l1.l K l m) (fun (_ : Unit) (i : Nat) => (i : Int)) (l.zip m) (fun _ i x => some (bif decide (x.1 = x.2) then .inr () else .inl (.inl false))) (fun _ => some (.inr ())) () (k := K) (by rw [hz]; omega)
   (fun k s => by
    show inspeximusref09_Same_l1.b K l m (inspeximusref09_Same_l1.l K l m k) _ = _
    unfold inspeximusref09_Same_l1.b
    rw [bif_false (dec_f (by rw [hz]; simp))])
   (fun k s i x hi hx' => by
    obtain ⟨hx1, hx2⟩ := zip_get hx'
    have hxl := hx x.1 (List.mem_of_getElem? hx1)
    show inspeximusref09_Same_l1.b K l m (inspeximusref09_Same_l1.l K l m k) _ = _
    unfold inspeximusref09_Same_l1.b
    rw [bif_true (dec_t (by omega)), getI_lt hx1, getI_lt hx2]
    simp only [Option.bind_some]
    rw [ref_same (by omega) (by omega)]
    simp only [Option.bind_some]
    rw [wrap_succ (by omega)]
    cases decide (x.1 = x.2) <;> rfl)
  have hL : inspeximusref09_Same_l1.l K l m K 0 = _ := hL
  obtain ⟨r1, r2⟩ := run_find (good := fun (x : List Int × List Int) => decide (x.1 = x.2)) (v := fun _ => false) (l := l.zip m) (s := ()) (i := 0) (f := fun _ i x => some (bif decide (x.1 = x.2) then .inr () else .inl (.inl false))) (fun s i x _ => rfl)
  rw [zip_all_eq hlm] at r1 r2
  cases hg : decide (l = m) with
  | true => rw [hL, r1 hg]; rfl
  | false =>
   obtain ⟨j, _, _, hj⟩ := r2 hg
   rw [hL, hj]; rfl
 ·rw [bif_true (by simp; omega), dec_f (fun e => hlm (by rw [e]))]
/-- the first bytes of a log: its first entries, and a rest that is none -/
theorem torn {K : Nat} (hK : 1000000000000 ≤ K) : ∀ (l : List (List Int)) (a : At) (n : Nat), okL l → ∃ w T, w ≤ l.length ∧ (logW K a l).take n = logW K a (l.take w) ++ T ∧ NoEnt K (endS K a (l.take w)) T ∧ ∀ j, j ≤ l.length → ((logW K a (l.take j)).length ≤ n ↔ j ≤ w) := by
 intro l
 induction l with
 | nil =>
  intro a n _
  exact ⟨0, [], Nat.le_refl _, by simp [logW], noEnt_nil K _, fun j hj => by simp at hj; subst hj; simp [logW]⟩
 | cons b l ih =>
  intro a n hok
  have hb := hok b (by simp)
  by_cases hn : n < (entS K a b).length
  ·refine ⟨0, (entS K a b).take n, Nat.zero_le _, ?_, ?_, fun j hj => ?_⟩
   ·simp only [logW, List.take_zero, List.nil_append]
    rw [List.take_append_of_le_length (by omega)]
   ·intro x rest hx he
    have he : (entS K a b).take n = entS K a x ++ rest := he
    have e1 : entS K a b ++ [] = entS K a x ++ (rest ++ (entS K a b).drop n) := by
     rw [List.append_nil, ← List.append_assoc, ← he, List.take_append_drop]
    have hb2 := hb.2.1
    have e2 := entS_le (K := K) (a := a) (b := b) hb2
    have := ent_uniq hb hx (by rw [List.append_nil]; exact entS_isB hK (by omega) hb.2.2) (by rw [List.append_nil]; omega) e1
    subst this
    have h3 := congrArg List.length he
    simp only [List.length_take, List.length_append] at h3
    omega
   ·cases j with
    | zero => simp [logW]
    | succ j =>
     simp only [List.take_succ_cons, logW, List.length_append]
     omega
  ·obtain ⟨w, T, h1, h2, h3, h4⟩ := ih (behS K a b) (n - (entS K a b).length) (fun x hx => hok x (by simp [hx]))
   refine ⟨w + 1, T, by simp; omega, ?_, ?_, fun j hj => ?_⟩
   ·simp only [logW, List.take_succ_cons]
    rw [List.take_append, List.take_of_length_le (by omega), h2, List.append_assoc]
   ·simpa [endS] using h3
   ·cases j with
    | zero => simp [logW]
    | succ j =>
     have := h4 j (by simpa using hj)
     simp only [List.take_succ_cons, logW, List.length_append]
     omega
theorem crash_eq {K : Nat} {d : List Int} {la : Nat} {keep room : Int} (h : la ≤ d.length) (hd : d.length < 1000000) (m : Nat) (hm : m = la + (min keep ((d.length : Int) - la)).toNat) : disk_Disk_Crash.f K keep d (la : Int) room = some (d.take m, (m : Int)) := by
 unfold disk_Disk_Crash.f disk_Disk_leave.f
 have e1 : IntKind.wrap .i64 ((d.length : Int) - (la : Int)) = (d.length : Int) - la := wrap64 (by omega) (by omega)
 have e2 : maxI 0 (minI keep ((d.length : Int) - la)) = ((min keep ((d.length : Int) - la)).toNat : Int) := by
  unfold maxI minI
  rw [Int.min_def]
  split <;> split <;> split <;> omega
 rw [e1, e2]
 have hle : (min keep ((d.length : Int) - la)).toNat ≤ d.length - la := by
  rw [Int.min_def]; split <;> omega
 have e3 : IntKind.wrap .i64 ((la : Int) + ((min keep ((d.length : Int) - la)).toNat : Int)) = (m : Int) := by rw [wrap64 (by omega) (by omega)]; omega
 rw [e3, subI_0 (by omega)]
 rfl
theorem ok_a : okE [97] := ⟨by simp, by simp, by unfold isB; decide⟩
theorem ok_bc : okE [98, 99] := ⟨by simp, by simp, by unfold isB; decide⟩
theorem chain_ne : decide (chS 1000000000000 zH [97] = zH) = false := by kernel_rfl
theorem len_a (K : Nat) (a : At) : (entS K a [97]).length = 10 := by
 rw [entS_len, show ([97] : List Int).length = 1 from rfl, numS_one (by omega)]; rfl
theorem len_bc (K : Nat) (a : At) : (entS K a [98, 99]).length = 11 := by
 rw [entS_len, show ([98, 99] : List Int).length = 2 from rfl, numS_one (by omega)]; rfl
theorem bofL_a : (ByteArray.toList (bofL [97]) == ByteArray.toList (⟨#[97]⟩ : ByteArray)) = true := by kernel_rfl
theorem alive09 {K : Nat} (hK : K = 1000000000000) : inspeximuslaw09_alive.f K = some true := by
 have hK2 : 1000000000000 ≤ K := by omega
 have hne : chS K zH [97] ≠ zH := by
  rw [hK]
  exact of_decide_eq_false chain_ne
 have la := len_a K a0
 have lb := len_bc K (behS K a0 [97])
 unfold inspeximuslaw09_alive.f
 refine bind_of (new_eq (by omega) (by omega)) ?_
 refine bind_of (open_new hK2 _ _) ?_
 refine bind_of (append_eq hK2 (d := []) (a := a0) (la := 0) (room := 100) ok_a ⟨by decide, by decide⟩ (by simp) (by omega) (by simp; omega)) ?_
 simp only [List.nil_append]
 refine bind_of (put_eq hK2 (d := entS K a0 [97]) (a := behS K a0 [97]) (room := 100) ok_bc ⟨by simp [behS, a0], by simp [behS, a0]⟩ (by omega) (by omega) (by omega)) ?_
 refine bind_of (x := (behS K (behS K a0 [97]) [98, 99]).fCount) rfl ?_
 have hl : (entS K a0 [97] ++ entS K (behS K a0 [97]) [98, 99]).length = 21 := by rw [List.length_append]; omega
 have hcr := crash_eq (K := K) (d := entS K a0 [97] ++ entS K (behS K a0 [97]) [98, 99]) (la := 10) (keep := 10) (room := 100) (by omega) (by omega) 20 (by rw [hl]; rfl)
 have hlz : ((entS K a0 [97]).length : Int) = ((10 : Nat) : Int) := by rw [la]
 simp only [hlz]
 refine bind_of hcr ?_
 have hok : okL [[97], [98, 99]] := fun b hb => by
  simp at hb
  rcases hb with rfl | rfl
  ·exact ok_a
  ·exact ok_bc
 obtain ⟨w, T, h1, h2, h3, h4⟩ := torn hK2 [[97], [98, 99]] a0 20 hok
 have hw : w = 1 := by
  have e1 := h4 1 (by simp)
  have e2 := h4 2 (by simp)
  simp only [List.take_succ_cons, List.take_zero, logW, List.length_append, List.length_nil] at e1 e2
  omega
 subst hw
 have hE : logW K a0 [[97], [98, 99]] = entS K a0 [97] ++ entS K (behS K a0 [97]) [98, 99] := by simp [logW]
 rw [hE] at h2
 have hT1 : ([[97], [98, 99]] : List (List Int)).take 1 = [[97]] := rfl
 rw [hT1] at h2 h3
 have hB : isB ((entS K a0 [97] ++ entS K (behS K a0 [97]) [98, 99]).take 20) := fun x hx => (isB_append.2 ⟨entS_isB hK2 (by simp) ok_a.2.2, entS_isB hK2 (by simp) ok_bc.2.2⟩) x (List.mem_of_mem_take hx)
 refine bind_of (open_eq' hK2 hB (by rw [List.length_take]; omega) h2 (fun b hb => hok b (by simp at hb; simp [hb])) h3 _ _) ?_
 have hlw : (logW K a0 [[97]]).length = 10 := by simp [logW, la]
 simp only [jn]
 rw [bif_true (by rfl), bif_true (by rfl), bif_true (by rfl), bif_true (by rfl), bif_true (by rfl), bif_true (by rfl), bif_true (by rfl)]
 refine bind_of (x := [97]) rfl ?_
 rw [bif_true bofL_a]
 refine bind_of (x := (endS K a0 [[97]]).fCount) rfl ?_
 rw [bif_true (by rfl)]
 refine bind_of (x := logW K a0 [[97]]) (by unfold disk_Disk_Bytes.f; rw [catI_ok (by simp; omega)]; rfl) ?_
 rw [hlw, bif_true (by rfl)]
 have hs : log_Log_Size.f K 1 (endS K a0 [[97]]) (logW K a0 [[97]]) ((10 : Nat) : Int) 100 = some 10 := by
  unfold log_Log_Size.f
  simp only [jn]
  rw [bif_false (dec_f (by omega)), bif_false (dec_f (by omega))]
  refine bind_of (num_eq hK2 (n := 1) (by omega)) ?_
  rw [numS_one (by omega)]
  rfl
 refine bind_of hs ?_
 rw [bif_true (by rfl)]
 refine bind_of (x := chS K zH [97]) ?_ ?_
 ·unfold log_Log_Chain.f
  rw [bif_false (by
   have : decide ((endS K a0 [[97]]).fCount = 0) = false := by rfl
   rw [this]; rfl)]
  rfl
 ·rw [vz, dec_f hne]; rfl
theorem logW_snoc (K : Nat) (a : At) (l : List (List Int)) (b : List Int) : logW K a (l ++ [b]) = logW K a l ++ entS K (endS K a l) b := by
 rw [logW_app]; simp [logW]
theorem endS_snoc (K : Nat) (a : At) (l : List (List Int)) (b : List Int) : endS K a (l ++ [b]) = behS K (endS K a l) b := by
 rw [endS_app]; rfl
theorem endS_ok (K : Nat) {l : List (List Int)} {n : Nat} (h : l.length + n < 1000000000) : cntA (endS K a0 l) n := by
 unfold cntA
 rw [endS_cnt]
 show 0 ≤ (0 : Int) + _ ∧ (0 : Int) + _ + _ < _
 omega
theorem okL_snoc {l : List (List Int)} {b : List Int} (h : okL l) (hb : okE b) : okL (l ++ [b]) := fun x hx => by
 rcases List.mem_append.1 hx with hx | hx
 ·exact h x hx
 ·simp at hx; subst hx; exact hb
theorem getI_mid {α : Type} {x pre l : List α} {b : α} (h : x = pre ++ b :: l) : getI x (pre.length : Int) = some b := getI_lt (by rw [h]; simp)
end Go.Proofs.YthnfokfankaenaaDoor
