/-
 The plain law of LogActs.
-/
import Derived.Test.YthnfokfankaenaaDoorPureCh
namespace Go.Proofs.YthnfokfankaenaaDoor
open Go Go.Sep
abbrev RDk := T_inspeximusref08_Disk
abbrev RRd := T_inspeximusref03_Reader
theorem ref_num {K : Nat} : ∀ (n k : Nat), n < k → n < 2147483648 → inspeximusref03_Num.r K k (n : Int) = some (numS n) := by
 intro n
 induction n using Nat.strongRecOn with
 | _ n ih =>
  intro k hk hn
  obtain ⟨k, rfl⟩ : ∃ j, k = j + 1 := ⟨k - 1, by omega⟩
  show inspeximusref03_Num.b K (inspeximusref03_Num.r K k) _ = _
  unfold inspeximusref03_Num.b
  simp only [jn]
  rw [bif_false (dec_f (by omega)), bif_false (dec_f (by omega))]
  by_cases h : n < 128
  ·rw [bif_true (dec_t (by omega)), wrap8 (by omega) (by omega)]
   unfold numS
   rw [show n / 128 = 0 by omega, hiB_zero, show n % 128 = n by omega]; rfl
  ·rw [bif_false (dec_f (by omega))]
   have e1 : IntKind.wrap .i64 (Int.tdiv (n : Int) 128) = ((n / 128 : Nat) : Int) := by
    rw [Int.tdiv_eq_ediv_of_nonneg (by omega), wrap64 (by omega) (by omega)]; omega
   have e2 : IntKind.wrap .u8 (Int.tmod (n : Int) 128) = ((n % 128 : Nat) : Int) := by
    rw [Int.tmod_eq_emod_of_nonneg (by omega), wrap8 (by omega) (by omega)]; omega
   rw [e1, e2, ih (n / 128) (by omega) k (by omega) (by omega)]
   simp only [Option.bind_some]
   have hl := hiB_len 4 (n / 128 / 128) (by omega)
   have e3 : IntKind.wrap .i64 (((numS (n / 128)).length : Nat) - 1 : Int) = ((hiB (n / 128 / 128)).length : Int) := by
    have hlen : (numS (n / 128)).length = (hiB (n / 128 / 128)).length + 1 := by simp [numS]
    rw [wrap64 (by omega) (by omega)]; omega
   rw [e3, getI_nat]
   have e4 : (numS (n / 128))[(hiB (n / 128 / 128)).length]? = some ((n / 128 % 128 : Nat) : Int) := by simp [numS]
   rw [e4]
   simp only [Option.bind_some]
   rw [wrap8 (by omega) (by omega)]
   have e5 : List.set (numS (n / 128)) (Int.toNat ((hiB (n / 128 / 128)).length : Int)) (((n / 128 % 128 : Nat) : Int) + 128) = hiB (n / 128) := by
    rw [hiB_pos (n := n / 128) (by omega)]
    simp [numS]
   rw [e5]
   have hl2 := hiB_len 4 (n / 128) (by omega)
   rw [catI_ok (by simp; omega)]
   rfl
theorem refN {K : Nat} (hK : 1000000000000 ≤ K) {n : Nat} (h : n < 2147483648) : inspeximusref03_Num.f K (n : Int) = some (numS n) := ref_num n K (by omega) h
theorem rbytes_w {K : Nat} (hK : 1000000000000 ≤ K) {b : List Int} (h : b.length < 1000000) : inspeximusref03_Bytes.f K b = some (numS b.length ++ b) := by
 unfold inspeximusref03_Bytes.f
 have hn := numS_len (n := b.length) (by omega)
 refine bind_of (refN hK (by omega)) ?_
 rw [catI_ok (by omega)]
 rfl
theorem laid_ref {K : Nat} (hK : 1000000000000 ≤ K) {l : List (List Int)} {b : List Int} (hok : okL l) (hb : okE b) (hl : l.length < 100000) : inspeximusref09_Laid.f K (l ++ [b]) = some (entS K (endS K a0 l) b) := by
 unfold inspeximusref09_Laid.f
 have hb2 := hb.2.1
 refine bind_of (rchain_eq hK (okL_snoc hok hb) (by simp; omega)) ?_
 have hg : getI (l ++ [b]) (IntKind.wrap .i64 (((l ++ [b]).length : Int) - 1)) = some b := by
  have : IntKind.wrap .i64 (((l ++ [b]).length : Int) - 1) = (l.length : Int) := by
   rw [List.length_append, List.length_singleton, wrap64 (by omega) (by omega)]; omega
  rw [this]
  exact getI_lt (by simp)
 refine bind_of hg ?_
 rw [endS_snoc]
 have hs := subI_0 (l := vlist (behS K (endS K a0 l) b).fChain) (b := 8) (by rw [vlist_length]; omega)
 refine bind_of hs ?_
 refine bind_of (rbytes_w hK (by omega)) ?_
 have hn := numS_len (n := b.length) (by omega)
 refine bind_of (catI_ok (by simp only [List.length_append, List.length_take, vlist_length]; omega)) ?_
 rfl
theorem rd_bytes {K : Nat} {r : RDk} (h : r.fDone.length + r.fLate.length < 1000000) : inspeximusref08_Disk_Bytes.f K r = some (r.fDone ++ r.fLate) := by
 unfold inspeximusref08_Disk_Bytes.f
 refine bind_of (catI_ok (by rw [List.length_nil]; omega)) ?_
 refine bind_of (catI_ok (by simp only [List.length_append, List.length_nil]; omega)) ?_
 rfl
theorem rd_sync {K : Nat} {r : RDk} (h : r.fDone.length + r.fLate.length < 1000000) : inspeximusref08_Disk_Sync.f K r = some ⟨r.fDone ++ r.fLate, [], r.fSize⟩ := by
 unfold inspeximusref08_Disk_Sync.f
 refine bind_of (catI_ok (by rw [List.length_nil]; omega)) ?_
 refine bind_of (catI_ok (by simp only [List.length_append, List.length_nil]; omega)) ?_
 rfl
/-- what a put comes to -/
theorem put_gen {K : Nat} (hK : 1000000000000 ≤ K) {b d : List Int} {a : At} (hb : okE b) (ha : cntA a 1) {la room : Int} (hd : d.length < 1000000) (hr : room < 1000000) (hr0 : 0 ≤ room) :
  log_Log_Put.f K b a d la room = some (if room < ((d.length + (entS K a b).length : Nat) : Int) then (5, a, d) else (0, behS K a b, d ++ entS K a b)) := by
 by_cases hc : room < ((d.length + (entS K a b).length : Nat) : Int)
 ·rw [if_pos hc]
  have hp := hb.pos
  have hl := hb.2.1
  have hn := numS_len (n := b.length) (by omega)
  have he := entS_len K a (b := b)
  unfold log_Log_Put.f
  rw [bif_false (dec_f (by omega)), bif_false (dec_f (by omega)), laid_eq hK (by omega) ha]
  simp only [Option.bind_some]
  unfold disk_Disk_Write.f
  rw [wrap64 (by omega) (by omega), bif_true (dec_t (by omega))]
  rfl
 ·rw [if_neg hc]
  exact put_eq hK hb ha hd hr (by omega)
theorem rput_gen {K : Nat} (hK : 1000000000000 ≤ K) {b : List Int} {l : List (List Int)} {r : RDk} (hb : okE b) (hok : okL l) (hl : l.length < 100000) (hd : r.fDone.length + r.fLate.length < 1000000) :
  inspeximusref09_Log_Put.f K b l r = some (if r.fSize < ((r.fDone.length + r.fLate.length + (entS K (endS K a0 l) b).length : Nat) : Int) then (5, l, r) else (0, l ++ [b], { r with fLate := r.fLate ++ entS K (endS K a0 l) b })) := by
 have hp := hb.pos
 have hb2 := hb.2.1
 have hn := numS_len (n := b.length) (by omega)
 have he := entS_len K (endS K a0 l) (b := b)
 unfold inspeximusref09_Log_Put.f
 rw [bif_false (dec_f (by omega)), bif_false (dec_f (by omega))]
 refine bind_of (catI_ok (by rw [List.length_nil]; omega)) ?_
 refine bind_of (catI_ok (by rw [List.length_nil]; omega)) ?_
 refine bind_of (catI_ok (by simp only [List.length_append, List.length_nil, List.length_singleton]; omega)) ?_
 simp only [List.nil_append]
 refine bind_of (laid_ref hK hok hb hl) ?_
 have hw : IntKind.wrap .i64 (IntKind.wrap .i64 ((r.fDone.length : Int) + (r.fLate.length : Int)) + ((entS K (endS K a0 l) b).length : Int)) = ((r.fDone.length + r.fLate.length + (entS K (endS K a0 l) b).length : Nat) : Int) := by
  rw [wrap64 (n := (r.fDone.length : Int) + (r.fLate.length : Int)) (by omega) (by omega), wrap64 (by omega) (by omega)]; omega
 unfold inspeximusref08_Disk_Write.f
 rw [hw]
 by_cases hc : r.fSize < ((r.fDone.length + r.fLate.length + (entS K (endS K a0 l) b).length : Nat) : Int)
 ·rw [if_pos hc, bif_true (dec_t hc)]
  rfl
 ·rw [if_neg hc, bif_false (dec_f hc), catI_ok (by rw [List.length_nil]; omega)]
  simp only [Option.bind_some, List.nil_append]
  rw [catI_ok (by omega)]
  rfl
theorem jn_val2 {α β : Type} {g : α → Option β} {f : (α → Option β) → Option β} (v : α) (h : ∀ j, f j = j v) : jn g f = g v := h g
theorem bind_exP2 {α β γ : Type} {o : Option α} {x : α} {f : α → Option (β × γ)} {P : β → γ → Prop} (h : o = some x) (h2 : ∃ b c, f x = some (b, c) ∧ P b c) : ∃ b c, o.bind f = some (b, c) ∧ P b c := by rw [h]; exact h2
/-! ### the document's reader -/
theorem rnum_small {K : Nat} (hK : 1000000000000 ≤ K) {B rest : List Int} {n m : Nat} (hB : B.length < 1000000) (hm : m ≤ 2000) (h : B.drop n = numS m ++ rest) :
  inspeximusref03_Reader_Num.f K ⟨B, (n : Int), 0⟩ = some ((m : Int), ⟨B, ((n + (numS m).length : Nat) : Int), 0⟩) := by
 unfold inspeximusref03_Reader_Num.f
 rw [bif_false (by rfl)]
 obtain ⟨k, hk⟩ : ∃ j, K = j + 2 := ⟨K - 2, by omega⟩
 have at_ : ∀ j c, (numS m ++ rest)[j]? = some c → getI B ((n + j : Nat) : Int) = some c := fun j c hc => by
  rw [← h, List.getElem?_drop] at hc
  exact getI_lt hc
 have hlen : ∀ j c, (numS m ++ rest)[j]? = some c → n + j < B.length := fun j c hc => by
  rw [← h, List.getElem?_drop] at hc
  exact (List.getElem?_eq_some_iff.1 hc).1
 by_cases h1 : m < 128
 ·have e : numS m = [(m : Int)] := by
   unfold numS
   rw [show m / 128 = 0 by omega, hiB_zero, Nat.mod_eq_of_lt h1]; rfl
  have g0 := at_ 0 (m : Int) (by rw [e]; rfl)
  have l0 := hlen 0 (m : Int) (by rw [e]; rfl)
  have hL : inspeximusref03_Reader_Num_l1.l K ⟨B, (n : Int), 0⟩ (k + 2) (0, (n : Int)) = some (.inl ((m : Int), ⟨B, ((n + (numS m).length : Nat) : Int), 0⟩)) := by
   show inspeximusref03_Reader_Num_l1.b K ⟨B, (n : Int), 0⟩ (inspeximusref03_Reader_Num_l1.l K ⟨B, (n : Int), 0⟩ (k + 1)) _ = _
   unfold inspeximusref03_Reader_Num_l1.b
   rw [bif_true (dec_t (by simp only; omega))]
   simp only [jn]
   refine bind_of g0 ?_
   have w1 : IntKind.wrap .i64 (m : Int) = (m : Int) := wrap64 (by omega) (by omega)
   have w2 : IntKind.wrap .i64 ((n : Int) - (n : Int)) = 0 := by rw [wrap64 (by omega) (by omega)]; omega
   have w3 : Int.tmod (m : Int) 128 = (m : Int) := by
    have : Int.tmod (m : Int) 128 = ((m % 128 : Nat) : Int) := rfl
    rw [this, Nat.mod_eq_of_lt h1]
   have w4 : IntKind.wrap .i64 (IntKind.wrap .i64 ((0 : Int) * 128) + (m : Int)) = (m : Int) := by rw [wrap64 (n := (0 : Int) * 128) (by omega) (by omega), wrap64 (by omega) (by omega)]; omega
   rw [w1, w2, w3, w4]
   rw [bif_true (by simp), bif_false (dec_f (show ¬ (m : Int) = 128 by omega)), bif_false (dec_f (by omega)), bif_true (dec_t (by omega)), bif_false (dec_f (by omega)), wrap_succ (by omega), e]
   rfl
  rw [hk]
  rw [hk] at hL
  exact bind_of hL rfl
 ·have e : numS m = [((m / 128 : Nat) : Int) + 128, ((m % 128 : Nat) : Int)] := by
   unfold numS
   rw [hiB_pos (n := m / 128) (by omega), show m / 128 / 128 = 0 by omega, hiB_zero, Nat.mod_eq_of_lt (show m / 128 < 128 by omega)]; rfl
  have g0 := at_ 0 (((m / 128 : Nat) : Int) + 128) (by rw [e]; rfl)
  have g1 := at_ 1 ((m % 128 : Nat) : Int) (by rw [e]; rfl)
  have l1 := hlen 1 ((m % 128 : Nat) : Int) (by rw [e]; rfl)
  have hL : inspeximusref03_Reader_Num_l1.l K ⟨B, (n : Int), 0⟩ (k + 2) (0, (n : Int)) = some (.inl ((m : Int), ⟨B, ((n + (numS m).length : Nat) : Int), 0⟩)) := by
   show inspeximusref03_Reader_Num_l1.b K ⟨B, (n : Int), 0⟩ (inspeximusref03_Reader_Num_l1.l K ⟨B, (n : Int), 0⟩ (k + 1)) _ = _
   unfold inspeximusref03_Reader_Num_l1.b
   rw [bif_true (dec_t (by simp only; omega))]
   simp only [jn]
   refine bind_of g0 ?_
   have w1 : IntKind.wrap .i64 (((m / 128 : Nat) : Int) + 128) = ((m / 128 : Nat) : Int) + 128 := wrap64 (by omega) (by omega)
   have w2 : IntKind.wrap .i64 ((n : Int) - (n : Int)) = 0 := by rw [wrap64 (by omega) (by omega)]; omega
   have w3 : Int.tmod (((m / 128 : Nat) : Int) + 128) 128 = ((m / 128 : Nat) : Int) := by
    rw [Int.tmod_eq_emod_of_nonneg (by omega)]; omega
   have w4 : IntKind.wrap .i64 (IntKind.wrap .i64 ((0 : Int) * 128) + ((m / 128 : Nat) : Int)) = ((m / 128 : Nat) : Int) := by rw [wrap64 (n := (0 : Int) * 128) (by omega) (by omega), wrap64 (by omega) (by omega)]; omega
   rw [w1, w2, w3, w4]
   rw [bif_true (by simp), bif_false (dec_f (show ¬ ((m / 128 : Nat) : Int) + 128 = 128 by omega)), bif_false (dec_f (by omega)), bif_false (dec_f (by omega)), wrap_succ (by omega)]
   show inspeximusref03_Reader_Num_l1.b K ⟨B, (n : Int), 0⟩ (inspeximusref03_Reader_Num_l1.l K ⟨B, (n : Int), 0⟩ k) _ = _
   unfold inspeximusref03_Reader_Num_l1.b
   rw [bif_true (dec_t (by simp only; omega))]
   simp only [jn]
   refine bind_of g1 ?_
   have v1 : IntKind.wrap .i64 ((m % 128 : Nat) : Int) = ((m % 128 : Nat) : Int) := wrap64 (by omega) (by omega)
   have v2 : IntKind.wrap .i64 (((n + 1 : Nat) : Int) - (n : Int)) = 1 := by rw [wrap64 (by omega) (by omega)]; omega
   have v3 : Int.tmod ((m % 128 : Nat) : Int) 128 = ((m % 128 : Nat) : Int) := by
    rw [Int.tmod_eq_emod_of_nonneg (by omega)]; omega
   have v4 : IntKind.wrap .i64 (IntKind.wrap .i64 (((m / 128 : Nat) : Int) * 128) + ((m % 128 : Nat) : Int)) = (m : Int) := by rw [wrap64 (n := ((m / 128 : Nat) : Int) * 128) (by omega) (by omega), wrap64 (by omega) (by omega)]; omega
   rw [v1, v2, v3, v4]
   rw [bif_false (dec_f (by omega)), bif_false (dec_f (by omega)), bif_true (dec_t (by omega)), bif_false (dec_f (by omega)), wrap_succ (by omega), e]
   rfl
  rw [hk]
  rw [hk] at hL
  exact bind_of hL rfl
theorem rnum_tot {K : Nat} (hK : 1000000000000 ≤ K) {B : List Int} {n : Nat} (hB : isB B) (hl : B.length < 1000000) (hn : n ≤ B.length) :
  ∃ v rd, inspeximusref03_Reader_Num.f K ⟨B, (n : Int), 0⟩ = some (v, rd) ∧ rd.fB = B ∧ (rd.fBad = 0 → 0 ≤ v ∧ ∃ at' : Nat, rd.fAt = (at' : Int) ∧ at' ≤ B.length) := by
 unfold inspeximusref03_Reader_Num.f
 rw [bif_false (by rfl)]
 have key : ∀ (m i : Nat) (acc : Int) (k : Nat), i + m = B.length → m < k → n ≤ i → i ≤ n + 5 → 0 ≤ acc → acc < 2 ^ (7 * (i - n)) →
   ∃ s, inspeximusref03_Reader_Num_l1.l K ⟨B, (n : Int), 0⟩ k (acc, (i : Int)) = some s ∧ (s = .inr () ∨ ∃ v rd, s = .inl (v, rd) ∧ rd.fB = B ∧ (rd.fBad = 0 → 0 ≤ v ∧ ∃ at' : Nat, rd.fAt = (at' : Int) ∧ at' ≤ B.length)) := by
  intro m
  induction m with
  | zero =>
   intro i acc k hi hk _ _ _ _
   obtain ⟨k, rfl⟩ : ∃ j, k = j + 1 := ⟨k - 1, by omega⟩
   refine ⟨.inr (), ?_, .inl rfl⟩
   show inspeximusref03_Reader_Num_l1.b K ⟨B, (n : Int), 0⟩ (inspeximusref03_Reader_Num_l1.l K ⟨B, (n : Int), 0⟩ k) _ = _
   unfold inspeximusref03_Reader_Num_l1.b
   rw [bif_false (dec_f (by simp only; omega))]
  | succ m ih =>
   intro i acc k hi hk h1 h2 h3 h4
   obtain ⟨k, rfl⟩ : ∃ j, k = j + 1 := ⟨k - 1, by omega⟩
   obtain ⟨c, hg, hc⟩ : ∃ c, getI B (i : Int) = some c ∧ 0 ≤ c ∧ c < 256 := by
    have hi' : i < B.length := by omega
    exact ⟨B[i], by rw [getI_nat, List.getElem?_eq_getElem hi'], hB _ (List.getElem_mem hi')⟩
   have hp : 2 ^ (7 * (i - n)) ≤ (2 : Int) ^ 35 := by
    have : 2 ^ (7 * (i - n)) ≤ 2 ^ 35 := Nat.pow_le_pow_right (by omega) (by omega)
    exact_mod_cast this
   have hps : (2 : Int) ^ (7 * (i + 1 - n)) = 128 * 2 ^ (7 * (i - n)) := by
    rw [show 7 * (i + 1 - n) = 7 * (i - n) + 7 by omega, Int.pow_add]
    omega
   have hd : Int.tmod c 128 = c % 128 := Int.tmod_eq_emod_of_nonneg hc.1
   have w1 : IntKind.wrap .i64 c = c := wrap64 (by omega) (by omega)
   have w4 : IntKind.wrap .i64 (IntKind.wrap .i64 (acc * 128) + c % 128) = acc * 128 + c % 128 := by
    rw [wrap64 (n := acc * 128) (by omega) (by omega), wrap64 (by omega) (by omega)]
   have w2 : IntKind.wrap .i64 ((i : Int) - (n : Int)) = ((i - n : Nat) : Int) := by rw [wrap64 (by omega) (by omega)]; omega
   show ∃ s, inspeximusref03_Reader_Num_l1.b K ⟨B, (n : Int), 0⟩ (inspeximusref03_Reader_Num_l1.l K ⟨B, (n : Int), 0⟩ k) _ = _ ∧ _
   unfold inspeximusref03_Reader_Num_l1.b
   rw [bif_true (dec_t (by simp only; omega))]
   refine bind_exP hg ?_
   simp only [w1, hd, w4, w2]
   have hbad : ∀ e : Int, e ≠ 0 → (0 : Int) = 0 → ∃ v rd, (Sum.inl ((0 : Int), (⟨B, (n : Int), e⟩ : RRd)) : Sum (Int × RRd) Unit) = .inl (v, rd) ∧ rd.fB = B ∧ (rd.fBad = 0 → 0 ≤ v ∧ ∃ at' : Nat, rd.fAt = (at' : Int) ∧ at' ≤ B.length) := fun e he _ => ⟨_, _, rfl, rfl, fun h0 => absurd h0 he⟩
   have hj : ∀ (g : Bool → Option (Sum (Int × RRd) Unit)), (jn g fun j988 => bif decide ((i : Int) = (n : Int)) then bif decide (c = 128) then j988 true else j988 (decide ((4 : Int) < ((i - n : Nat) : Int))) else j988 (decide ((4 : Int) < ((i - n : Nat) : Int)))) = g ((decide ((i : Int) = (n : Int)) && decide (c = 128)) || decide ((4 : Int) < ((i - n : Nat) : Int))) := fun g => by
    unfold jn
    cases decide ((i : Int) = (n : Int)) <;> cases decide (c = 128) <;> rfl
   rw [hj]
   cases hb : (decide ((i : Int) = (n : Int)) && decide (c = 128)) || decide ((4 : Int) < ((i - n : Nat) : Int)) with
   | true => exact ⟨_, rfl, .inr (hbad 2 (by omega) rfl)⟩
   | false =>
    simp only [cond_false]
    simp only [Bool.or_eq_false_iff, decide_eq_false_iff_not] at hb
    by_cases hc1 : c < 128
    ·rw [bif_true (dec_t hc1)]
     by_cases hv : (2147483647 : Int) < acc * 128 + c % 128
     ·rw [bif_true (dec_t hv)]
      exact ⟨_, rfl, .inr (hbad 2 (by omega) rfl)⟩
     ·rw [bif_false (dec_f hv), wrap_succ (by omega)]
      exact ⟨_, rfl, .inr ⟨_, _, rfl, rfl, fun _ => ⟨by omega, i + 1, rfl, by omega⟩⟩⟩
    ·rw [bif_false (dec_f hc1), wrap_succ (by omega)]
     exact ih (i + 1) (acc * 128 + c % 128) k (by omega) (by omega) (by omega) (by omega) (by omega) (by rw [hps]; omega)
 obtain ⟨s, h1, h2⟩ := key (B.length - n) n 0 K (by omega) (by omega) (by omega) (by omega) (by omega) (by simp)
 refine bind_exP2 h1 ?_
 rcases h2 with rfl | ⟨v, rd, rfl, h3, h4⟩
 ·exact ⟨0, ⟨B, (n : Int), 3⟩, rfl, rfl, fun h0 => by cases h0⟩
 ·exact ⟨v, rd, rfl, h3, h4⟩
theorem docb_ok {K : Nat} (hK : 1000000000000 ≤ K) {B x rest : List Int} {n : Nat} (hB : B.length < 1000000) (hx : x.length ≤ 2000) (h : B.drop n = numS x.length ++ (x ++ rest)) :
  inspeximusref03_Reader_Bytes.f K 2000 ⟨B, (n : Int), 0⟩ = some (x, ⟨B, ((n + (numS x.length).length + x.length : Nat) : Int), 0⟩) := by
 unfold inspeximusref03_Reader_Bytes.f
 have hl := congrArg List.length h
 simp only [List.length_drop, List.length_append] at hl
 have hs := numS_len (n := x.length) (by omega)
 refine bind_of (rnum_small hK hB hx h) ?_
 rw [bif_false (by rfl), bif_false (dec_f (by omega))]
 simp only [Option.bind_some]
 rw [wrap64 (n := (B.length : Int) - ((n + (numS x.length).length : Nat) : Int)) (by omega) (by omega), bif_false (dec_f (by omega))]
 have w1 : IntKind.wrap .i64 (((n + (numS x.length).length : Nat) : Int) + (x.length : Int)) = ((n + (numS x.length).length + x.length : Nat) : Int) := by rw [wrap64 (by omega) (by omega)]; omega
 have w2 : IntKind.wrap .i64 (((n + (numS x.length).length + x.length : Nat) : Int) - (x.length : Int)) = ((n + (numS x.length).length : Nat) : Int) := by rw [wrap64 (by omega) (by omega)]; omega
 rw [w1, w2]
 have hsub := subI_nat (l := B) (a := n + (numS x.length).length) (b := n + (numS x.length).length + x.length) (by omega) (by omega)
 have e : (B.take (n + (numS x.length).length + x.length)).drop (n + (numS x.length).length) = x := by
  rw [List.drop_take, ← List.drop_drop, h, List.drop_left, show n + (numS x.length).length + x.length - (n + (numS x.length).length) = x.length by omega, List.take_left]
 rw [e] at hsub
 refine bind_of hsub ?_
 refine bind_of (catI_ok (by rw [List.length_nil]; omega)) ?_
 rfl
theorem docb_tot {K : Nat} (hK : 1000000000000 ≤ K) {B : List Int} {n : Nat} (hB : isB B) (hl : B.length < 1000000) (hn : n ≤ B.length) :
  ∃ x rd, inspeximusref03_Reader_Bytes.f K 2000 ⟨B, (n : Int), 0⟩ = some (x, rd) ∧ (rd.fBad = 0 → x.length ≤ 2000 ∧ isB x) := by
 unfold inspeximusref03_Reader_Bytes.f
 obtain ⟨v, rd, h1, h2, h3⟩ := rnum_tot hK hB hl hn
 refine bind_exP2 h1 ?_
 by_cases hb : rd.fBad = 0
 ·obtain ⟨hv, at', ha, hal⟩ := h3 hb
  rw [bif_false (by simp [hb])]
  by_cases hv2 : (2000 : Int) < v
  ·rw [bif_true (dec_t hv2)]
   exact ⟨_, _, rfl, fun h0 => by cases h0⟩
  ·rw [bif_false (dec_f hv2), h2, ha]
   rw [wrap64 (n := (B.length : Int) - (at' : Int)) (by omega) (by omega)]
   by_cases hc : (B.length : Int) - (at' : Int) < v
   ·rw [bif_true (dec_t hc)]
    exact ⟨_, _, rfl, fun h0 => by cases h0⟩
   ·rw [bif_false (dec_f hc)]
    obtain ⟨m, rfl⟩ := Int.eq_ofNat_of_zero_le hv
    have w1 : IntKind.wrap .i64 ((at' : Int) + (m : Int)) = ((at' + m : Nat) : Int) := by rw [wrap64 (by omega) (by omega)]; omega
    have w2 : IntKind.wrap .i64 (((at' + m : Nat) : Int) - (m : Int)) = (at' : Int) := by rw [wrap64 (by omega) (by omega)]; omega
    simp only [Option.bind_some]
    rw [w1, w2, h2]
    have hsub := subI_nat (l := B) (a := at') (b := at' + m) (by omega) (by omega)
    refine bind_exP2 hsub ?_
    refine bind_exP2 (catI_ok (by simp only [List.length_drop, List.length_take, List.length_nil]; omega)) ?_
    refine ⟨_, _, rfl, fun _ => ⟨?_, fun y hy => ?_⟩⟩
    ·simp only [List.nil_append, List.length_drop, List.length_take]; omega
    ·exact hB y (List.mem_of_mem_take (List.mem_of_mem_drop (by simpa using hy)))
 ·rw [bif_true (by simp [hb])]
  exact ⟨_, _, rfl, fun h0 => absurd h0 hb⟩
/-! ### how the document opens a disk -/
theorem ropen_loop {K : Nat} (hK : 1000000000000 ≤ K) {B T : List Int} (hB : isB B) (hBl : B.length < 100000) : ∀ (l pre : List (List Int)) (n k : Nat),
  B.drop n = logW K (endS K a0 pre) l ++ T → n ≤ B.length → okL (pre ++ l) → NoEnt K (endS K (endS K a0 pre) l) T → l.length < k → pre.length + l.length < 100000 →
  inspeximusref09_Open_l1.l K B k (pre, (n : Int)) = some (pre ++ l, ((n + (logW K (endS K a0 pre) l).length : Nat) : Int)) := by
 intro l
 induction l with
 | nil =>
  intro pre n k h hn hok hno hk hp
  obtain ⟨k, rfl⟩ : ∃ j, k = j + 1 := ⟨k - 1, by omega⟩
  simp only [logW, List.nil_append, endS] at h hno
  simp only [List.length_nil, Nat.add_zero] at hk hp
  have hgoal : some (pre, (n : Int)) = some (pre ++ [], ((n + (logW K (endS K a0 pre) []).length : Nat) : Int)) := by simp [logW]
  rw [← hgoal]
  show inspeximusref09_Open_l1.b K B (inspeximusref09_Open_l1.l K B k) _ = _
  unfold inspeximusref09_Open_l1.b
  obtain ⟨x, rd, h1, h2⟩ := docb_tot hK hB (by omega) hn
  refine bind_of h1 ?_
  by_cases hb : rd.fBad = 0
  ·obtain ⟨hx1, hx2⟩ := h2 hb
   by_cases hx0 : x = []
   ·refine Eq.trans (jn_val2 true (fun j => by rw [bif_false (by simp [hb]), hx0]; rfl)) ?_
    rfl
   ·have hbe : okE x := ⟨hx0, hx1, hx2⟩
    have hp0 := hbe.pos
    refine Eq.trans (jn_val2 false (fun j => by
     dsimp only
     rw [bif_false (by simp [hb]), dec_f (show ¬ ((x.length : Nat) : Int) = 0 by omega)])) ?_
    simp only [cond_false]
    rw [List.append_nil] at hok
    refine bind_of (catI_ok (by rw [List.length_nil]; omega)) ?_
    simp only [List.nil_append]
    refine bind_of (catI_ok (by simp only [List.length_singleton]; omega)) ?_
    refine bind_of (laid_ref hK hok hbe (by omega)) ?_
    have hel := entS_le (K := K) (a := endS K a0 pre) (b := x) hx1
    refine Eq.trans (jn_val2 true (fun j => ?_)) rfl
    rw [wrap64 (n := (B.length : Int) - (n : Int)) (by omega) (by omega)]
    by_cases hc : (B.length : Int) - (n : Int) < ((entS K (endS K a0 pre) x).length : Int)
    ·rw [bif_true (dec_t hc)]
    ·rw [bif_false (dec_f hc)]
     have w : IntKind.wrap .i64 ((n : Int) + ((entS K (endS K a0 pre) x).length : Int)) = ((n + (entS K (endS K a0 pre) x).length : Nat) : Int) := by rw [wrap64 (by omega) (by omega)]; omega
     rw [w]
     have hsub := subI_nat (l := B) (a := n) (b := n + (entS K (endS K a0 pre) x).length) (by omega) (by omega)
     refine bind_of hsub ?_
     refine bind_of (ref_same (by simp only [List.length_drop, List.length_take]; omega) (by simp only [List.length_drop, List.length_take]; omega)) ?_
     rw [dec_f (fun e => ?_)]
     ·rfl
     ·refine hno x ((B.drop n).drop (entS K (endS K a0 pre) x).length) hbe ?_
      rw [← h]
      conv => lhs; rw [← List.take_append_drop (entS K (endS K a0 pre) x).length (B.drop n)]
      rw [List.drop_take, show n + (entS K (endS K a0 pre) x).length - n = (entS K (endS K a0 pre) x).length by omega] at e
      rw [e]
  ·refine Eq.trans (jn_val2 true (fun j => by rw [bif_true (by simp [hb])])) ?_
   rfl
 | cons y l ih =>
  intro pre n k h hn hok hno hk hp
  obtain ⟨k, rfl⟩ : ∃ j, k = j + 1 := ⟨k - 1, by omega⟩
  have hy := hok y (by simp)
  have hokp : okL pre := fun x hx => hok x (by simp [hx])
  have hp0 := hy.pos
  have hy2 := hy.2.1
  simp only [List.length_cons] at hk hp
  simp only [logW] at h
  have he0 : B.drop n = numS y.length ++ (y ++ ((vlist (chS K (endS K a0 pre).fChain y)).take 8 ++ (logW K (behS K (endS K a0 pre) y) l ++ T))) := by
   rw [h]; simp [entS]
  have hlen := congrArg List.length h
  simp only [List.length_drop, List.length_append] at hlen
  show inspeximusref09_Open_l1.b K B (inspeximusref09_Open_l1.l K B k) _ = _
  unfold inspeximusref09_Open_l1.b
  refine bind_of (docb_ok hK (by omega) hy2 he0) ?_
  refine Eq.trans (jn_val2 false (fun j => by
   dsimp only
   rw [bif_false (by rfl), dec_f (show ¬ ((y.length : Nat) : Int) = 0 by omega)])) ?_
  simp only [cond_false]
  refine bind_of (catI_ok (by rw [List.length_nil]; omega)) ?_
  simp only [List.nil_append]
  refine bind_of (catI_ok (by simp only [List.length_singleton]; omega)) ?_
  refine bind_of (laid_ref hK hokp hy (by omega)) ?_
  have w : IntKind.wrap .i64 ((n : Int) + ((entS K (endS K a0 pre) y).length : Int)) = ((n + (entS K (endS K a0 pre) y).length : Nat) : Int) := by rw [wrap64 (by omega) (by omega)]; omega
  refine Eq.trans (jn_val2 false (fun j => ?_)) ?_
  ·rw [wrap64 (n := (B.length : Int) - (n : Int)) (by omega) (by omega), bif_false (dec_f (by omega)), w]
   have hsub := subI_nat (l := B) (a := n) (b := n + (entS K (endS K a0 pre) y).length) (by omega) (by omega)
   have e : (B.take (n + (entS K (endS K a0 pre) y).length)).drop n = entS K (endS K a0 pre) y := by
    rw [List.drop_take, show n + (entS K (endS K a0 pre) y).length - n = (entS K (endS K a0 pre) y).length by omega, h, List.append_assoc, List.take_left]
   rw [e] at hsub
   refine bind_of hsub ?_
   refine bind_of (ref_same (by omega) (by omega)) ?_
   rw [dec_t rfl]; rfl
  ·simp only [cond_false]
   rw [w]
   have := ih (pre ++ [y]) (n + (entS K (endS K a0 pre) y).length) k (by
    rw [endS_snoc, ← List.drop_drop, h, List.append_assoc, List.drop_left]) (by omega) (by rw [List.append_assoc]; exact hok) (by rw [endS_snoc]; exact hno) (by omega) (by simp; omega)
   rw [endS_snoc] at this
   simp only [List.append_assoc, List.singleton_append] at this
   rw [this]
   simp only [logW, List.length_append, Nat.add_assoc]
theorem ropen {K : Nat} (hK : 1000000000000 ≤ K) {r : RDk} {l : List (List Int)} {T : List Int} (hB : isB (r.fDone ++ r.fLate)) (hl : (r.fDone ++ r.fLate).length < 100000) (h : r.fDone ++ r.fLate = logW K a0 l ++ T) (hok : okL l) (hno : NoEnt K (endS K a0 l) T) :
  inspeximusref09_Open.f K r = some (⟨logW K a0 l, [], r.fSize⟩, l) := by
 unfold inspeximusref09_Open.f
 have hll := logW_len_le K l a0
 have hlen := congrArg List.length h
 rw [List.length_append (as := logW K a0 l)] at hlen
 have hd : r.fDone.length + r.fLate.length < 1000000 := by rw [List.length_append] at hl; omega
 refine bind_of (rd_bytes hd) ?_
 have hL := ropen_loop hK hB hl l [] 0 K (by rw [List.drop_zero, h]; rfl) (by omega) hok hno (by omega) (by simp only [List.length_nil]; omega)
 have hL : inspeximusref09_Open_l1.l K (r.fDone ++ r.fLate) K ([], 0) = some (l, ((logW K a0 l).length : Int)) := by
  have e : ((0 + (logW K (endS K a0 []) l).length : Nat) : Int) = ((logW K a0 l).length : Int) := by simp [endS]
  rw [e] at hL
  exact hL
 refine bind_of hL ?_
 unfold inspeximusref08_Disk_Cut.f
 rw [rd_bytes hd]
 simp only [Option.bind_some]
 have hj : ∀ g : Bool → Option (Int × RDk), (jn g fun j66 => bif decide (((logW K a0 l).length : Int) < 0) then j66 true else j66 (decide (((r.fDone ++ r.fLate).length : Int) < ((logW K a0 l).length : Int)))) = g false := fun g => by
  unfold jn
  dsimp only
  rw [bif_false (dec_f (by omega)), dec_f (by omega)]
 rw [hj]
 simp only [cond_false]
 rw [subI_0 (by omega)]
 have e : (r.fDone ++ r.fLate).take (logW K a0 l).length = logW K a0 l := by rw [h, List.take_left]
 rw [e]
 rfl
/-! ### the law -/
def fewS (l : List T_inspeximusref08_Act) : Bool := bif decide ((40 : Int) < (l.length : Int)) then false else l.all fun a => !decide ((300 : Int) < (a.fB.length : Int))
theorem few_eq {K : Nat} (hK : 1000000000000 ≤ K) (l : List T_inspeximusref08_Act) : inspeximuslaw09_few.f K l = some (fewS l) := by
 unfold inspeximuslaw09_few.f fewS
 by_cases h : (40 : Int) < (l.length : Int)
 ·rw [bif_true (dec_t h), bif_true (dec_t h)]
 ·rw [bif_false (dec_f h), bif_false (dec_f h)]
  have hL := loop_all (L := inspeximuslaw09_few_l1.l K l) (fun (_ : Unit) (i : Nat) => (i : Int)) l (fun _ i a => some (bif !decide ((300 : Int) < (a.fB.length : Int)) then .inr () else .inl (.inl false))) (fun _ => some (.inr ())) () (k := K) (by omega)
   (fun k s => by
    show inspeximuslaw09_few_l1.b K l (inspeximuslaw09_few_l1.l K l k) _ = _
    unfold inspeximuslaw09_few_l1.b
    rw [bif_false (dec_f (by simp))])
   (fun k s i y hi hy => by
    show inspeximuslaw09_few_l1.b K l (inspeximuslaw09_few_l1.l K l k) _ = _
    unfold inspeximuslaw09_few_l1.b
    rw [bif_true (dec_t (by omega)), getI_lt hy]
    simp only [Option.bind_some]
    rw [wrap_succ (by omega)]
    cases decide ((300 : Int) < (y.fB.length : Int)) <;> rfl)
  have hL : inspeximuslaw09_few_l1.l K l K 0 = _ := hL
  obtain ⟨r1, r2⟩ := run_find (good := fun (a : T_inspeximusref08_Act) => !decide ((300 : Int) < (a.fB.length : Int))) (v := fun _ => false) (l := l) (s := ()) (i := 0) (f := fun _ i a => some (bif !decide ((300 : Int) < (a.fB.length : Int)) then .inr () else .inl (.inl false))) (fun s i x _ => rfl)
  cases hg : l.all fun a => !decide ((300 : Int) < (a.fB.length : Int)) with
  | true => rw [hL, r1 hg]; rfl
  | false =>
   obtain ⟨j, _, _, hj⟩ := r2 hg
   rw [hL, hj]; rfl
structure InvL (K : Nat) (room : Int) (l : List (List Int)) (la : Int) (r : RDk) : Prop where
 ok : okL l
 cat : r.fDone ++ r.fLate = logW K a0 l
 la : la = (r.fDone.length : Int)
 size : r.fSize = room
 fit : ((logW K a0 l).length : Int) ≤ room
theorem InvL.len {K : Nat} {room : Int} {l : List (List Int)} {la : Int} {r : RDk} (h : InvL K room l la r) : r.fDone.length + r.fLate.length = (logW K a0 l).length := by
 rw [← h.cat, List.length_append]
theorem rcrash {K : Nat} {r : RDk} (n : Int) (h : r.fDone.length + r.fLate.length < 1000000) (m : Nat) (hm : m = r.fDone.length + (min n (r.fLate.length : Int)).toNat) :
  inspeximusref08_Disk_Crash.f K n r = some ⟨(r.fDone ++ r.fLate).take m, [], r.fSize⟩ := by
 unfold inspeximusref08_Disk_Crash.f
 refine Eq.trans (jn_val2 (if n < 0 then 0 else n) (fun j => ?_)) ?_
 ·by_cases hn : n < 0
  ·rw [if_pos hn]; exact bif_true (dec_t hn)
  ·rw [if_neg hn]; exact bif_false (dec_f hn)
 ·try dsimp only
  generalize hk : (if n < 0 then (0 : Int) else n) = k
  have hk0 : 0 ≤ k ∧ (min k (r.fLate.length : Int)).toNat = (min n (r.fLate.length : Int)).toNat := by
   subst hk
   split <;> omega
  rw [← hk0.2] at hm
  have hk0 := hk0.1
  by_cases hc : k < (r.fLate.length : Int)
  ·obtain ⟨c, rfl⟩ := Int.eq_ofNat_of_zero_le hk0
   refine Eq.trans (jn_val2 { r with fLate := r.fLate.take c } (fun j => ?_)) ?_
   ·try dsimp only
    rw [bif_true (dec_t hc)]
    refine bind_of (subI_0 (by omega)) ?_
    rfl
   ·rw [rd_sync (by simp only [List.length_take]; omega)]
    have e : r.fDone ++ r.fLate.take c = (r.fDone ++ r.fLate).take m := by
     rw [List.take_append, List.take_of_length_le (show r.fDone.length ≤ m by omega), show m - r.fDone.length = c by omega]
    simp only [Option.bind_some, e]
  ·refine Eq.trans (jn_val2 r (fun j => ?_)) ?_
   ·try dsimp only
    rw [bif_false (dec_f hc)]
   ·rw [rd_sync h]
    have e : r.fDone ++ r.fLate = (r.fDone ++ r.fLate).take m := (List.take_of_length_le (by rw [List.length_append]; omega)).symm
    simp only [Option.bind_some]
    rw [← e]
theorem acts_l1 {K : Nat} (hK : 1000000000000 ≤ K) {x2 : List T_inspeximusref08_Act} (hx : ∀ a ∈ x2, isB a.fB ∧ a.fB.length ≤ 300) (h40 : x2.length ≤ 40) {room : Int} (hr1 : 1 ≤ room) (hr2 : room ≤ 3000) : ∀ (m i : Nat) (l : List (List Int)) (la : Int) (r : RDk) (k : Nat), i + m = x2.length → m < k → InvL K room l la r →
  inspeximuslaw09_LogActs_l1.l K x2 ([], 0, room) k ((i : Int), endS K a0 l, l, logW K a0 l, la, r) = some (.inr ()) := by
 intro m
 induction m with
 | zero =>
  intro i l la r k hi hk hI
  obtain ⟨k, rfl⟩ : ∃ j, k = j + 1 := ⟨k - 1, by omega⟩
  show inspeximuslaw09_LogActs_l1.b K x2 ([], 0, room) (inspeximuslaw09_LogActs_l1.l K x2 ([], 0, room) k) _ = _
  unfold inspeximuslaw09_LogActs_l1.b
  rw [bif_false (dec_f (by simp only; omega))]
 | succ m ih =>
  intro i l la r k hi hk hI
  obtain ⟨k, rfl⟩ : ∃ j, k = j + 1 := ⟨k - 1, by omega⟩
  have hi' : i < x2.length := by omega
  obtain ⟨x, hg, hxB, hx3⟩ : ∃ x, getI x2 (i : Int) = some x ∧ isB x.fB ∧ x.fB.length ≤ 300 := by
   have := hx x2[i] (List.getElem_mem hi')
   exact ⟨x2[i], by rw [getI_nat, List.getElem?_eq_getElem hi'], this⟩
  have hll := logW_len_le K l a0
  have hfit := hI.fit
  have hlen := hI.len
  have hcnt : cntA (endS K a0 l) 1 := endS_ok K (by omega)
  show inspeximuslaw09_LogActs_l1.b K x2 ([], 0, room) (inspeximuslaw09_LogActs_l1.l K x2 ([], 0, room) k) _ = _
  unfold inspeximuslaw09_LogActs_l1.b
  rw [bif_true (dec_t (by simp only; omega))]
  refine bind_of hg ?_
  -- what the act comes to
  have hstep : ∃ l' la' r', InvL K room l' la' r' ∧ ∀ j : (Bool × At × List (List Int) × List Int × Int × RDk) → Option (Sum Bool Unit),
    (bif decide (x.fKind = (0 : Int)) then ((log_Log_Put.f K x.fB (endS K a0 l) (logW K a0 l) la room).bind fun r15413 => ((inspeximusref09_Log_Put.f K x.fB l r).bind fun r15423 => (j (decide (r15413.1 = r15423.1), r15413.2.1, r15423.2.1, r15413.2.2, la, r15423.2.2))))
     else (bif decide (x.fKind = (1 : Int)) then ((inspeximusref09_Log_Put.f K x.fB l r).bind fun r15437 => (jn (fun (y15462 : RDk) => ((log_Log_Append.f K x.fB (endS K a0 l) (logW K a0 l) la room).bind fun r15471 => (j (decide (r15471.1 = r15437.1), r15471.2.1, r15437.2.1, r15471.2.2.1, r15471.2.2.2, y15462)))) (fun j15481 => (bif decide (r15437.1 = (0 : Int)) then ((inspeximusref08_Disk_Sync.f K r15437.2.2).bind fun r15483 => (j15481 r15483)) else (j15481 r15437.2.2)))))
     else (bif decide (x.fKind = (2 : Int)) then ((disk_Disk_Crash.f K x.fN (logW K a0 l) la room).bind fun r15494 => ((inspeximusref08_Disk_Crash.f K x.fN r).bind fun r15504 => ((log_Open.f K r15494.1 r15494.2 room).bind fun r15515 => ((inspeximusref09_Open.f K r15504).bind fun r15532 => ((inspeximusref09_Same.f K r15515.1 r15532.2).bind fun r15553 => (j (r15553, r15515.2.2.2.2, r15532.2, r15515.2.2.1, r15515.2.2.2.1, r15532.1)))))))
     else (j (true, endS K a0 l, l, logW K a0 l, la, r))))) = j (true, endS K a0 l', l', logW K a0 l', la', r') := by
   by_cases k0 : x.fKind = 0
   ·simp only [k0, decide_true, cond_true]
    by_cases hb0 : x.fB = []
    ·refine ⟨l, la, r, hI, fun j => ?_⟩
     rw [hb0, put_nil]
     rfl
    ·have hbe : okE x.fB := ⟨hb0, by omega, hxB⟩
     have he := entS_le (K := K) (a := endS K a0 l) (b := x.fB) (by omega)
     have hp := put_gen hK hbe hcnt (d := logW K a0 l) (la := la) (room := room) (by omega) (by omega) (by omega)
     have hq := rput_gen hK hbe hI.ok (r := r) (by omega) (by omega)
     rw [hlen] at hq
     by_cases hc : room < (((logW K a0 l).length + (entS K (endS K a0 l) x.fB).length : Nat) : Int)
     ·rw [if_pos hc] at hp
      rw [if_pos (by rw [hI.size]; exact hc)] at hq
      refine ⟨l, la, r, hI, fun j => ?_⟩
      refine bind_of hp ?_
      refine bind_of hq ?_
      rfl
     ·rw [if_neg hc] at hp
      rw [if_neg (by rw [hI.size]; exact hc)] at hq
      refine ⟨l ++ [x.fB], la, { r with fLate := r.fLate ++ entS K (endS K a0 l) x.fB }, ⟨okL_snoc hI.ok hbe, ?_, hI.la, hI.size, ?_⟩, fun j => ?_⟩
      ·rw [logW_snoc, ← hI.cat, List.append_assoc]
      ·rw [logW_snoc, List.length_append]; omega
      ·refine bind_of hp ?_
       refine bind_of hq ?_
       rw [logW_snoc, endS_snoc]
       rfl
   ·simp only [dec_f k0, cond_false]
    by_cases k1 : x.fKind = 1
    ·simp only [k1, decide_true, cond_true]
     by_cases hb0 : x.fB = []
     ·refine ⟨l, la, r, hI, fun j => ?_⟩
      rw [hb0]
      refine bind_of (x := (1, l, r)) rfl ?_
      refine Eq.trans (jn_val2 r (fun j => rfl)) ?_
      rw [append_nil]
      rfl
     ·have hbe : okE x.fB := ⟨hb0, by omega, hxB⟩
      have he := entS_le (K := K) (a := endS K a0 l) (b := x.fB) (by omega)
      have hp := put_gen hK hbe hcnt (d := logW K a0 l) (la := la) (room := room) (by omega) (by omega) (by omega)
      have hq := rput_gen hK hbe hI.ok (r := r) (by omega) (by omega)
      rw [hlen] at hq
      by_cases hc : room < (((logW K a0 l).length + (entS K (endS K a0 l) x.fB).length : Nat) : Int)
      ·rw [if_pos hc] at hp
       rw [if_pos (by rw [hI.size]; exact hc)] at hq
       refine ⟨l, la, r, hI, fun j => ?_⟩
       refine bind_of hq ?_
       refine Eq.trans (jn_val2 r (fun j => rfl)) ?_
       have ha : log_Log_Append.f K x.fB (endS K a0 l) (logW K a0 l) la room = some (5, endS K a0 l, logW K a0 l, la) := by
        unfold log_Log_Append.f
        refine bind_of hp ?_
        rfl
       refine bind_of ha ?_
       rfl
      ·rw [if_neg hc] at hp
       rw [if_neg (by rw [hI.size]; exact hc)] at hq
       refine ⟨l ++ [x.fB], ((logW K a0 l ++ entS K (endS K a0 l) x.fB).length : Int), ⟨r.fDone ++ (r.fLate ++ entS K (endS K a0 l) x.fB), [], r.fSize⟩, ⟨okL_snoc hI.ok hbe, ?_, ?_, hI.size, ?_⟩, fun j => ?_⟩
       ·show (r.fDone ++ (r.fLate ++ entS K (endS K a0 l) x.fB)) ++ [] = _
        rw [List.append_nil, logW_snoc, ← hI.cat, List.append_assoc]
       ·rw [← hI.cat, List.append_assoc]
       ·rw [logW_snoc, List.length_append]; omega
       ·refine bind_of hq ?_
        refine Eq.trans (jn_val2 ⟨r.fDone ++ (r.fLate ++ entS K (endS K a0 l) x.fB), [], r.fSize⟩ (fun j => ?_)) ?_
        ·try dsimp only
         rw [bif_true (by rfl), rd_sync (by simp only [List.length_append]; omega)]
         rfl
        ·have ha : log_Log_Append.f K x.fB (endS K a0 l) (logW K a0 l) la room = some (0, behS K (endS K a0 l) x.fB, logW K a0 l ++ entS K (endS K a0 l) x.fB, ((logW K a0 l ++ entS K (endS K a0 l) x.fB).length : Int)) := by
          unfold log_Log_Append.f
          refine bind_of hp ?_
          rfl
         refine bind_of ha ?_
         rw [logW_snoc, endS_snoc]
         rfl
    ·simp only [dec_f k1, cond_false]
     by_cases k2 : x.fKind = 2
     ·simp only [k2, decide_true, cond_true]
      have hla : r.fDone.length ≤ (logW K a0 l).length := by omega
      generalize hm : r.fDone.length + (min x.fN (r.fLate.length : Int)).toNat = mm
      have hc1 := crash_eq (K := K) (d := logW K a0 l) (la := r.fDone.length) (keep := x.fN) (room := room) hla (by omega) mm (by rw [← hm]; congr 3; omega)
      have hc2 := rcrash (K := K) (r := r) x.fN (by omega) mm hm.symm
      rw [hI.cat] at hc2
      obtain ⟨w, T, t1, t2, t3, _⟩ := torn hK l a0 mm hI.ok
      have hok' : okL (l.take w) := fun b hb => hI.ok b (List.mem_of_mem_take hb)
      have hBt : isB ((logW K a0 l).take mm) := fun y hy => logW_isB hK hI.ok y (List.mem_of_mem_take hy)
      have hlt : ((logW K a0 l).take mm).length ≤ (logW K a0 l).length := by rw [List.length_take]; omega
      have ht2 := congrArg List.length t2
      rw [List.length_append] at ht2
      refine ⟨l.take w, ((logW K a0 (l.take w)).length : Int), ⟨logW K a0 (l.take w), [], r.fSize⟩, ⟨hok', List.append_nil _, rfl, hI.size, by omega⟩, fun j => ?_⟩
      rw [hI.la]
      refine bind_of hc1 ?_
      refine bind_of hc2 ?_
      refine bind_of (open_eq' hK hBt (by omega) t2 hok' t3 _ _) ?_
      refine bind_of (ropen hK (r := ⟨(logW K a0 l).take mm, [], r.fSize⟩) (l := l.take w) (T := T) (by simpa using hBt) (by simp only [List.append_nil]; omega) (by simpa using t2) hok' t3) ?_
      have hb3 : ∀ b ∈ l.take w, b.length < 1000000000 := fun b hb => by have := (hok' b hb).2.1; omega
      refine bind_of (lists_same hK (l := l.take w) (m := l.take w) (by rw [List.length_take]; omega) hb3) ?_
      rw [dec_t rfl]
     ·simp only [dec_f k2, cond_false]
      exact ⟨l, la, r, hI, fun j => rfl⟩
  obtain ⟨l', la', r', hI', hj⟩ := hstep
  refine Eq.trans (jn_val2 (true, endS K a0 l', l', logW K a0 l', la', r') (fun j => hj j)) ?_
  have hll' := logW_len_le K l' a0
  have hfit' := hI'.fit
  have hlen' := hI'.len
  try dsimp only
  refine Eq.trans (jn_val2 (false, logW K a0 l') (fun j => ?_)) ?_
  ·try dsimp only
   rw [bif_false (by rfl)]
   refine bind_of (x := (endS K a0 l').fCount) rfl ?_
   rw [bif_false (by
    have := endS_cnt K a0 l'
    have h0 : a0.fCount = 0 := rfl
    rw [this, h0]; simp)]
   refine bind_of (chain_eq _ _ _ _) ?_
   refine bind_of (rchain_eq hK hI'.ok (by omega)) ?_
   rw [bif_false (by simp)]
   have hcpy : disk_Disk_Bytes.f K (logW K a0 l') la' room = some (logW K a0 l') := by
    unfold disk_Disk_Bytes.f
    rw [catI_ok (by simp; omega)]
    rfl
   refine bind_of hcpy ?_
   refine bind_of (rd_bytes (by omega)) ?_
   rw [hI'.cat]
   refine bind_of (ref_same (by omega) (by omega)) ?_
   rw [dec_t rfl]
   rfl
  ·try dsimp only
   simp only [cond_false]
   rw [wrap_succ (by omega)]
   exact ih (i + 1) l' la' r' k (by omega) (by omega) hI'
theorem law_LogActs {K : Nat} (hK : K = 1000000000000) (x1 : Int) (x2 : List T_inspeximusref08_Act) (hx : ∀ a ∈ x2, isB a.fB) : inspeximuslaw09_LogActs.f K x1 x2 = some true := by
 have hK2 : 1000000000000 ≤ K := by omega
 unfold inspeximuslaw09_LogActs.f
 refine bind_of (alive09 hK) ?_
 simp only [Bool.not_true, cond_false]
 refine Eq.trans (jn_val2 (!fewS x2 || (decide (x1 < 1) || decide (3000 < x1))) (fun j => by
  try dsimp only
  rw [few_eq hK2]
  simp only [Option.bind_some]
  cases fewS x2
  ·rfl
  ·cases decide (x1 < 1) <;> rfl)) ?_
 try dsimp only
 cases hf : fewS x2 with
 | false => rfl
 | true =>
 by_cases h1 : x1 < 1
 ·rw [dec_t h1]; rfl
 by_cases h2 : (3000 : Int) < x1
 ·rw [dec_t h2, dec_f h1]; rfl
 rw [dec_f h1, dec_f h2]
 simp only [Bool.not_true, Bool.or_false, cond_false]
 unfold fewS at hf
 by_cases h40 : (40 : Int) < (x2.length : Int)
 ·rw [bif_true (dec_t h40)] at hf; cases hf
 rw [bif_false (dec_f h40)] at hf
 have hx2 : ∀ a ∈ x2, isB a.fB ∧ a.fB.length ≤ 300 := fun a ha => ⟨hx a ha, by
  have := List.all_eq_true.1 hf a ha
  simp only [Bool.not_eq_true', decide_eq_false_iff_not] at this
  omega⟩
 refine bind_of (new_eq (by omega) (by omega)) ?_
 refine bind_of (open_new hK2 0 x1) ?_
 have ho : inspeximusref09_Open.f K ⟨[], [], x1⟩ = some (⟨[], [], x1⟩, []) := ropen hK2 (r := ⟨[], [], x1⟩) (l := []) (T := []) isB_nil (by simp) rfl (by simp [okL]) (noEnt_nil K _)
 refine bind_of ho ?_
 have hL := acts_l1 hK2 hx2 (by omega) (room := x1) (by omega) (by omega) x2.length 0 [] 0 ⟨[], [], x1⟩ K (by omega) (by omega) ⟨by simp [okL], rfl, rfl, rfl, by simp [logW]; omega⟩
 have hL : inspeximuslaw09_LogActs_l1.l K x2 ([], 0, x1) K (0, a0, [], [], 0, ⟨[], [], x1⟩) = some (.inr ()) := hL
 refine bind_of (x := .inr ()) hL ?_
 rfl
end Go.Proofs.YthnfokfankaenaaDoor
