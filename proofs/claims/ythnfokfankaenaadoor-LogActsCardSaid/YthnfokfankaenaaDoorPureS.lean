/-
 What the functions of wire's reader come to.
-/
import Derived.Test.YthnfokfankaenaaDoorPureW
namespace Go.Proofs.YthnfokfankaenaaDoor
open Go Go.Sep
/-- the number that bytes begin with: the number, how many bytes, the error -/
def pN : Int → Nat → List Int → Int × Int × Int
 | _, _, [] => (0, 0, 3)
 | a, i, c :: l => if (i = 0 ∧ c = 128) ∨ i = 5 then (0, 0, 2) else if c < 128 then (if 2147483647 < a * 128 + c then (0, 0, 2) else (a * 128 + c, ((i + 1 : Nat) : Int), 0)) else pN (a * 128 + (c - 128)) (i + 1) l
def postN : Sum (Int × Int × Int) Unit → Option (Int × Int × Int) := fun s => match s with | .inl u => some u | .inr u => (fun (_ : Unit) => some (0, 0, 3)) u
theorem number_loop {K : Nat} (b : List Int) (hb : isB b) : ∀ (l : List Int) (a : Int) (i k : Nat), b.drop i = l → i ≤ b.length → l.length < k → 0 ≤ a → i ≤ 5 → a < 128 ^ i →
  (wire_number_l1.l K b k (a, (i : Int))).bind postN = some (pN a i l) := by
 intro l
 induction l with
 | nil =>
  intro a i k hx hi hk ha h5 hai
  obtain ⟨k, rfl⟩ : ∃ j, k = j + 1 := ⟨k - 1, by simp at hk; omega⟩
  show (wire_number_l1.b K b (wire_number_l1.l K b k) _).bind postN = _
  unfold wire_number_l1.b
  have : b.length ≤ i := by simpa using hx
  rw [bif_false (dec_f (by show ¬ ((i : Int) < _); omega))]; rfl
 | cons c l ih =>
  intro a i k hx hi hk ha h5 hai
  obtain ⟨k, rfl⟩ : ∃ j, k = j + 1 := ⟨k - 1, by simp at hk; omega⟩
  show (wire_number_l1.b K b (wire_number_l1.l K b k) _).bind postN = _
  unfold wire_number_l1.b
  have hlt : i < b.length := by
   have := congrArg List.length hx
   simp at this; omega
  have hg : b[i]? = some c := by
   have := congrArg (fun (l : List Int) => l[0]?) hx
   simpa using this
  have hd : b.drop (i + 1) = l := by rw [← List.drop_drop, hx]; rfl
  have hc : 0 ≤ c ∧ c < 256 := hb c (List.mem_of_getElem? hg)
  have h35 : (128 : Int) ^ i ≤ 128 ^ 5 := by
   have := Nat.pow_le_pow_right (n := 128) (by omega) h5
   exact_mod_cast this
  have ha35 : a < 34359738368 := by
   have : (128 : Int) ^ 5 = 34359738368 := by decide
   omega
  rw [bif_true (dec_t (by show (i : Int) < _; omega)), getI_nat, hg]
  simp only [Option.bind_some, jn]
  have e1 : IntKind.wrap .i64 (Int.tmod c 128) = c % 128 := by
   rw [Int.tmod_eq_emod_of_nonneg hc.1, wrap64 (by omega) (by omega)]
  have e2 : bor .i64 (IntKind.wrap .i64 (a * 2 ^ 7)) (c % 128) = a * 128 + c % 128 := by
   rw [wrap64 (by omega) (by omega), bor_i64 (k := 7) ha (by omega) (by omega) (by omega)]
   rw [show (2 : Int) ^ 7 = 128 by decide]
  have e3 : IntKind.wrap .i64 ((i : Int) + 1) = ((i + 1 : Nat) : Int) := by rw [wrap64 (by omega) (by omega)]; rfl
  simp only [e1, e2, e3]
  unfold pN
  by_cases h1 : (i = 0 ∧ c = 128) ∨ i = 5
  ·rw [if_pos h1]
   rcases h1 with ⟨rfl, rfl⟩ | rfl
   ·rw [bif_true (dec_t (by rfl)), bif_true (dec_t (by rfl))]; rfl
   ·rw [bif_false (dec_f (by decide))]
    rw [dec_t (p := ((5 : Nat) : Int) = 5) rfl]; rfl
  ·rw [if_neg h1]
   have h1' : (bif decide ((i : Int) = 0) then bif decide (c = 128) then (bif true then (some (Sum.inl (0, 0, 2)) : Option (Sum (Int × Int × Int) Unit)) else bif decide (c < 128) then bif decide (2147483647 < a * 128 + c % 128) then some (Sum.inl (0, 0, 2)) else some (Sum.inl (a * 128 + c % 128, ((i + 1 : Nat) : Int), 0)) else wire_number_l1.l K b k (a * 128 + c % 128, ((i + 1 : Nat) : Int))) else bif decide ((i : Int) = 5) then some (Sum.inl (0, 0, 2)) else bif decide (c < 128) then bif decide (2147483647 < a * 128 + c % 128) then some (Sum.inl (0, 0, 2)) else some (Sum.inl (a * 128 + c % 128, ((i + 1 : Nat) : Int), 0)) else wire_number_l1.l K b k (a * 128 + c % 128, ((i + 1 : Nat) : Int)) else bif decide ((i : Int) = 5) then some (Sum.inl (0, 0, 2)) else bif decide (c < 128) then bif decide (2147483647 < a * 128 + c % 128) then some (Sum.inl (0, 0, 2)) else some (Sum.inl (a * 128 + c % 128, ((i + 1 : Nat) : Int), 0)) else wire_number_l1.l K b k (a * 128 + c % 128, ((i + 1 : Nat) : Int))) =
     (bif decide (c < 128) then bif decide (2147483647 < a * 128 + c % 128) then some (Sum.inl (0, 0, 2)) else some (Sum.inl (a * 128 + c % 128, ((i + 1 : Nat) : Int), 0)) else wire_number_l1.l K b k (a * 128 + c % 128, ((i + 1 : Nat) : Int))) := by
    rw [dec_f (p := (i : Int) = 5) (by omega)]
    by_cases hi0 : i = 0
    ·rw [dec_f (p := c = 128) (by omega)]; cases decide ((i : Int) = 0) <;> rfl
    ·rw [dec_f (p := (i : Int) = 0) (by omega)]; rfl
   rw [h1']
   by_cases hc128 : c < 128
   ·rw [if_pos hc128, bif_true (dec_t hc128)]
    have : c % 128 = c := by omega
    rw [this]
    by_cases hbig : 2147483647 < a * 128 + c
    ·rw [if_pos hbig, bif_true (dec_t hbig)]; rfl
    ·rw [if_neg hbig, bif_false (dec_f hbig)]; rfl
   ·rw [if_neg hc128, bif_false (dec_f hc128)]
    have : c % 128 = c - 128 := by omega
    rw [this]
    refine ih _ (i + 1) k hd (by omega) (by simp at hk; omega) (by omega) (by omega) ?_
    rw [Int.pow_succ]; omega
theorem number_eq {K : Nat} {b : List Int} (hK : 1000000000000 ≤ K) (hb : isB b) (hbl : b.length < 1000000000000) : wire_number.f K b = some (pN 0 0 b) := by
 unfold wire_number.f
 exact number_loop b hb b 0 0 K rfl (by omega) (by omega) (by omega) (by omega) (by omega)
/-! ### the laws of pN -/
theorem pN_hi : ∀ (m : Nat) (l : List Int), (hiB m).length ≤ 5 → 0 < m → pN 0 0 (hiB m ++ l) = pN (m : Int) (hiB m).length l := by
 intro m
 induction m using Nat.strongRecOn with
 | _ m ih =>
  intro l h5 hm
  rw [hiB_pos hm] at h5 ⊢
  simp only [List.length_append, List.length_cons, List.length_nil] at h5 ⊢
  rw [List.append_assoc]
  have step : ∀ (i : Nat), i ≤ 4 → (i = 0 → m / 128 = 0) → pN ((m / 128 : Nat) : Int) i ([((m % 128 : Nat) : Int) + 128] ++ l) = pN (m : Int) (i + 1) l := by
   intro i hi h0
   have e : ((m / 128 : Nat) : Int) * 128 + (((m % 128 : Nat) : Int) + 128 - 128) = (m : Int) := by omega
   rw [List.singleton_append, pN, if_neg (by omega), if_neg (by omega), e]
  by_cases h0 : m / 128 = 0
  ·rw [h0, hiB_zero]
   have := step 0 (by omega) (fun _ => h0)
   rw [h0] at this
   exact this
  ·rw [ih (m / 128) (by omega) _ (by omega) (by omega)]
   refine step _ (by omega) (fun h => ?_)
   rw [hiB_pos (by omega)] at h
   simp at h
theorem pN_num {n : Nat} (h : n < 2147483648) (l : List Int) : pN 0 0 (numS n ++ l) = ((n : Int), ((numS n).length : Int), 0) := by
 have hl := hiB_len 4 (n / 128) (by omega)
 unfold numS
 rw [List.append_assoc, List.singleton_append]
 have step : ∀ i, i ≤ 4 → pN ((n / 128 : Nat) : Int) i (((n % 128 : Nat) : Int) :: l) = ((n : Int), ((i + 1 : Nat) : Int), 0) := by
  intro i hi
  rw [pN, if_neg (by omega), if_pos (by omega), if_neg (by omega)]
  congr 1
  omega
 by_cases h0 : n / 128 = 0
 ·rw [h0, hiB_zero]
  have := step 0 (by omega)
  rw [h0] at this
  exact this
 ·rw [pN_hi _ _ (by omega) (by omega), step _ (by omega)]
  simp
/-- what is read is a number's one form -/
theorem pN_back : ∀ (l : List Int) (a : Nat) (i : Nat) (n k : Int), isB l → (hiB a).length = i → pN a i l = (n, k, 0) →
  ∃ (n' j : Nat), n = n' ∧ k = ((i + j : Nat) : Int) ∧ n' < 2147483648 ∧ 0 < j ∧ j ≤ l.length ∧ hiB a ++ l.take j = numS n' ∧ ∀ m, m < j → pN a i (l.take m) = (0, 0, 3) := by
 intro l
 induction l with
 | nil => intro a i n k _ _ h; simp [pN] at h
 | cons c l ih =>
  intro a i n k hb hi h
  rw [isB_cons] at hb
  unfold pN at h
  split at h
  ·simp at h
  ·rename_i hc
   split at h
   ·rename_i hc128
    split at h
    ·simp at h
    ·rename_i hbig
     simp only [Prod.mk.injEq] at h
     obtain ⟨h1, h2, _⟩ := h
     refine ⟨a * 128 + c.toNat, 1, by omega, by omega, by omega, by omega, by simp, ?_, ?_⟩
     ·unfold numS
      rw [show (a * 128 + c.toNat) / 128 = a by omega, show (a * 128 + c.toNat) % 128 = c.toNat by omega]
      simp; omega
     ·intro m hm
      have : m = 0 := by omega
      subst this; rfl
   ·rename_i hc128
    have e : (a : Int) * 128 + (c - 128) = ((a * 128 + (c - 128).toNat : Nat) : Int) := by omega
    rw [e] at h
    have hpos : 0 < a * 128 + (c - 128).toNat := by
     by_cases ha : a = 0
     ·subst ha
      rw [hiB_zero] at hi
      simp at hi
      omega
     ·omega
    have hh : hiB (a * 128 + (c - 128).toNat) = hiB a ++ [c] := by
     rw [hiB_pos hpos, show (a * 128 + (c - 128).toNat) / 128 = a by omega]
     congr 2
     omega
    obtain ⟨n', j, h1, h2, h3, h4, h5, h6, h7⟩ := ih _ (i + 1) n k hb.2 (by rw [hh]; simp [hi]) h
    refine ⟨n', j + 1, h1, by omega, h3, by omega, by simp; omega, ?_, ?_⟩
    ·rw [← h6, hh]; simp
    ·intro m hm
     cases m with
     | zero => rfl
     | succ m =>
      rw [List.take_succ_cons, pN, if_neg hc, if_neg hc128, e]
      exact h7 m (by omega)
theorem pN_err : ∀ (l : List Int) (a : Int) (i : Nat), (pN a i l).2.2 = 0 ∨ (pN a i l = (0, 0, 2)) ∨ pN a i l = (0, 0, 3) := by
 intro l
 induction l with
 | nil => intro a i; right; right; rfl
 | cons c l ih =>
  intro a i
  unfold pN
  split
  ·right; left; rfl
  ·split
   ·split
    ·right; left; rfl
    ·left; rfl
   ·exact ih _ _
/-! ### the reader -/
abbrev Rd := T_wire_Reader
theorem fail_eq {K : Nat} {e : Int} {b : List Int} (he : e ≠ 0) : wire_Reader_Fail.f K e ⟨b, 0⟩ = some ⟨[], e⟩ := by
 unfold wire_Reader_Fail.f
 simp only [jn]
 rw [bif_true (by simp), dec_f he]; rfl
theorem rbytes_ok {K : Nat} {most : Int} {b bs rest : List Int} (hK : 1000000000000 ≤ K) (hb : isB b) (hbl : b.length < 1000000000000) (h : bs.length < 2147483648) (hm : (bs.length : Int) ≤ most) (e : b = numS bs.length ++ (bs ++ rest)) :
  wire_Reader_Bytes.f K most ⟨b, 0⟩ = some (bs, ⟨rest, 0⟩) := by
 unfold wire_Reader_Bytes.f wire_take_byte.f wire_Reader_Bad.f wire_Reader_Bytes_1.f
 simp only [Option.bind_some]
 have hl := numS_len h
 have hlen : b.length = (numS bs.length).length + (bs.length + rest.length) := by rw [e]; simp
 rw [bif_false (by simp), number_eq hK hb hbl]
 have hp : pN 0 0 b = ((bs.length : Int), ((numS bs.length).length : Int), 0) := by rw [e]; exact pN_num h _
 rw [hp]
 simp only [Option.bind_some]
 rw [bif_false (by simp), bif_false (dec_f (by omega)), wrap64 (by omega) (by omega), bif_false (dec_f (by omega)), wrap64 (by omega) (by omega)]
 have s1 : subI b ((numS bs.length).length : Int) (((numS bs.length).length : Int) + (bs.length : Int)) = some bs := by
  have := subI_nat (l := b) (a := (numS bs.length).length) (b := (numS bs.length).length + bs.length) (by omega) (by omega)
  rw [show (((numS bs.length).length + bs.length : Nat) : Int) = ((numS bs.length).length : Int) + (bs.length : Int) by omega] at this
  rw [this, e]
  congr 1
  rw [List.take_append, List.take_of_length_le (by omega)]
  simp
 rw [s1]
 simp only [Option.bind_some]
 rw [clone_eq (by omega)]
 simp only [Option.bind_some]
 rw [bif_false (by simp)]
 have s2 : subI b (((numS bs.length).length : Int) + (bs.length : Int)) ((b.length : Nat) : Int) = some rest := by
  have := subI_all (l := b) (a := (numS bs.length).length + bs.length) (by omega)
  rw [show (((numS bs.length).length + bs.length : Nat) : Int) = ((numS bs.length).length : Int) + (bs.length : Int) by omega] at this
  rw [this, e]
  congr 1
  rw [← List.drop_drop]
  simp
 rw [s2]
 simp
theorem rbytes_bad {K : Nat} {most : Int} {b : List Int} {e : Int} (he : e ≠ 0) : wire_Reader_Bytes.f K most ⟨b, e⟩ = some ([], ⟨b, e⟩) := by
 unfold wire_Reader_Bytes.f wire_take_byte.f wire_Reader_Bad.f
 simp only [Option.bind_some]
 rw [bif_true (by simp [he])]
 rfl
theorem rbad_eq {K : Nat} {r : Rd} : wire_Reader_Bad.f K r = some r.fBad := rfl
end Go.Proofs.YthnfokfankaenaaDoor
