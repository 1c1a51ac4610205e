/-
 Plain: the digest is the document's: numbers below 2^32, the schedule, the rounds, a block.
-/
import Derived.Test.YthnfokfankaenaaDoorPureC
namespace Go.Proofs.YthnfokfankaenaaDoor
open Go Go.Sep
abbrev R32 (x : Int) : Prop := 0 ≤ x ∧ x < 4294967296
theorem wu32 (x : Int) : IntKind.wrap .u32 x = x % 4294967296 := by
 simp only [IntKind.wrap, IntKind.bits, IntKind.signed]; simp
theorem wu64 (x : Int) : IntKind.wrap .u64 x = x % 18446744073709551616 := by
 simp only [IntKind.wrap, IntKind.bits, IntKind.signed]; simp
theorem wu8 (x : Int) : IntKind.wrap .u8 x = x % 256 := by
 simp only [IntKind.wrap, IntKind.bits, IntKind.signed]; simp
theorem wu64_small {x : Int} (h1 : 0 ≤ x) (h2 : x < 18446744073709551616) : IntKind.wrap .u64 x = x := by rw [wu64]; omega
theorem R32_nat {x : Int} (h : R32 x) : ∃ a : Nat, x = (a : Int) ∧ a < 4294967296 := ⟨x.toNat, by omega, by omega⟩
theorem band32 {a b : Nat} (ha : a < 4294967296) (hb : b < 4294967296) : band .u32 (a : Int) (b : Int) = ((a &&& b : Nat) : Int) ∧ band .u64 (a : Int) (b : Int) = ((a &&& b : Nat) : Int) := by
 have h := Nat.and_le_left (n := a) (m := b)
 unfold band
 constructor
 ·rw [BitVec.toNat_and]
  simp only [IntKind.bits, BitVec.ofInt_natCast, BitVec.toNat_ofNat]
  rw [show (2 : Nat) ^ 32 = 4294967296 by decide, Nat.mod_eq_of_lt ha, Nat.mod_eq_of_lt hb, wu32]; omega
 ·rw [BitVec.toNat_and]
  simp only [IntKind.bits, BitVec.ofInt_natCast, BitVec.toNat_ofNat]
  rw [show (2 : Nat) ^ 64 = 18446744073709551616 by decide, Nat.mod_eq_of_lt (by omega), Nat.mod_eq_of_lt (by omega), wu64]; omega
theorem or_lt32 {a b : Nat} (ha : a < 4294967296) (hb : b < 4294967296) : a ||| b < 4294967296 := Nat.or_lt_two_pow (n := 32) ha hb
theorem xor_lt32 {a b : Nat} (ha : a < 4294967296) (hb : b < 4294967296) : a ^^^ b < 4294967296 := Nat.xor_lt_two_pow (n := 32) ha hb
theorem bxor32 {a b : Nat} (ha : a < 4294967296) (hb : b < 4294967296) : bxor .u32 (a : Int) (b : Int) = ((a ^^^ b : Nat) : Int) ∧ bxor .u64 (a : Int) (b : Int) = ((a ^^^ b : Nat) : Int) := by
 have h := xor_lt32 ha hb
 unfold bxor
 constructor
 ·rw [BitVec.toNat_xor]
  simp only [IntKind.bits, BitVec.ofInt_natCast, BitVec.toNat_ofNat]
  rw [show (2 : Nat) ^ 32 = 4294967296 by decide, Nat.mod_eq_of_lt ha, Nat.mod_eq_of_lt hb, wu32]; omega
 ·rw [BitVec.toNat_xor]
  simp only [IntKind.bits, BitVec.ofInt_natCast, BitVec.toNat_ofNat]
  rw [show (2 : Nat) ^ 64 = 18446744073709551616 by decide, Nat.mod_eq_of_lt (by omega), Nat.mod_eq_of_lt (by omega), wu64]; omega
theorem bor32 {a b : Nat} (ha : a < 4294967296) (hb : b < 4294967296) : bor .u32 (a : Int) (b : Int) = ((a ||| b : Nat) : Int) := by
 have h := or_lt32 ha hb
 unfold bor
 rw [BitVec.toNat_or]
 simp only [IntKind.bits, BitVec.ofInt_natCast, BitVec.toNat_ofNat]
 rw [show (2 : Nat) ^ 32 = 4294967296 by decide, Nat.mod_eq_of_lt ha, Nat.mod_eq_of_lt hb, wu32]; omega
theorem bor64 {a b : Nat} (ha : a < 18446744073709551616) (hb : b < 18446744073709551616) : bor .u64 (a : Int) (b : Int) = ((a ||| b : Nat) : Int) := by
 have h : a ||| b < 18446744073709551616 := Nat.or_lt_two_pow (n := 64) ha hb
 unfold bor
 rw [BitVec.toNat_or]
 simp only [IntKind.bits, BitVec.ofInt_natCast, BitVec.toNat_ofNat]
 rw [show (2 : Nat) ^ 64 = 18446744073709551616 by decide, Nat.mod_eq_of_lt ha, Nat.mod_eq_of_lt hb, wu64]; omega
theorem bnot32 {a : Nat} (ha : a < 4294967296) : bnot .u32 (a : Int) = ((4294967295 - a : Nat) : Int) := by
 unfold bnot
 have e2 : (BitVec.allOnes 32 ^^^ BitVec.ofInt 32 (a : Int)) = ~~~ (BitVec.ofInt 32 (a : Int)) := BitVec.allOnes_xor
 have e : BitVec.ofInt 32 (if IntKind.signed .u32 = true then (-1 : Int) else IntKind.max .u32) = BitVec.allOnes 32 := by decide
 show IntKind.wrap .u32 ((BitVec.ofInt 32 (if IntKind.signed .u32 = true then (-1 : Int) else IntKind.max .u32) ^^^ BitVec.ofInt 32 (a : Int)).toNat : Int) = _
 rw [e]
 rw [e2, BitVec.toNat_not]
 simp only [BitVec.ofInt_natCast, BitVec.toNat_ofNat]
 rw [show (2 : Nat) ^ 32 = 4294967296 by decide, Nat.mod_eq_of_lt ha, wu32]; omega
/-- turned right -/
def rotN (n x : Nat) : Nat := x / 2 ^ n ||| (x * 2 ^ (32 - n)) % 4294967296
theorem rotN_lt {n x : Nat} (hx : x < 4294967296) : rotN n x < 4294967296 := or_lt32 (Nat.lt_of_le_of_lt (Nat.div_le_self _ _) hx) (Nat.mod_lt _ (by omega))
theorem fdiv_nat (a b : Nat) : Int.fdiv (a : Int) (b : Int) = ((a / b : Nat) : Int) := by
 rw [Int.fdiv_eq_ediv_of_nonneg _ (by omega)]; rfl
theorem pow_cast (n : Nat) : (2 : Int) ^ n = ((2 ^ n : Nat) : Int) := by push_cast; rfl
theorem right_eq32 {K : Nat} {x n : Nat} (hx : x < 4294967296) (hn : n < 32) (h0 : 0 < n) : inspeximusref01_right.f K (x : Int) (n : Int) = some (rotN n x : Int) := by
 unfold inspeximusref01_right.f
 have e1 : IntKind.wrap .u64 (n : Int) = (n : Int) := wu64_small (by omega) (by omega)
 have e2 : IntKind.wrap .i64 ((32 : Int) - (n : Int)) = ((32 - n : Nat) : Int) := by rw [wrap64 (by omega) (by omega)]; omega
 have e3 : IntKind.wrap .u64 ((32 - n : Nat) : Int) = ((32 - n : Nat) : Int) := wu64_small (by omega) (by omega)
 rw [e1, e2, e3]
 simp only [chk]
 rw [bif_true (by simp), bif_true (by simp)]
 rw [show ((n : Int).toNat) = n by omega, show (((32 - n : Nat) : Int).toNat) = 32 - n by omega, show min n 64 = n by omega, show min (32 - n) 64 = 32 - n by omega]
 rw [pow_cast, pow_cast, fdiv_nat]
 have hp : 2 ^ (32 - n) ≤ 2 ^ 31 := Nat.pow_le_pow_right (by omega) (by omega)
 have hb : x * 2 ^ (32 - n) < 18446744073709551616 := by
  calc x * 2 ^ (32 - n) ≤ x * 2 ^ 31 := Nat.mul_le_mul_left _ hp
   _ < 18446744073709551616 := by omega
 have e4 : (x : Int) * ((2 ^ (32 - n) : Nat) : Int) = ((x * 2 ^ (32 - n) : Nat) : Int) := by push_cast; rfl
 rw [e4, wu64_small (by omega) (by omega)]
 have hd : x / 2 ^ n ≤ x := Nat.div_le_self _ _
 rw [bor64 (by omega) hb]
 have e5 : ∀ y : Nat, Int.tmod (y : Int) 4294967296 = ((y % 4294967296 : Nat) : Int) := fun y => rfl
 rw [e5]
 have e6 : (x / 2 ^ n ||| x * 2 ^ (32 - n)) % 4294967296 = rotN n x := by
  have := Nat.or_mod_two_pow (a := x / 2 ^ n) (b := x * 2 ^ (32 - n)) (n := 32)
  rw [show (2 : Nat) ^ 32 = 4294967296 by decide] at this
  rw [this, Nat.mod_eq_of_lt (show x / 2 ^ n < 4294967296 by omega)]; rfl
 rw [e6]
theorem rotl_eq {K : Nat} {x n : Nat} (hx : x < 4294967296) (hn : n < 32) (h0 : 0 < n) : math_bits_RotateLeft32.f K (x : Int) (IntKind.wrap .i64 (0 - (n : Int))) = some (rotN n x : Int) := by
 unfold math_bits_RotateLeft32.f
 have e1 : IntKind.wrap .i64 (0 - (n : Int)) = 0 - (n : Int) := wrap64 (by omega) (by omega)
 have e2 : band .u64 (IntKind.wrap .u64 (0 - (n : Int))) 31 = ((32 - n : Nat) : Int) := by
  have : ∀ m : Nat, m < 32 → 0 < m → band .u64 (IntKind.wrap .u64 (0 - (m : Int))) 31 = ((32 - m : Nat) : Int) := by decide
  exact this n hn h0
 rw [e1, e2]
 have e3 : IntKind.wrap .u64 ((32 : Int) - ((32 - n : Nat) : Int)) = (n : Int) := by rw [wu64_small (by omega) (by omega)]; omega
 rw [e3]
 simp only [chk]
 rw [bif_true (by simp), bif_true (by simp)]
 rw [show ((n : Int).toNat) = n by omega, show (((32 - n : Nat) : Int).toNat) = 32 - n by omega, show min n 32 = n by omega, show min (32 - n) 32 = 32 - n by omega]
 rw [pow_cast, pow_cast, fdiv_nat]
 have e4 : (x : Int) * ((2 ^ (32 - n) : Nat) : Int) = ((x * 2 ^ (32 - n) : Nat) : Int) := by push_cast; rfl
 have e5 : IntKind.wrap .u32 ((x * 2 ^ (32 - n) : Nat) : Int) = ((x * 2 ^ (32 - n) % 4294967296 : Nat) : Int) := by rw [wu32]; rfl
 rw [e4, e5]
 have hd : x / 2 ^ n ≤ x := Nat.div_le_self _ _
 rw [bor32 (Nat.mod_lt _ (by omega)) (by omega), Nat.or_comm]
 rfl
def xorN (a b c : Nat) : Nat := (a ^^^ b) ^^^ c
theorem xorN_lt {a b c : Nat} (ha : a < 4294967296) (hb : b < 4294967296) (hc : c < 4294967296) : xorN a b c < 4294967296 := xor_lt32 (xor_lt32 ha hb) hc
theorem xor3 {a b c : Nat} (ha : a < 4294967296) (hb : b < 4294967296) (hc : c < 4294967296) : bxor .u32 (bxor .u32 (a : Int) (b : Int)) (c : Int) = (xorN a b c : Int) ∧ bxor .u64 (bxor .u64 (a : Int) (b : Int)) (c : Int) = (xorN a b c : Int) := by
 have h := xor_lt32 ha hb
 rw [(bxor32 ha hb).1, (bxor32 ha hb).2]
 exact bxor32 h hc
theorem moved_eq {K : Nat} {x a b c : Nat} (hx : x < 4294967296) (ha : a < 32) (ha0 : 0 < a) (hb : b < 32) (hb0 : 0 < b) (hc : c < 32) : sha_moved.f K (x : Int) (a : Int) (b : Int) (c : Int) = some (xorN (rotN a x) (rotN b x) (x / 2 ^ c) : Int) := by
 unfold sha_moved.f
 simp only [chk]
 rw [bif_true (by simp), rotl_eq hx ha ha0]
 simp only [Option.bind_some]
 rw [rotl_eq hx hb hb0]
 simp only [Option.bind_some]
 rw [show ((c : Int).toNat) = c by omega, show min c 32 = c by omega, pow_cast, fdiv_nat]
 have hd : x / 2 ^ c ≤ x := Nat.div_le_self _ _
 rw [(xor3 (rotN_lt hx) (rotN_lt hx) (by omega)).1]
theorem shift_eq {K : Nat} {x c : Nat} (hc : c < 32) : inspeximusref01_shift.f K (x : Int) (c : Int) = some ((x / 2 ^ c : Nat) : Int) := by
 unfold inspeximusref01_shift.f
 rw [wu64_small (by omega) (by omega)]
 simp only [chk]
 rw [bif_true (by simp)]
 rw [show ((c : Int).toNat) = c by omega, show min c 64 = c by omega, pow_cast, fdiv_nat]
theorem turned_eq {K : Nat} {x a b c : Nat} (hx : x < 4294967296) (ha : a < 32) (ha0 : 0 < a) (hb : b < 32) (hb0 : 0 < b) (hc : c < 32) (hc0 : 0 < c) : sha_turned.f K (x : Int) (a : Int) (b : Int) (c : Int) = some (xorN (rotN a x) (rotN b x) (rotN c x) : Int) := by
 unfold sha_turned.f
 rw [rotl_eq hx ha ha0]
 simp only [Option.bind_some]
 rw [rotl_eq hx hb hb0]
 simp only [Option.bind_some]
 rw [rotl_eq hx hc hc0]
 simp only [Option.bind_some]
 rw [(xor3 (rotN_lt hx) (rotN_lt hx) (rotN_lt hx)).1]
/-! ### vectors -/
def allV {N : Nat} (p : Int → Prop) (v : Vector Int N) : Prop := ∀ j, j < N → p (vget v j)
theorem vget_ext {N : Nat} {v u : Vector Int N} (h : ∀ j, j < N → vget v j = vget u j) : v = u := by
 apply Vector.toList_inj.1
 rw [← vlist_eq, ← vlist_eq]
 unfold vlist
 apply List.map_congr_left
 intro j hj
 exact h j (List.mem_range.1 hj)
theorem vget_ofFn {N : Nat} {f : Fin N → Int} {j : Nat} (hj : j < N) : vget (Vector.ofFn f) j = f ⟨j, hj⟩ := by
 unfold vget
 rw [List.getD_eq_getElem?_getD, Vector.getElem?_toList, Vector.getElem?_ofFn, dif_pos hj]; rfl
theorem vget_ofL {N : Nat} {l : List Int} {j : Nat} (hj : j < N) : vget (vofL N l) j = l.getD j 0 := vget_ofFn hj
theorem vget_vcopy {N : Nat} {v : Vector Int N} {p q c j : Nat} (hj : j < N) : vget (vcopy v p q c) j = if p ≤ j ∧ j < p + c then vget v (q + (j - p)) else vget v j := vget_ofFn hj
theorem allV_vset {N : Nat} {p : Int → Prop} {v : Vector Int N} {i : Nat} {x : Int} (hv : allV p v) (hx : p x) : allV p (vset v i x) := fun j hj => by
 rw [vget_vset _ _ hj]
 split
 ·exact hx
 ·exact hv j hj
theorem allV_rep {N : Nat} : allV R32 (Vector.replicate N (0 : Int)) := fun j hj => by
 have : vget (Vector.replicate N (0 : Int)) j = 0 := by
  unfold vget
  rw [List.getD_eq_getElem?_getD, Vector.getElem?_toList, Vector.getElem?_replicate, if_pos hj]; rfl
 rw [this]; omega
/-! ### the schedule -/
theorem four_nat {a b c d : Nat} (_ : a < 256) (hb : b < 256) (hc : c < 256) (hd : d < 256) : ((a * 2 ^ 24 ||| b * 2 ^ 16) ||| c * 2 ^ 8) ||| d = ((a * 256 + b) * 256 + c) * 256 + d := by
 have e1 : a * 2 ^ 24 ||| b * 2 ^ 16 = (a * 256 + b) * 2 ^ 16 := by
  rw [← Nat.shiftLeft_eq a 24, ← Nat.shiftLeft_add_eq_or_of_lt (by omega), Nat.shiftLeft_eq]; omega
 have e2 : (a * 256 + b) * 2 ^ 16 ||| c * 2 ^ 8 = ((a * 256 + b) * 256 + c) * 2 ^ 8 := by
  rw [← Nat.shiftLeft_eq _ 16, ← Nat.shiftLeft_add_eq_or_of_lt (by omega), Nat.shiftLeft_eq]; omega
 have e3 : ((a * 256 + b) * 256 + c) * 2 ^ 8 ||| d = ((a * 256 + b) * 256 + c) * 256 + d := by
  rw [← Nat.shiftLeft_eq _ 8, ← Nat.shiftLeft_add_eq_or_of_lt (by omega), Nat.shiftLeft_eq]
 rw [e1, e2, e3]
theorem mul_lt32 {a k : Nat} (ha : a < 256) (hk : 256 * 2 ^ k ≤ 4294967296) : a * 2 ^ k < 4294967296 :=
 Nat.lt_of_lt_of_le (Nat.mul_lt_mul_of_pos_right ha (Nat.two_pow_pos k)) hk
theorem sh32 {a k : Nat} (_ : a < 256) (h : a * 2 ^ k < 4294967296) : IntKind.wrap .u32 ((IntKind.wrap .u32 (a : Int)) * 2 ^ k) = ((a * 2 ^ k : Nat) : Int) := by
 rw [wu32, wu32, pow_cast]
 have : (a : Int) % 4294967296 = (a : Int) := by omega
 rw [this]
 have e : (a : Int) * ((2 ^ k : Nat) : Int) = ((a * 2 ^ k : Nat) : Int) := by push_cast; rfl
 rw [e]; omega
theorem four_l {a b c d : Nat} (ha : a < 256) (hb : b < 256) (hc : c < 256) (hd : d < 256) : bor .u32 (bor .u32 (bor .u32 (IntKind.wrap .u32 ((IntKind.wrap .u32 (a : Int)) * 2 ^ 24)) (IntKind.wrap .u32 ((IntKind.wrap .u32 (b : Int)) * 2 ^ 16))) (IntKind.wrap .u32 ((IntKind.wrap .u32 (c : Int)) * 2 ^ 8))) (IntKind.wrap .u32 (d : Int)) = ((((a * 256 + b) * 256 + c) * 256 + d : Nat) : Int) := by
 have h1 : a * 2 ^ 24 < 4294967296 := mul_lt32 ha (by decide)
 have h2 : b * 2 ^ 16 < 4294967296 := mul_lt32 hb (by decide)
 have h3 : c * 2 ^ 8 < 4294967296 := mul_lt32 hc (by decide)
 rw [sh32 ha h1, sh32 hb h2, sh32 hc h3, show IntKind.wrap .u32 (d : Int) = (d : Int) by rw [wu32]; omega]
 rw [bor32 h1 h2, bor32 (or_lt32 h1 h2) h3, bor32 (or_lt32 (or_lt32 h1 h2) h3) (by omega), four_nat ha hb hc hd]
theorem four_r {a b c d : Nat} (ha : a < 256) (hb : b < 256) (hc : c < 256) (hd : d < 256) : IntKind.wrap .u64 ((IntKind.wrap .u64 ((IntKind.wrap .u64 ((IntKind.wrap .u64 ((IntKind.wrap .u64 ((IntKind.wrap .u64 ((IntKind.wrap .u64 (a : Int)) * (256 : Int))) + (IntKind.wrap .u64 (b : Int)))) * (256 : Int))) + (IntKind.wrap .u64 (c : Int)))) * (256 : Int))) + (IntKind.wrap .u64 (d : Int))) = ((((a * 256 + b) * 256 + c) * 256 + d : Nat) : Int) := by
 simp only [wu64]; omega
def schW (b : List Int) (w : Vector Int 64) (i : Nat) : Int :=
 if i < 16 then (((((b.getD (4 * i) 0).toNat * 256 + (b.getD (4 * i + 1) 0).toNat) * 256 + (b.getD (4 * i + 2) 0).toNat) * 256 + (b.getD (4 * i + 3) 0).toNat : Nat) : Int)
 else ((xorN (rotN 17 (vget w (i - 2)).toNat) (rotN 19 (vget w (i - 2)).toNat) ((vget w (i - 2)).toNat / 2 ^ 10) : Int) + vget w (i - 7) + (xorN (rotN 7 (vget w (i - 15)).toNat) (rotN 18 (vget w (i - 15)).toNat) ((vget w (i - 15)).toNat / 2 ^ 3) : Int) + vget w (i - 16)) % 4294967296
theorem byte_at {b : List Int} (hB : isB b) {i : Nat} (h : i < b.length) : ∃ a : Nat, getI b (i : Int) = some (a : Int) ∧ a < 256 ∧ (b.getD i 0).toNat = a := by
 have hm := hB b[i] (List.getElem_mem h)
 refine ⟨(b[i]).toNat, ?_, by omega, ?_⟩
 ·rw [getI_nat, List.getElem?_eq_getElem h]
  exact congrArg some (by omega)
 ·rw [List.getD_eq_getElem?_getD, List.getElem?_eq_getElem h]; rfl
theorem schW_R {b : List Int} (hB : isB b) (hb : b.length = 64) {w : Vector Int 64} {i : Nat} (hi : i < 64) : R32 (schW b w i) := by
 unfold schW
 split
 ·obtain ⟨a0, e0, h0, g0⟩ := byte_at hB (i := 4 * i) (by omega)
  obtain ⟨a1, e1, h1, g1⟩ := byte_at hB (i := 4 * i + 1) (by omega)
  obtain ⟨a2, e2, h2, g2⟩ := byte_at hB (i := 4 * i + 2) (by omega)
  obtain ⟨a3, e3, h3, g3⟩ := byte_at hB (i := 4 * i + 3) (by omega)
  rw [g0, g1, g2, g3]; omega
 ·omega
theorem wrap_sb {i j : Nat} (h : j ≤ i) (hi : i < 1000) : IntKind.wrap .i64 ((i : Int) - (j : Int)) = ((i - j : Nat) : Int) := by rw [wrap64 (by omega) (by omega)]; omega
theorem sch_l {K : Nat} {b : List Int} (hB : isB b) (hb : b.length = 64) {w : Vector Int 64} (hw : allV R32 w) {i k : Nat} (hi : i < 64) :
  sha_schedule_l1.l K b (k + 1) ((i : Int), w) = sha_schedule_l1.l K b k (((i + 1 : Nat) : Int), vset w i (schW b w i)) := by
 show sha_schedule_l1.b K b (sha_schedule_l1.l K b k) _ = _
 unfold sha_schedule_l1.b
 simp only [jn]
 rw [bif_true (dec_t (by omega)), wrap_succ (by omega)]
 unfold schW
 by_cases h16 : i < 16
 ·rw [bif_true (dec_t (by omega)), if_pos h16]
  have w4 : IntKind.wrap .i64 (4 * (i : Int)) = ((4 * i : Nat) : Int) := by rw [wrap64 (by omega) (by omega)]; push_cast; rfl
  have wa : ∀ j : Nat, j < 4 → IntKind.wrap .i64 (((4 * i : Nat) : Int) + (j : Int)) = ((4 * i + j : Nat) : Int) := fun j hj => by rw [wrap64 (by omega) (by omega)]; push_cast; rfl
  obtain ⟨a0, e0, h0, g0⟩ := byte_at hB (i := 4 * i) (by omega)
  obtain ⟨a1, e1, h1, g1⟩ := byte_at hB (i := 4 * i + 1) (by omega)
  obtain ⟨a2, e2, h2, g2⟩ := byte_at hB (i := 4 * i + 2) (by omega)
  obtain ⟨a3, e3, h3, g3⟩ := byte_at hB (i := 4 * i + 3) (by omega)
  rw [w4, g0, g1, g2, g3]
  refine bind_of e0 ?_
  refine bind_of (x := (a1 : Int)) (by rw [← e1]; exact congrArg _ (wa 1 (by omega))) ?_
  refine bind_of (x := (a2 : Int)) (by rw [← e2]; exact congrArg _ (wa 2 (by omega))) ?_
  refine bind_of (x := (a3 : Int)) (by rw [← e3]; exact congrArg _ (wa 3 (by omega))) ?_
  rw [four_l h0 h1 h2 h3]
  simp only [chk]
  rw [bif_true (inA_lit hi)]
  simp only [Option.bind_some, Int.toNat_natCast]
 ·rw [bif_false (dec_f (by omega)), if_neg h16]
  rw [show IntKind.wrap .i64 ((i : Int) - 2) = ((i - 2 : Nat) : Int) from wrap_sb (j := 2) (by omega) (by omega), show IntKind.wrap .i64 ((i : Int) - 7) = ((i - 7 : Nat) : Int) from wrap_sb (j := 7) (by omega) (by omega),
   show IntKind.wrap .i64 ((i : Int) - 15) = ((i - 15 : Nat) : Int) from wrap_sb (j := 15) (by omega) (by omega), show IntKind.wrap .i64 ((i : Int) - 16) = ((i - 16 : Nat) : Int) from wrap_sb (j := 16) (by omega) (by omega)]
  simp only [chk]
  rw [bif_true (inA_lit (by omega)), bif_true (inA_lit (by omega)), bif_true (inA_lit (by omega)), bif_true (inA_lit (by omega))]
  simp only [Int.toNat_natCast]
  obtain ⟨a2, e2, h2⟩ := R32_nat (hw (i - 2) (by omega))
  obtain ⟨a15, e15, h15⟩ := R32_nat (hw (i - 15) (by omega))
  have h7 := hw (i - 7) (by omega)
  have h16' := hw (i - 16) (by omega)
  rw [e2, e15]
  simp only [Int.toNat_natCast]
  refine bind_of (moved_eq (a := 17) (b := 19) (c := 10) h2 (by omega) (by omega) (by omega) (by omega) (by omega)) ?_
  refine bind_of (moved_eq (a := 7) (b := 18) (c := 3) h15 (by omega) (by omega) (by omega) (by omega) (by omega)) ?_
  rw [bif_true (inA_lit hi)]
  simp only [Option.bind_some, wu32]
  congr 3
  omega
theorem sch_r {K : Nat} {b : List Int} (hB : isB b) (hb : b.length = 64) {w : Vector Int 64} (hw : allV R32 w) {i k : Nat} (hi : i < 64) :
  inspeximusref01_Turn_l1.l K b (k + 1) ((i : Int), w) = inspeximusref01_Turn_l1.l K b k (((i + 1 : Nat) : Int), vset w i (schW b w i)) := by
 show inspeximusref01_Turn_l1.b K b (inspeximusref01_Turn_l1.l K b k) _ = _
 unfold inspeximusref01_Turn_l1.b
 simp only [jn]
 rw [bif_true (dec_t (by omega)), wrap_succ (by omega)]
 unfold schW
 by_cases h16 : i < 16
 ·rw [bif_true (dec_t (by omega)), if_pos h16]
  have w4 : IntKind.wrap .i64 (4 * (i : Int)) = ((4 * i : Nat) : Int) := by rw [wrap64 (by omega) (by omega)]; push_cast; rfl
  have wa : ∀ j : Nat, j < 4 → IntKind.wrap .i64 (((4 * i : Nat) : Int) + (j : Int)) = ((4 * i + j : Nat) : Int) := fun j hj => by rw [wrap64 (by omega) (by omega)]; push_cast; rfl
  obtain ⟨a0, e0, h0, g0⟩ := byte_at hB (i := 4 * i) (by omega)
  obtain ⟨a1, e1, h1, g1⟩ := byte_at hB (i := 4 * i + 1) (by omega)
  obtain ⟨a2, e2, h2, g2⟩ := byte_at hB (i := 4 * i + 2) (by omega)
  obtain ⟨a3, e3, h3, g3⟩ := byte_at hB (i := 4 * i + 3) (by omega)
  rw [w4, g0, g1, g2, g3]
  refine bind_of e0 ?_
  refine bind_of (x := (a1 : Int)) (by rw [← e1]; exact congrArg _ (wa 1 (by omega))) ?_
  refine bind_of (x := (a2 : Int)) (by rw [← e2]; exact congrArg _ (wa 2 (by omega))) ?_
  refine bind_of (x := (a3 : Int)) (by rw [← e3]; exact congrArg _ (wa 3 (by omega))) ?_
  rw [four_r h0 h1 h2 h3]
  simp only [chk]
  rw [bif_true (inA_lit hi)]
  simp only [Option.bind_some, Int.toNat_natCast]
 ·rw [bif_false (dec_f (by omega)), if_neg h16]
  rw [show IntKind.wrap .i64 ((i : Int) - 2) = ((i - 2 : Nat) : Int) from wrap_sb (j := 2) (by omega) (by omega), show IntKind.wrap .i64 ((i : Int) - 7) = ((i - 7 : Nat) : Int) from wrap_sb (j := 7) (by omega) (by omega),
   show IntKind.wrap .i64 ((i : Int) - 15) = ((i - 15 : Nat) : Int) from wrap_sb (j := 15) (by omega) (by omega), show IntKind.wrap .i64 ((i : Int) - 16) = ((i - 16 : Nat) : Int) from wrap_sb (j := 16) (by omega) (by omega)]
  simp only [chk]
  rw [bif_true (inA_lit (by omega)), bif_true (inA_lit (by omega)), bif_true (inA_lit (by omega)), bif_true (inA_lit (by omega))]
  simp only [Int.toNat_natCast]
  obtain ⟨a2, e2, h2⟩ := R32_nat (hw (i - 2) (by omega))
  obtain ⟨a15, e15, h15⟩ := R32_nat (hw (i - 15) (by omega))
  have h7 := hw (i - 7) (by omega)
  have h16' := hw (i - 16) (by omega)
  rw [e2, e15]
  simp only [Int.toNat_natCast]
  refine bind_of (right_eq32 (n := 17) h2 (by omega) (by omega)) ?_
  refine bind_of (right_eq32 (n := 19) h2 (by omega) (by omega)) ?_
  refine bind_of (shift_eq (c := 10) (by omega)) ?_
  refine bind_of (right_eq32 (n := 7) h15 (by omega) (by omega)) ?_
  refine bind_of (right_eq32 (n := 18) h15 (by omega) (by omega)) ?_
  refine bind_of (shift_eq (c := 3) (by omega)) ?_
  have d2 : a2 / 2 ^ 10 ≤ a2 := Nat.div_le_self _ _
  have d15 : a15 / 2 ^ 3 ≤ a15 := Nat.div_le_self _ _
  rw [(xor3 (rotN_lt h2) (rotN_lt h2) (by omega)).2, (xor3 (rotN_lt h15) (rotN_lt h15) (by omega)).2]
  have x1 := xorN_lt (rotN_lt (n := 17) h2) (rotN_lt (n := 19) h2) (show a2 / 2 ^ 10 < 4294967296 by omega)
  have x2 := xorN_lt (rotN_lt (n := 7) h15) (rotN_lt (n := 18) h15) (show a15 / 2 ^ 3 < 4294967296 by omega)
  rw [bif_true (inA_lit hi)]
  simp only [Option.bind_some]
  simp only [wu64]
  rw [Int.tmod_eq_emod_of_nonneg (by omega)]
  congr 3
  omega
theorem sch_same {K : Nat} {b : List Int} (hB : isB b) (hb : b.length = 64) : ∀ (n i : Nat) (w : Vector Int 64) (k : Nat), i + n = 64 → n < k → allV R32 w →
  ∃ u, sha_schedule_l1.l K b k ((i : Int), w) = some u ∧ inspeximusref01_Turn_l1.l K b k ((i : Int), w) = some u ∧ allV R32 u := by
 intro n
 induction n with
 | zero =>
  intro i w k hi hk hw
  obtain ⟨k, rfl⟩ : ∃ j, k = j + 1 := ⟨k - 1, by omega⟩
  refine ⟨w, ?_, ?_, hw⟩
  ·show sha_schedule_l1.b K b (sha_schedule_l1.l K b k) _ = _
   unfold sha_schedule_l1.b
   rw [bif_false (dec_f (by simp only; omega))]
  ·show inspeximusref01_Turn_l1.b K b (inspeximusref01_Turn_l1.l K b k) _ = _
   unfold inspeximusref01_Turn_l1.b
   rw [bif_false (dec_f (by simp only; omega))]
 | succ n ih =>
  intro i w k hi hk hw
  obtain ⟨k, rfl⟩ : ∃ j, k = j + 1 := ⟨k - 1, by omega⟩
  rw [sch_l hB hb hw (by omega), sch_r hB hb hw (by omega)]
  exact ih (i + 1) _ k (by omega) (by omega) (allV_vset hw (schW_R hB hb (by omega)))
/-! ### the rounds -/
theorem K_R : ∀ j, j < 64 → R32 (vget gl_K j) := by decide
def oneN (w : Vector Int 64) (s : Vector Int 8) (i : Nat) : Int :=
 (vget s 7 + (xorN (rotN 6 (vget s 4).toNat) (rotN 11 (vget s 4).toNat) (rotN 25 (vget s 4).toNat) : Int) + ((((vget s 4).toNat &&& (vget s 5).toNat) ^^^ ((4294967295 - (vget s 4).toNat) &&& (vget s 6).toNat) : Nat) : Int) + vget gl_K i + vget w i) % 4294967296
def twoN (s : Vector Int 8) : Int :=
 ((xorN (rotN 2 (vget s 0).toNat) (rotN 13 (vget s 0).toNat) (rotN 22 (vget s 0).toNat) : Int) + (xorN ((vget s 0).toNat &&& (vget s 1).toNat) ((vget s 0).toNat &&& (vget s 2).toNat) ((vget s 1).toNat &&& (vget s 2).toNat) : Int)) % 4294967296
def rndV (w : Vector Int 64) (s : Vector Int 8) (i : Nat) : Vector Int 8 :=
 vofL 8 [(oneN w s i + twoN s) % 4294967296, vget s 0, vget s 1, vget s 2, (vget s 3 + oneN w s i) % 4294967296, vget s 4, vget s 5, vget s 6]
theorem lt8 {j : Nat} (h : j < 8) : j = 0 ∨ j = 1 ∨ j = 2 ∨ j = 3 ∨ j = 4 ∨ j = 5 ∨ j = 6 ∨ j = 7 := by omega
theorem rndV_R {w : Vector Int 64} {s : Vector Int 8} (hs : allV R32 s) (i : Nat) : allV R32 (rndV w s i) := fun j hj => by
 unfold rndV
 rw [vget_ofL hj]
 have a0 := hs 0 (by omega); have a1 := hs 1 (by omega); have a2 := hs 2 (by omega)
 have a4 := hs 4 (by omega); have a5 := hs 5 (by omega); have a6 := hs 6 (by omega)
 rcases lt8 hj with rfl | rfl | rfl | rfl | rfl | rfl | rfl | rfl
 ·show R32 ((oneN w s i + twoN s) % 4294967296); omega
 ·exact a0
 ·exact a1
 ·exact a2
 ·show R32 ((vget s 3 + oneN w s i) % 4294967296); omega
 ·exact a4
 ·exact a5
 ·exact a6
theorem and_lt32 {a b : Nat} (ha : a < 4294967296) : a &&& b < 4294967296 := Nat.lt_of_le_of_lt Nat.and_le_left ha
theorem ch_l {e f g : Nat} (he : e < 4294967296) (hf : f < 4294967296) (hg : g < 4294967296) : bxor .u32 (band .u32 (e : Int) (f : Int)) (band .u32 (bnot .u32 (e : Int)) (g : Int)) = (((e &&& f) ^^^ ((4294967295 - e) &&& g) : Nat) : Int) := by
 rw [bnot32 he, (band32 he hf).1, (band32 (show 4294967295 - e < 4294967296 by omega) hg).1, (bxor32 (and_lt32 he) (and_lt32 (by omega))).1]
theorem ch_r {e f g : Nat} (he : e < 4294967296) (hf : f < 4294967296) (hg : g < 4294967296) : bxor .u64 (band .u64 (e : Int) (f : Int)) (band .u64 (IntKind.wrap .u64 ((4294967295 : Int) - (e : Int))) (g : Int)) = (((e &&& f) ^^^ ((4294967295 - e) &&& g) : Nat) : Int) := by
 have : IntKind.wrap .u64 ((4294967295 : Int) - (e : Int)) = ((4294967295 - e : Nat) : Int) := by rw [wu64_small (by omega) (by omega)]; omega
 rw [this, (band32 he hf).2, (band32 (show 4294967295 - e < 4294967296 by omega) hg).2, (bxor32 (and_lt32 he) (and_lt32 (by omega))).2]
theorem maj_l {a b c : Nat} (ha : a < 4294967296) (hb : b < 4294967296) (hc : c < 4294967296) : bxor .u32 (bxor .u32 (band .u32 (a : Int) (b : Int)) (band .u32 (a : Int) (c : Int))) (band .u32 (b : Int) (c : Int)) = (xorN (a &&& b) (a &&& c) (b &&& c) : Int) := by
 rw [(band32 ha hb).1, (band32 ha hc).1, (band32 hb hc).1, (xor3 (and_lt32 ha) (and_lt32 ha) (and_lt32 hb)).1]
theorem maj_r {a b c : Nat} (ha : a < 4294967296) (hb : b < 4294967296) (hc : c < 4294967296) : bxor .u64 (bxor .u64 (band .u64 (a : Int) (b : Int)) (band .u64 (a : Int) (c : Int))) (band .u64 (b : Int) (c : Int)) = (xorN (a &&& b) (a &&& c) (b &&& c) : Int) := by
 rw [(band32 ha hb).2, (band32 ha hc).2, (band32 hb hc).2, (xor3 (and_lt32 ha) (and_lt32 ha) (and_lt32 hb)).2]
theorem tn_0 : Int.toNat (0 : Int) = 0 := rfl
theorem tn_1 : Int.toNat (1 : Int) = 1 := rfl
theorem tn_2 : Int.toNat (2 : Int) = 2 := rfl
theorem tn_3 : Int.toNat (3 : Int) = 3 := rfl
theorem tn_4 : Int.toNat (4 : Int) = 4 := rfl
theorem tn_5 : Int.toNat (5 : Int) = 5 := rfl
theorem tn_6 : Int.toNat (6 : Int) = 6 := rfl
theorem tn_7 : Int.toNat (7 : Int) = 7 := rfl
theorem getI_vlist {N : Nat} (v : Vector Int N) {i : Nat} (h : i < N) : getI (vlist v) (i : Int) = some (vget v i) := by
 rw [getI_nat, List.getElem?_eq_getElem (by rw [vlist_length]; exact h)]
 simp [vlist]
theorem rnd_l {K : Nat} {w : Vector Int 64} {s : Vector Int 8} (hw : allV R32 w) (hs : allV R32 s) {i k : Nat} (hi : i < 64) :
  sha_Turn_l1.l K w (k + 1) ((i : Int), s) = sha_Turn_l1.l K w k (((i + 1 : Nat) : Int), rndV w s i) := by
 show sha_Turn_l1.b K w (sha_Turn_l1.l K w k) _ = _
 unfold sha_Turn_l1.b
 rw [bif_true (dec_t (by simp only; omega)), wrap_succ (by omega)]
 simp only [tn_0, tn_1, tn_2, tn_4, tn_5, tn_6, tn_7, Int.toNat_natCast]
 have hk := K_R i hi
 have hwi := hw i hi
 obtain ⟨a, ea, ha⟩ := R32_nat (hs 0 (by omega))
 obtain ⟨b, eb, hb⟩ := R32_nat (hs 1 (by omega))
 obtain ⟨c, ec, hc⟩ := R32_nat (hs 2 (by omega))
 obtain ⟨d, ed, hd⟩ := R32_nat (hs 3 (by omega))
 obtain ⟨e, ee, he⟩ := R32_nat (hs 4 (by omega))
 obtain ⟨f, ef, hf⟩ := R32_nat (hs 5 (by omega))
 obtain ⟨g, eg, hg⟩ := R32_nat (hs 6 (by omega))
 obtain ⟨h, eh, hh⟩ := R32_nat (hs 7 (by omega))
 refine bind_of (getI_vlist w hi) ?_
 simp only [chk]
 rw [bif_true (inA_lit hi)]
 refine bind_of (x := (xorN (rotN 6 e) (rotN 11 e) (rotN 25 e) : Int)) (by rw [ee]; exact turned_eq (a := 6) (b := 11) (c := 25) he (by omega) (by omega) (by omega) (by omega) (by omega) (by omega)) ?_
 refine bind_of (x := (xorN (rotN 2 a) (rotN 13 a) (rotN 22 a) : Int)) (by rw [ea]; exact turned_eq (a := 2) (b := 13) (c := 22) ha (by omega) (by omega) (by omega) (by omega) (by omega) (by omega)) ?_
 simp only [Option.bind_some]
 rw [ea, eb, ec, ee, ef, eg, eh, ch_l he hf hg, maj_l ha hb hc]
 have h1 : oneN w s i = ((h : Int) + (xorN (rotN 6 e) (rotN 11 e) (rotN 25 e) : Int) + (((e &&& f) ^^^ ((4294967295 - e) &&& g) : Nat) : Int) + vget gl_K i + vget w i) % 4294967296 := by
  unfold oneN; rw [ee, ef, eg, eh]; rfl
 have h2 : twoN s = ((xorN (rotN 2 a) (rotN 13 a) (rotN 22 a) : Int) + (xorN (a &&& b) (a &&& c) (b &&& c) : Int)) % 4294967296 := by
  unfold twoN; rw [ea, eb, ec]; rfl
 have e1 : IntKind.wrap .u32 (IntKind.wrap .u32 (IntKind.wrap .u32 (IntKind.wrap .u32 ((h : Int) + (xorN (rotN 6 e) (rotN 11 e) (rotN 25 e) : Int)) + (((e &&& f) ^^^ ((4294967295 - e) &&& g) : Nat) : Int)) + vget gl_K i) + vget w i) = oneN w s i := by
  rw [h1]
  simp only [wu32, Int.emod_add_emod]
 have e2 : IntKind.wrap .u32 ((xorN (rotN 2 a) (rotN 13 a) (rotN 22 a) : Int) + (xorN (a &&& b) (a &&& c) (b &&& c) : Int)) = twoN s := by
  rw [h2, wu32]
 rw [e1, e2]
 have e3 : ∀ x : Int, vset (vset (vcopy s 1 0 7) 4 (IntKind.wrap .u32 (vget (vcopy s 1 0 7) 4 + oneN w s i))) 0 (IntKind.wrap .u32 (oneN w s i + twoN s)) = rndV w s i := fun _ => by
  apply vget_ext
  intro j hj
  rw [vget_vset _ _ hj, vget_vset _ _ hj, vget_vcopy hj, vget_vcopy (show 4 < 8 by omega)]
  unfold rndV
  rw [vget_ofL hj, wu32, wu32]
  rcases lt8 hj with rfl | rfl | rfl | rfl | rfl | rfl | rfl | rfl <;> rfl
 rw [e3 0]
theorem rnd_r {K : Nat} {w : Vector Int 64} {s : Vector Int 8} (hw : allV R32 w) (hs : allV R32 s) {i k : Nat} (hi : i < 64) :
  inspeximusref01_Turn_l3.l K w (k + 1) ((i : Int), s) = inspeximusref01_Turn_l3.l K w k (((i + 1 : Nat) : Int), rndV w s i) := by
 show inspeximusref01_Turn_l3.b K w (inspeximusref01_Turn_l3.l K w k) _ = _
 unfold inspeximusref01_Turn_l3.b
 rw [bif_true (dec_t (by simp only; omega)), wrap_succ (by omega)]
 simp only [tn_0, tn_1, tn_2, tn_3, tn_4, tn_5, tn_6, tn_7, Int.toNat_natCast]
 have hk := K_R i hi
 have hwi := hw i hi
 obtain ⟨a, ea, ha⟩ := R32_nat (hs 0 (by omega))
 obtain ⟨b, eb, hb⟩ := R32_nat (hs 1 (by omega))
 obtain ⟨c, ec, hc⟩ := R32_nat (hs 2 (by omega))
 obtain ⟨d, ed, hd⟩ := R32_nat (hs 3 (by omega))
 obtain ⟨e, ee, he⟩ := R32_nat (hs 4 (by omega))
 obtain ⟨f, ef, hf⟩ := R32_nat (hs 5 (by omega))
 obtain ⟨g, eg, hg⟩ := R32_nat (hs 6 (by omega))
 obtain ⟨h, eh, hh⟩ := R32_nat (hs 7 (by omega))
 have h1 : oneN w s i = ((h : Int) + (xorN (rotN 6 e) (rotN 11 e) (rotN 25 e) : Int) + (((e &&& f) ^^^ ((4294967295 - e) &&& g) : Nat) : Int) + vget gl_K i + vget w i) % 4294967296 := by
  unfold oneN; rw [ee, ef, eg, eh]; rfl
 have h2 : twoN s = ((xorN (rotN 2 a) (rotN 13 a) (rotN 22 a) : Int) + (xorN (a &&& b) (a &&& c) (b &&& c) : Int)) % 4294967296 := by
  unfold twoN; rw [ea, eb, ec]; rfl
 have hr : rndV w s i = vofL 8 [(oneN w s i + twoN s) % 4294967296, (a : Int), (b : Int), (c : Int), ((d : Int) + oneN w s i) % 4294967296, (e : Int), (f : Int), (g : Int)] := by
  unfold rndV; rw [ea, eb, ec, ed, ee, ef, eg]
 rw [hr, ea, eb, ec, ed, ee, ef, eg, eh]
 simp only [chk]
 rw [bif_true (inA_lit hi), bif_true (inA_lit hi)]
 refine bind_of (right_eq32 (n := 6) he (by omega) (by omega)) ?_
 refine bind_of (right_eq32 (n := 11) he (by omega) (by omega)) ?_
 refine bind_of (right_eq32 (n := 25) he (by omega) (by omega)) ?_
 refine bind_of (right_eq32 (n := 2) ha (by omega) (by omega)) ?_
 refine bind_of (right_eq32 (n := 13) ha (by omega) (by omega)) ?_
 refine bind_of (right_eq32 (n := 22) ha (by omega) (by omega)) ?_
 rw [ch_r he hf hg, maj_r ha hb hc, (xor3 (rotN_lt he) (rotN_lt he) (rotN_lt he)).2, (xor3 (rotN_lt ha) (rotN_lt ha) (rotN_lt ha)).2]
 have x1 := xorN_lt (rotN_lt (n := 6) he) (rotN_lt (n := 11) he) (rotN_lt (n := 25) he)
 have x2 := xorN_lt (rotN_lt (n := 2) ha) (rotN_lt (n := 13) ha) (rotN_lt (n := 22) ha)
 have x3 := xor_lt32 (and_lt32 (a := e) (b := f) he) (and_lt32 (a := 4294967295 - e) (b := g) (by omega))
 have x4 := xorN_lt (and_lt32 (a := a) (b := b) ha) (and_lt32 (a := a) (b := c) ha) (and_lt32 (a := b) (b := c) hb)
 generalize xorN (rotN 6 e) (rotN 11 e) (rotN 25 e) = X1 at *
 generalize xorN (rotN 2 a) (rotN 13 a) (rotN 22 a) = X2 at *
 generalize ((e &&& f) ^^^ ((4294967295 - e) &&& g)) = X3 at *
 generalize xorN (a &&& b) (a &&& c) (b &&& c) = X4 at *
 have e1 : Int.tmod (IntKind.wrap .u64 (IntKind.wrap .u64 (IntKind.wrap .u64 (IntKind.wrap .u64 ((h : Int) + (X1 : Int)) + (X3 : Int)) + IntKind.wrap .u64 (vget gl_K i)) + vget w i)) 4294967296 = oneN w s i := by
  rw [h1]
  simp only [wu64]
  rw [Int.tmod_eq_emod_of_nonneg (by omega)]
  congr 1
  omega
 have e2 : Int.tmod (IntKind.wrap .u64 ((X2 : Int) + (X4 : Int))) 4294967296 = twoN s := by
  rw [h2, wu64, Int.tmod_eq_emod_of_nonneg (by omega)]
  congr 1
  omega
 rw [e1, e2]
 have hone : R32 (oneN w s i) := by rw [h1]; omega
 have htwo : R32 (twoN s) := by rw [h2]; omega
 have e3 : Int.tmod (IntKind.wrap .u64 (oneN w s i + twoN s)) 4294967296 = (oneN w s i + twoN s) % 4294967296 := by
  rw [wu64, Int.tmod_eq_emod_of_nonneg (by omega)]
  congr 1
  omega
 have e4 : Int.tmod (IntKind.wrap .u64 ((d : Int) + oneN w s i)) 4294967296 = ((d : Int) + oneN w s i) % 4294967296 := by
  rw [wu64, Int.tmod_eq_emod_of_nonneg (by omega)]
  congr 1
  omega
 rw [e3, e4]
theorem rnd_same {K : Nat} {w : Vector Int 64} (hw : allV R32 w) : ∀ (n i : Nat) (s : Vector Int 8) (k : Nat), i + n = 64 → n < k → allV R32 s →
  ∃ u, sha_Turn_l1.l K w k ((i : Int), s) = some u ∧ inspeximusref01_Turn_l3.l K w k ((i : Int), s) = some u ∧ allV R32 u := by
 intro n
 induction n with
 | zero =>
  intro i s k hi hk hs
  obtain ⟨k, rfl⟩ : ∃ j, k = j + 1 := ⟨k - 1, by omega⟩
  refine ⟨s, ?_, ?_, hs⟩
  ·show sha_Turn_l1.b K w (sha_Turn_l1.l K w k) _ = _
   unfold sha_Turn_l1.b
   rw [bif_false (dec_f (by simp only; omega))]
  ·show inspeximusref01_Turn_l3.b K w (inspeximusref01_Turn_l3.l K w k) _ = _
   unfold inspeximusref01_Turn_l3.b
   rw [bif_false (dec_f (by simp only; omega))]
 | succ n ih =>
  intro i s k hi hk hs
  obtain ⟨k, rfl⟩ : ∃ j, k = j + 1 := ⟨k - 1, by omega⟩
  rw [rnd_l hw hs (by omega), rnd_r hw hs (by omega)]
  exact ih (i + 1) _ k (by omega) (by omega) (rndV_R hs i)
end Go.Proofs.YthnfokfankaenaaDoor
