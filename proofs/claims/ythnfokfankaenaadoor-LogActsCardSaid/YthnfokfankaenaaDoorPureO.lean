/-
 Plain: the digest is the document's: a block, what fills up, a text's digest, the digest of a domain and parts.
-/
import Derived.Test.YthnfokfankaenaaDoorPureK
namespace Go.Proofs.YthnfokfankaenaaDoor
open Go Go.Sep
theorem add_same {K : Nat} {z : Vector Int 8} (hz : allV R32 z) : ∀ (n i : Nat) (v : Vector Int 8) (k : Nat), i + n = 8 → n < k → allV R32 v →
  ∃ u, sha_Turn_l2.l K z k ((i : Int), v) = some u ∧ inspeximusref01_Turn_l4.l K z k ((i : Int), v) = some u ∧ allV R32 u := by
 intro n
 induction n with
 | zero =>
  intro i v k hi hk hv
  obtain ⟨k, rfl⟩ : ∃ j, k = j + 1 := ⟨k - 1, by omega⟩
  refine ⟨v, ?_, ?_, hv⟩
  ·show sha_Turn_l2.b K z (sha_Turn_l2.l K z k) _ = _
   unfold sha_Turn_l2.b
   rw [bif_false (dec_f (by simp only; omega))]
  ·show inspeximusref01_Turn_l4.b K z (inspeximusref01_Turn_l4.l K z k) _ = _
   unfold inspeximusref01_Turn_l4.b
   rw [bif_false (dec_f (by simp only; omega))]
 | succ n ih =>
  intro i v k hi hk hv
  obtain ⟨k, rfl⟩ : ∃ j, k = j + 1 := ⟨k - 1, by omega⟩
  have h1 := hv i (by omega)
  have h2 := hz i (by omega)
  have e1 : sha_Turn_l2.l K z (k + 1) ((i : Int), v) = sha_Turn_l2.l K z k (((i + 1 : Nat) : Int), vset v i ((vget v i + vget z i) % 4294967296)) := by
   show sha_Turn_l2.b K z (sha_Turn_l2.l K z k) _ = _
   unfold sha_Turn_l2.b
   rw [bif_true (dec_t (by simp only; omega)), wrap_succ (by omega)]
   simp only [chk, Option.bind_some, Int.toNat_natCast]
   rw [bif_true (inA_lit (by omega)), bif_true (inA_lit (by omega)), bif_true (inA_lit (by omega)), wu32]
  have e2 : inspeximusref01_Turn_l4.l K z (k + 1) ((i : Int), v) = inspeximusref01_Turn_l4.l K z k (((i + 1 : Nat) : Int), vset v i ((vget v i + vget z i) % 4294967296)) := by
   show inspeximusref01_Turn_l4.b K z (inspeximusref01_Turn_l4.l K z k) _ = _
   unfold inspeximusref01_Turn_l4.b
   rw [bif_true (dec_t (by simp only; omega)), wrap_succ (by omega)]
   simp only [chk, Option.bind_some, Int.toNat_natCast]
   rw [bif_true (inA_lit (by omega)), bif_true (inA_lit (by omega)), bif_true (inA_lit (by omega))]
   have : IntKind.wrap .u32 (Int.tmod (IntKind.wrap .u64 (IntKind.wrap .u64 (vget v i) + vget z i)) 4294967296) = (vget v i + vget z i) % 4294967296 := by
    simp only [wu32, wu64]
    rw [Int.tmod_eq_emod_of_nonneg (by omega)]
    omega
   rw [this]
  rw [e1, e2]
  exact ih (i + 1) _ k (by omega) (by omega) (allV_vset hv (by omega))
theorem cp_ref {K : Nat} {x : Vector Int 8} (hx : allV R32 x) : ∀ (n i : Nat) (v : Vector Int 8) (k : Nat), i + n = 8 → n < k → (∀ j, j < i → vget v j = vget x j) → inspeximusref01_Turn_l2.l K x k ((i : Int), v) = some x := by
 intro n
 induction n with
 | zero =>
  intro i v k hi hk hv
  obtain ⟨k, rfl⟩ : ∃ j, k = j + 1 := ⟨k - 1, by omega⟩
  show inspeximusref01_Turn_l2.b K x (inspeximusref01_Turn_l2.l K x k) _ = _
  unfold inspeximusref01_Turn_l2.b
  rw [bif_false (dec_f (by simp only; omega))]
  exact congrArg some (vget_ext fun j hj => hv j (by omega))
 | succ n ih =>
  intro i v k hi hk hv
  obtain ⟨k, rfl⟩ : ∃ j, k = j + 1 := ⟨k - 1, by omega⟩
  show inspeximusref01_Turn_l2.b K x (inspeximusref01_Turn_l2.l K x k) _ = _
  unfold inspeximusref01_Turn_l2.b
  rw [bif_true (dec_t (by simp only; omega)), wrap_succ (by omega)]
  simp only [chk, Option.bind_some, Int.toNat_natCast]
  rw [bif_true (inA_lit (by omega)), bif_true (inA_lit (by omega))]
  have h1 := hx i (by omega)
  refine ih (i + 1) _ k (by omega) (by omega) (fun j hj => ?_)
  rw [vget_vset _ _ (by omega), wu64_small (by omega) (by omega)]
  split
  ·rename_i e; rw [e]
  ·exact hv j (by omega)
theorem turn_same {K : Nat} (hK : 100 < K) {h : Vector Int 8} (hh : allV R32 h) {b : List Int} (hB : isB b) (hb : b.length = 64) :
  ∃ u, sha_Turn.f K h b = some u ∧ inspeximusref01_Turn.f K h b = some u ∧ allV R32 u := by
 obtain ⟨w, w1, w2, hw⟩ := sch_same (K := K) hB hb 64 0 (Vector.replicate 64 0) K (by omega) (by omega) allV_rep
 obtain ⟨z, z1, z2, hz⟩ := rnd_same (K := K) hw 64 0 h K (by omega) (by omega) hh
 obtain ⟨u, u1, u2, hu⟩ := add_same (K := K) hz 8 0 h K (by omega) (by omega) hh
 have c := cp_ref (K := K) hh 8 0 (Vector.replicate 8 0) K (by omega) (by omega) (fun j hj => absurd hj (by omega))
 refine ⟨u, ?_, ?_, hu⟩
 ·unfold sha_Turn.f sha_schedule.f
  rw [bif_false (by simp [hb])]
  have w1 : sha_schedule_l1.l K b K (0, Vector.replicate 64 0) = some w := w1
  rw [w1]
  simp only [Option.bind_some]
  refine bind_of (x := z) z1 ?_
  exact bind_of (x := u) u1 rfl
 ·unfold inspeximusref01_Turn.f
  rw [bif_false (by simp [hb])]
  refine bind_of (x := w) w2 ?_
  refine bind_of (x := h) c ?_
  refine bind_of (x := z) z2 ?_
  exact bind_of (x := u) u2 rfl
/-! ### what fills up -/
theorem fill_same {K : Nat} (hK : 100 < K) {n : Nat} (hn : n < 1000000000) : ∃ r : List Int, sha_Fill.f K (n : Int) = some r ∧ inspeximusref01_Fill.f K (n : Int) = some r ∧ isB r ∧ r.length < 200 := by
 unfold sha_Fill.f inspeximusref01_Fill.f
 rw [bif_false (dec_f (by omega)), bif_false (dec_f (by omega))]
 have key : ∀ (m : Nat) (out : List Int) (k : Nat), out.length + m ≤ 65 → (n + out.length + m) % 64 = 56 → m < k → isB out → ∃ r, sha_Fill_l1.l K (n : Int) k out = some r ∧ inspeximusref01_Fill_l1.l K (n : Int) k out = some r ∧ isB r ∧ r.length < 100 := by
  intro m
  induction m with
  | zero =>
   intro out k ho hm hk hB
   obtain ⟨k, rfl⟩ : ∃ j, k = j + 1 := ⟨k - 1, by omega⟩
   have e : Int.tmod ((n : Int) + (out.length : Int)) 64 = ((n + out.length) % 64 : Nat) := rfl
   refine ⟨out, ?_, ?_, hB, by omega⟩
   ·show sha_Fill_l1.b K (n : Int) (sha_Fill_l1.l K (n : Int) k) _ = _
    unfold sha_Fill_l1.b
    rw [wrap64 (by omega) (by omega), e, bif_false (by simp; omega)]
   ·show inspeximusref01_Fill_l1.b K (n : Int) (inspeximusref01_Fill_l1.l K (n : Int) k) _ = _
    unfold inspeximusref01_Fill_l1.b
    rw [wrap64 (by omega) (by omega), e, bif_false (by simp; omega)]
  | succ m ih =>
   intro out k ho hm hk hB
   obtain ⟨k, rfl⟩ : ∃ j, k = j + 1 := ⟨k - 1, by omega⟩
   show ∃ r, sha_Fill_l1.b K (n : Int) (sha_Fill_l1.l K (n : Int) k) _ = _ ∧ inspeximusref01_Fill_l1.b K (n : Int) (inspeximusref01_Fill_l1.l K (n : Int) k) _ = _ ∧ _
   unfold sha_Fill_l1.b inspeximusref01_Fill_l1.b
   rw [wrap64 (by omega) (by omega)]
   have : Int.tmod ((n : Int) + (out.length : Int)) 64 = ((n + out.length) % 64 : Nat) := rfl
   rw [this]
   by_cases hc : (n + out.length) % 64 = 56
   ·rw [bif_false (by simp; omega), bif_false (by simp; omega)]
    exact ⟨out, rfl, rfl, hB, by omega⟩
   ·rw [bif_true (by simp; omega), bif_true (by simp; omega), catI_ok (by simp; omega)]
    simp only [Option.bind_some]
    exact ih (out ++ [0]) k (by simp; omega) (by simp; omega) (by omega) (isB_append.2 ⟨hB, isB_cons.2 ⟨by omega, isB_nil⟩⟩)
 obtain ⟨z, hz1, hz2, hzB, hzl⟩ := key ((56 + 64 * 20000000 - (n + 1)) % 64) [128] K (by simp; omega) (by simp; omega) (by omega) (isB_cons.2 ⟨by omega, isB_nil⟩)
 rw [hz1, hz2]
 simp only [Option.bind_some]
 have hS : IntKind.wrap .u64 (IntKind.wrap .u64 (n : Int) * 8) = ((n * 8 : Nat) : Int) := by simp only [wu64]; omega
 have key2 : ∀ (m : Nat) (out : List Int) (k st : Nat), m ≤ 8 → out.length + m < 200 → m < k → isB out → (m ≠ 0 → st = 2 ^ (8 * (m - 1))) → ∃ r, sha_Fill_l2.l K (n : Int) k (out, (m : Int) - 1) = some r ∧ inspeximusref01_Fill_l2.l K (n : Int) k (out, (st : Int), ((8 - m : Nat) : Int)) = some r ∧ isB r ∧ r.length < 200 := by
  intro m
  induction m with
  | zero =>
   intro out k st _ ho hk hB _
   obtain ⟨k, rfl⟩ : ∃ j, k = j + 1 := ⟨k - 1, by omega⟩
   refine ⟨out, ?_, ?_, hB, by omega⟩
   ·show sha_Fill_l2.b K (n : Int) (sha_Fill_l2.l K (n : Int) k) _ = _
    unfold sha_Fill_l2.b
    rw [bif_false (dec_f (by simp))]
   ·show inspeximusref01_Fill_l2.b K (n : Int) (inspeximusref01_Fill_l2.l K (n : Int) k) _ = _
    unfold inspeximusref01_Fill_l2.b
    rw [bif_false (dec_f (by simp))]
  | succ m ih =>
   intro out k st h8 ho hk hB hst
   obtain ⟨k, rfl⟩ : ∃ j, k = j + 1 := ⟨k - 1, by omega⟩
   have hst := hst (by omega)
   rw [Nat.add_sub_cancel] at hst
   have hp : 0 < st := by rw [hst]; exact Nat.two_pow_pos _
   have hst8 : st < 2 ^ 64 := by rw [hst]; exact Nat.pow_lt_pow_right (by omega) (by omega)
   have hd : n * 8 / st ≤ n * 8 := Nat.div_le_self _ _
   have e1 : sha_Fill_l2.l K (n : Int) (k + 1) (out, ((m + 1 : Nat) : Int) - 1) = sha_Fill_l2.l K (n : Int) k (out ++ [((n * 8 / st % 256 : Nat) : Int)], (m : Int) - 1) := by
    show sha_Fill_l2.b K (n : Int) (sha_Fill_l2.l K (n : Int) k) _ = _
    unfold sha_Fill_l2.b
    rw [bif_true (dec_t (by simp only; omega))]
    simp only [chk]
    have e8 : IntKind.wrap .i64 (8 * (((m + 1 : Nat) : Int) - 1)) = ((8 * m : Nat) : Int) := by rw [wrap64 (by omega) (by omega)]; omega
    rw [e8, bif_true (by simp; omega), hS, show (((8 * m : Nat) : Int).toNat) = 8 * m by omega, show min (8 * m) 64 = 8 * m by omega, pow_cast, fdiv_nat, ← hst, catI_ok (by simp; omega)]
    simp only [Option.bind_some]
    rw [wrap64 (by omega) (by omega), wu8]
    have : (((m + 1 : Nat) : Int) - 1 - 1) = (m : Int) - 1 := by omega
    rw [this]; rfl
   have e2 : inspeximusref01_Fill_l2.l K (n : Int) (k + 1) (out, (st : Int), ((8 - (m + 1) : Nat) : Int)) = inspeximusref01_Fill_l2.l K (n : Int) k (out ++ [((n * 8 / st % 256 : Nat) : Int)], ((st / 256 : Nat) : Int), ((8 - m : Nat) : Int)) := by
    show inspeximusref01_Fill_l2.b K (n : Int) (inspeximusref01_Fill_l2.l K (n : Int) k) _ = _
    unfold inspeximusref01_Fill_l2.b
    rw [bif_true (dec_t (by simp only; omega))]
    simp only [chk]
    have t1 : Int.tdiv ((n * 8 : Nat) : Int) (st : Int) = ((n * 8 / st : Nat) : Int) := rfl
    have t2 : Int.tdiv (st : Int) 256 = ((st / 256 : Nat) : Int) := rfl
    have t3 : Int.tmod ((n * 8 / st : Nat) : Int) 256 = ((n * 8 / st % 256 : Nat) : Int) := rfl
    have hq : n * 8 / st < 18446744073709551616 := by omega
    generalize hqe : n * 8 / st = q at *
    rw [bif_true (by simp; omega), hS, t1, t2, wu64_small (x := (q : Int)) (by omega) (by omega), t3, catI_ok (by simp; omega)]
    simp only [Option.bind_some]
    have hsl : st / 256 ≤ st := Nat.div_le_self _ _
    rw [wrap64 (by omega) (by omega), wu64_small (by omega) (by omega), wu8]
    have a1 : ((q % 256 : Nat) : Int) % 256 = ((q % 256 : Nat) : Int) := by omega
    have a2 : ((8 - (m + 1) : Nat) : Int) + 1 = ((8 - m : Nat) : Int) := by omega
    rw [a1, a2]
   rw [e1, e2]
   refine ih _ k (st / 256) (by omega) (by simp; omega) (by omega) (isB_append.2 ⟨hB, isB_cons.2 ⟨by omega, isB_nil⟩⟩) (fun h0 => ?_)
   rw [hst, show 8 * m = 8 * (m - 1) + 8 by omega, Nat.pow_add, show (2 : Nat) ^ 8 = 256 by decide]
   exact Nat.mul_div_cancel _ (by omega)
 obtain ⟨r, hr1, hr2, hrB, hrl⟩ := key2 8 z K (2 ^ 56) (by omega) (by omega) (by omega) hzB (fun _ => rfl)
 refine ⟨r, ?_, ?_, hrB, hrl⟩
 ·exact bind_of (x := r) hr1 rfl
 ·exact bind_of (x := r) hr2 rfl
/-! ### a text's digest -/
theorem First_R : allV R32 gl_First := by
 have : ∀ j, j < 8 → R32 (vget gl_First j) := by decide
 exact this
theorem blocks_same {K : Nat} (hK : 100 < K) {b : List Int} (hB : isB b) (hb : b.length < 1000000000) : ∀ (m i : Nat) (h : Vector Int 8) (k : Nat), (b.drop i).length ≤ m → i ≤ b.length → m < k → allV R32 h →
  ∃ u rest, sha_Sum_l1.l K k (h, b.drop i) = some (u, rest) ∧ inspeximusref01_Sum_l1.l K b k ((i : Int), h) = some u ∧ allV R32 u := by
 intro m
 induction m using Nat.strongRecOn with
 | _ m ih =>
  intro i h k hm hi hk hh
  obtain ⟨k, rfl⟩ : ∃ j, k = j + 1 := ⟨k - 1, by omega⟩
  have hl : (b.drop i).length = b.length - i := List.length_drop
  show ∃ u rest, sha_Sum_l1.b K (sha_Sum_l1.l K k) _ = _ ∧ inspeximusref01_Sum_l1.b K b (inspeximusref01_Sum_l1.l K b k) _ = _ ∧ _
  unfold sha_Sum_l1.b inspeximusref01_Sum_l1.b
  have ew : IntKind.wrap .i64 ((i : Int) + 64) = ((i + 64 : Nat) : Int) := by rw [wrap64 (by omega) (by omega)]; rfl
  simp only
  rw [ew]
  by_cases h64 : i + 64 ≤ b.length
  ·rw [bif_true (dec_t (by omega)), bif_true (dec_t (by omega))]
   have s1 := subI_0 (l := b.drop i) (b := 64) (by omega)
   have s2 := subI_all (l := b.drop i) (a := 64) (by omega)
   simp only [Int.cast_ofNat_Int] at s1 s2
   have s3 := subI_nat (l := b) (a := i) (b := i + 64) (by omega) (by omega)
   have e : (b.take (i + 64)).drop i = (b.drop i).take 64 := by
    rw [List.drop_take, show i + 64 - i = 64 by omega]
   rw [e] at s3
   obtain ⟨t, t1, t2, ht⟩ := turn_same (K := K) hK hh (b := (b.drop i).take 64) (fun x hx => hB x (List.mem_of_mem_drop (List.mem_of_mem_take hx))) (by simp; omega)
   obtain ⟨u, rest, u1, u2, hu⟩ := ih (m - 64) (by omega) (i + 64) t k (by simp; omega) (by omega) (by omega) ht
   refine ⟨u, rest, ?_, ?_, hu⟩
   ·refine bind_of s1 ?_
    refine bind_of t1 ?_
    refine bind_of s2 ?_
    rw [List.drop_drop]
    exact u1
   ·refine bind_of s3 ?_
    refine bind_of t2 ?_
    exact u2
  ·rw [bif_false (dec_f (by omega)), bif_false (dec_f (by omega))]
   exact ⟨h, _, rfl, rfl, hh⟩
def byteOf (z : Vector Int 8) (j : Nat) : Int := (((vget z (j / 4)).toNat / 2 ^ (24 - 8 * (j % 4)) % 256 : Nat) : Int)
theorem bytes_l {K : Nat} {z : Vector Int 8} (hz : allV R32 z) {rest : List Int} {u : Vector Int 32} (hu : ∀ j, j < 32 → vget u j = byteOf z j) : ∀ (n i : Nat) (v : Vector Int 32) (k : Nat), i + n = 32 → n < k → (∀ j, j < i → vget v j = byteOf z j) → sha_Sum_l2.l K (z, rest) k ((i : Int), v) = some u := by
 intro n
 induction n with
 | zero =>
  intro i v k hi hk hv
  obtain ⟨k, rfl⟩ : ∃ j, k = j + 1 := ⟨k - 1, by omega⟩
  show sha_Sum_l2.b K (z, rest) (sha_Sum_l2.l K (z, rest) k) _ = _
  unfold sha_Sum_l2.b
  rw [bif_false (dec_f (by simp only; omega))]
  exact congrArg some (vget_ext fun j hj => by rw [hu j hj]; exact hv j (by omega))
 | succ n ih =>
  intro i v k hi hk hv
  obtain ⟨k, rfl⟩ : ∃ j, k = j + 1 := ⟨k - 1, by omega⟩
  show sha_Sum_l2.b K (z, rest) (sha_Sum_l2.l K (z, rest) k) _ = _
  unfold sha_Sum_l2.b
  rw [bif_true (dec_t (by simp only; omega))]
  have e1 : Int.tdiv (i : Int) 4 = ((i / 4 : Nat) : Int) := rfl
  have e2 : Int.tmod (i : Int) 4 = ((i % 4 : Nat) : Int) := rfl
  simp only [chk]
  have e3 : IntKind.wrap .i64 (24 - IntKind.wrap .i64 (8 * ((i % 4 : Nat) : Int))) = ((24 - 8 * (i % 4) : Nat) : Int) := by
   rw [wrap64 (n := 8 * ((i % 4 : Nat) : Int)) (by omega) (by omega), wrap64 (by omega) (by omega)]; omega
  obtain ⟨a, ea, ha⟩ := R32_nat (hz (i / 4) (by omega))
  rw [e1, e2, e3, wrap64 (n := ((i / 4 : Nat) : Int)) (by omega) (by omega), bif_true (inA_lit (by omega)), bif_true (by simp), bif_true (inA_lit (by omega)), wrap_succ (by omega)]
  simp only [Option.bind_some, Int.toNat_natCast]
  refine ih (i + 1) _ k (by omega) (by omega) (fun j hj => ?_)
  rw [vget_vset _ _ (by omega)]
  split
  ·rename_i e
   subst e
   unfold byteOf
   rw [ea, show min (24 - 8 * (i % 4)) 32 = 24 - 8 * (i % 4) by omega, pow_cast, fdiv_nat, wu8, Int.toNat_natCast]; rfl
  ·exact hv j (by omega)
theorem b3_step {K : Nat} {y : Int × Vector Int 32} {i a j k : Nat} {v : Vector Int 32} (hy : y.1 = (i : Int)) (hi : i < 8) (hj : j < 4) (ha : a < 4294967296) :
  inspeximusref01_Sum_l3.l K y (k + 1) ((a : Int), (j : Int), v) = inspeximusref01_Sum_l3.l K y k (((a / 256 : Nat) : Int), (j : Int) - 1, vset v (4 * i + j) ((a % 256 : Nat) : Int)) := by
 show inspeximusref01_Sum_l3.b K y (inspeximusref01_Sum_l3.l K y k) _ = _
 unfold inspeximusref01_Sum_l3.b
 rw [bif_true (dec_t (by simp only; omega)), hy]
 have e : IntKind.wrap .i64 (IntKind.wrap .i64 (4 * (i : Int)) + (j : Int)) = ((4 * i + j : Nat) : Int) := by
  rw [wrap64 (n := 4 * (i : Int)) (by omega) (by omega), wrap64 (by omega) (by omega)]; omega
 simp only [chk]
 rw [e, bif_true (inA_lit (by omega))]
 simp only [Option.bind_some, Int.toNat_natCast]
 have t1 : Int.tdiv (a : Int) 256 = ((a / 256 : Nat) : Int) := rfl
 have t2 : Int.tmod (a : Int) 256 = ((a % 256 : Nat) : Int) := rfl
 rw [t1, t2, wu32, wu8, wrap64 (by omega) (by omega)]
 have a1 : ((a / 256 : Nat) : Int) % 4294967296 = ((a / 256 : Nat) : Int) := by omega
 have a2 : ((a % 256 : Nat) : Int) % 256 = ((a % 256 : Nat) : Int) := by omega
 rw [a1, a2]
theorem b3_all {K : Nat} {y : Int × Vector Int 32} {i a k : Nat} {v : Vector Int 32} (hy : y.1 = (i : Int)) (hi : i < 8) (ha : a < 4294967296) :
  inspeximusref01_Sum_l3.l K y (k + 5) ((a : Int), (3 : Int), v) = some (vset (vset (vset (vset v (4 * i + 3) ((a % 256 : Nat) : Int)) (4 * i + 2) ((a / 256 % 256 : Nat) : Int)) (4 * i + 1) ((a / 256 / 256 % 256 : Nat) : Int)) (4 * i + 0) ((a / 256 / 256 / 256 % 256 : Nat) : Int)) := by
 have s3 := b3_step (K := K) (y := y) (k := k + 4) (v := v) (j := 3) hy hi (by omega) ha
 have h1 : a / 256 < 4294967296 := by omega
 have h2 : a / 256 / 256 < 4294967296 := by omega
 have h3 : a / 256 / 256 / 256 < 4294967296 := by omega
 refine Eq.trans s3 ?_
 refine Eq.trans (b3_step (K := K) (y := y) (k := k + 3) (j := 2) hy hi (by omega) h1) ?_
 refine Eq.trans (b3_step (K := K) (y := y) (k := k + 2) (j := 1) hy hi (by omega) h2) ?_
 refine Eq.trans (b3_step (K := K) (y := y) (k := k + 1) (j := 0) hy hi (by omega) h3) ?_
 show inspeximusref01_Sum_l3.b K y (inspeximusref01_Sum_l3.l K y k) _ = _
 unfold inspeximusref01_Sum_l3.b
 rw [bif_false (dec_f (by simp))]
theorem bytes_r {K : Nat} (hK : 100 < K) {z : Vector Int 8} (hz : allV R32 z) {u : Vector Int 32} (hu : ∀ j, j < 32 → vget u j = byteOf z j) : ∀ (n i : Nat) (v : Vector Int 32) (k : Nat), i + n = 8 → n < k → (∀ j, j < 4 * i → vget v j = byteOf z j) → inspeximusref01_Sum_l2.l K z k ((i : Int), v) = some u := by
 intro n
 induction n with
 | zero =>
  intro i v k hi hk hv
  obtain ⟨k, rfl⟩ : ∃ j, k = j + 1 := ⟨k - 1, by omega⟩
  show inspeximusref01_Sum_l2.b K z (inspeximusref01_Sum_l2.l K z k) _ = _
  unfold inspeximusref01_Sum_l2.b
  rw [bif_false (dec_f (by simp only; omega))]
  exact congrArg some (vget_ext fun j hj => by rw [hu j hj]; exact hv j (by omega))
 | succ n ih =>
  intro i v k hi hk hv
  obtain ⟨k, rfl⟩ : ∃ j, k = j + 1 := ⟨k - 1, by omega⟩
  show inspeximusref01_Sum_l2.b K z (inspeximusref01_Sum_l2.l K z k) _ = _
  unfold inspeximusref01_Sum_l2.b
  rw [bif_true (dec_t (by simp only; omega))]
  obtain ⟨a, ea, ha⟩ := R32_nat (hz i (by omega))
  simp only [chk, Int.toNat_natCast]
  rw [bif_true (inA_lit (by omega)), ea, wrap_succ (by omega)]
  obtain ⟨K', hK'⟩ : ∃ j, K = j + 5 := ⟨K - 5, by omega⟩
  have hb := b3_all (K := K) (y := ((i : Int), v)) (k := K') (v := v) rfl (by omega) ha
  rw [← hK'] at hb
  refine bind_of hb ?_
  refine ih (i + 1) _ k (by omega) (by omega) (fun j hj => ?_)
  rw [vget_vset _ _ (by omega), vget_vset _ _ (by omega), vget_vset _ _ (by omega), vget_vset _ _ (by omega)]
  unfold byteOf
  by_cases c0 : j < 4 * i
  ·rw [if_neg (by omega), if_neg (by omega), if_neg (by omega), if_neg (by omega)]
   exact hv j c0
  ·rw [show j / 4 = i by omega, ea, Int.toNat_natCast]
   have hj4 : j = 4 * i + 0 ∨ j = 4 * i + 1 ∨ j = 4 * i + 2 ∨ j = 4 * i + 3 := by omega
   rcases hj4 with rfl | rfl | rfl | rfl
   ·rw [if_pos rfl, show 24 - 8 * ((4 * i + 0) % 4) = 24 by omega, show (2 : Nat) ^ 24 = 256 * 256 * 256 by decide, ← Nat.div_div_eq_div_mul, ← Nat.div_div_eq_div_mul]
   ·rw [if_neg (by omega), if_pos rfl, show 24 - 8 * ((4 * i + 1) % 4) = 16 by omega, show (2 : Nat) ^ 16 = 256 * 256 by decide, ← Nat.div_div_eq_div_mul]
   ·rw [if_neg (by omega), if_neg (by omega), if_pos rfl, show 24 - 8 * ((4 * i + 2) % 4) = 8 by omega, show (2 : Nat) ^ 8 = 256 by decide]
   ·rw [if_neg (by omega), if_neg (by omega), if_neg (by omega), if_pos rfl, show 24 - 8 * ((4 * i + 3) % 4) = 0 by omega]
    simp
theorem sum_same {K : Nat} (hK : 1000000000000 ≤ K) {x : List (List Int)} (hx : x.length < 1000) (hB : isB x.flatten) (hl : x.flatten.length < 1000000) : ∃ r, sha_Sum.f K x = some r ∧ inspeximusref01_Sum.f K x.flatten = some r ∧ ∀ j, j < 32 → 0 ≤ vget r j ∧ vget r j < 256 := by
 unfold sha_Sum.f sha_blocks.f inspeximusref01_Sum.f
 obtain ⟨f, f1, f2, fB, hfl⟩ := fill_same (K := K) (n := x.flatten.length) (by omega) (by omega)
 have hlen : (x.flatten ++ f).length = x.flatten.length + f.length := List.length_append
 obtain ⟨z, rest, z1, z2, hz⟩ := blocks_same (K := K) (by omega) (b := x.flatten ++ f) (isB_append.2 ⟨hB, fB⟩) (by omega) (x.flatten ++ f).length 0 gl_First K (by simp) (by omega) (by omega) First_R
 let u : Vector Int 32 := Vector.ofFn fun j => byteOf z j.val
 have hu : ∀ j, j < 32 → vget u j = byteOf z j := fun j hj => vget_ofFn hj
 have hl2 := bytes_l (K := K) hz (rest := rest) hu 32 0 (Vector.replicate 32 0) K (by omega) (by omega) (fun j hj => absurd hj (by omega))
 have hr2 := bytes_r (K := K) (by omega) hz hu 8 0 (Vector.replicate 32 0) K (by omega) (by omega) (fun j hj => absurd hj (by omega))
 refine ⟨u, ?_, ?_, fun j hj => by rw [hu j hj]; unfold byteOf; omega⟩
 ·refine bind_of (concat_eq hK (by omega) (by omega)) ?_
  refine bind_of f1 ?_
  refine bind_of (catI_ok (by omega)) ?_
  simp only [Option.bind_some]
  refine bind_of (x := (z, rest)) z1 ?_
  exact bind_of (x := u) hl2 rfl
 ·refine bind_of (catI_ok (by rw [List.length_nil]; omega)) ?_
  refine bind_of f2 ?_
  refine bind_of (catI_ok (by rw [List.nil_append]; omega)) ?_
  refine bind_of (x := z) z2 ?_
  exact bind_of (x := u) hr2 rfl
/-! ### the digest of a domain and parts -/
theorem row_same {K : Nat} (hK : 1000000000000 ≤ K) {n : Nat} (hn : n < 1000000) : ∃ r : List Int, mac_row.f K (IntKind.wrap .u64 (n : Int)) 4 = some r ∧ inspeximusref02_Number.f K (n : Int) 4 = some r ∧ r.length = 4 ∧ isB r := by
 unfold mac_row.f inspeximusref02_Number.f
 have hz : zerosI 1 (0 : Int) 4 = some [0, 0, 0, 0] := rfl
 have key : ∀ (m i a : Nat) (l : List Int) (k : Nat), i + m = 4 → m < k → l.length = 4 → isB l → a < 1000000 → ∃ r, mac_row_l1.l K 4 [0, 0, 0, 0] k ((a : Int), l, (i : Int)) = some r ∧ inspeximusref02_Number_l1.l K k (l, (a : Int), (m : Int) - 1) = some r ∧ r.length = 4 ∧ isB r := by
  intro m
  induction m with
  | zero =>
   intro i a l k hi hk hl hB ha
   obtain ⟨k, rfl⟩ : ∃ j, k = j + 1 := ⟨k - 1, by omega⟩
   refine ⟨l, ?_, ?_, hl, hB⟩
   ·show mac_row_l1.b K 4 [0, 0, 0, 0] (mac_row_l1.l K 4 [0, 0, 0, 0] k) _ = _
    unfold mac_row_l1.b
    rw [bif_false (dec_f (by simp; omega))]
   ·show inspeximusref02_Number_l1.b K (inspeximusref02_Number_l1.l K k) _ = _
    unfold inspeximusref02_Number_l1.b
    rw [bif_false (dec_f (by simp))]
  | succ m ih =>
   intro i a l k hi hk hl hB ha
   obtain ⟨k, rfl⟩ : ∃ j, k = j + 1 := ⟨k - 1, by omega⟩
   obtain ⟨x, hx⟩ := getI_ex (l := l) (i := m) (by omega)
   have hBs : isB (l.set m ((a % 256 : Nat) : Int)) := fun y hy => by
    rcases List.mem_or_eq_of_mem_set hy with h | h
    ·exact hB y h
    ·subst h; omega
   obtain ⟨r, r1, r2, r3, r4⟩ := ih (i + 1) (a / 256) (l.set m ((a % 256 : Nat) : Int)) k (by omega) (by omega) (by simp [hl]) hBs (by omega)
   refine ⟨r, ?_, ?_, r3, r4⟩
   ·show mac_row_l1.b K 4 [0, 0, 0, 0] (mac_row_l1.l K 4 [0, 0, 0, 0] k) _ = _
    unfold mac_row_l1.b
    rw [bif_true (dec_t (by simp; omega))]
    have e1 : IntKind.wrap .i64 ((4 : Int) - 1) = ((3 : Nat) : Int) := by rw [wrap64 (by omega) (by omega)]; rfl
    have e2 : IntKind.wrap .i64 (((3 : Nat) : Int) - (i : Int)) = (m : Int) := by rw [wrap64 (by omega) (by omega)]; omega
    simp only
    rw [e1, e2]
    refine bind_of hx ?_
    rw [wrap_succ (by omega), wu8, show (2 : Int) ^ 8 = ((256 : Nat) : Int) by decide, fdiv_nat, Int.toNat_natCast]
    exact r1
   ·show inspeximusref02_Number_l1.b K (inspeximusref02_Number_l1.l K k) _ = _
    unfold inspeximusref02_Number_l1.b
    rw [bif_true (dec_t (by simp))]
    have e3 : ((m + 1 : Nat) : Int) - 1 = (m : Int) := by omega
    simp only
    rw [e3]
    refine bind_of hx ?_
    have t1 : Int.tdiv (a : Int) 256 = ((a / 256 : Nat) : Int) := rfl
    have t2 : Int.tmod (a : Int) 256 = ((a % 256 : Nat) : Int) := rfl
    rw [t1, t2, wu64_small (by omega) (by omega), wu8, wrap64 (by omega) (by omega), Int.toNat_natCast]
    have a2 : ((a % 256 : Nat) : Int) % 256 = ((a % 256 : Nat) : Int) := by omega
    rw [a2]
    exact r2
 have hw : IntKind.wrap .u64 (n : Int) = (n : Int) := wu64_small (by omega) (by omega)
 obtain ⟨r, r1, r2, r3, r4⟩ := key 4 0 n [0, 0, 0, 0] K (by omega) (by omega) rfl (by intro x hx; simp at hx; omega) hn
 rw [hw]
 refine ⟨r, ?_, ?_, r3, r4⟩
 ·refine bind_of hz ?_
  exact bind_of (x := r) r1 rfl
 ·refine bind_of hz ?_
  exact bind_of (x := r) r2 rfl
def numb4 (K : Nat) (n : Nat) : List Int := (inspeximusref02_Number.f K (n : Int) 4).getD []
theorem numb4_eq {K : Nat} (hK : 1000000000000 ≤ K) {n : Nat} (hn : n < 1000000) : inspeximusref02_Number.f K (n : Int) 4 = some (numb4 K n) ∧ mac_row.f K (IntKind.wrap .u64 (n : Int)) 4 = some (numb4 K n) ∧ (numb4 K n).length = 4 ∧ isB (numb4 K n) := by
 obtain ⟨r, r1, r2, r3, r4⟩ := row_same hK hn
 unfold numb4
 rw [r2]
 exact ⟨rfl, r1, r3, r4⟩
theorem partS_num {K : Nat} (hK : 1000000000000 ≤ K) {x : List Int} (h : x.length < 100000) : partS K x = numb4 K x.length ++ x := by
 have h1 := (partS_eq hK h).1
 have hn := numb4_eq hK (n := x.length) (by omega)
 have h2 : mac_Of_1.f K x = some (numb4 K x.length ++ x) := by
  unfold mac_Of_1.f
  refine bind_of hn.2.1 ?_
  refine bind_of (concat_eq hK (by simp; omega) (by simp)) ?_
  simp
 rw [h1] at h2
 exact Option.some.inj h2
theorem of_same {K : Nat} (hK : 1000000000000 ≤ K) {d : Int} {l : List (List Int)} (hl : l.length ≤ 5) (h : ∀ x ∈ l, x.length ≤ 10000 ∧ isB x) : ∃ r, mac_Of.f K d l = some r ∧ inspeximusref02_Of.f K d l = some r ∧ ∀ j, j < 32 → 0 ≤ vget r j ∧ vget r j < 256 := by
 unfold mac_Of.f mac_joined_byte.f inspeximusref02_Of.f inspeximusref02_Text.f
 have hfl : (l.map (partS K)).flatten.length ≤ 10004 * l.length := flat_len (fun x hx => by
  have := (h x hx).1
  rw [(partS_eq hK (x := x) (by omega)).2]; omega)
 have hfB : isB (l.map (partS K)).flatten := fun y hy => by
  obtain ⟨m, hm, hy⟩ := List.mem_flatten.1 hy
  obtain ⟨s, hs, rfl⟩ := List.mem_map.1 hm
  have := h s hs
  rw [partS_num hK (by omega)] at hy
  exact (isB_append.2 ⟨(numb4_eq hK (n := s.length) (by omega)).2.2.2, this.2⟩) y hy
 have hj := cat_loop (L := mac_joined_byte_l1.l K l) l (partS K) [] (k := K) (by omega)
  (fun k s => by
   show mac_joined_byte_l1.b K l (mac_joined_byte_l1.l K l k) _ = _
   unfold mac_joined_byte_l1.b
   rw [bif_false (dec_f (by simp))])
  (fun k s i x hi hx hm hs => by
   show mac_joined_byte_l1.b K l (mac_joined_byte_l1.l K l k) _ = _
   unfold mac_joined_byte_l1.b
   rw [bif_true (dec_t (by simp only; omega))]
   simp only
   rw [hx]
   simp only [Option.bind_some]
   have := (h x hm).1
   rw [(partS_eq hK (x := x) (by omega)).1]
   simp only [Option.bind_some]
   rw [catI_ok (by omega)]
   simp only [Option.bind_some]
   rw [wrap_succ (by omega)])
  (by simp only [List.length_nil]; omega)
 have ht := cat_loop (L := inspeximusref02_Text_l1.l K l) l (partS K) [IntKind.wrap .u8 d] (k := K) (by omega)
  (fun k s => by
   show inspeximusref02_Text_l1.b K l (inspeximusref02_Text_l1.l K l k) _ = _
   unfold inspeximusref02_Text_l1.b
   rw [bif_false (dec_f (by simp))])
  (fun k s i x hi hx hm hs => by
   show inspeximusref02_Text_l1.b K l (inspeximusref02_Text_l1.l K l k) _ = _
   unfold inspeximusref02_Text_l1.b
   rw [bif_true (dec_t (by simp only; omega))]
   simp only
   have := (h x hm).1
   have hn := numb4_eq hK (n := x.length) (by omega)
   rw [partS_num hK (by omega)] at hs ⊢
   rw [List.length_append] at hs
   refine bind_of hx ?_
   refine bind_of hn.1 ?_
   refine bind_of (catI_ok (by omega)) ?_
   refine bind_of hx ?_
   refine bind_of (catI_ok (by rw [List.length_append]; omega)) ?_
   rw [wrap_succ (by omega), List.append_assoc])
  (by simp only [List.length_singleton]; omega)
 have hj : mac_joined_byte_l1.l K l K ([], 0) = some ((l.map (partS K)).flatten) := hj
 have ht : inspeximusref02_Text_l1.l K l K ([IntKind.wrap .u8 d], 0) = some (IntKind.wrap .u8 d :: (l.map (partS K)).flatten) := ht
 rw [hj]
 simp only [Option.bind_some]
 have hx8 : 0 ≤ IntKind.wrap .u8 d ∧ IntKind.wrap .u8 d < 256 := by rw [wu8]; omega
 have hfe : ([[IntKind.wrap .u8 d], (l.map (partS K)).flatten] : List (List Int)).flatten = IntKind.wrap .u8 d :: (l.map (partS K)).flatten := by simp
 obtain ⟨r, hr, hr2, hp⟩ := sum_same (K := K) hK (x := [[IntKind.wrap .u8 d], (l.map (partS K)).flatten]) (by simp) (by rw [hfe]; exact isB_cons.2 ⟨hx8, hfB⟩) (by rw [hfe]; simp only [List.length_cons]; omega)
 rw [hfe] at hr2
 refine ⟨r, ?_, ?_, hp⟩
 ·exact bind_of hr rfl
 ·rw [ht]
  simp only [Option.bind_some]
  exact bind_of hr2 rfl
end Go.Proofs.YthnfokfankaenaaDoor
