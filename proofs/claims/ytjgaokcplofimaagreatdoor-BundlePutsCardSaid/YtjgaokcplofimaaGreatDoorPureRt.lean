/-
 Plain: the document's digest is always there; its open bytes of a record.
-/
import Derived.Test.YtjgaokcplofimaaGreatDoorPureRp
namespace Go.Proofs.YtjgaokcplofimaaGreatDoor
open Go Go.Sep
theorem right_ex {K : Nat} (x : Int) : (∃ r, inspeximusref01_right.f K x 17 = some r) ∧ (∃ r, inspeximusref01_right.f K x 19 = some r) ∧ (∃ r, inspeximusref01_right.f K x 7 = some r) ∧ (∃ r, inspeximusref01_right.f K x 18 = some r) ∧ (∃ r, inspeximusref01_shift.f K x 10 = some r) ∧ (∃ r, inspeximusref01_shift.f K x 3 = some r) := ⟨⟨_, rfl⟩, ⟨_, rfl⟩, ⟨_, rfl⟩, ⟨_, rfl⟩, ⟨_, rfl⟩, ⟨_, rfl⟩⟩
theorem right_ex2 {K : Nat} (x : Int) : (∃ r, inspeximusref01_right.f K x 6 = some r) ∧ (∃ r, inspeximusref01_right.f K x 11 = some r) ∧ (∃ r, inspeximusref01_right.f K x 25 = some r) ∧ (∃ r, inspeximusref01_right.f K x 2 = some r) ∧ (∃ r, inspeximusref01_right.f K x 13 = some r) ∧ (∃ r, inspeximusref01_right.f K x 22 = some r) := ⟨⟨_, rfl⟩, ⟨_, rfl⟩, ⟨_, rfl⟩, ⟨_, rfl⟩, ⟨_, rfl⟩, ⟨_, rfl⟩⟩
theorem bnd {α β : Type} {o : Option α} {x : α} {f : α → Option β} (h : o = some x) : o.bind f = f x := by rw [h]; rfl
theorem rsched_tot {K : Nat} (hK : 100 < K) {b : List Int} (hb : b.length = 64) : ∃ w, inspeximusref01_Turn_l1.l K b K (0, Vector.replicate 64 0) = some w :=
 loop_tot (L := inspeximusref01_Turn_l1.l K b) (fun n y => ∃ i : Nat, y.1 = (i : Int) ∧ i + n = 64)
  (fun k y ⟨i, hy, hi⟩ => by
   obtain ⟨y1, y2⟩ := y
   simp only at hy
   subst hy
   refine ⟨y2, ?_⟩
   show inspeximusref01_Turn_l1.b K b (inspeximusref01_Turn_l1.l K b k) _ = _
   unfold inspeximusref01_Turn_l1.b
   rw [bif_false (dec_f (by simp only; omega))])
  (fun k n y ⟨i, hy, hi⟩ => by
   obtain ⟨y1, y2⟩ := y
   simp only at hy
   subst hy
   show ∃ y', _ ∧ inspeximusref01_Turn_l1.b K b (inspeximusref01_Turn_l1.l K b k) _ = _
   unfold inspeximusref01_Turn_l1.b
   simp only [jn]
   rw [bif_true (dec_t (by omega)), wrap_succ (by omega)]
   by_cases h16 : (i : Int) < 16
   ·rw [bif_true (dec_t h16)]
    have w4 : IntKind.wrap .i64 (4 * (i : Int)) = ((4 * i : Nat) : Int) := by rw [wrap64 (by omega) (by omega)]; push_cast; rfl
    have wa : ∀ j : Nat, j < 4 → IntKind.wrap .i64 (((4 * i : Nat) : Int) + (j : Int)) = ((4 * i + j : Nat) : Int) := fun j hj => by rw [wrap64 (by omega) (by omega)]; push_cast; rfl
    obtain ⟨x0, e0⟩ := getI_ex (l := b) (i := 4 * i) (by omega)
    obtain ⟨x1, e1⟩ := getI_ex (l := b) (i := 4 * i + 1) (by omega)
    obtain ⟨x2, e2⟩ := getI_ex (l := b) (i := 4 * i + 2) (by omega)
    obtain ⟨x3, e3⟩ := getI_ex (l := b) (i := 4 * i + 3) (by omega)
    rw [w4, e0]
    simp only [Option.bind_some]
    rw [show (1 : Int) = ((1 : Nat) : Int) by rfl, wa 1 (by omega), e1]
    simp only [Option.bind_some]
    rw [show (2 : Int) = ((2 : Nat) : Int) by rfl, wa 2 (by omega), e2]
    simp only [Option.bind_some]
    rw [show (3 : Int) = ((3 : Nat) : Int) by rfl, wa 3 (by omega), e3]
    simp only [Option.bind_some, chk]
    rw [bif_true (inA_lit (by omega))]
    exact ⟨(_, _), ⟨i + 1, rfl, by omega⟩, rfl⟩
   ·rw [bif_false (dec_f h16)]
    have wm : ∀ j : Nat, j ≤ 16 → IntKind.wrap .i64 ((i : Int) - (j : Int)) = ((i - j : Nat) : Int) := fun j hj => by rw [wrap64 (by omega) (by omega)]; omega
    have h2 := wm 2 (by omega)
    have h7 := wm 7 (by omega)
    have h15 := wm 15 (by omega)
    have h16' := wm 16 (by omega)
    simp only [Int.cast_ofNat_Int] at h2 h7 h15 h16'
    rw [h2, h7, h15, h16']
    simp only [chk]
    rw [bif_true (inA_lit (by omega)), bif_true (inA_lit (by omega)), bif_true (inA_lit (by omega)), bif_true (inA_lit (by omega))]
    obtain ⟨⟨r1, e1⟩, ⟨r2, e2⟩, _, _, ⟨r3, e3⟩, _⟩ := right_ex (K := K) (vget y2 (Int.toNat ((i - 2 : Nat) : Int)))
    obtain ⟨_, _, ⟨r4, e4⟩, ⟨r5, e5⟩, _, ⟨r6, e6⟩⟩ := right_ex (K := K) (vget y2 (Int.toNat ((i - 15 : Nat) : Int)))
    rw [bnd e1, bnd e2, bnd e3, bnd e4, bnd e5, bnd e6]
    rw [bif_true (inA_lit (by omega))]
    exact ⟨(_, _), ⟨i + 1, rfl, by omega⟩, rfl⟩)
  64 (0, Vector.replicate 64 0) K ⟨0, rfl, rfl⟩ (by omega)
theorem rturn_tot {K : Nat} (hK : 100 < K) (h : Vector Int 8) {b : List Int} (hb : b.length = 64) : ∃ r, inspeximusref01_Turn.f K h b = some r := by
 unfold inspeximusref01_Turn.f
 rw [bif_false (by simp [hb])]
 obtain ⟨w, hw⟩ := rsched_tot (K := K) hK hb
 have h2 := loop_tot (L := inspeximusref01_Turn_l2.l K h) (fun n y => ∃ i : Nat, y.1 = (i : Int) ∧ i + n = 8)
  (fun k y ⟨i, hy, hi⟩ => by
   obtain ⟨y1, y2⟩ := y
   simp only at hy
   subst hy
   refine ⟨y2, ?_⟩
   show inspeximusref01_Turn_l2.b K h (inspeximusref01_Turn_l2.l K h k) _ = _
   unfold inspeximusref01_Turn_l2.b
   rw [bif_false (dec_f (by simp only; omega))])
  (fun k n y ⟨i, hy, hi⟩ => by
   obtain ⟨y1, y2⟩ := y
   simp only at hy
   subst hy
   show ∃ y', _ ∧ inspeximusref01_Turn_l2.b K h (inspeximusref01_Turn_l2.l K h k) _ = _
   unfold inspeximusref01_Turn_l2.b
   rw [bif_true (dec_t (by simp only; omega))]
   simp only [Option.bind_some, chk]
   rw [bif_true (inA_lit (by omega)), bif_true (inA_lit (by omega)), wrap_succ (by omega)]
   exact ⟨(_, _), ⟨i + 1, rfl, by omega⟩, rfl⟩)
  8 (0, Vector.replicate 8 0) K ⟨0, rfl, rfl⟩ (by omega)
 obtain ⟨s, hs⟩ := h2
 have h3 := loop_tot (L := inspeximusref01_Turn_l3.l K w) (fun n y => ∃ i : Nat, y.1 = (i : Int) ∧ i + n = 64)
  (fun k y ⟨i, hy, hi⟩ => by
   obtain ⟨y1, y2⟩ := y
   simp only at hy
   subst hy
   refine ⟨y2, ?_⟩
   show inspeximusref01_Turn_l3.b K w (inspeximusref01_Turn_l3.l K w k) _ = _
   unfold inspeximusref01_Turn_l3.b
   rw [bif_false (dec_f (by simp only; omega))])
  (fun k n y ⟨i, hy, hi⟩ => by
   obtain ⟨y1, y2⟩ := y
   simp only at hy
   subst hy
   show ∃ y', _ ∧ inspeximusref01_Turn_l3.b K w (inspeximusref01_Turn_l3.l K w k) _ = _
   unfold inspeximusref01_Turn_l3.b
   rw [bif_true (dec_t (by simp only; omega))]
   simp only [chk]
   rw [bif_true (inA_lit (by omega)), bif_true (inA_lit (by omega))]
   obtain ⟨⟨r1, e1⟩, ⟨r2, e2⟩, ⟨r3, e3⟩, _, _, _⟩ := right_ex2 (K := K) (vget y2 (Int.toNat (4 : Int)))
   obtain ⟨_, _, _, ⟨r4, e4⟩, ⟨r5, e5⟩, ⟨r6, e6⟩⟩ := right_ex2 (K := K) (vget y2 (Int.toNat (0 : Int)))
   rw [bnd e1, bnd e2, bnd e3, bnd e4, bnd e5, bnd e6, wrap_succ (by omega)]
   exact ⟨(_, _), ⟨i + 1, rfl, by omega⟩, rfl⟩)
  64 (0, s) K ⟨0, rfl, rfl⟩ (by omega)
 obtain ⟨z, hz⟩ := h3
 have h4 := loop_tot (L := inspeximusref01_Turn_l4.l K z) (fun n y => ∃ i : Nat, y.1 = (i : Int) ∧ i + n = 8)
  (fun k y ⟨i, hy, hi⟩ => by
   obtain ⟨y1, y2⟩ := y
   simp only at hy
   subst hy
   refine ⟨y2, ?_⟩
   show inspeximusref01_Turn_l4.b K z (inspeximusref01_Turn_l4.l K z k) _ = _
   unfold inspeximusref01_Turn_l4.b
   rw [bif_false (dec_f (by simp only; omega))])
  (fun k n y ⟨i, hy, hi⟩ => by
   obtain ⟨y1, y2⟩ := y
   simp only at hy
   subst hy
   show ∃ y', _ ∧ inspeximusref01_Turn_l4.b K z (inspeximusref01_Turn_l4.l K z k) _ = _
   unfold inspeximusref01_Turn_l4.b
   rw [bif_true (dec_t (by simp only; omega))]
   simp only [Option.bind_some, chk]
   rw [bif_true (inA_lit (by omega)), bif_true (inA_lit (by omega)), bif_true (inA_lit (by omega)), wrap_succ (by omega)]
   exact ⟨(_, _), ⟨i + 1, rfl, by omega⟩, rfl⟩)
  8 (0, h) K ⟨0, rfl, rfl⟩ (by omega)
 obtain ⟨r, hr⟩ := h4
 exact ⟨r, bind_of hw (bind_of hs (bind_of hz (bind_of hr rfl)))⟩
theorem rfill_tot {K : Nat} (hK : 100 < K) {n : Nat} (hn : n < 1000000000) : ∃ r : List Int, inspeximusref01_Fill.f K (n : Int) = some r ∧ r.length < 200 := by
 unfold inspeximusref01_Fill.f
 rw [bif_false (dec_f (by omega))]
 have key : ∀ (m : Nat) (out : List Int) (k : Nat), out.length + m ≤ 65 → (n + out.length + m) % 64 = 56 → m < k → ∃ r, inspeximusref01_Fill_l1.l K (n : Int) k out = some r ∧ r.length < 100 := by
  intro m
  induction m with
  | zero =>
   intro out k ho hm hk
   obtain ⟨k, rfl⟩ : ∃ j, k = j + 1 := ⟨k - 1, by omega⟩
   refine ⟨out, ?_, by omega⟩
   show inspeximusref01_Fill_l1.b K (n : Int) (inspeximusref01_Fill_l1.l K (n : Int) k) _ = _
   unfold inspeximusref01_Fill_l1.b
   rw [wrap64 (by omega) (by omega)]
   have : Int.tmod ((n : Int) + (out.length : Int)) 64 = ((n + out.length) % 64 : Nat) := rfl
   rw [this, bif_false (by simp; omega)]
  | succ m ih =>
   intro out k ho hm hk
   obtain ⟨k, rfl⟩ : ∃ j, k = j + 1 := ⟨k - 1, by omega⟩
   show ∃ r, inspeximusref01_Fill_l1.b K (n : Int) (inspeximusref01_Fill_l1.l K (n : Int) k) _ = _ ∧ _
   unfold inspeximusref01_Fill_l1.b
   rw [wrap64 (by omega) (by omega)]
   have : Int.tmod ((n : Int) + (out.length : Int)) 64 = ((n + out.length) % 64 : Nat) := rfl
   rw [this]
   by_cases hc : (n + out.length) % 64 = 56
   ·rw [bif_false (by simp; omega)]
    exact ⟨out, rfl, by omega⟩
   ·rw [bif_true (by simp; omega), catI_ok (by simp; omega)]
    simp only [Option.bind_some]
    exact ih (out ++ [0]) k (by simp; omega) (by simp; omega) (by omega)
 obtain ⟨z, hz, hzl⟩ := key ((56 + 64 * 20000000 - (n + 1)) % 64) [128] K (by simp; omega) (by simp; omega) (by omega)
 refine bind_exP hz ?_
 have key2 : ∀ (m : Nat) (out : List Int) (st : Int) (k : Nat), m ≤ 8 → st = 2 ^ (8 * (m - 1)) ∨ m = 0 → out.length + m < 200 → m < k → ∃ r, inspeximusref01_Fill_l2.l K (n : Int) k (out, st, ((8 - m : Nat) : Int)) = some r ∧ r.length < 200 := by
  intro m
  induction m with
  | zero =>
   intro out st k _ _ ho hk
   obtain ⟨k, rfl⟩ : ∃ j, k = j + 1 := ⟨k - 1, by omega⟩
   refine ⟨out, ?_, by omega⟩
   show inspeximusref01_Fill_l2.b K (n : Int) (inspeximusref01_Fill_l2.l K (n : Int) k) _ = _
   unfold inspeximusref01_Fill_l2.b
   rw [bif_false (dec_f (by simp))]
  | succ m ih =>
   intro out st k h8 hst ho hk
   obtain ⟨k, rfl⟩ : ∃ j, k = j + 1 := ⟨k - 1, by omega⟩
   have hst : st = 2 ^ (8 * m) := by rcases hst with h | h; · exact h
                                     · omega
   show ∃ r, inspeximusref01_Fill_l2.b K (n : Int) (inspeximusref01_Fill_l2.l K (n : Int) k) _ = _ ∧ _
   unfold inspeximusref01_Fill_l2.b
   rw [bif_true (dec_t (by simp only; omega))]
   simp only [chk]
   have h0 : ¬ st = 0 := by
    rw [hst]
    have : (0 : Int) < 2 ^ (8 * m) := Int.pow_pos (by omega)
    omega
   rw [bif_true (by simp [h0]), catI_ok (by simp; omega)]
   simp only [Option.bind_some]
   have e : IntKind.wrap .i64 (((8 - (m + 1) : Nat) : Int) + 1) = ((8 - m : Nat) : Int) := by rw [wrap64 (by omega) (by omega)]; omega
   rw [e]
   refine ih _ _ k (by omega) ?_ (by simp; omega) (by omega)
   by_cases hm : m = 0
   ·exact .inr hm
   ·left
    obtain ⟨j, rfl⟩ : ∃ j, m = j + 1 := ⟨m - 1, by omega⟩
    have hj : j < 8 := by omega
    rw [hst]
    rcases (show j = 0 ∨ j = 1 ∨ j = 2 ∨ j = 3 ∨ j = 4 ∨ j = 5 ∨ j = 6 ∨ j = 7 by omega) with rfl | rfl | rfl | rfl | rfl | rfl | rfl | rfl <;> first | rfl | omega
 obtain ⟨r, hr, hrl⟩ := key2 8 z (2 ^ 56) K (by omega) (.inl rfl) (by omega) (by omega)
 have hr : inspeximusref01_Fill_l2.l K (n : Int) K (z, 72057594037927936, 0) = some r := hr
 exact ⟨r, bind_of hr rfl, hrl⟩
theorem rsum_tot {K : Nat} (hK : 1000000000000 ≤ K) {x : List Int} (hl : x.length < 1000000) : ∃ r, inspeximusref01_Sum.f K x = some r := by
 unfold inspeximusref01_Sum.f
 obtain ⟨f, hf, hfl⟩ := rfill_tot (K := K) (n := x.length) (by omega) (by omega)
 refine bind_ex (catI_ok (by rw [List.length_nil]; omega)) ?_
 refine bind_ex hf ?_
 refine bind_ex (catI_ok (by rw [List.nil_append]; omega)) ?_
 simp only [List.nil_append]
 have hB : (x ++ f).length < 2000000 := by rw [List.length_append]; omega
 have key : ∀ (n i : Nat) (h : Vector Int 8) (k : Nat), (x ++ f).length ≤ i + n → n < k → i ≤ (x ++ f).length → ∃ r, inspeximusref01_Sum_l1.l K (x ++ f) k ((i : Int), h) = some r := by
  intro n
  induction n using Nat.strongRecOn with
  | _ n ih =>
   intro i h k hn hk hi
   obtain ⟨k, rfl⟩ : ∃ j, k = j + 1 := ⟨k - 1, by omega⟩
   show ∃ r, inspeximusref01_Sum_l1.b K (x ++ f) (inspeximusref01_Sum_l1.l K (x ++ f) k) _ = _
   unfold inspeximusref01_Sum_l1.b
   have e : IntKind.wrap .i64 ((i : Int) + 64) = ((i + 64 : Nat) : Int) := by rw [wrap64 (by omega) (by omega)]; rfl
   simp only
   rw [e]
   by_cases h64 : i + 64 ≤ (x ++ f).length
   ·rw [bif_true (dec_t (by omega))]
    refine bind_ex (subI_nat (by omega) h64) ?_
    obtain ⟨t, ht⟩ := rturn_tot (K := K) (by omega) h (b := ((x ++ f).take (i + 64)).drop i) (by rw [List.length_drop, List.length_take]; omega)
    refine bind_ex ht ?_
    exact ih (n - 64) (by omega) (i + 64) t k (by omega) (by omega) h64
   ·rw [bif_false (dec_f (by omega))]
    exact ⟨_, rfl⟩
 obtain ⟨z, hz⟩ := key (x ++ f).length 0 gl_First K (by omega) (by omega) (by omega)
 refine bind_ex hz ?_
 have in3 : ∀ (n : Nat) (y : Int × Vector Int 32) (i : Nat) (xx : Int) (v : Vector Int 32) (k : Nat), y.1 = (i : Int) → i < 8 → n ≤ 4 → n < k → ∃ r, inspeximusref01_Sum_l3.l K y k (xx, (n : Int) - 1, v) = some r := by
  intro n
  induction n with
  | zero =>
   intro y i xx v k _ _ _ hk
   obtain ⟨k, rfl⟩ : ∃ j, k = j + 1 := ⟨k - 1, by omega⟩
   refine ⟨v, ?_⟩
   show inspeximusref01_Sum_l3.b K y (inspeximusref01_Sum_l3.l K y k) _ = _
   unfold inspeximusref01_Sum_l3.b
   rw [bif_false (dec_f (by simp))]
  | succ n ih =>
   intro y i xx v k hy hi hn hk
   obtain ⟨k, rfl⟩ : ∃ j, k = j + 1 := ⟨k - 1, by omega⟩
   show ∃ r, inspeximusref01_Sum_l3.b K y (inspeximusref01_Sum_l3.l K y k) _ = _
   unfold inspeximusref01_Sum_l3.b
   rw [bif_true (dec_t (by simp only; omega)), hy]
   have e1 : ((n + 1 : Nat) : Int) - 1 = (n : Int) := by omega
   have e : IntKind.wrap .i64 (IntKind.wrap .i64 (4 * (i : Int)) + (n : Int)) = ((4 * i + n : Nat) : Int) := by
    rw [wrap64 (n := 4 * (i : Int)) (by omega) (by omega), wrap64 (by omega) (by omega)]; omega
   simp only [chk, e1]
   rw [e, bif_true (inA_lit (by omega))]
   simp only [Option.bind_some]
   rw [wrap64 (by omega) (by omega)]
   exact ih y i _ _ k hy hi (by omega) (by omega)
 have h2 : ∀ (n i : Nat) (v : Vector Int 32) (k : Nat), i + n = 8 → n < k → ∃ r, inspeximusref01_Sum_l2.l K z k ((i : Int), v) = some r := by
  intro n
  induction n with
  | zero =>
   intro i v k hi hk
   obtain ⟨k, rfl⟩ : ∃ j, k = j + 1 := ⟨k - 1, by omega⟩
   refine ⟨v, ?_⟩
   show inspeximusref01_Sum_l2.b K z (inspeximusref01_Sum_l2.l K z k) _ = _
   unfold inspeximusref01_Sum_l2.b
   rw [bif_false (dec_f (by simp only; omega))]
  | succ n ih =>
   intro i v k hi hk
   obtain ⟨k, rfl⟩ : ∃ j, k = j + 1 := ⟨k - 1, by omega⟩
   show ∃ r, inspeximusref01_Sum_l2.b K z (inspeximusref01_Sum_l2.l K z k) _ = _
   unfold inspeximusref01_Sum_l2.b
   rw [bif_true (dec_t (by simp only; omega))]
   simp only [chk]
   rw [bif_true (inA_lit (by omega)), wrap_succ (by omega)]
   obtain ⟨r, hr⟩ := in3 4 ((i : Int), v) i (vget z (Int.toNat (i : Int))) v K rfl (by omega) (by omega) (by omega)
   refine bind_ex hr ?_
   exact ih (i + 1) r k (by omega) (by omega)
 obtain ⟨r, hr⟩ := h2 8 0 (Vector.replicate 32 0) K (by omega) (by omega)
 exact ⟨r, bind_of hr rfl⟩
theorem rnumber_tot {K : Nat} (hK : 1000000000000 ≤ K) (n : Int) : ∃ r : List Int, inspeximusref02_Number.f K n 4 = some r ∧ r.length = 4 := by
 unfold inspeximusref02_Number.f
 have hz : zerosI 1 (0 : Int) 4 = some [0, 0, 0, 0] := rfl
 refine bind_exP hz ?_
 have key : ∀ (m : Nat) (u : Int) (l : List Int) (k : Nat), m ≤ 4 → m < k → l.length = 4 → ∃ r, inspeximusref02_Number_l1.l K k (l, u, (m : Int) - 1) = some r ∧ r.length = 4 := by
  intro m
  induction m with
  | zero =>
   intro u l k _ hk hl
   obtain ⟨k, rfl⟩ : ∃ j, k = j + 1 := ⟨k - 1, by omega⟩
   refine ⟨l, ?_, hl⟩
   show inspeximusref02_Number_l1.b K (inspeximusref02_Number_l1.l K k) _ = _
   unfold inspeximusref02_Number_l1.b
   rw [bif_false (dec_f (by simp))]
  | succ m ih =>
   intro u l k h4 hk hl
   obtain ⟨k, rfl⟩ : ∃ j, k = j + 1 := ⟨k - 1, by omega⟩
   show ∃ r, inspeximusref02_Number_l1.b K (inspeximusref02_Number_l1.l K k) _ = _ ∧ _
   unfold inspeximusref02_Number_l1.b
   rw [bif_true (dec_t (by simp))]
   have e3 : ((m + 1 : Nat) : Int) - 1 = (m : Int) := by omega
   simp only
   rw [e3]
   obtain ⟨x, hx⟩ := getI_ex (l := l) (i := m) (by omega)
   refine bind_exP hx ?_
   rw [wrap64 (by omega) (by omega)]
   exact ih _ _ k (by omega) (by omega) (by simp [hl])
 obtain ⟨r, hr, hl⟩ := key 4 (IntKind.wrap .u64 n) [0, 0, 0, 0] K (by omega) (by omega) rfl
 have hr : inspeximusref02_Number_l1.l K K ([0, 0, 0, 0], IntKind.wrap .u64 n, IntKind.wrap .i64 (4 - 1)) = some r := by
  rw [show IntKind.wrap .i64 ((4 : Int) - 1) = ((4 : Nat) : Int) - 1 by rw [wrap64 (by omega) (by omega)]; rfl]
  exact hr
 exact ⟨r, bind_of hr rfl, hl⟩
theorem rof_tot {K : Nat} (hK : 1000000000000 ≤ K) {d : Int} {l : List (List Int)} (hl : l.length ≤ 5) (h : ∀ x ∈ l, x.length ≤ 10000) : ∃ r, inspeximusref02_Of.f K d l = some r := by
 unfold inspeximusref02_Of.f inspeximusref02_Text.f
 let p : List Int → List Int := fun x => (inspeximusref02_Number.f K (x.length : Int) 4).getD [] ++ x
 have hp : ∀ x : List Int, inspeximusref02_Number.f K (x.length : Int) 4 = some ((inspeximusref02_Number.f K (x.length : Int) 4).getD []) ∧ (p x).length = x.length + 4 := fun x => by
  obtain ⟨r, hr, hrl⟩ := rnumber_tot hK (x.length : Int)
  refine ⟨by rw [hr]; rfl, ?_⟩
  show ((inspeximusref02_Number.f K (x.length : Int) 4).getD [] ++ x).length = _
  rw [hr, List.length_append]
  simp only [Option.getD_some]
  omega
 have hfl : (l.map p).flatten.length ≤ 10004 * l.length := flat_len (fun x hx => by
  have := h x hx
  rw [(hp x).2]; omega)
 have ht := cat_loop (L := inspeximusref02_Text_l1.l K l) l p [IntKind.wrap .u8 d] (k := K) (by omega)
  (fun k s => by
   show inspeximusref02_Text_l1.b K l (inspeximusref02_Text_l1.l K l k) _ = _
   unfold inspeximusref02_Text_l1.b
   rw [bif_false (dec_f (by simp))])
  (fun k s i x hi hx hm hs => by
   show inspeximusref02_Text_l1.b K l (inspeximusref02_Text_l1.l K l k) _ = _
   unfold inspeximusref02_Text_l1.b
   rw [bif_true (dec_t (by simp only; omega))]
   simp only
   have h2 := (hp x).2
   have h3 := h x hm
   have h4 : (p x).length = ((inspeximusref02_Number.f K (x.length : Int) 4).getD []).length + x.length := List.length_append
   refine bind_of hx ?_
   refine bind_of (hp x).1 ?_
   refine bind_of (catI_ok (by omega)) ?_
   refine bind_of hx ?_
   refine bind_of (catI_ok (by rw [List.length_append]; omega)) ?_
   rw [wrap_succ (by omega), List.append_assoc])
  (by simp only [List.length_singleton]; omega)
 have ht : inspeximusref02_Text_l1.l K l K ([IntKind.wrap .u8 d], 0) = some (IntKind.wrap .u8 d :: (l.map p).flatten) := ht
 rw [ht]
 simp only [Option.bind_some]
 obtain ⟨r, hr⟩ := rsum_tot (K := K) hK (x := IntKind.wrap .u8 d :: (l.map p).flatten) (by simp only [List.length_cons]; omega)
 exact ⟨r, bind_of hr rfl⟩
theorem rcom_tot {K : Nat} (hK : 1000000000000 ≤ K) {x : Rc} (ho : okD x) (hr : rightS x = true) (hk : x.fKind = 1) : ∃ c, inspeximusref04_Com.f K x = some c ∧ (x.fGone = true → c = x.fCom) := by
 unfold inspeximusref04_Com.f
 simp only [jn]
 rw [rright_eq hK ho, hr]
 simp only [Option.bind_some, Bool.not_true, cond_false]
 rw [dec_t hk]
 simp only [Bool.not_true, cond_false]
 cases hg : x.fGone with
 | true => exact ⟨_, rfl, fun _ => rfl⟩
 | false =>
  simp only [cond_false]
  have h3 := ((rightD hr).beg hk).2.2
  refine bind_exP (arr_part _) ?_
  obtain ⟨r, h⟩ := rof_tot hK (d := 4) (l := [vlist x.fSalt, x.fData]) (by simp) (fun y hy => by
   simp at hy
   rcases hy with rfl | rfl
   ·rw [vlist_length]; omega
   ·omega)
  exact ⟨r, bind_of h rfl, fun h => by cases h⟩
theorem rput_open {K : Nat} (hK : 1000000000000 ≤ K) {x : Rc} (ho : okD x) (hr : rightS x = true) : inspeximusref04_Put.f K x true = some (openW x) := by
 unfold inspeximusref04_Put.f
 refine bind_of (rright_eq hK ho) ?_
 rw [hr, bif_false (by rfl)]
 have hd := rightD hr
 have hkN := kind_N hr
 have hk := numW_len hkN
 have w1 := numW_len hd.saga
 have w2 := numW_len hd.part
 have w3 := numW_len hd.epoch
 refine bind_of (refN hK hkN) ?_
 rw [show ∀ (f : (List Int → Option (List Int)) → Option (List Int)), jn (fun y => some y) f = f (fun y => some y) from fun _ => rfl]
 try dsimp only
 have vl : ∀ v : H32, (vlist v).length = 32 := fun v => vlist_length v
 by_cases k1 : x.fKind = 1
 ·obtain ⟨b1, b2, b3⟩ := hd.beg k1
  have b1 := inn_iff.1 b1
  have hl := stepsW_len b2 (by omega)
  have hn := numS_len (n := x.fSteps.length) (by omega)
  have hn2 := numS_len (n := x.fData.length) (by omega)
  have hst : stepsW x.fSteps = numS x.fSteps.length ++ (x.fSteps.map stepW).flatten := rfl
  rw [hst, List.length_append] at hl
  rw [bif_true (dec_t k1)]
  unfold jn
  simp only
  refine bind_of (refN hK hd.saga) ?_
  refine bind_of (catI_ok (by omega)) ?_
  refine bind_of (refN hK (n := ((x.fSteps.length : Nat) : Int)) ⟨by omega, by omega⟩) ?_
  have en : numW ((x.fSteps.length : Nat) : Int) = numS x.fSteps.length := by unfold numW; rw [Int.toNat_natCast]
  rw [en]
  refine bind_of (catI_ok (by simp only [List.length_append]; omega)) ?_
  refine bind_of (psteps_eq hK _ (by simp only [List.length_append]; omega) (by omega) b2) ?_
  obtain ⟨c, hc, hcg⟩ := rcom_tot hK ho hr k1
  refine bind_of hc ?_
  have eo : openW x = numW x.fKind ++ (numW x.fSaga ++ (stepsW x.fSteps ++ loadW x)) := by
   unfold openW bodyW
   rw [if_pos k1]
  simp only [cond_true]
  refine bind_of (rflag_w _) ?_
  refine bind_of (catI_ok (by simp only [List.length_append, List.length_singleton]; omega)) ?_
  rw [eo, hst]
  unfold loadW
  cases hg : x.fGone with
  | true =>
   simp only [Bool.not_true, cond_false, cond_true]
   rw [hcg hg]
   refine bind_of (arr_part _) ?_
   refine bind_of (catI_ok (by simp only [List.length_append, List.length_singleton, vl]; omega)) ?_
   simp only [List.append_assoc]
  | false =>
   simp only [Bool.not_false, cond_false, cond_true]
   refine bind_of (arr_part _) ?_
   refine bind_of (catI_ok (by simp only [List.length_append, List.length_singleton, vl]; omega)) ?_
   refine bind_of (rbytes_w hK (by omega)) ?_
   refine bind_of (catI_ok (by simp only [List.length_append, List.length_singleton, vl]; omega)) ?_
   simp only [List.append_assoc]
 ·have eo : ∀ k, x.fKind = k → openW x = numW x.fKind ++ bodyW k x := fun k h => by
   unfold openW
   rw [h]
  rw [bif_false (dec_f k1)]
  by_cases kc : x.fKind = 2 ∨ x.fKind = 3 ∨ x.fKind = 4
  ·have h4 := hd.call (by omega)
   have q1 := numW_len h4.1
   have q2 := numW_len h4.2.1
   have q3 := numW_len h4.2.2
   refine Eq.trans (jn_val true (fun j => by rcases kc with k | k | k <;> simp [k])) ?_
   simp only [cond_true]
   refine bind_of (refN hK hd.saga) ?_
   refine bind_of (catI_ok (by omega)) ?_
   refine bind_of (refN hK h4.1) ?_
   refine bind_of (catI_ok (by simp only [List.length_append]; omega)) ?_
   refine bind_of (refN hK h4.2.1) ?_
   refine bind_of (catI_ok (by simp only [List.length_append]; omega)) ?_
   refine bind_of (refN hK h4.2.2) ?_
   refine bind_of (catI_ok (by simp only [List.length_append]; omega)) ?_
   refine bind_of (rflag_w _) ?_
   refine bind_of (catI_ok (by simp only [List.length_append, List.length_singleton]; omega)) ?_
   by_cases k3 : x.fKind = 3
   ·rw [bif_true (dec_t k3)]
    refine bind_of (rflag_w _) ?_
    refine bind_of (catI_ok (by simp only [List.length_append, List.length_singleton]; omega)) ?_
    refine bind_of (refN hK hd.part) ?_
    refine bind_of (catI_ok (by simp only [List.length_append, List.length_singleton]; omega)) ?_
    refine bind_of (refN hK hd.epoch) ?_
    refine bind_of (catI_ok (by simp only [List.length_append, List.length_singleton]; omega)) ?_
    refine bind_of (arr_part _) ?_
    refine bind_of (catI_ok (by simp only [List.length_append, List.length_singleton, vl]; omega)) ?_
    rw [eo 3 k3]
    simp [bodyW, callW]
   ·rw [bif_false (dec_f k3)]
    rcases kc with k | k | k
    ·rw [eo 2 k]; simp [bodyW, callW]
    ·exact absurd k k3
    ·rw [eo 4 k]; simp [bodyW, callW]
  ·refine Eq.trans (jn_val false (fun j => by rw [dec_f (show ¬ x.fKind = 2 by omega), dec_f (show ¬ x.fKind = 3 by omega), dec_f (show ¬ x.fKind = 4 by omega)]; rfl)) ?_
   simp only [cond_false]
   by_cases k5 : x.fKind = 5
   ·have h4 := hd.clo k5
    have q1 := numW_len h4.1
    have q2 := numW_len h4.2
    rw [bif_true (dec_t k5)]
    refine bind_of (refN hK hd.saga) ?_
    refine bind_of (catI_ok (by omega)) ?_
    refine bind_of (refN hK h4.1) ?_
    refine bind_of (catI_ok (by simp only [List.length_append]; omega)) ?_
    refine bind_of (refN hK h4.2) ?_
    refine bind_of (catI_ok (by simp only [List.length_append]; omega)) ?_
    rw [eo 5 k5]
    simp [bodyW]
   ·have k6 : x.fKind = 6 := by have := hd.kind; omega
    rw [bif_false (dec_f k5)]
    refine bind_of (refN hK hd.part) ?_
    refine bind_of (catI_ok (by omega)) ?_
    refine bind_of (refN hK hd.epoch) ?_
    refine bind_of (catI_ok (by simp only [List.length_append]; omega)) ?_
    rw [eo 6 k6]
    simp [bodyW]
end Go.Proofs.YtjgaokcplofimaaGreatDoor
