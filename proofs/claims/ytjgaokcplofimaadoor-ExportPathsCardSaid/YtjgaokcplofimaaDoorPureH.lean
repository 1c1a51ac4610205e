/-
 Plain: the digest of parts is always there.
-/
import Derived.Test.YtjgaokcplofimaaDoorPureT
namespace Go.Proofs.YtjgaokcplofimaaDoor
open Go Go.Sep
theorem loop_tot {Y R : Type} {L : Nat → Y → Option R} (I : Nat → Y → Prop) (h0 : ∀ k y, I 0 y → ∃ r, L (k + 1) y = some r)
  (hs : ∀ k n y, I (n + 1) y → ∃ y', I n y' ∧ L (k + 1) y = L k y') : ∀ (n : Nat) (y : Y) (k : Nat), I n y → n < k → ∃ r, L k y = some r := by
 intro n
 induction n with
 | zero =>
  intro y k hi hk
  obtain ⟨k, rfl⟩ : ∃ j, k = j + 1 := ⟨k - 1, by omega⟩
  exact h0 k y hi
 | succ n ih =>
  intro y k hi hk
  obtain ⟨k, rfl⟩ : ∃ j, k = j + 1 := ⟨k - 1, by omega⟩
  obtain ⟨y', h1, h2⟩ := hs k n y hi
  rw [h2]
  exact ih y' k h1 (by omega)
theorem bind_ex {α β : Type} {o : Option α} {x : α} {f : α → Option β} (h : o = some x) (h2 : ∃ r, f x = some r) : ∃ r, o.bind f = some r := by rw [h]; exact h2
theorem bind_exP {α β : Type} {o : Option α} {x : α} {f : α → Option β} {P : β → Prop} (h : o = some x) (h2 : ∃ r, f x = some r ∧ P r) : ∃ r, o.bind f = some r ∧ P r := by rw [h]; exact h2
theorem inA_lit {N i : Nat} (h : i < N) : inA N (i : Int) = true := by
 unfold inA
 rw [dec_t (by omega), dec_t (by omega)]; rfl
theorem moved_tot {K : Nat} (x : Int) : (∃ r, sha_moved.f K x 17 19 10 = some r) ∧ (∃ r, sha_moved.f K x 7 18 3 = some r) := ⟨⟨_, rfl⟩, ⟨_, rfl⟩⟩
theorem turned_tot {K : Nat} (x : Int) : (∃ r, sha_turned.f K x 6 11 25 = some r) ∧ (∃ r, sha_turned.f K x 2 13 22 = some r) := ⟨⟨_, rfl⟩, ⟨_, rfl⟩⟩
theorem getI_ex {α : Type} {l : List α} {i : Nat} (h : i < l.length) : ∃ x, getI l (i : Int) = some x := ⟨l[i], by rw [getI_nat, List.getElem?_eq_getElem h]⟩
theorem schedule_tot {K : Nat} (hK : 100 < K) {b : List Int} (hb : b.length = 64) : ∃ w, sha_schedule.f K b = some w := by
 unfold sha_schedule.f
 have := loop_tot (L := sha_schedule_l1.l K b) (fun n y => ∃ i : Nat, y.1 = (i : Int) ∧ i + n = 64)
  (fun k y ⟨i, hy, hi⟩ => by
   obtain ⟨y1, y2⟩ := y
   simp only at hy
   subst hy
   refine ⟨y2, ?_⟩
   show sha_schedule_l1.b K b (sha_schedule_l1.l K b k) _ = _
   unfold sha_schedule_l1.b
   rw [bif_false (dec_f (by simp only; omega))])
  (fun k n y ⟨i, hy, hi⟩ => by
   obtain ⟨y1, y2⟩ := y
   simp only at hy
   subst hy
   show ∃ y', _ ∧ sha_schedule_l1.b K b (sha_schedule_l1.l K b k) _ = _
   unfold sha_schedule_l1.b
   simp only [jn]
   rw [bif_true (dec_t (by omega)), wrap_succ (by omega)]
   by_cases h16 : (i : Int) < 16
   ·rw [bif_true (dec_t h16)]
    have w4 : IntKind.wrap .i64 (4 * (i : Int)) = ((4 * i : Nat) : Int) := by rw [wrap64 (by omega) (by omega)]; push_cast; rfl
    have wj : ∀ j : Nat, j < 4 → IntKind.wrap .i64 (((4 * i : Nat) : Int) + (j : Int)) = ((4 * i + j : Nat) : Int) := fun j hj => by rw [wrap64 (by omega) (by omega)]; push_cast; rfl
    obtain ⟨x0, e0⟩ := getI_ex (l := b) (i := 4 * i) (by omega)
    obtain ⟨x1, e1⟩ := getI_ex (l := b) (i := 4 * i + 1) (by omega)
    obtain ⟨x2, e2⟩ := getI_ex (l := b) (i := 4 * i + 2) (by omega)
    obtain ⟨x3, e3⟩ := getI_ex (l := b) (i := 4 * i + 3) (by omega)
    rw [w4, e0]
    simp only [Option.bind_some]
    rw [show (1 : Int) = ((1 : Nat) : Int) by rfl, wj 1 (by omega), e1]
    simp only [Option.bind_some]
    rw [show (2 : Int) = ((2 : Nat) : Int) by rfl, wj 2 (by omega), e2]
    simp only [Option.bind_some]
    rw [show (3 : Int) = ((3 : Nat) : Int) by rfl, wj 3 (by omega), e3]
    simp only [Option.bind_some, chk]
    rw [bif_true (inA_lit (by omega))]
    exact ⟨(_, _), ⟨i + 1, rfl, by omega⟩, rfl⟩
   ·rw [bif_false (dec_f h16)]
    have wj : ∀ j : Nat, j ≤ 16 → IntKind.wrap .i64 ((i : Int) - (j : Int)) = ((i - j : Nat) : Int) := fun j hj => by rw [wrap64 (by omega) (by omega)]; omega
    have h2 := wj 2 (by omega)
    have h7 := wj 7 (by omega)
    have h15 := wj 15 (by omega)
    have h16' := wj 16 (by omega)
    simp only [Int.cast_ofNat_Int] at h2 h7 h15 h16'
    rw [h2, h7, h15, h16']
    simp only [chk]
    rw [bif_true (inA_lit (by omega)), bif_true (inA_lit (by omega)), bif_true (inA_lit (by omega)), bif_true (inA_lit (by omega))]
    obtain ⟨r1, e1⟩ := (moved_tot (K := K) (vget y2 (Int.toNat ((i - 2 : Nat) : Int)))).1
    obtain ⟨r2, e2⟩ := (moved_tot (K := K) (vget y2 (Int.toNat ((i - 15 : Nat) : Int)))).2
    rw [e1]
    simp only [Option.bind_some]
    rw [e2]
    simp only [Option.bind_some]
    rw [bif_true (inA_lit (by omega))]
    exact ⟨(_, _), ⟨i + 1, rfl, by omega⟩, rfl⟩)
  64 (0, Vector.replicate 64 0) K ⟨0, rfl, rfl⟩ (by omega)
 obtain ⟨w, hw⟩ := this
 rw [hw]
 exact ⟨w, rfl⟩
theorem turn_tot {K : Nat} (hK : 100 < K) (h : Vector Int 8) {b : List Int} (hb : b.length = 64) : ∃ r, sha_Turn.f K h b = some r := by
 unfold sha_Turn.f
 rw [bif_false (by simp [hb])]
 obtain ⟨w, hw⟩ := schedule_tot hK hb
 rw [hw]
 simp only [Option.bind_some]
 have h1 := loop_tot (L := sha_Turn_l1.l K w) (fun n y => ∃ i : Nat, y.1 = (i : Int) ∧ i + n = 64)
  (fun k y ⟨i, hy, hi⟩ => by
   obtain ⟨y1, y2⟩ := y
   simp only at hy
   subst hy
   refine ⟨y2, ?_⟩
   show sha_Turn_l1.b K w (sha_Turn_l1.l K w k) _ = _
   unfold sha_Turn_l1.b
   rw [bif_false (dec_f (by simp only; omega))])
  (fun k n y ⟨i, hy, hi⟩ => by
   obtain ⟨y1, y2⟩ := y
   simp only at hy
   subst hy
   show ∃ y', _ ∧ sha_Turn_l1.b K w (sha_Turn_l1.l K w k) _ = _
   unfold sha_Turn_l1.b
   rw [bif_true (dec_t (by simp only; omega))]
   obtain ⟨x, ex⟩ := getI_ex (l := vlist w) (i := i) (by rw [vlist_length]; omega)
   obtain ⟨r1, e1⟩ := (turned_tot (K := K) (vget y2 (Int.toNat 4))).1
   obtain ⟨r2, e2⟩ := (turned_tot (K := K) (vget y2 (Int.toNat 0))).2
   simp only
   rw [ex]
   simp only [Option.bind_some, chk]
   rw [bif_true (inA_lit (by omega)), e1]
   simp only [Option.bind_some]
   rw [e2]
   simp only [Option.bind_some]
   rw [wrap_succ (by omega)]
   exact ⟨(_, _), ⟨i + 1, rfl, by omega⟩, rfl⟩)
  64 (0, h) K ⟨0, rfl, rfl⟩ (by omega)
 obtain ⟨z, hz⟩ := h1
 rw [hz]
 simp only [Option.bind_some]
 have h2 := loop_tot (L := sha_Turn_l2.l K z) (fun n y => ∃ i : Nat, y.1 = (i : Int) ∧ i + n = 8)
  (fun k y ⟨i, hy, hi⟩ => by
   obtain ⟨y1, y2⟩ := y
   simp only at hy
   subst hy
   refine ⟨y2, ?_⟩
   show sha_Turn_l2.b K z (sha_Turn_l2.l K z k) _ = _
   unfold sha_Turn_l2.b
   rw [bif_false (dec_f (by simp only; omega))])
  (fun k n y ⟨i, hy, hi⟩ => by
   obtain ⟨y1, y2⟩ := y
   simp only at hy
   subst hy
   show ∃ y', _ ∧ sha_Turn_l2.b K z (sha_Turn_l2.l K z k) _ = _
   unfold sha_Turn_l2.b
   rw [bif_true (dec_t (by simp only; omega))]
   simp only [Option.bind_some, chk]
   rw [bif_true (inA_lit (by omega)), bif_true (inA_lit (by omega)), bif_true (inA_lit (by omega)), wrap_succ (by omega)]
   exact ⟨(_, _), ⟨i + 1, rfl, by omega⟩, rfl⟩)
  8 (0, h) K ⟨0, rfl, rfl⟩ (by omega)
 obtain ⟨r, hr⟩ := h2
 rw [hr]
 exact ⟨r, rfl⟩
theorem fill_tot {K : Nat} (hK : 100 < K) {n : Nat} (hn : n < 1000000000) : ∃ r : List Int, sha_Fill.f K (n : Int) = some r ∧ r.length < 200 := by
 unfold sha_Fill.f
 rw [bif_false (dec_f (by omega))]
 have h1 : ∃ r, sha_Fill_l1.l K (n : Int) K [128] = some r ∧ r.length < 100 := by
  have key : ∀ (m : Nat) (out : List Int) (k : Nat), out.length + m ≤ 65 → (n + out.length + m) % 64 = 56 → m < k → ∃ r, sha_Fill_l1.l K (n : Int) k out = some r ∧ r.length < 100 := by
   intro m
   induction m with
   | zero =>
    intro out k ho hm hk
    obtain ⟨k, rfl⟩ : ∃ j, k = j + 1 := ⟨k - 1, by omega⟩
    refine ⟨out, ?_, by omega⟩
    show sha_Fill_l1.b K (n : Int) (sha_Fill_l1.l K (n : Int) k) _ = _
    unfold sha_Fill_l1.b
    rw [wrap64 (by omega) (by omega)]
    have : Int.tmod ((n : Int) + (out.length : Int)) 64 = ((n + out.length) % 64 : Nat) := rfl
    rw [this, bif_false (by simp; omega)]
   | succ m ih =>
    intro out k ho hm hk
    obtain ⟨k, rfl⟩ : ∃ j, k = j + 1 := ⟨k - 1, by omega⟩
    show ∃ r, sha_Fill_l1.b K (n : Int) (sha_Fill_l1.l K (n : Int) k) _ = _ ∧ _
    unfold sha_Fill_l1.b
    rw [wrap64 (by omega) (by omega)]
    have : Int.tmod ((n : Int) + (out.length : Int)) 64 = ((n + out.length) % 64 : Nat) := rfl
    rw [this]
    by_cases hc : (n + out.length) % 64 = 56
    ·rw [bif_false (by simp; omega)]
     exact ⟨out, rfl, by omega⟩
    ·rw [bif_true (by simp; omega), catI_ok (by simp; omega)]
     simp only [Option.bind_some]
     exact ih (out ++ [0]) k (by simp; omega) (by simp; omega) (by omega)
  exact key ((56 + 64 * 20000000 - (n + 1)) % 64) [128] K (by simp; omega) (by simp; omega) (by omega)
 obtain ⟨z, hz, hzl⟩ := h1
 rw [hz]
 simp only [Option.bind_some]
 have key : ∀ (m : Nat) (out : List Int) (k : Nat), m ≤ 8 → out.length + m < 200 → m < k → ∃ r, sha_Fill_l2.l K (n : Int) k (out, (m : Int) - 1) = some r ∧ r.length < 200 := by
  intro m
  induction m with
  | zero =>
   intro out k _ ho hk
   obtain ⟨k, rfl⟩ : ∃ j, k = j + 1 := ⟨k - 1, by omega⟩
   refine ⟨out, ?_, by omega⟩
   show sha_Fill_l2.b K (n : Int) (sha_Fill_l2.l K (n : Int) k) _ = _
   unfold sha_Fill_l2.b
   rw [bif_false (dec_f (by simp))]
  | succ m ih =>
   intro out k h8 ho hk
   obtain ⟨k, rfl⟩ : ∃ j, k = j + 1 := ⟨k - 1, by omega⟩
   show ∃ r, sha_Fill_l2.b K (n : Int) (sha_Fill_l2.l K (n : Int) k) _ = _ ∧ _
   unfold sha_Fill_l2.b
   rw [bif_true (dec_t (by simp only; omega))]
   simp only [chk]
   rw [wrap64 (n := 8 * (((m + 1 : Nat) : Int) - 1)) (by omega) (by omega), bif_true (by simp; omega), catI_ok (by simp; omega)]
   simp only [Option.bind_some]
   rw [wrap64 (by omega) (by omega)]
   have : (((m + 1 : Nat) : Int) - 1 - 1) = (m : Int) - 1 := by omega
   rw [this]
   exact ih _ k (by omega) (by simp; omega) (by omega)
 obtain ⟨r, hr, hrl⟩ := key 8 z K (by omega) (by omega) (by omega)
 have e7 : (((8 : Nat) : Int) - 1) = 7 := by decide
 rw [e7] at hr
 rw [hr]
 exact ⟨r, rfl, hrl⟩
theorem sum_tot {K : Nat} (hK : 1000000000000 ≤ K) {x : List (List Int)} (hx : x.length < 1000) (hl : x.flatten.length < 1000000) : ∃ r, sha_Sum.f K x = some r ∧ ∀ j, j < 32 → 0 ≤ vget r j ∧ vget r j < 256 := by
 unfold sha_Sum.f sha_blocks.f
 have hc : slices_Concat_byte_byte.f K x = some x.flatten := by
  have := all_eq (K := K) (x := x) hK (by omega) (by omega)
  unfold wire_All.f at this
  cases h : slices_Concat_byte_byte.f K x with
  | none => rw [h] at this; cases this
  | some y => rw [h] at this; exact this
 obtain ⟨f, hf, hfl⟩ := fill_tot (K := K) (n := x.flatten.length) (by omega) (by omega)
 refine bind_exP hc ?_
 refine bind_exP hf ?_
 refine bind_exP (catI_ok (by omega)) ?_
 simp only [Option.bind_some]
 have key : ∀ (n : Nat) (y : Vector Int 8 × List Int) (k : Nat), y.2.length ≤ n → n < k → y.2.length < 2000000 → ∃ r, sha_Sum_l1.l K k y = some r := by
  intro n
  induction n using Nat.strongRecOn with
  | _ n ih =>
   intro y k hy hk hb
   obtain ⟨k, rfl⟩ : ∃ j, k = j + 1 := ⟨k - 1, by omega⟩
   obtain ⟨y1, y2⟩ := y
   simp only at hy hb
   show ∃ r, sha_Sum_l1.b K (sha_Sum_l1.l K k) _ = _
   unfold sha_Sum_l1.b
   by_cases h64 : 64 ≤ y2.length
   ·rw [bif_true (dec_t (by simp only; omega))]
    simp only
    have s1 := subI_0 (l := y2) (b := 64) (by omega)
    have s2 := subI_all (l := y2) (a := 64) (by omega)
    simp only [Int.cast_ofNat_Int] at s1 s2
    refine bind_ex s1 ?_
    obtain ⟨t, ht⟩ := turn_tot (K := K) (by omega) y1 (b := y2.take 64) (by simp; omega)
    refine bind_ex ht ?_
    refine bind_ex s2 ?_
    exact ih (n - 64) (by omega) _ k (by simp; omega) (by omega) (by simp; omega)
   ·rw [bif_false (dec_f (by simp only; omega))]
    exact ⟨_, rfl⟩
 obtain ⟨z, hz⟩ := key (x.flatten ++ f).length (gl_First, x.flatten ++ f) K (Nat.le_refl _) (by simp at *; omega) (by simp at *; omega)
 refine bind_exP hz ?_
 have key2 : ∀ (n i : Nat) (v : Vector Int 32) (k : Nat), i + n = 32 → n < k → (∀ j, j < 32 → 0 ≤ vget v j ∧ vget v j < 256) → ∃ r, sha_Sum_l2.l K z k ((i : Int), v) = some r ∧ ∀ j, j < 32 → 0 ≤ vget r j ∧ vget r j < 256 := by
  intro n
  induction n with
  | zero =>
   intro i v k hi hk hv
   obtain ⟨k, rfl⟩ : ∃ j, k = j + 1 := ⟨k - 1, by omega⟩
   refine ⟨v, ?_, hv⟩
   show sha_Sum_l2.b K z (sha_Sum_l2.l K z k) _ = _
   unfold sha_Sum_l2.b
   rw [bif_false (dec_f (by simp only; omega))]
  | succ n ih =>
   intro i v k hi hk hv
   obtain ⟨k, rfl⟩ : ∃ j, k = j + 1 := ⟨k - 1, by omega⟩
   show ∃ r, sha_Sum_l2.b K z (sha_Sum_l2.l K z k) _ = _ ∧ _
   unfold sha_Sum_l2.b
   rw [bif_true (dec_t (by simp only; omega))]
   have e1 : Int.tdiv (i : Int) 4 = ((i / 4 : Nat) : Int) := rfl
   have e2 : Int.tmod (i : Int) 4 = ((i % 4 : Nat) : Int) := rfl
   simp only [chk]
   rw [e1, e2, wrap64 (n := ((i / 4 : Nat) : Int)) (by omega) (by omega), bif_true (inA_lit (by omega)), wrap64 (n := 8 * ((i % 4 : Nat) : Int)) (by omega) (by omega), wrap64 (n := 24 - 8 * ((i % 4 : Nat) : Int)) (by omega) (by omega), bif_true (by simp; omega), bif_true (inA_lit (by omega)), wrap_succ (by omega)]
   simp only [Option.bind_some]
   refine ih (i + 1) _ k (by omega) (by omega) (fun j hj => ?_)
   rw [vget_vset _ _ hj]
   split
   ·simp only [IntKind.wrap, IntKind.bits, IntKind.signed]
    simp
    omega
   ·exact hv j hj
 obtain ⟨r, hr, hrr⟩ := key2 32 0 (Vector.replicate 32 0) K (by omega) (by omega) (fun j hj => by
  have hz0 : ∀ j, j < 32 → vget (Vector.replicate 32 (0 : Int)) j = 0 := by decide
  have := hz0 j hj
  omega)
 have hr : sha_Sum_l2.l K z K (0, Vector.replicate 32 0) = some r := hr
 obtain ⟨r', h', hp⟩ : ∃ r', ((sha_Sum_l2.l K z K (0, Vector.replicate 32 0)).bind fun (z844 : Vector Int 32) => some z844) = some r' ∧ ∀ j, j < 32 → 0 ≤ vget r' j ∧ vget r' j < 256 := ⟨r, by rw [hr]; rfl, hrr⟩
 exact ⟨r', h', hp⟩
end Go.Proofs.YtjgaokcplofimaaDoor
