/-
 The plain law of ExportGone.
-/
import Derived.Test.YtjgaokcplofimaaDoorGPureEz
namespace Go.Proofs.YtjgaokcplofimaaDoor
open Go Go.Sep
theorem alive18 : inspeximuslaw18_alive.f 1000000000000 = some true := by kernel_rfl
/-! ### the mask's bit -/
def bitE (mask i : Nat) : Bool := decide (mask / 2 ^ (i % 32) % 2 = 1)
theorem band_one {a : Nat} (ha : a < 4294967296) : band .u32 (a : Int) 1 = ((a % 2 : Nat) : Int) := by
 have h := Nat.and_one_is_mod a
 have h1 : (1 : Int) = ((1 : Nat) : Int) := rfl
 unfold band
 rw [BitVec.toNat_and]
 simp only [IntKind.bits]
 rw [h1, BitVec.ofInt_natCast, BitVec.ofInt_natCast, BitVec.toNat_ofNat, BitVec.toNat_ofNat, show (2 : Nat) ^ 32 = 4294967296 by decide, Nat.mod_eq_of_lt ha, Nat.mod_eq_of_lt (show 1 < 4294967296 by decide), h]
 simp only [IntKind.wrap, IntKind.bits, IntKind.signed]
 simp
 omega
theorem mask_bit {mask i : Nat} (h : mask < 4294967296) : decide (band .u32 (Int.fdiv (mask : Int) (2 ^ min (Int.toNat ((i % 32 : Nat) : Int)) 32)) 1 = 1) = bitE mask i := by
 have e1 : min (Int.toNat ((i % 32 : Nat) : Int)) 32 = i % 32 := by
  rw [Int.toNat_natCast]; omega
 have e2 : Int.fdiv (mask : Int) (2 ^ (i % 32)) = ((mask / 2 ^ (i % 32) : Nat) : Int) := by
  rw [Int.fdiv_eq_ediv_of_nonneg _ (Int.le_of_lt (Int.pow_pos (by decide)))]
  push_cast
  rfl
 rw [e1, e2, band_one (Nat.lt_of_le_of_lt (Nat.div_le_self _ _) h)]
 unfold bitE
 by_cases h1 : mask / 2 ^ (i % 32) % 2 = 1
 ·rw [dec_t h1, dec_t (by omega)]
 ·rw [dec_f h1, dec_f (by omega)]
theorem gone_l1 {i : Nat} (hi : i < 1000000) : ∀ (m j a k : Nat), j + m = i % 32 → m < k → a < 4294967296 → inspeximusref18_Gone_l1.l 1000000000000 (i : Int) k ((a : Int), (j : Int)) = some ((a / 2 ^ m : Nat) : Int) := by
 intro m
 induction m with
 | zero =>
  intro j a k hj hk ha
  obtain ⟨k, rfl⟩ : ∃ j, k = j + 1 := ⟨k - 1, by omega⟩
  show inspeximusref18_Gone_l1.b 1000000000000 (i : Int) (inspeximusref18_Gone_l1.l 1000000000000 (i : Int) k) _ = _
  unfold inspeximusref18_Gone_l1.b
  rw [bif_false (dec_f (by show ¬ (j : Int) < ((i % 32 : Nat) : Int); omega))]
  simp
 | succ m ih =>
  intro j a k hj hk ha
  obtain ⟨k, rfl⟩ : ∃ j, k = j + 1 := ⟨k - 1, by omega⟩
  show inspeximusref18_Gone_l1.b 1000000000000 (i : Int) (inspeximusref18_Gone_l1.l 1000000000000 (i : Int) k) _ = _
  unfold inspeximusref18_Gone_l1.b
  have hw : IntKind.wrap .u32 (Int.tdiv (a : Int) 2) = ((a / 2 : Nat) : Int) := by
   show IntKind.wrap .u32 ((a / 2 : Nat) : Int) = _
   simp only [IntKind.wrap, IntKind.bits, IntKind.signed]
   simp
   omega
  rw [bif_true (dec_t (by show (j : Int) < ((i % 32 : Nat) : Int); omega))]
  show inspeximusref18_Gone_l1.l 1000000000000 (i : Int) k (IntKind.wrap .u32 (Int.tdiv (a : Int) 2), IntKind.wrap .i64 ((j : Int) + 1)) = _
  rw [hw, wrap_succ (by omega), ih (j + 1) (a / 2) k (by omega) (by omega) (by omega), Nat.div_div_eq_div_mul]
  rw [show 2 * 2 ^ m = 2 ^ (m + 1) by rw [Nat.pow_succ]; omega]
theorem gone_eq {mask i : Nat} (hi : i < 1000000) (h : mask < 4294967296) : inspeximusref18_Gone.f 1000000000000 (mask : Int) (i : Int) = some (bitE mask i) := by
 unfold inspeximusref18_Gone.f
 have h1 := gone_l1 hi (i % 32) 0 mask 1000000000000 (by omega) (by omega) h
 have h1 : inspeximusref18_Gone_l1.l 1000000000000 (i : Int) 1000000000000 ((mask : Int), 0) = _ := h1
 rw [bnd h1]
 show some (decide (((mask / 2 ^ (i % 32) % 2 : Nat) : Int) = 1)) = _
 unfold bitE
 by_cases h1 : mask / 2 ^ (i % 32) % 2 = 1
 ·rw [dec_t h1, dec_t (by omega)]
 ·rw [dec_f h1, dec_f (by omega)]
/-! ### masked records -/
def goneR (mask : Nat) (x : Rc) (i : Nat) : Rc := bif bitE mask i then redS 1000000000000 x else x
theorem mask_gone {x : Rc} (ho : okD x) (i : Nat) {mask : Nat} (h : mask < 4294967296) : maskE x i (mask : Int) = goneR mask x i := by
 have key : export_masked.f 1000000000000 x (i : Int) (mask : Int) = some (goneR mask x i) := by
  unfold export_masked.f
  have e : Int.tmod (i : Int) 32 = ((i % 32 : Nat) : Int) := rfl
  rw [e]
  simp only [chk]
  rw [bif_true (by simp; omega), mask_bit h]
  unfold goneR
  cases bitE mask i with
  | true =>
   simp only [cond_true]
   rw [bnd (red_eq (Nat.le_refl _) ho)]
  | false =>
   simp only [cond_false]
   have h1 : slices_Clone_api_Step_api_Step.f 1000000000000 x.fSteps = some x.fSteps := by
    unfold slices_Clone_api_Step_api_Step.f
    rw [catI_ok (by have := ho.2.2; rw [List.length_nil]; omega)]; rfl
   have h2 : slices_Clone_byte_byte.f 1000000000000 x.fData = some x.fData := by
    unfold slices_Clone_byte_byte.f
    rw [catI_ok (by have := ho.2.1; rw [List.length_nil]; omega)]; rfl
   rw [bnd h1, bnd h2]
 unfold maskE
 rw [key]; rfl
theorem goneR_0 (x : Rc) (i : Nat) : goneR 0 x i = x := by
 unfold goneR bitE
 rw [dec_f (by simp)]; rfl
theorem goneR_ok {x : Rc} (ho : okD x) (mask i : Nat) : okD (goneR mask x i) := by
 unfold goneR
 cases bitE mask i with
 | true => exact red_okD ho
 | false => exact ho
theorem red_small {K : Nat} {x : Rc} (h : x.fSteps.length ≤ 30 ∧ x.fData.length ≤ 300) : (redS K x).fSteps.length ≤ 30 ∧ (redS K x).fData.length ≤ 300 := by
 cases hb : begS x with
 | false => rw [red_not hb]; exact h
 | true => rw [red_beg hb]; exact ⟨h.1, by simp⟩
theorem goneR_small {x : Rc} (h : x.fSteps.length ≤ 30 ∧ x.fData.length ≤ 300) (mask i : Nat) : (goneR mask x i).fSteps.length ≤ 30 ∧ (goneR mask x i).fData.length ≤ 300 := by
 unfold goneR
 cases bitE mask i with
 | true => exact red_small h
 | false => exact h
theorem red_rightS {K : Nat} (x : Rc) : rightS (redS K x) = rightS x := by
 cases hr : rightS x with
 | true => exact red_right hr
 | false =>
  have : begS x = false := by unfold begS; rw [hr]; rfl
  rw [red_not this, hr]
theorem goneR_right (mask : Nat) (x : Rc) (i : Nat) : rightS (goneR mask x i) = rightS x := by
 unfold goneR
 cases bitE mask i with
 | true => exact red_rightS x
 | false => rfl
theorem goneR_seal (mask : Nat) (x : Rc) (i : Nat) : sealW 1000000000000 (goneR mask x i) = sealW 1000000000000 x := by
 unfold goneR
 cases bitE mask i with
 | true => exact red_sealW x
 | false => rfl
/-! ### lists of masked records -/
def goneL (mask : Nat) (l : List Rc) : List Rc := l.mapIdx fun i x => goneR mask x i
theorem goneL_len (mask : Nat) (l : List Rc) : (goneL mask l).length = l.length := List.length_mapIdx
theorem goneL_get (mask : Nat) (l : List Rc) (i : Nat) : (goneL mask l)[i]? = l[i]?.map fun x => goneR mask x i := List.getElem?_mapIdx
theorem goneL_mem {mask : Nat} {l : List Rc} {y : Rc} (h : y ∈ goneL mask l) : ∃ i, ∃ x ∈ l, y = goneR mask x i := by
 obtain ⟨i, hi⟩ := List.mem_iff_getElem?.1 h
 rw [goneL_get] at hi
 cases hx : l[i]? with
 | none => rw [hx] at hi; cases hi
 | some x =>
  rw [hx] at hi
  exact ⟨i, x, List.mem_of_getElem? hx, (Option.some.inj hi).symm⟩
theorem goneL_all (mask : Nat) (l : List Rc) : (goneL mask l).all rightS = l.all rightS := by
 rw [Bool.eq_iff_iff, List.all_eq_true, List.all_eq_true]
 constructor
 ·intro h x hx
  obtain ⟨i, hi⟩ := List.mem_iff_getElem?.1 hx
  have : (goneL mask l)[i]? = some (goneR mask x i) := by rw [goneL_get, hi]; rfl
  have := h _ (List.mem_of_getElem? this)
  rwa [goneR_right] at this
 ·intro h y hy
  obtain ⟨i, x, hx, rfl⟩ := goneL_mem hy
  rw [goneR_right]; exact h x hx
theorem goneL_okE {l : List Rc} {p : T_api_Point} (h : okE l p) (mask : Nat) : okE (goneL mask l) p := by
 refine ⟨by rw [goneL_len]; exact h.len, fun y hy => ?_, fun y hy => ?_, h.sigs⟩
 ·obtain ⟨i, x, hx, rfl⟩ := goneL_mem hy
  exact goneR_ok (h.d x hx) mask i
 ·obtain ⟨i, x, hx, rfl⟩ := goneL_mem hy
  exact goneR_small (h.small x hx) mask i
theorem goneL_gd (mask : Nat) (l : List Rc) (p : T_api_Point) : gd (goneL mask l) p = gd l p := by
 unfold gd
 rw [goneL_all, goneL_len]
/-! ### hashes -/
def leafE (x : Rc) : H32 := (tree_Leaf.f 1000000000000 (sealW 1000000000000 x)).getD zH
theorem leafE_eq {x : Rc} (h : rightS x = true) : tree_Leaf.f 1000000000000 (sealW 1000000000000 x) = some (leafE x) := by
 have := sealW_len (K := 1000000000000) h
 obtain ⟨r, hr⟩ := leaf_tot (b := sealW 1000000000000 x) (by omega)
 unfold leafE
 rw [hr]; rfl
theorem hashes_key {l : List Rc} (h : okR l) (hr : l.all rightS = true) : ∀ (m i k : Nat), i + m = l.length → m < k → export_Hashes_l1.l 1000000000000 l k ((l.take i).map leafE, (i : Int)) = some (l.map leafE) := by
 have h50 := h.1
 intro m
 induction m with
 | zero =>
  intro i k hi hk
  obtain ⟨k, rfl⟩ : ∃ j, k = j + 1 := ⟨k - 1, by omega⟩
  show export_Hashes_l1.b 1000000000000 l (export_Hashes_l1.l 1000000000000 l k) _ = _
  unfold export_Hashes_l1.b
  rw [bif_false (dec_f (by simp only; omega)), List.take_of_length_le (by omega)]
 | succ m ih =>
  intro i k hi hk
  obtain ⟨k, rfl⟩ : ∃ j, k = j + 1 := ⟨k - 1, by omega⟩
  obtain ⟨x, hx⟩ := getI_ex (l := l) (i := i) (by omega)
  have hx' := hx
  rw [getI_nat] at hx'
  have hm := List.mem_of_getElem? hx'
  have hxr := List.all_eq_true.1 hr x hm
  have hse := seal_eq (K := 1000000000000) (Nat.le_refl _) (h.2 x hm)
  rw [hxr] at hse
  have hse : rec_Sealed.f 1000000000000 x = some (sealW 1000000000000 x) := hse
  show export_Hashes_l1.b 1000000000000 l (export_Hashes_l1.l 1000000000000 l k) _ = _
  unfold export_Hashes_l1.b
  rw [bif_true (dec_t (by simp only; omega)), bnd hx, bnd hse, bnd (leafE_eq hxr), bnd (catI_ok (by simp only [List.length_singleton, List.length_map, List.length_take]; omega))]
  try dsimp only
  rw [wrap_succ (by omega), ← ih (i + 1) k (by omega) (by omega), List.take_add_one, hx']
  simp
theorem hashes_eq {l : List Rc} (h : okR l) : export_Hashes.f 1000000000000 l = some (bif l.all rightS then l.map leafE else []) := by
 unfold export_Hashes.f
 have h50 := h.1
 rw [bnd (eright_eq h)]
 cases hr : l.all rightS with
 | false => rfl
 | true =>
 rw [bif_false (by rfl)]
 have key := hashes_key h hr
 have hL := key l.length 0 1000000000000 (by omega) (by omega)
 rw [List.take_zero, List.map_nil] at hL
 have hL : export_Hashes_l1.l 1000000000000 l 1000000000000 ([], 0) = some (l.map leafE) := hL
 rw [bnd hL]
 rfl
theorem goneL_leafs (mask : Nat) (l : List Rc) : (goneL mask l).map leafE = l.map leafE := by
 apply List.ext_getElem?
 intro i
 rw [List.getElem?_map, List.getElem?_map, goneL_get]
 cases l[i]? with
 | none => rfl
 | some x =>
  show some (leafE (goneR mask x i)) = some (leafE x)
  unfold leafE
  rw [goneR_seal]
theorem goneL_take (mask : Nat) (l : List Rc) (n : Nat) : (goneL mask l).take n = goneL mask (l.take n) := by
 apply List.ext_getElem?
 intro i
 rw [goneL_get, List.getElem?_take, List.getElem?_take, goneL_get]
 split <;> rfl
theorem goneL_hashes {l : List Rc} {p : T_api_Point} (h : okE l p) (mask : Nat) : hashE (goneL mask l) p = hashE l p := by
 have hl := h.len
 have ht : okE (l.take p.fSize.toNat) p := ⟨by simp; omega, fun x hx => h.d x (List.mem_of_mem_take hx), fun x hx => h.small x (List.mem_of_mem_take hx), h.sigs⟩
 unfold hashE
 rw [goneL_take, hashes_eq (goneL_okE ht mask).r, hashes_eq ht.r, goneL_all, goneL_leafs]
/-! ### bundles -/
theorem goneL_made {l : List Rc} {p : T_api_Point} (h : okE l p) {mask : Nat} (hm : mask < 4294967296) (whole : Bool) {pl : List Nat} (hpl : gd l p = true → ∀ i ∈ pl, (i : Int) < p.fSize) : madeE (goneL mask l) p 0 whole pl = madeE l p (mask : Int) whole pl := by
 unfold madeE
 rw [goneL_gd]
 cases hg : gd l p with
 | false => simp only [Bool.false_and, cond_false]
 | true =>
  have e : xbunE (goneL mask l) p 0 whole pl = xbunE l p (mask : Int) whole pl := by
   obtain ⟨hr, n, hn, hn2⟩ := gd_iff hg
   unfold xbunE
   rw [goneL_hashes h]
   congr 1
   apply List.map_congr_left
   intro i hi
   have := hpl hg i hi
   obtain ⟨x, hx⟩ := getI_ex (l := l) (i := i) (by omega)
   rw [getI_nat] at hx
   have hmx := List.mem_of_getElem? hx
   unfold gE
   rw [goneL_get, hx]
   congr 1
   show maskE (goneR mask x i) i 0 = maskE x i (mask : Int)
   rw [mask_gone (h.d x hmx) i hm]
   have := mask_gone (goneR_ok (h.d x hmx) mask i) i (mask := 0) (by omega)
   rw [goneR_0] at this
   exact this
  rw [e]
theorem zBun_ok : okBun zBun := ⟨by decide, by decide, fun y hy => by cases hy⟩
theorem madeE_ok {l : List Rc} {p : T_api_Point} (h : okE l p) (mask : Int) (whole : Bool) {pl : List Nat} (hpl : gd l p = true → ∀ i ∈ pl, (i : Int) < p.fSize) (hlen : gd l p = true → pl.length ≤ 1000) : okBun (madeE l p mask whole pl).1 := by
 have hz := zBun_ok
 unfold madeE
 cases hg : gd l p with
 | false => exact hz
 | true =>
  cases rightB (xbunE l p mask whole pl) with
  | false => exact hz
  | true => exact xbunE_ok h hg (hpl hg) (hlen hg)
theorem put_ex {b : Bun} (h : okBun b) : ∃ r, bundle_Put.f 1000000000000 b = some r ∧ r.length < 1000000 := by
 refine ⟨_, put_eq (Nat.le_refl _) h, ?_⟩
 cases hr : rightB b with
 | false => simp
 | true =>
  have := bunW_len (rightP hr)
  have hm : mark.length = 4 := rfl
  simp only [cond_true, List.length_append]; omega
theorem gone_law_key {l : List Rc} {p : T_api_Point} (h : okE l p) {mask : Nat} (hm : mask < 4294967296) : ∀ (m i k : Nat), i + m = l.length → m < k → inspeximuslaw18_ExportGone_l1.l 1000000000000 l (mask : Int) k ((goneL mask l).take i, (i : Int)) = some (goneL mask l) := by
 have hl := h.len
 intro m
 induction m with
 | zero =>
  intro i k hi hk
  obtain ⟨k, rfl⟩ : ∃ j, k = j + 1 := ⟨k - 1, by omega⟩
  show inspeximuslaw18_ExportGone_l1.b 1000000000000 l (mask : Int) (inspeximuslaw18_ExportGone_l1.l 1000000000000 l (mask : Int) k) _ = _
  unfold inspeximuslaw18_ExportGone_l1.b
  rw [bif_false (dec_f (by simp only; omega)), List.take_of_length_le (by rw [goneL_len]; omega)]
 | succ m ih =>
  intro i k hi hk
  obtain ⟨k, rfl⟩ : ∃ j, k = j + 1 := ⟨k - 1, by omega⟩
  obtain ⟨x, hx⟩ := getI_ex (l := l) (i := i) (by omega)
  have hx' := hx
  rw [getI_nat] at hx'
  have hmx := List.mem_of_getElem? hx'
  show inspeximuslaw18_ExportGone_l1.b 1000000000000 l (mask : Int) (inspeximuslaw18_ExportGone_l1.l 1000000000000 l (mask : Int) k) _ = _
  unfold inspeximuslaw18_ExportGone_l1.b
  rw [bif_true (dec_t (by simp only; omega)), bnd hx]
  refine Eq.trans (jn_val (goneR mask x i) (fun j => ?_)) ?_
  ·try dsimp only
   rw [bnd (gone_eq (by omega) hm)]
   unfold goneR
   cases bitE mask i with
   | true =>
    simp only [cond_true]
    rw [bnd (red_eq (Nat.le_refl _) (h.d x hmx))]
   | false => rfl
  ·try dsimp only
   rw [bnd (catI_ok (by simp only [List.length_singleton, List.length_take, goneL_len]; omega)), wrap_succ (by omega), ← ih (i + 1) k (by omega) (by omega), List.take_add_one, goneL_get, hx']
   rfl
theorem gone_law_l1 {l : List Rc} {p : T_api_Point} (h : okE l p) {mask : Nat} (hm : mask < 4294967296) : inspeximuslaw18_ExportGone_l1.l 1000000000000 l (mask : Int) 1000000000000 ([], 0) = some (goneL mask l) := by
 have hl := h.len
 have key := gone_law_key h hm
 have hL := key l.length 0 1000000000000 (by omega) (by omega)
 rw [List.take_zero] at hL
 exact hL
theorem law_ExportGone {K : Nat} (hK : K = 1000000000000) (l : List Rc) (p : T_api_Point) (mask : Int) (a : List Int) (hd : ∀ x ∈ l, isB x.fData) (hm : 0 ≤ mask ∧ mask < 4294967296) : inspeximuslaw18_ExportGone.f K l p mask a = some true := by
 subst hK
 obtain ⟨mask, rfl⟩ := Int.eq_ofNat_of_zero_le hm.1
 have hm : mask < 4294967296 := by omega
 unfold inspeximuslaw18_ExportGone.f
 rw [bnd alive18, bif_false (by rfl)]
 refine Eq.trans (jn_val (!(fewE l p && decide (a.length ≤ 60))) (fun j => ?_)) ?_
 ·try dsimp only
  rw [bnd (few_eq l p)]
  cases fewE l p with
  | false => rfl
  | true =>
   rw [bif_false (by rfl)]
   by_cases h1 : a.length ≤ 60
   ·rw [dec_t h1, dec_f (show ¬ (60 : Int) < (a.length : Int) by omega)]; rfl
   ·rw [dec_f h1, dec_t (show (60 : Int) < (a.length : Int) by omega)]; rfl
 try dsimp only
 cases hf : fewE l p with
 | false => rfl
 | true =>
 by_cases ha : a.length ≤ 60
 rotate_left
 ·rw [dec_f ha]; rfl
 rw [dec_t ha, bif_false (by rfl)]
 have h := few_ok hf hd
 have h2 := goneL_okE h mask
 have h50 := h.len
 have hPw : placesE (goneL mask l) p (fun _ => true) = placesE l p (fun _ => true) := rfl
 have hws : ∃ b : Bun × Bool, export_Whole.f 1000000000000 l p (mask : Int) = some b ∧ export_Whole.f 1000000000000 (goneL mask l) p 0 = some b ∧ okBun b.1 := by
  refine ⟨_, whole_eq h _, ?_, madeE_ok h _ _ placesE_lt (placesE_len h)⟩
  rw [whole_eq h2, hPw, goneL_made h hm _ placesE_lt]
 have hss : ∃ b : Bun × Bool, export_Some.f 1000000000000 l p (mask : Int) a = some b ∧ export_Some.f 1000000000000 (goneL mask l) p 0 a = some b ∧ okBun b.1 := by
  have hgood : goodA p a = true → ∀ i ∈ a.map Int.toNat, (i : Int) < p.fSize := fun hA i hi => by
   obtain ⟨x, hx, rfl⟩ := List.mem_map.1 hi
   have := List.all_eq_true.1 hA x hx
   simp only [Bool.and_eq_true, decide_eq_true_eq] at this
   omega
  refine ⟨_, some_eq h _ ha, ?_, ?_⟩
  ·rw [some_eq h2 _ ha]
   cases hA : goodA p a with
   | false => simp only [cond_false]
   | true =>
    simp only [cond_true]
    rw [goneL_made h hm _ (fun _ => hgood hA)]
  ·cases hA : goodA p a with
   | false => exact zBun_ok
   | true => exact madeE_ok h _ _ (fun _ => hgood hA) (fun _ => by rw [List.length_map]; omega)
 obtain ⟨b, b1, b2, b3⟩ := hws
 obtain ⟨c, c1, c2, c3⟩ := hss
 obtain ⟨rb, pb, lb⟩ := put_ex b3
 obtain ⟨rc, pc, lc⟩ := put_ex c3
 rw [bnd (gone_law_l1 h hm), bnd b1, bnd b2, bnd c1, bnd c2]
 refine Eq.trans (jn_val false (fun j => ?_)) ?_
 ·try dsimp only
  rw [bif_false (by simp), bif_false (by simp), bnd pb, bnd pb, bnd (ref_same (by omega) (by omega)), bif_false (by simp), bnd pc, bnd pc, bnd (ref_same (by omega) (by omega))]
  simp
 ·try dsimp only
  rw [bif_false (by rfl), bnd (hashes_eq h.r), bnd (hashes_eq h2.r), goneL_all, goneL_leafs]
  have hlen : (bif l.all rightS then l.map leafE else []).length ≤ 50 := by
   cases l.all rightS with
   | false => simp
   | true => rw [cond_true, List.length_map]; exact h50
  rw [bnd (q05_same (by omega) (by omega))]
  simp
end Go.Proofs.YtjgaokcplofimaaDoor
