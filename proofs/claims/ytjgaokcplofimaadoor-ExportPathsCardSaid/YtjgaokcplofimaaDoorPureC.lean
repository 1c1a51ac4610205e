/-
 Plain: commitments, redacted records, sealed bytes.
-/
import Derived.Test.YtjgaokcplofimaaDoorPureH
import Derived.Test.YtjgaokcplofimaaDoorSepK
namespace Go.Proofs.YtjgaokcplofimaaDoor
open Go Go.Sep
theorem row_tot {K : Nat} (hK : 1000000000000 ≤ K) {n : Int} : ∃ r : List Int, mac_row.f K n 4 = some r ∧ r.length = 4 := by
 unfold mac_row.f
 have hz : zerosI 1 (0 : Int) 4 = some [0, 0, 0, 0] := rfl
 refine bind_exP hz ?_
 have key : ∀ (m i : Nat) (v : Int) (l : List Int) (k : Nat), i + m = 4 → m < k → l.length = 4 → ∃ r, mac_row_l1.l K 4 [0, 0, 0, 0] k (v, l, (i : Int)) = some r ∧ r.length = 4 := by
  intro m
  induction m with
  | zero =>
   intro i v l k hi hk hl
   obtain ⟨k, rfl⟩ : ∃ j, k = j + 1 := ⟨k - 1, by omega⟩
   refine ⟨l, ?_, hl⟩
   show mac_row_l1.b K 4 [0, 0, 0, 0] (mac_row_l1.l K 4 [0, 0, 0, 0] k) _ = _
   unfold mac_row_l1.b
   rw [bif_false (dec_f (by simp; omega))]
  | succ m ih =>
   intro i v l k hi hk hl
   obtain ⟨k, rfl⟩ : ∃ j, k = j + 1 := ⟨k - 1, by omega⟩
   show ∃ r, mac_row_l1.b K 4 [0, 0, 0, 0] (mac_row_l1.l K 4 [0, 0, 0, 0] k) _ = _ ∧ _
   unfold mac_row_l1.b
   rw [bif_true (dec_t (by simp; omega))]
   have e1 : IntKind.wrap .i64 ((4 : Int) - 1) = ((3 : Nat) : Int) := by rw [wrap64 (by omega) (by omega)]; rfl
   have e2 : IntKind.wrap .i64 (((3 : Nat) : Int) - (i : Int)) = ((3 - i : Nat) : Int) := by rw [wrap64 (by omega) (by omega)]; omega
   simp only
   rw [e1, e2]
   obtain ⟨x, hx⟩ := getI_ex (l := l) (i := 3 - i) (by omega)
   refine bind_exP hx ?_
   rw [wrap_succ (by omega)]
   exact ih (i + 1) _ _ k (by omega) (by omega) (by simp [hl])
 obtain ⟨r, hr, hl⟩ := key 4 0 n [0, 0, 0, 0] K (by omega) (by omega) rfl
 have hr : mac_row_l1.l K 4 [0, 0, 0, 0] K (n, [0, 0, 0, 0], 0) = some r := hr
 rw [hr]
 exact ⟨r, rfl, hl⟩
theorem concat_eq {K : Nat} (hK : 1000000000000 ≤ K) {x : List (List Int)} (h : x.flatten.length < 1000000000000) (hx : x.length < 1000000000000) : slices_Concat_byte_byte.f K x = some x.flatten := by
 have := all_eq (K := K) (x := x) hK h hx
 unfold wire_All.f at this
 cases h : slices_Concat_byte_byte.f K x with
 | none => rw [h] at this; cases this
 | some y => rw [h] at this; exact this
theorem part_tot {K : Nat} (hK : 1000000000000 ≤ K) {x : List Int} (h : x.length < 100000) : ∃ r : List Int, mac_Of_1.f K x = some r ∧ r.length = x.length + 4 := by
 unfold mac_Of_1.f
 obtain ⟨r, hr, hl⟩ := row_tot hK (n := IntKind.wrap .u64 ((x.length : Nat) : Int))
 refine bind_exP hr ?_
 refine bind_exP (concat_eq hK (by simp; omega) (by simp)) ?_
 exact ⟨_, rfl, by simp; omega⟩
def partS (K : Nat) (x : List Int) : List Int := (mac_Of_1.f K x).getD []
theorem partS_eq {K : Nat} (hK : 1000000000000 ≤ K) {x : List Int} (h : x.length < 100000) : mac_Of_1.f K x = some (partS K x) ∧ (partS K x).length = x.length + 4 := by
 obtain ⟨r, hr, hl⟩ := part_tot hK h
 unfold partS
 rw [hr]
 exact ⟨rfl, hl⟩
theorem of_tot {K : Nat} (hK : 1000000000000 ≤ K) {d : Int} {l : List (List Int)} (hl : l.length ≤ 5) (h : ∀ x ∈ l, x.length ≤ 10000) : ∃ r, mac_Of.f K d l = some r ∧ ∀ j, j < 32 → 0 ≤ vget r j ∧ vget r j < 256 := by
 unfold mac_Of.f mac_joined_byte.f
 have hfl : (l.map (partS K)).flatten.length ≤ 10004 * l.length := flat_len (fun x hx => by
  have := h x hx
  rw [(partS_eq hK (x := x) (by omega)).2]; omega)
 have hj := cat_loop (L := mac_joined_byte_l1.l K l) l (partS K) [] (k := K) (by omega)
  (fun k s => by
   show mac_joined_byte_l1.b K l (mac_joined_byte_l1.l K l k) _ = _
   unfold mac_joined_byte_l1.b
   rw [bif_false (dec_f (by simp))])
  (fun k s i x hi hx hm hs => by
   show mac_joined_byte_l1.b K l (mac_joined_byte_l1.l K l k) _ = _
   unfold mac_joined_byte_l1.b
   rw [bif_true (dec_t (by simp only; omega))]
   simp only
   rw [hx]
   simp only [Option.bind_some]
   have := h x hm
   rw [(partS_eq hK (x := x) (by omega)).1]
   simp only [Option.bind_some]
   rw [catI_ok (by omega)]
   simp only [Option.bind_some]
   rw [wrap_succ (by omega)])
  (by simp only [List.length_nil]; omega)
 have hj : mac_joined_byte_l1.l K l K ([], 0) = some ((l.map (partS K)).flatten) := hj
 rw [hj]
 simp only [Option.bind_some]
 obtain ⟨r, hr, hp⟩ := sum_tot (K := K) hK (x := [[IntKind.wrap .u8 d], (l.map (partS K)).flatten]) (by simp) (by simp only [List.flatten_cons, List.flatten_nil, List.append_nil, List.length_append, List.length_singleton]; omega)
 refine bind_exP hr ?_
 exact ⟨r, rfl, hp⟩
/-- a payload's commitment -/
def ofS (K : Nat) (s : H32) (d : List Int) : H32 := (mac_Of.f K 4 [vlist s, d]).getD zH
theorem vlist_inC {h : H32} (hr : ∀ i, i < 32 → 0 ≤ vget h i ∧ vget h i < 256) : isB (vlist h) := by
 intro x hx
 simp only [vlist, List.mem_map, List.mem_range] at hx
 obtain ⟨i, hi, rfl⟩ := hx
 exact hr i hi
theorem ofS_eq {K : Nat} (hK : 1000000000000 ≤ K) {s : H32} {d : List Int} (h : d.length ≤ 10000) : mac_Of.f K 4 [vlist s, d] = some (ofS K s d) ∧ isB (vlist (ofS K s d)) := by
 obtain ⟨r, hr, hp⟩ := of_tot hK (d := 4) (l := [vlist s, d]) (by simp) (fun x hx => by
  simp at hx
  rcases hx with rfl | rfl
  ·rw [vlist_length]; omega
  ·exact h)
 unfold ofS
 rw [hr]
 exact ⟨rfl, vlist_inC hp⟩
def begS (x : Rc) : Bool := rightS x && decide (x.fKind = 1)
def comS (K : Nat) (x : Rc) : H32 := bif begS x then (bif x.fGone then x.fCom else ofS K x.fSalt x.fData) else zH
theorem vz : vofL 32 [(0 : Int), (0 : Int), (0 : Int), (0 : Int), (0 : Int), (0 : Int), (0 : Int), (0 : Int), (0 : Int), (0 : Int), (0 : Int), (0 : Int), (0 : Int), (0 : Int), (0 : Int), (0 : Int), (0 : Int), (0 : Int), (0 : Int), (0 : Int), (0 : Int), (0 : Int), (0 : Int), (0 : Int), (0 : Int), (0 : Int), (0 : Int), (0 : Int), (0 : Int), (0 : Int), (0 : Int), (0 : Int)] = zH := by decide
theorem begD {x : Rc} (h : begS x = true) : rightS x = true ∧ x.fKind = 1 := by
 unfold begS at h
 simp only [Bool.and_eq_true, decide_eq_true_eq] at h
 exact h
theorem com_eq {K : Nat} (hK : 1000000000000 ≤ K) {x : Rc} (ho : okD x) : rec_Com.f K x = some (comS K x) := by
 unfold rec_Com.f comS
 simp only [jn]
 rw [right_eq hK ho, vz]
 simp only [Option.bind_some]
 cases hr : rightS x with
 | false =>
  have : begS x = false := by unfold begS; rw [hr]; rfl
  rw [this]; rfl
 | true =>
  simp only [Bool.not_true, cond_false]
  by_cases hk : x.fKind = 1
  ·have hb : begS x = true := by unfold begS; rw [hr, dec_t hk]; rfl
   rw [hb, dec_t hk]
   simp only [Bool.not_true, cond_false, cond_true]
   cases hg : x.fGone with
   | true => rfl
   | false =>
    simp only [cond_false]
    have h3 := ((rightD hr).beg hk).2.2
    have hs := subI_0 (l := vlist x.fSalt) (b := 32) (by rw [vlist_length]; omega)
    rw [List.take_of_length_le (by rw [vlist_length]; omega)] at hs
    refine bind_of hs ?_
    rw [(ofS_eq hK (s := x.fSalt) (d := x.fData) (by omega)).1]
    rfl
  ·have hb : begS x = false := by unfold begS; rw [dec_f hk]; simp
   rw [hb, dec_f hk]; rfl
/-! ### redacted -/
def redS (K : Nat) (x : Rc) : Rc := bif begS x then { zRc with fKind := 1, fSaga := x.fSaga, fSteps := x.fSteps, fGone := true, fCom := comS K x } else x
theorem red_eq {K : Nat} (hK : 1000000000000 ≤ K) {x : Rc} (ho : okD x) : rec_Redact.f K x = some (redS K x) := by
 unfold rec_Redact.f redS
 simp only [jn]
 rw [right_eq hK ho]
 simp only [Option.bind_some]
 cases hr : rightS x with
 | false =>
  have : begS x = false := by unfold begS; rw [hr]; rfl
  rw [this]; rfl
 | true =>
  simp only [Bool.not_true, cond_false]
  by_cases hk : x.fKind = 1
  ·have hb : begS x = true := by unfold begS; rw [hr, dec_t hk]; rfl
   rw [hb, dec_t hk]
   simp only [Bool.not_true, cond_false, cond_true]
   have hl := inn_iff.1 ((rightD hr).beg hk).1
   have hc : slices_Clone_api_Step_api_Step.f K x.fSteps = some x.fSteps := by
    unfold slices_Clone_api_Step_api_Step.f
    rw [catI_ok (by simp; omega)]
    rfl
   refine bind_of hc ?_
   refine bind_of (com_eq hK ho) ?_
   rfl
  ·have hb : begS x = false := by unfold begS; rw [dec_f hk]; simp
   rw [hb, dec_f hk]; rfl
theorem red_beg {K : Nat} {x : Rc} (h : begS x = true) : redS K x = { zRc with fKind := 1, fSaga := x.fSaga, fSteps := x.fSteps, fGone := true, fCom := comS K x } := by unfold redS; rw [h]; rfl
theorem red_not {K : Nat} {x : Rc} (h : begS x = false) : redS K x = x := by unfold redS; rw [h]; rfl
theorem red_right {K : Nat} {x : Rc} (h : rightS x = true) : rightS (redS K x) = true := by
 cases hb : begS x with
 | false => rw [red_not hb]; exact h
 | true =>
  rw [red_beg hb]
  have hk := (begD hb).2
  unfold rightS rangesS at h ⊢
  simp only [Bool.and_eq_true] at h ⊢
  obtain ⟨⟨h1, h2, h3, h4⟩, _⟩ := h
  rw [bif_true (dec_t hk)] at h4
  simp only [Bool.and_eq_true] at h4
  refine ⟨⟨h1, by decide, by decide, ?_⟩, ?_⟩
  ·simp only [decide_true, cond_true, Bool.and_eq_true]
   exact ⟨h4.1, h4.2.1, dec_t (by simp)⟩
  ·apply dec_t
   unfold keptS
   rw [if_pos rfl]
   rfl
theorem red_begS {K : Nat} {x : Rc} (h : begS x = true) : begS (redS K x) = true := by
 have := red_right (K := K) (begD h).1
 unfold begS
 rw [this, red_beg h]; rfl
theorem red_com {K : Nat} {x : Rc} (h : begS x = true) : comS K (redS K x) = comS K x := by
 have h2 := red_begS (K := K) h
 conv => lhs; unfold comS
 rw [h2, red_beg h]; rfl
theorem red_red {K : Nat} (x : Rc) : redS K (redS K x) = redS K x := by
 cases hb : begS x with
 | false => rw [red_not hb, red_not hb]
 | true =>
  rw [red_beg (red_begS hb), red_com hb]
  rw [red_beg hb]
theorem red_okD {K : Nat} {x : Rc} (h : okD x) : okD (redS K x) := by
 cases hb : begS x with
 | false => rw [red_not hb]; exact h
 | true => rw [red_beg hb]; exact ⟨isB_nil, by simp, h.2.2⟩
/-! ### sealed bytes -/
def sealB (K : Nat) (x : Rc) : List Int := bif decide (x.fKind = 1) then numW x.fSaga ++ (stepsW x.fSteps ++ vlist (comS K x)) else bodyW x.fKind x
def sealW (K : Nat) (x : Rc) : List Int := numW x.fKind ++ sealB K x
theorem sealW_len {K : Nat} {x : Rc} (h : rightS x = true) : (sealW K x).length ≤ 400 := by
 have h2 := numW_len (kind_N h)
 unfold sealW sealB
 by_cases hk : x.fKind = 1
 ·rw [bif_true (dec_t hk)]
  have hd := rightD h
  obtain ⟨b1, b2, b3⟩ := hd.beg hk
  have b1 := inn_iff.1 b1
  have h4 := stepsW_len b2 (by omega)
  have h1 := numW_len hd.saga
  simp only [List.length_append, vlist_length]; omega
 ·rw [bif_false (dec_f hk)]
  have h1 := bodyW_len h
  simp only [List.length_append]; omega
theorem red_sealW {K : Nat} (x : Rc) : sealW K (redS K x) = sealW K x := by
 cases hb : begS x with
 | false => rw [red_not hb]
 | true =>
  have hk := (begD hb).2
  have hc := red_com (K := K) hb
  unfold sealW sealB
  rw [hc]
  rw [red_beg hb]
  rw [bif_true (dec_t hk), hk]
  rfl
end Go.Proofs.YtjgaokcplofimaaDoor
