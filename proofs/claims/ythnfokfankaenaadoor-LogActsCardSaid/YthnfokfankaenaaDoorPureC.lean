/-
 Plain: commitments, redacted records, sealed bytes.
-/
import Derived.Test.YthnfokfankaenaaDoorPureH
import Derived.Test.YthnfokfankaenaaDoorSepK
namespace Go.Proofs.YthnfokfankaenaaDoor
open Go Go.Sep
theorem row_tot {K : Nat} (hK : 1000000000000 ≤ K) {n : Int} : ∃ r : List Int, mac_row.f K n 4 = some r ∧ r.length = 4 := by
 unfold mac_row.f
 have hz : zerosI 1 (0 : Int) 4 = some [0, 0, 0, 0] := rfl
 refine bind_exP hz ?_
 have key : ∀ (m i : Nat) (v : Int) (l : List Int) (k : Nat), i + m = 4 → m < k → l.length = 4 → ∃ r, mac_row_l1.l K 4 [0, 0, 0, 0] k (v, l, (i : Int)) = some r ∧ r.length = 4 := by
  intro m
  induction m with
  | zero =>
   intro i v l k hi hk hl
   obtain ⟨k, rfl⟩ : ∃ j, k = j + 1 := ⟨k - 1, by omega⟩
   refine ⟨l, ?_, hl⟩
   show mac_row_l1.b K 4 [0, 0, 0, 0] (mac_row_l1.l K 4 [0, 0, 0, 0] k) _ = _
   unfold mac_row_l1.b
   rw [bif_false (dec_f (by simp; omega))]
  | succ m ih =>
   intro i v l k hi hk hl
   obtain ⟨k, rfl⟩ : ∃ j, k = j + 1 := ⟨k - 1, by omega⟩
   show ∃ r, mac_row_l1.b K 4 [0, 0, 0, 0] (mac_row_l1.l K 4 [0, 0, 0, 0] k) _ = _ ∧ _
   unfold mac_row_l1.b
   rw [bif_true (dec_t (by simp; omega))]
   have e1 : IntKind.wrap .i64 ((4 : Int) - 1) = ((3 : Nat) : Int) := by rw [wrap64 (by omega) (by omega)]; rfl
   have e2 : IntKind.wrap .i64 (((3 : Nat) : Int) - (i : Int)) = ((3 - i : Nat) : Int) := by rw [wrap64 (by omega) (by omega)]; omega
   simp only
   rw [e1, e2]
   obtain ⟨x, hx⟩ := getI_ex (l := l) (i := 3 - i) (by omega)
   refine bind_exP hx ?_
   rw [wrap_succ (by omega)]
   exact ih (i + 1) _ _ k (by omega) (by omega) (by simp [hl])
 obtain ⟨r, hr, hl⟩ := key 4 0 n [0, 0, 0, 0] K (by omega) (by omega) rfl
 have hr : mac_row_l1.l K 4 [0, 0, 0, 0] K (n, [0, 0, 0, 0], 0) = some r := hr
 rw [hr]
 exact ⟨r, rfl, hl⟩
theorem concat_eq {K : Nat} (hK : 1000000000000 ≤ K) {x : List (List Int)} (h : x.flatten.length < 1000000000000) (hx : x.length < 1000000000000) : slices_Concat_byte_byte.f K x = some x.flatten := by
 have := all_eq (K := K) (x := x) hK h hx
 unfold wire_All.f at this
 cases h : slices_Concat_byte_byte.f K x with
 | none => rw [h] at this; cases this
 | some y => rw [h] at this; exact this
theorem part_tot {K : Nat} (hK : 1000000000000 ≤ K) {x : List Int} (h : x.length < 100000) : ∃ r : List Int, mac_Of_1.f K x = some r ∧ r.length = x.length + 4 := by
 unfold mac_Of_1.f
 obtain ⟨r, hr, hl⟩ := row_tot hK (n := IntKind.wrap .u64 ((x.length : Nat) : Int))
 refine bind_exP hr ?_
 refine bind_exP (concat_eq hK (by simp; omega) (by simp)) ?_
 exact ⟨_, rfl, by simp; omega⟩
def partS (K : Nat) (x : List Int) : List Int := (mac_Of_1.f K x).getD []
theorem partS_eq {K : Nat} (hK : 1000000000000 ≤ K) {x : List Int} (h : x.length < 100000) : mac_Of_1.f K x = some (partS K x) ∧ (partS K x).length = x.length + 4 := by
 obtain ⟨r, hr, hl⟩ := part_tot hK h
 unfold partS
 rw [hr]
 exact ⟨rfl, hl⟩
theorem of_tot {K : Nat} (hK : 1000000000000 ≤ K) {d : Int} {l : List (List Int)} (hl : l.length ≤ 5) (h : ∀ x ∈ l, x.length ≤ 10000) : ∃ r, mac_Of.f K d l = some r ∧ ∀ j, j < 32 → 0 ≤ vget r j ∧ vget r j < 256 := by
 unfold mac_Of.f mac_joined_byte.f
 have hfl : (l.map (partS K)).flatten.length ≤ 10004 * l.length := flat_len (fun x hx => by
  have := h x hx
  rw [(partS_eq hK (x := x) (by omega)).2]; omega)
 have hj := cat_loop (L := mac_joined_byte_l1.l K l) l (partS K) [] (k := K) (by omega)
  (fun k s => by
   show mac_joined_byte_l1.b K l (mac_joined_byte_l1.l K l k) _ = _
   unfold mac_joined_byte_l1.b
   rw [bif_false (dec_f (by simp))])
  (fun k s i x hi hx hm hs => by
   show mac_joined_byte_l1.b K l (mac_joined_byte_l1.l K l k) _ = _
   unfold mac_joined_byte_l1.b
   rw [bif_true (dec_t (by simp only; omega))]
   simp only
   rw [hx]
   simp only [Option.bind_some]
   have := h x hm
   rw [(partS_eq hK (x := x) (by omega)).1]
   simp only [Option.bind_some]
   rw [catI_ok (by omega)]
   simp only [Option.bind_some]
   rw [wrap_succ (by omega)])
  (by simp only [List.length_nil]; omega)
 have hj : mac_joined_byte_l1.l K l K ([], 0) = some ((l.map (partS K)).flatten) := hj
 rw [hj]
 simp only [Option.bind_some]
 obtain ⟨r, hr, hp⟩ := sum_tot (K := K) hK (x := [[IntKind.wrap .u8 d], (l.map (partS K)).flatten]) (by simp) (by simp only [List.flatten_cons, List.flatten_nil, List.append_nil, List.length_append, List.length_singleton]; omega)
 refine bind_exP hr ?_
 exact ⟨r, rfl, hp⟩
theorem vlist_inC {h : H32} (hr : ∀ i, i < 32 → 0 ≤ vget h i ∧ vget h i < 256) : isB (vlist h) := by
 intro x hx
 simp only [vlist, List.mem_map, List.mem_range] at hx
 obtain ⟨i, hi, rfl⟩ := hx
 exact hr i hi
theorem vz : vofL 32 [(0 : Int), (0 : Int), (0 : Int), (0 : Int), (0 : Int), (0 : Int), (0 : Int), (0 : Int), (0 : Int), (0 : Int), (0 : Int), (0 : Int), (0 : Int), (0 : Int), (0 : Int), (0 : Int), (0 : Int), (0 : Int), (0 : Int), (0 : Int), (0 : Int), (0 : Int), (0 : Int), (0 : Int), (0 : Int), (0 : Int), (0 : Int), (0 : Int), (0 : Int), (0 : Int), (0 : Int), (0 : Int)] = zH := by decide
/-! ### redacted -/
/-! ### sealed bytes -/
end Go.Proofs.YthnfokfankaenaaDoor
