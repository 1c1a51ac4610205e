/-
  The plain law of RecBack.
-/
import Derived.Test.YtlcnliiampfigaaDoorPureE
namespace Go.Proofs.YtlcnliiampfigaaDoor
open Go Go.Sep

theorem law_RecBack {K : Nat} (hK : 1000000000000 ≤ K) (x : Rc) (more : List Int) (hb : okB x) (hm : isB more) : inspeximuslaw04_RecBack.f K x more = some true := by
  unfold inspeximuslaw04_RecBack.f
  refine bind_of (alive04 hK) ?_
  simp only [Bool.not_true, cond_false, jn]
  refine bind_of (greatR_eq x) ?_
  cases hg : greatR x with
  | true => rfl
  | false =>
  have ho := okD_of hg hb
  simp only [cond_false]
  by_cases hml : (100 : Int) < (more.length : Int)
  · rw [dec_t hml]; rfl
  rw [dec_f hml]
  simp only [cond_false]
  refine bind_of (right_eq hK ho) ?_
  cases hr : rightS x with
  | false => rfl
  | true =>
  simp only [Bool.not_true, cond_false]
  have hop := open_eq hK ho
  rw [hr] at hop
  have hl := openW_len hr
  refine bind_of (x := openW x) hop ?_
  refine bind_of (getR_eq hK (openW_isB' hb) (by omega)) ?_
  rw [getR_back hr hb]
  rw [bif_false (by simp)]
  refine bind_of (rec_same hK ho ho) ?_
  rw [bif_false (by simp)]
  refine bind_of (x := openW x) hop ?_
  refine bind_of (ref_same (l := openW x) (m := openW x) (by omega) (by omega)) ?_
  rw [bif_false (by simp)]
  refine bind_of (all_eq hK (by simp; omega) (by simp)) ?_
  have e : ([openW x, more] : List (List Int)).flatten = openW x ++ more := by simp
  rw [e]
  have hl2 : (openW x ++ more).length < 1000000000000 := by simp; omega
  refine bind_of (read_eq hl2) ?_
  refine bind_of (recR_eq hK (r := ⟨openW x ++ more, 0⟩) ⟨isB_append.2 ⟨openW_isB' hb, hm⟩, by simp; omega⟩) ?_
  rw [rec_back hr hb hm (by omega)]
  refine bind_of (rec_same hK ho ho) ?_
  rw [bif_false (by simp)]
  refine bind_of (x := (more.length : Int)) rfl ?_
  rw [bif_false (by simp)]
  refine bind_of (red_eq hK ho) ?_
  have oR := red_okD (K := K) ho
  have rR := red_right (K := K) hr
  refine bind_of (right_eq hK oR) ?_
  rw [rR]
  simp only [cond_true]
  have hs1 := seal_eq hK ho
  rw [hr] at hs1
  have hs2 := seal_eq hK oR
  rw [rR] at hs2
  refine bind_of (x := sealW K (redS K x)) hs2 ?_
  refine bind_of (x := sealW K x) hs1 ?_
  rw [red_sealW]
  have hsl := sealW_len (K := K) hr
  refine bind_of (ref_same (l := sealW K x) (m := sealW K x) (by omega) (by omega)) ?_
  rw [bif_true (by simp)]
  refine bind_of (red_eq hK oR) ?_
  rw [red_red]
  refine bind_of (rec_same hK oR oR) ?_
  rw [bif_true (by simp), vz]
  have hnot : x.fKind ≠ 1 → x.fData = [] ∧ x.fSalt = zH := fun h1 => by
    have hk := (rightD hr).kept
    rw [hk]; unfold keptS
    rw [if_neg h1]
    refine ⟨?_, ?_⟩
    · repeat' split
      all_goals rfl
    · repeat' split
      all_goals rfl
  by_cases h1 : x.fKind = 1
  · have hbeg : begS x = true := by unfold begS; rw [hr, dec_t h1]; rfl
    rw [red_beg hbeg, bif_true (by simp), bif_true (by simp [zH]), bif_false (by simp [h1])]
  · have hbeg : begS x = false := by unfold begS; rw [dec_f h1]; simp
    obtain ⟨e1, e2⟩ := hnot h1
    rw [red_not hbeg, e1, e2, bif_true (by simp), bif_true (by simp), bif_true (by simp [h1])]
end Go.Proofs.YtlcnliiampfigaaDoor
