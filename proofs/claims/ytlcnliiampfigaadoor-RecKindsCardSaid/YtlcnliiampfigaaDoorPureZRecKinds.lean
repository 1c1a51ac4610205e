/-
  The plain law of RecKinds.
-/
import Derived.Test.YtlcnliiampfigaaDoorPureE
namespace Go.Proofs.YtlcnliiampfigaaDoor
open Go Go.Sep

theorem getI_zero {a : Int} {l : List Int} : getI (a :: l) (0 : Int) = some a := getI_lt (i := 0) rfl
theorem kind_small {x : Rc} (h : rightS x = true) : numW x.fKind = [x.fKind] := by
  have := (rightD h).kind
  unfold numW
  rw [numS_one (by omega)]
  congr 1
  omega
theorem law_RecKinds {K : Nat} (hK : 1000000000000 ≤ K) (x : Rc) (bx : okB x) : inspeximuslaw04_RecKinds.f K x = some true := by
  unfold inspeximuslaw04_RecKinds.f
  refine bind_of (alive04 hK) ?_
  simp only [Bool.not_true, cond_false, jn]
  refine bind_of (greatR_eq x) ?_
  cases hg : greatR x with
  | true => rfl
  | false =>
  have ho := okD_of hg bx
  simp only [cond_false]
  refine bind_of (right_eq hK ho) ?_
  cases hr : rightS x with
  | false => rfl
  | true =>
  simp only [Bool.not_true, cond_false]
  have hk := (rightD hr).kind
  have ks := kind_small hr
  have ls := sealW_len (K := K) hr
  have lo := openW_len hr
  have hs1 := seal_eq hK ho
  rw [hr] at hs1
  have hs2 := open_eq hK ho
  rw [hr] at hs2
  have ea : sealW K x = x.fKind :: sealB K x := by unfold sealW; rw [ks]; rfl
  have eb : openW x = x.fKind :: bodyW x.fKind x := by unfold openW; rw [ks]; rfl
  rw [ea] at ls
  rw [eb] at lo
  refine bind_of (x := x.fKind :: sealB K x) (by rw [hs1, ← ea]; rfl) ?_
  refine bind_of (x := x.fKind :: bodyW x.fKind x) (by rw [hs2, ← eb]; rfl) ?_
  rw [bif_false (dec_f (by simp only [List.length_cons]; omega))]
  refine bind_of getI_zero ?_
  rw [wrap64 (by omega) (by omega), bif_false (by simp), bif_false (dec_f (by simp only [List.length_cons]; omega))]
  refine bind_of getI_zero ?_
  refine bind_of getI_zero ?_
  rw [bif_false (by simp)]
  simp only [List.length_cons] at ls lo
  by_cases h1 : x.fKind = 1
  · rw [bif_false (by simp [h1])]
    have ew : IntKind.wrap .i64 (((x.fKind :: sealB K x).length : Int) + 1) = ((sealB K x).length : Int) + 2 := by rw [wrap64 (by simp only [List.length_cons]; omega) (by simp only [List.length_cons]; omega)]; simp only [List.length_cons]; omega
    have eo : ((x.fKind :: bodyW x.fKind x).length : Int) = ((bodyW x.fKind x).length : Int) + 1 := by simp only [List.length_cons]; omega
    simp only [ew, eo]
    have e1 : (sealB K x).length = (numW x.fSaga).length + (stepsW x.fSteps).length + 32 := by
      unfold sealB
      rw [bif_true (dec_t h1)]
      simp only [List.length_append, vlist_length]
      omega
    cases hgo : x.fGone with
    | true =>
      have e2 : (bodyW x.fKind x).length = (numW x.fSaga).length + (stepsW x.fSteps).length + 33 := by
        rw [h1]
        unfold bodyW loadW
        rw [if_pos rfl, hgo]
        simp only [List.length_append, vlist_length, cond_true, List.length_cons, List.length_nil]
        omega
      rw [bif_true (dec_t (by omega)), dec_t (by omega)]; rfl
    | false =>
      have h3 := ((rightD hr).beg h1).2.2
      have hn := numS_len (n := x.fData.length) (by omega)
      have e2 : (bodyW x.fKind x).length = (numW x.fSaga).length + (stepsW x.fSteps).length + 33 + (numS x.fData.length).length + x.fData.length := by
        rw [h1]
        unfold bodyW loadW
        rw [if_pos rfl, hgo]
        simp only [List.length_append, vlist_length, cond_false, List.length_cons, List.length_nil]
        omega
      rw [bif_true (dec_t (by omega)), dec_f (by omega)]; rfl
  · rw [bif_true (by simp [h1])]
    have e : sealB K x = bodyW x.fKind x := by unfold sealB; rw [bif_false (dec_f h1)]
    rw [e] at ls
    rw [e]
    refine bind_of (ref_same (by simp only [List.length_cons]; omega) (by simp only [List.length_cons]; omega)) ?_
    rw [dec_t rfl]
    simp only [cond_true]
    refine bind_of (com_eq hK ho) ?_
    have hb : begS x = false := by unfold begS; rw [dec_f h1]; simp
    have hc : comS K x = zH := by unfold comS; rw [hb]; rfl
    rw [vz, hc, dec_t rfl]
end Go.Proofs.YtlcnliiampfigaaDoor
