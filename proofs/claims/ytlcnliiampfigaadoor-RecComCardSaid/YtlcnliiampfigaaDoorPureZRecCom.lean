/-
  The plain law of RecCom.
-/
import Derived.Test.YtlcnliiampfigaaDoorPureE
namespace Go.Proofs.YtlcnliiampfigaaDoor
open Go Go.Sep

def begC (saga : Int) (steps : List Sp) (data : List Int) (salt : H32) : Rc := { zRc with fKind := 1, fSaga := saga, fSteps := steps, fData := data, fSalt := salt }
theorem begC_right {saga : Int} {steps : List Sp} {data : List Int} {salt : H32} (h1 : inn saga 0 11 = true) (h2 : inn (steps.length : Int) 1 6 = true) (h3 : steps.all stepOk = true) (h4 : (data.length : Int) ≤ 60) : rightS (begC saga steps data salt) = true := by
  unfold rightS rangesS
  simp only [Bool.and_eq_true]
  have e : (begC saga steps data salt).fKind = 1 := rfl
  refine ⟨⟨h1, rfl, rfl, ?_⟩, ?_⟩
  · rw [bif_true (dec_t e)]
    simp only [Bool.and_eq_true]
    exact ⟨h2, h3, dec_t h4⟩
  · apply dec_t
    unfold keptS
    rw [if_pos e]
    rfl
theorem begC_com {K : Nat} {saga : Int} {steps : List Sp} {data : List Int} {salt : H32} (h : rightS (begC saga steps data salt) = true) : comS K (begC saga steps data salt) = ofS K salt data := by
  have hb : begS (begC saga steps data salt) = true := by unfold begS; rw [h]; rfl
  unfold comS
  rw [hb]
  rfl
theorem law_RecCom {K : Nat} (hK : 1000000000000 ≤ K) (x : Rc) (data : List Int) (salt : H32) (bx : okB x) (hd : isB data) : inspeximuslaw04_RecCom.f K x data salt = some true := by
  unfold inspeximuslaw04_RecCom.f
  refine bind_of (alive04 hK) ?_
  simp only [Bool.not_true, cond_false, jn]
  refine bind_of (greatR_eq x) ?_
  cases hg : greatR x with
  | true => rfl
  | false =>
  have ho := okD_of hg bx
  simp only [cond_false]
  by_cases hl : (60 : Int) < (data.length : Int)
  · rw [dec_t hl]; rfl
  rw [dec_f hl]
  simp only [cond_false]
  refine bind_of (right_eq hK ho) ?_
  cases hr : rightS x with
  | false => rfl
  | true =>
  simp only [Bool.not_true, cond_false]
  by_cases h0 : ¬ x.fKind = 1
  · rw [dec_f h0]; rfl
  have h1 : x.fKind = 1 := Decidable.not_not.1 h0
  rw [dec_t h1]
  simp only [Bool.not_true, cond_false]
  have hR := hr
  unfold rightS rangesS at hR
  simp only [Bool.and_eq_true] at hR
  obtain ⟨⟨s1, _, _, s4⟩, s5⟩ := hR
  rw [bif_true (dec_t h1)] at s4
  simp only [Bool.and_eq_true] at s4
  have s5 := of_decide_eq_true s5
  have ry : rightS (begC 3 [⟨0, 2⟩] data salt) = true := begC_right (by decide) (by decide) (by decide) (by omega)
  have rz : rightS (begC x.fSaga x.fSteps data salt) = true := begC_right s1 s4.1 s4.2.1 (by omega)
  have oy : okD (begC 3 [⟨0, 2⟩] data salt) := ⟨hd, by show data.length < _; omega, by show (1 : Nat) < _; omega⟩
  have oz : okD (begC x.fSaga x.fSteps data salt) := ⟨hd, by show data.length < _; omega, ho.2.2⟩
  have ez : ({ x with fGone := false, fCom := zH, fData := data, fSalt := salt } : Rc) = begC x.fSaga x.fSteps data salt := by
    unfold keptS at s5
    rw [if_pos h1] at s5
    cases hgo : x.fGone with
    | true =>
      rw [hgo, cond_true] at s5
      generalize x.fCom = c at s5
      rw [h1] at s5
      generalize x.fSaga = a at s5 ⊢
      generalize x.fSteps = b at s5 ⊢
      rw [s5]; rfl
    | false =>
      rw [hgo, cond_false] at s5
      generalize x.fData = c at s5
      generalize x.fSalt = e at s5
      rw [h1] at s5
      generalize x.fSaga = a at s5 ⊢
      generalize x.fSteps = b at s5 ⊢
      rw [s5]; rfl
  refine bind_of (x := begC 3 [⟨0, 2⟩] data salt) rfl ?_
  simp only [Option.bind_some]
  rw [vz, ez]
  refine bind_of (right_eq hK oy) ?_
  rw [ry]
  simp only [cond_true]
  refine bind_of (right_eq hK oz) ?_
  rw [rz]
  simp only [cond_true]
  refine bind_of (com_eq hK oy) ?_
  refine bind_of (com_eq hK oz) ?_
  rw [begC_com ry, begC_com rz, dec_t rfl]
  simp only [cond_true]
  refine bind_of (red_eq hK oz) ?_
  refine bind_of (com_eq hK (red_okD oz)) ?_
  refine bind_of (com_eq hK oz) ?_
  have hb : begS (begC x.fSaga x.fSteps data salt) = true := by unfold begS; rw [rz]; rfl
  rw [red_com hb, dec_t rfl]
end Go.Proofs.YtlcnliiampfigaaDoor
