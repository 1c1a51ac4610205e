/-
 Plain: which bundles are too great to be looked at.
-/
import Derived.Test.YtjgaokcplofimaaGreatDoorPureV
namespace Go.Proofs.YtjgaokcplofimaaGreatDoor
open Go Go.Sep
/-! ### too great -/
def greatR (x : Rc) : Bool := decide ((30 : Int) < (x.fSteps.length : Int)) || decide ((300 : Int) < (x.fData.length : Int))
theorem greatR_eq {K : Nat} (x : Rc) : inspeximusref04_Great.f K x = some (greatR x) := by
 unfold inspeximusref04_Great.f greatR
 cases decide ((30 : Int) < (x.fSteps.length : Int)) <;> rfl
def greatI (x : It) : Bool := greatR x.fRec || decide ((40 : Int) < (x.fPath.length : Int))
def greatB (x : Bun) : Bool := decide ((60 : Int) < (x.fItems.length : Int)) || (decide ((20 : Int) < (x.fPoint.fSigs.length : Int)) || !x.fItems.all (fun y => !greatI y))
theorem great_eq {K : Nat} (hK : 1000000000000 ≤ K) (x : Bun) : inspeximusref17_Great.f K x = some (greatB x) := by
 unfold inspeximusref17_Great.f greatB
 simp only [jn]
 by_cases h1 : (60 : Int) < (x.fItems.length : Int)
 ·rw [dec_t h1]; rfl
 rw [dec_f h1]
 simp only [cond_false, Bool.false_or]
 by_cases h2 : (20 : Int) < (x.fPoint.fSigs.length : Int)
 ·rw [dec_t h2]; rfl
 rw [dec_f h2]
 simp only [cond_false, Bool.false_or]
 have hL := loop_all (L := inspeximusref17_Great_l1.l K x) (fun (_ : Unit) (i : Nat) => (i : Int)) x.fItems (fun _ i y => some (bif !greatI y then .inr () else .inl (.inl true))) (fun _ => some (.inr ())) () (k := K) (by omega)
  (fun k s => by
   show inspeximusref17_Great_l1.b K x (inspeximusref17_Great_l1.l K x k) _ = _
   unfold inspeximusref17_Great_l1.b
   rw [bif_false (dec_f (by simp))])
  (fun k s i y hi hy => by
   show inspeximusref17_Great_l1.b K x (inspeximusref17_Great_l1.l K x k) _ = _
   unfold inspeximusref17_Great_l1.b
   rw [bif_true (dec_t (by omega)), getI_lt hy]
   simp only [jn, Option.bind_some]
   rw [greatR_eq]
   simp only [Option.bind_some]
   rw [wrap_succ (by omega)]
   unfold greatI
   cases greatR y.fRec
   ·simp only [cond_false, Bool.false_or]
    cases decide ((40 : Int) < (y.fPath.length : Int)) <;> rfl
   ·rfl)
 have hL : inspeximusref17_Great_l1.l K x K 0 = _ := hL
 obtain ⟨r1, r2⟩ := run_find (good := fun y => !greatI y) (v := fun _ => true) (l := x.fItems) (s := ()) (i := 0) (f := fun _ i y => some (bif !greatI y then .inr () else .inl (.inl true))) (fun s i x _ => rfl)
 cases hg : x.fItems.all (fun y => !greatI y) with
 | true => rw [hL, r1 hg]; rfl
 | false =>
  obtain ⟨j, _, _, hj⟩ := r2 hg
  rw [hL, hj]; rfl
theorem okBun_of {x : Bun} (h : greatB x = false) (ha : argBun x) : okBun x := by
 unfold greatB at h
 simp only [Bool.or_eq_false_iff, decide_eq_false_iff_not, Bool.not_eq_false', List.all_eq_true, Bool.not_eq_true'] at h
 refine ⟨by omega, by omega, fun y hy => ?_⟩
 have := h.2.2 y hy
 unfold greatI greatR at this
 simp only [Bool.or_eq_false_iff, decide_eq_false_iff_not] at this
 exact ⟨⟨(ha.recs y hy).data, by omega, by omega⟩, by omega⟩
end Go.Proofs.YtjgaokcplofimaaGreatDoor
