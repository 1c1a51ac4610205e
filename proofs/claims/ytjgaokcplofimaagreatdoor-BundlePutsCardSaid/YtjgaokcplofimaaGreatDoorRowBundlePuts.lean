/-
 Proved: for every input 'inspeximus/inspeximuslaw17.BundlePuts' returns true, and each argument reads behind the call as it read before it.
 Conditions: none beside those that the given row states.
-/
import Derived.Test.YtjgaokcplofimaaGreatDoorRows
import Derived.Test.YtjgaokcplofimaaGreatDoorBPutsW4
import Derived.Test.YtjgaokcplofimaaGreatDoorPureZBundlePuts
import Derived.Test.YtjgaokcplofimaaGreatDoorSepK
import Derived.Test.YtjgaokcplofimaaGreatDoorTie
import Derived.Test.YtjgaokcplofimaaGreatDoorCards
import Derived.LaidMore
import Derived.Stop.Joined
import Derived.SevenTiedAt
set_option linter.unusedVariables false
namespace Go.Proofs.YtjgaokcplofimaaGreatDoor
open Go Go.Sep Go.ChangeShapes Go.WideShapes Go.ChangeAt Go.RowKit
theorem bundlePuts_own : ownKnob Tryz.prog.godebug = none := by kernel_rfl
theorem bundlePuts_laidOut : laidOutB Tryz.prog = true := by kernel_rfl
def ok_T_api_Sig (x : T_api_Sig) : Prop := inR .i64 x.fWit ∧ (∀ i, i < 32 → inR .u8 (vget (x.fTag) i))
theorem opens_T_api_Sig : Opens kd_T_api_Sig Tryz.prog 37 ok_T_api_Sig :=
 Opens_type (n := 2) (t := 37) (fun y => ⟨y.1, y.2⟩) (fun _ => rfl) (by kernel_rfl) (by kernel_rfl) (OpensF_next (K := (kdInt .i64)) (t := 37) (ft := 3) (off := 0) (off' := 1) 0 (by kernel_rfl) (Opens_int (P := Tryz.prog) (t := 3) (k := .i64) (by kernel_rfl)) (by kernel_rfl) (by kernel_rfl) (OpensF_last (n := 0) (K := (kdArr .u8 32)) (t := 37) (ft := 23) (off := 1) 1 (by kernel_rfl) (by kernel_rfl) (Opens_arr (P := Tryz.prog) (t := 23) (e := 5) (k := .u8) (N := 32) (by kernel_rfl) (by kernel_rfl) (by kernel_rfl) (by kernel_rfl)) (by kernel_rfl))) (fun _ h => h)
def ok_T_api_Point (x : T_api_Point) : Prop := inR .i64 x.fSize ∧ (∀ i, i < 32 → inR .u8 (vget (x.fRoot) i)) ∧ ((x.fSigs).length ≤ maxLen ∧ ∀ y ∈ x.fSigs, ok_T_api_Sig (y))
theorem opens_T_api_Point : Opens kd_T_api_Point Tryz.prog 26 ok_T_api_Point :=
 Opens_type (n := 3) (t := 26) (fun y => ⟨y.1, y.2.1, y.2.2⟩) (fun _ => rfl) (by kernel_rfl) (by kernel_rfl) (OpensF_next (K := (kdInt .i64)) (t := 26) (ft := 3) (off := 0) (off' := 1) 0 (by kernel_rfl) (Opens_int (P := Tryz.prog) (t := 3) (k := .i64) (by kernel_rfl)) (by kernel_rfl) (by kernel_rfl) (OpensF_next (K := (kdArr .u8 32)) (t := 26) (ft := 23) (off := 1) (off' := 33) 1 (by kernel_rfl) (Opens_arr (P := Tryz.prog) (t := 23) (e := 5) (k := .u8) (N := 32) (by kernel_rfl) (by kernel_rfl) (by kernel_rfl) (by kernel_rfl)) (by kernel_rfl) (by kernel_rfl) (OpensF_last (n := 0) (K := (kdSlice kd_T_api_Sig)) (t := 26) (ft := 24) (off := 33) 2 (by kernel_rfl) (by kernel_rfl) (Opens_slice (P := Tryz.prog) (t := 24) (e := 37) (by kernel_rfl) (by kernel_rfl) opens_T_api_Sig) (by kernel_rfl)))) (fun _ h => h)
def ok_T_api_Step (x : T_api_Step) : Prop := inR .i64 x.fPart ∧ inR .i64 x.fKind
theorem opens_T_api_Step : Opens kd_T_api_Step Tryz.prog 85 ok_T_api_Step :=
 Opens_type (n := 2) (t := 85) (fun y => ⟨y.1, y.2⟩) (fun _ => rfl) (by kernel_rfl) (by kernel_rfl) (OpensF_next (K := (kdInt .i64)) (t := 85) (ft := 3) (off := 0) (off' := 1) 0 (by kernel_rfl) (Opens_int (P := Tryz.prog) (t := 3) (k := .i64) (by kernel_rfl)) (by kernel_rfl) (by kernel_rfl) (OpensF_last (n := 0) (K := (kdInt .i64)) (t := 85) (ft := 3) (off := 1) 1 (by kernel_rfl) (by kernel_rfl) (Opens_int (P := Tryz.prog) (t := 3) (k := .i64) (by kernel_rfl)) (by kernel_rfl))) (fun _ h => h)
def ok_T_api_Rec (x : T_api_Rec) : Prop := inR .i64 x.fKind ∧ inR .i64 x.fSaga ∧ inR .i64 x.fSeq ∧ inR .i64 x.fStep ∧ inR .i64 x.fTry ∧ True ∧ True ∧ inR .i64 x.fEnd ∧ inR .i64 x.fPart ∧ inR .i64 x.fEpoch ∧ (∀ i, i < 32 → inR .u8 (vget (x.fTag) i)) ∧ ((x.fSteps).length ≤ maxLen ∧ ∀ y ∈ x.fSteps, ok_T_api_Step (y)) ∧ ((x.fData).length ≤ maxLen ∧ ∀ y ∈ x.fData, inR .u8 y) ∧ (∀ i, i < 32 → inR .u8 (vget (x.fSalt) i)) ∧ True ∧ (∀ i, i < 32 → inR .u8 (vget (x.fCom) i))
theorem opens_T_api_Rec : Opens kd_T_api_Rec Tryz.prog 40 ok_T_api_Rec :=
 Opens_type (n := 16) (t := 40) (fun y => ⟨y.1, y.2.1, y.2.2.1, y.2.2.2.1, y.2.2.2.2.1, y.2.2.2.2.2.1, y.2.2.2.2.2.2.1, y.2.2.2.2.2.2.2.1, y.2.2.2.2.2.2.2.2.1, y.2.2.2.2.2.2.2.2.2.1, y.2.2.2.2.2.2.2.2.2.2.1, y.2.2.2.2.2.2.2.2.2.2.2.1, y.2.2.2.2.2.2.2.2.2.2.2.2.1, y.2.2.2.2.2.2.2.2.2.2.2.2.2.1, y.2.2.2.2.2.2.2.2.2.2.2.2.2.2.1, y.2.2.2.2.2.2.2.2.2.2.2.2.2.2.2⟩) (fun _ => rfl) (by kernel_rfl) (by kernel_rfl) (OpensF_next (K := (kdInt .i64)) (t := 40) (ft := 3) (off := 0) (off' := 1) 0 (by kernel_rfl) (Opens_int (P := Tryz.prog) (t := 3) (k := .i64) (by kernel_rfl)) (by kernel_rfl) (by kernel_rfl) (OpensF_next (K := (kdInt .i64)) (t := 40) (ft := 3) (off := 1) (off' := 2) 1 (by kernel_rfl) (Opens_int (P := Tryz.prog) (t := 3) (k := .i64) (by kernel_rfl)) (by kernel_rfl) (by kernel_rfl) (OpensF_next (K := (kdInt .i64)) (t := 40) (ft := 3) (off := 2) (off' := 3) 2 (by kernel_rfl) (Opens_int (P := Tryz.prog) (t := 3) (k := .i64) (by kernel_rfl)) (by kernel_rfl) (by kernel_rfl) (OpensF_next (K := (kdInt .i64)) (t := 40) (ft := 3) (off := 3) (off' := 4) 3 (by kernel_rfl) (Opens_int (P := Tryz.prog) (t := 3) (k := .i64) (by kernel_rfl)) (by kernel_rfl) (by kernel_rfl) (OpensF_next (K := (kdInt .i64)) (t := 40) (ft := 3) (off := 4) (off' := 5) 4 (by kernel_rfl) (Opens_int (P := Tryz.prog) (t := 3) (k := .i64) (by kernel_rfl)) (by kernel_rfl) (by kernel_rfl) (OpensF_next (K := kdBool) (t := 40) (ft := 4) (off := 5) (off' := 6) 5 (by kernel_rfl) (Opens_bool (P := Tryz.prog) (t := 4) (by kernel_rfl)) (by kernel_rfl) (by kernel_rfl) (OpensF_next (K := kdBool) (t := 40) (ft := 4) (off := 6) (off' := 7) 6 (by kernel_rfl) (Opens_bool (P := Tryz.prog) (t := 4) (by kernel_rfl)) (by kernel_rfl) (by kernel_rfl) (OpensF_next (K := (kdInt .i64)) (t := 40) (ft := 3) (off := 7) (off' := 8) 7 (by kernel_rfl) (Opens_int (P := Tryz.prog) (t := 3) (k := .i64) (by kernel_rfl)) (by kernel_rfl) (by kernel_rfl) (OpensF_next (K := (kdInt .i64)) (t := 40) (ft := 3) (off := 8) (off' := 9) 8 (by kernel_rfl) (Opens_int (P := Tryz.prog) (t := 3) (k := .i64) (by kernel_rfl)) (by kernel_rfl) (by kernel_rfl) (OpensF_next (K := (kdInt .i64)) (t := 40) (ft := 3) (off := 9) (off' := 10) 9 (by kernel_rfl) (Opens_int (P := Tryz.prog) (t := 3) (k := .i64) (by kernel_rfl)) (by kernel_rfl) (by kernel_rfl) (OpensF_next (K := (kdArr .u8 32)) (t := 40) (ft := 23) (off := 10) (off' := 42) 10 (by kernel_rfl) (Opens_arr (P := Tryz.prog) (t := 23) (e := 5) (k := .u8) (N := 32) (by kernel_rfl) (by kernel_rfl) (by kernel_rfl) (by kernel_rfl)) (by kernel_rfl) (by kernel_rfl) (OpensF_next (K := (kdSlice kd_T_api_Step)) (t := 40) (ft := 38) (off := 42) (off' := 43) 11 (by kernel_rfl) (Opens_slice (P := Tryz.prog) (t := 38) (e := 85) (by kernel_rfl) (by kernel_rfl) opens_T_api_Step) (by kernel_rfl) (by kernel_rfl) (OpensF_next (K := (kdSlice (kdInt .u8))) (t := 40) (ft := 33) (off := 43) (off' := 44) 12 (by kernel_rfl) (Opens_slice (P := Tryz.prog) (t := 33) (e := 5) (by kernel_rfl) (by kernel_rfl) (Opens_int (P := Tryz.prog) (t := 5) (k := .u8) (by kernel_rfl))) (by kernel_rfl) (by kernel_rfl) (OpensF_next (K := (kdArr .u8 32)) (t := 40) (ft := 23) (off := 44) (off' := 76) 13 (by kernel_rfl) (Opens_arr (P := Tryz.prog) (t := 23) (e := 5) (k := .u8) (N := 32) (by kernel_rfl) (by kernel_rfl) (by kernel_rfl) (by kernel_rfl)) (by kernel_rfl) (by kernel_rfl) (OpensF_next (K := kdBool) (t := 40) (ft := 4) (off := 76) (off' := 77) 14 (by kernel_rfl) (Opens_bool (P := Tryz.prog) (t := 4) (by kernel_rfl)) (by kernel_rfl) (by kernel_rfl) (OpensF_last (n := 0) (K := (kdArr .u8 32)) (t := 40) (ft := 23) (off := 77) 15 (by kernel_rfl) (by kernel_rfl) (Opens_arr (P := Tryz.prog) (t := 23) (e := 5) (k := .u8) (N := 32) (by kernel_rfl) (by kernel_rfl) (by kernel_rfl) (by kernel_rfl)) (by kernel_rfl))))))))))))))))) (fun _ h => h)
def ok_T_api_Item (x : T_api_Item) : Prop := inR .i64 x.fAt ∧ ok_T_api_Rec (x.fRec) ∧ ((x.fPath).length ≤ maxLen ∧ ∀ y ∈ x.fPath, (∀ i, i < 32 → inR .u8 (vget (y) i)))
theorem opens_T_api_Item : Opens kd_T_api_Item Tryz.prog 43 ok_T_api_Item :=
 Opens_type (n := 3) (t := 43) (fun y => ⟨y.1, y.2.1, y.2.2⟩) (fun _ => rfl) (by kernel_rfl) (by kernel_rfl) (OpensF_next (K := (kdInt .i64)) (t := 43) (ft := 3) (off := 0) (off' := 1) 0 (by kernel_rfl) (Opens_int (P := Tryz.prog) (t := 3) (k := .i64) (by kernel_rfl)) (by kernel_rfl) (by kernel_rfl) (OpensF_next (K := kd_T_api_Rec) (t := 43) (ft := 40) (off := 1) (off' := 110) 1 (by kernel_rfl) opens_T_api_Rec (by kernel_rfl) (by kernel_rfl) (OpensF_last (n := 0) (K := (kdSlice (kdArr .u8 32))) (t := 43) (ft := 41) (off := 110) 2 (by kernel_rfl) (by kernel_rfl) (Opens_slice (P := Tryz.prog) (t := 41) (e := 23) (by kernel_rfl) (by kernel_rfl) (Opens_arr (P := Tryz.prog) (t := 23) (e := 5) (k := .u8) (N := 32) (by kernel_rfl) (by kernel_rfl) (by kernel_rfl) (by kernel_rfl))) (by kernel_rfl)))) (fun _ h => h)
def ok_T_api_Bundle (x : T_api_Bundle) : Prop := True ∧ ok_T_api_Point (x.fPoint) ∧ ((x.fItems).length ≤ maxLen ∧ ∀ y ∈ x.fItems, ok_T_api_Item (y))
theorem opens_T_api_Bundle : Opens kd_T_api_Bundle Tryz.prog 29 ok_T_api_Bundle :=
 Opens_type (n := 3) (t := 29) (fun y => ⟨y.1, y.2.1, y.2.2⟩) (fun _ => rfl) (by kernel_rfl) (by kernel_rfl) (OpensF_next (K := kdBool) (t := 29) (ft := 4) (off := 0) (off' := 1) 0 (by kernel_rfl) (Opens_bool (P := Tryz.prog) (t := 4) (by kernel_rfl)) (by kernel_rfl) (by kernel_rfl) (OpensF_next (K := kd_T_api_Point) (t := 29) (ft := 26) (off := 1) (off' := 35) 1 (by kernel_rfl) opens_T_api_Point (by kernel_rfl) (by kernel_rfl) (OpensF_last (n := 0) (K := (kdSlice kd_T_api_Item)) (t := 29) (ft := 27) (off := 35) 2 (by kernel_rfl) (by kernel_rfl) (Opens_slice (P := Tryz.prog) (t := 27) (e := 43) (by kernel_rfl) (by kernel_rfl) opens_T_api_Item) (by kernel_rfl)))) (fun _ h => h)
def bundlePuts_laid : List (String × DataW Unit) := [("inspeximus/api.K", Rows.laid_inspeximus_api_K), ("inspeximus/api.First", Rows.laid_inspeximus_api_First)]
theorem bundlePuts_met (os : Os) (args : Array Value) : laidMetH Tryz.prog bundlePuts_laid ((World.doorLaid Tryz.prog 400 os).forCall (fun _ _ => 0) ⟨#[], args, []⟩).memory :=
 laidMetH_of_parts3 (fuel := 8) (laidMet_of_run' 8 (by kernel_rfl) (by kernel_rfl)) (by kernel_rfl) (by kernel_rfl)
theorem bundlePuts_glob0 {w : World} (h : laidMetH Tryz.prog bundlePuts_laid w) : Cell (kdArr .u32 8) (snapW w) 0 0 gl_First :=
 glob_cell (t := 129) (e := 128) "inspeximus/api.First" h (by kernel_rfl) (show ("inspeximus/api.First", Rows.laid_inspeximus_api_First) ∈ bundlePuts_laid by simp [bundlePuts_laid]) (by kernel_rfl) (by kernel_rfl) (by kernel_rfl) (by kernel_rfl) (by kernel_rfl) (by kernel_rfl) (by kernel_rfl)
theorem bundlePuts_glob1 {w : World} (h : laidMetH Tryz.prog bundlePuts_laid w) : Cell (kdArr .u32 64) (snapW w) 1 0 gl_K :=
 glob_cell (t := 136) (e := 128) "inspeximus/api.K" h (by kernel_rfl) (show ("inspeximus/api.K", Rows.laid_inspeximus_api_K) ∈ bundlePuts_laid by simp [bundlePuts_laid]) (by kernel_rfl) (by kernel_rfl) (by kernel_rfl) (by kernel_rfl) (by kernel_rfl) (by kernel_rfl) (by kernel_rfl)
set_option maxRecDepth 100000 in
theorem bundlePuts_lifted (os : Os) (started : os.Started) (H : Type) (enc : TypeId × Value → H) :
  ReturnsInHanded {} Tryz.checked os 3 .any (fun w args => (Rows.bundlePutsSpec.pre enc Tryz.prog Tryz.f3 [] false w args ∧ laidMetH Tryz.prog bundlePuts_laid w) ∧ sizedMet enc Tryz.prog Tryz.f3 (OpenSpec.ofChange Rows.bundlePutsSpec) false w args) (Rows.bundlePutsSpec.post enc Tryz.prog Tryz.f3 false true false false) := by
 refine returnsInHanded_of_change_and (C := Tryz.checked) (X := fun w _ => laidMetH Tryz.prog bundlePuts_laid w) (fun _ _ _ hh h => h.of_heap hh) bundlePuts_own started (by kernel_rfl) Tryz.func3
  (ChangeSpec.witness_shaped (enc := enc) (C := Tryz.checked) (os := os) (X := fun w _ => laidMetH Tryz.prog bundlePuts_laid w) false (World.doorLaid Tryz.prog 400 os) #[.agg #[.bool false, .int .i64 0, .int .u8 0, .int .u8 0, .int .u8 0, .int .u8 0, .int .u8 0, .int .u8 0, .int .u8 0, .int .u8 0, .int .u8 0, .int .u8 0, .int .u8 0, .int .u8 0, .int .u8 0, .int .u8 0, .int .u8 0, .int .u8 0, .int .u8 0, .int .u8 0, .int .u8 0, .int .u8 0, .int .u8 0, .int .u8 0, .int .u8 0, .int .u8 0, .int .u8 0, .int .u8 0, .int .u8 0, .int .u8 0, .int .u8 0, .int .u8 0, .int .u8 0, .int .u8 0, .slice none 0 0, .slice none 0 0], .agg #[.bool false, .int .i64 0, .int .u8 0, .int .u8 0, .int .u8 0, .int .u8 0, .int .u8 0, .int .u8 0, .int .u8 0, .int .u8 0, .int .u8 0, .int .u8 0, .int .u8 0, .int .u8 0, .int .u8 0, .int .u8 0, .int .u8 0, .int .u8 0, .int .u8 0, .int .u8 0, .int .u8 0, .int .u8 0, .int .u8 0, .int .u8 0, .int .u8 0, .int .u8 0, .int .u8 0, .int .u8 0, .int .u8 0, .int .u8 0, .int .u8 0, .int .u8 0, .int .u8 0, .int .u8 0, .slice none 0 0, .slice none 0 0]] 8 rfl (World.shaped_of_RefB (by kernel_rfl) (by kernel_rfl)) (by kernel_rfl) (by kernel_rfl) (by kernel_rfl) (bundlePuts_met os _)) ?_
 intro W base args ds gs before hval0 hW _ hcnd hLaid _
 have hval : ∀ (j : Nat) t v, Tryz.f3.params[j]? = some t → args[j]? = some v → Value.okWide Tryz.prog W .any base t v := hval0
 have hW' : DataW.Whole enc Tryz.prog Tryz.f3.params.toList Rows.bundlePutsSpec.vars false W args.toList ds gs before := hW
 obtain ⟨p, q, hA0, hV, rfl, hfz, hnd⟩ := hW
 have hA : DataW.TrodAll enc Tryz.prog W 0 (fun _ => true) true Tryz.f3.params.toList args.toList ds p := hA0
 clear hA0 hval0 hcnd hfz hnd
 rw [Tryz.params3] at hA hval
 obtain ⟨rfl, rfl⟩ := trodVars_none hV
 obtain ⟨v0, vs0, d0, ds0, p0, q0, ha0, rfl, rfl, h0, hA0⟩ := Go.Sep.trodAll_cons hA
 obtain ⟨v1, vs1, d1, ds1, p1, q1, rfl, rfl, rfl, h1, hA1⟩ := Go.Sep.trodAll_cons hA0
 obtain ⟨rfl, rfl, rfl⟩ := Go.Sep.trodAll_nil hA1
 obtain rfl := args_of ha0
 clear ha0 hA
 obtain ⟨x0, cs0, rfl, r0, o0⟩ := arg_agg opens_T_api_Bundle (by kernel_rfl) (hval 0 29 v0 rfl rfl) h0
 obtain ⟨A1, c2, A4, c5, rfl, h3, h6⟩ := kd_T_api_Bundle_el r0
 obtain ⟨x1, cs1, rfl, r1, o1⟩ := arg_agg opens_T_api_Bundle (by kernel_rfl) (hval 1 29 v1 rfl rfl) h1
 obtain ⟨A7, c8, A10, c11, rfl, h9, h12⟩ := kd_T_api_Bundle_el r1
 have hv : ∀ (h : Vector Int 32), (∀ i, i < 32 → inR .u8 (vget h i)) → isB (vlist h) := fun h hh x hx => by
  simp [vlist] at hx
  obtain ⟨i, hi, rfl⟩ := hx
  exact inR_u8 (hh i hi)
 have hB : ∀ {x : T_api_Bundle}, ok_T_api_Bundle x → argBun x := by
  rintro x ⟨_, ⟨_, hroot, _, hsigs⟩, _, hitems⟩
  exact ⟨hv _ hroot, fun s hs => hv _ (hsigs s hs).2, fun y hy => by
   obtain ⟨_, ⟨_, _, _, _, _, _, _, _, _, _, htag, _, ⟨_, hdata⟩, hsalt, _, hcom⟩, _⟩ := hitems y hy
   exact ⟨fun x hx => inR_u8 (hdata x hx), hv _ htag, hv _ hsalt, hv _ hcom⟩, fun y hy z hz => hv _ ((hitems y hy).2.2.2 z hz)⟩
 have hlaw := law_BundlePuts (K := 1000000000000) rfl x0 x1 (hB o0) (hB o1)
 refine (callsIn_wide.1 (inspeximuslaw17_BundlePuts.calls hlaw (st_start W) h3 h6 h9 h12 (bundlePuts_glob0 hLaid) (bundlePuts_glob1 hLaid))).mono ?_
 rintro e W' ⟨v, rfl, D1, rfl, hS⟩
 exact ⟨_, rfl, post_same0 hW' rfl bundlePuts_laidOut (by kernel_rfl) rfl rfl (fun _ _ _ => trodAll_mk1 (shut_bool (by kernel_rfl) true)) (stp_below hS)⟩
theorem bundlePuts_holds : Rows.BundlePutsSaid :=
 OpenClaim.holds_of_wide 3 Tryz.f3 rfl rfl rfl rfl rfl rfl rfl ⟨rfl, rfl, rfl, rfl, rfl⟩ rfl rfl rfl rfl rfl (by kernel_rfl) Tryz.func3 (by kernel_rfl)
  (of_decide_eq_true (by kernel_rfl)) (by unfold Func.isWrapper; first | (rw [if_pos (by decide +kernel)]; kernel_rfl) | (rw [if_neg (by decide +kernel)]; exact ⟨rfl, rfl⟩))
  (fun os started H enc _ => bundlePuts_lifted os started H enc)
theorem bundlePutsCard_holds : Rows.BundlePutsCardSaid :=
 Claim7.holds_tied_plain_at .later [] [.data, .data] true (true, "d89c1cc87de8d815ab520a146af67cfc5d8f78eda6e10e09caed8813786d18b0") false
  bundlePuts_holds (fun _ h => by cases h) (by kernel_rfl) (fun _ h => by cases h) bundlePuts_row_tie rfl ⟨rfl, rfl⟩ (by kernel_rfl) rfl
  (fun f fn hf hfn => by
   obtain rfl : f = 3 := Option.some.inj ((show Tryz.prog.funcNamed "inspeximus/inspeximuslaw17.BundlePuts" = some 3 by kernel_rfl).symm.trans hf) |>.symm
   obtain rfl : fn = Tryz.f3 := (Option.some.inj (Tryz.func3.symm.trans hfn)).symm
   exact ⟨by kernel_rfl, fun j t ht => by
    rw [Tryz.params3] at ht
    have hm : t ∈ [29, 29] := by simpa using Array.mem_of_getElem? ht
    have hall : ([29, 29].all fun u => !Tryz.prog.wantsStandIn u) = true := by kernel_rfl
    exact (show Tryz.prog.wantsStandIn t = false by simpa using List.all_eq_true.1 hall t hm)⟩)
  (by kernel_rfl)
end Go.Proofs.YtjgaokcplofimaaGreatDoor
