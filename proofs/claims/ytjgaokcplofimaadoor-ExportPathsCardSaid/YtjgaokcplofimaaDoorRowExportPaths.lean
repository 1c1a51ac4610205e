/-
 Proved: for every input 'inspeximus/inspeximuslaw18.ExportPaths' returns true, and each argument reads behind the call as it read before it.
 Conditions: none beside those that the given row states.
-/
import Derived.Test.YtjgaokcplofimaaDoorRows
import Derived.Test.YtjgaokcplofimaaDoorXExportPathsW3
import Derived.Test.YtjgaokcplofimaaDoorPureZExportPaths
import Derived.Test.YtjgaokcplofimaaDoorSepK
import Derived.Test.YtjgaokcplofimaaDoorTie
import Derived.Test.YtjgaokcplofimaaDoorCards
import Derived.LaidMore
import Derived.Stop.Joined
import Derived.SevenTiedAt
set_option linter.unusedVariables false
namespace Go.Proofs.YtjgaokcplofimaaDoor
open Go Go.Sep Go.ChangeShapes Go.WideShapes Go.ChangeAt Go.RowKit
theorem exportPaths_own : ownKnob Tryd.prog.godebug = none := by kernel_rfl
theorem exportPaths_laidOut : laidOutB Tryd.prog = true := by kernel_rfl
def ok_T_api_Step (x : T_api_Step) : Prop := inR .i64 x.fPart ∧ inR .i64 x.fKind
theorem opens_T_api_Step : Opens kd_T_api_Step Tryd.prog 44 ok_T_api_Step :=
 Opens_type (n := 2) (t := 44) (fun y => ⟨y.1, y.2⟩) (fun _ => rfl) (by kernel_rfl) (by kernel_rfl) (OpensF_next (K := (kdInt .i64)) (t := 44) (ft := 3) (off := 0) (off' := 1) 0 (by kernel_rfl) (Opens_int (P := Tryd.prog) (t := 3) (k := .i64) (by kernel_rfl)) (by kernel_rfl) (by kernel_rfl) (OpensF_last (n := 0) (K := (kdInt .i64)) (t := 44) (ft := 3) (off := 1) 1 (by kernel_rfl) (by kernel_rfl) (Opens_int (P := Tryd.prog) (t := 3) (k := .i64) (by kernel_rfl)) (by kernel_rfl))) (fun _ h => h)
def ok_T_api_Rec (x : T_api_Rec) : Prop := inR .i64 x.fKind ∧ inR .i64 x.fSaga ∧ inR .i64 x.fSeq ∧ inR .i64 x.fStep ∧ inR .i64 x.fTry ∧ True ∧ True ∧ inR .i64 x.fEnd ∧ inR .i64 x.fPart ∧ inR .i64 x.fEpoch ∧ (∀ i, i < 32 → inR .u8 (vget (x.fTag) i)) ∧ ((x.fSteps).length ≤ maxLen ∧ ∀ y ∈ x.fSteps, ok_T_api_Step (y)) ∧ ((x.fData).length ≤ maxLen ∧ ∀ y ∈ x.fData, inR .u8 y) ∧ (∀ i, i < 32 → inR .u8 (vget (x.fSalt) i)) ∧ True ∧ (∀ i, i < 32 → inR .u8 (vget (x.fCom) i))
theorem opens_T_api_Rec : Opens kd_T_api_Rec Tryd.prog 39 ok_T_api_Rec :=
 Opens_type (n := 16) (t := 39) (fun y => ⟨y.1, y.2.1, y.2.2.1, y.2.2.2.1, y.2.2.2.2.1, y.2.2.2.2.2.1, y.2.2.2.2.2.2.1, y.2.2.2.2.2.2.2.1, y.2.2.2.2.2.2.2.2.1, y.2.2.2.2.2.2.2.2.2.1, y.2.2.2.2.2.2.2.2.2.2.1, y.2.2.2.2.2.2.2.2.2.2.2.1, y.2.2.2.2.2.2.2.2.2.2.2.2.1, y.2.2.2.2.2.2.2.2.2.2.2.2.2.1, y.2.2.2.2.2.2.2.2.2.2.2.2.2.2.1, y.2.2.2.2.2.2.2.2.2.2.2.2.2.2.2⟩) (fun _ => rfl) (by kernel_rfl) (by kernel_rfl) (OpensF_next (K := (kdInt .i64)) (t := 39) (ft := 3) (off := 0) (off' := 1) 0 (by kernel_rfl) (Opens_int (P := Tryd.prog) (t := 3) (k := .i64) (by kernel_rfl)) (by kernel_rfl) (by kernel_rfl) (OpensF_next (K := (kdInt .i64)) (t := 39) (ft := 3) (off := 1) (off' := 2) 1 (by kernel_rfl) (Opens_int (P := Tryd.prog) (t := 3) (k := .i64) (by kernel_rfl)) (by kernel_rfl) (by kernel_rfl) (OpensF_next (K := (kdInt .i64)) (t := 39) (ft := 3) (off := 2) (off' := 3) 2 (by kernel_rfl) (Opens_int (P := Tryd.prog) (t := 3) (k := .i64) (by kernel_rfl)) (by kernel_rfl) (by kernel_rfl) (OpensF_next (K := (kdInt .i64)) (t := 39) (ft := 3) (off := 3) (off' := 4) 3 (by kernel_rfl) (Opens_int (P := Tryd.prog) (t := 3) (k := .i64) (by kernel_rfl)) (by kernel_rfl) (by kernel_rfl) (OpensF_next (K := (kdInt .i64)) (t := 39) (ft := 3) (off := 4) (off' := 5) 4 (by kernel_rfl) (Opens_int (P := Tryd.prog) (t := 3) (k := .i64) (by kernel_rfl)) (by kernel_rfl) (by kernel_rfl) (OpensF_next (K := kdBool) (t := 39) (ft := 4) (off := 5) (off' := 6) 5 (by kernel_rfl) (Opens_bool (P := Tryd.prog) (t := 4) (by kernel_rfl)) (by kernel_rfl) (by kernel_rfl) (OpensF_next (K := kdBool) (t := 39) (ft := 4) (off := 6) (off' := 7) 6 (by kernel_rfl) (Opens_bool (P := Tryd.prog) (t := 4) (by kernel_rfl)) (by kernel_rfl) (by kernel_rfl) (OpensF_next (K := (kdInt .i64)) (t := 39) (ft := 3) (off := 7) (off' := 8) 7 (by kernel_rfl) (Opens_int (P := Tryd.prog) (t := 3) (k := .i64) (by kernel_rfl)) (by kernel_rfl) (by kernel_rfl) (OpensF_next (K := (kdInt .i64)) (t := 39) (ft := 3) (off := 8) (off' := 9) 8 (by kernel_rfl) (Opens_int (P := Tryd.prog) (t := 3) (k := .i64) (by kernel_rfl)) (by kernel_rfl) (by kernel_rfl) (OpensF_next (K := (kdInt .i64)) (t := 39) (ft := 3) (off := 9) (off' := 10) 9 (by kernel_rfl) (Opens_int (P := Tryd.prog) (t := 3) (k := .i64) (by kernel_rfl)) (by kernel_rfl) (by kernel_rfl) (OpensF_next (K := (kdArr .u8 32)) (t := 39) (ft := 24) (off := 10) (off' := 42) 10 (by kernel_rfl) (Opens_arr (P := Tryd.prog) (t := 24) (e := 5) (k := .u8) (N := 32) (by kernel_rfl) (by kernel_rfl) (by kernel_rfl) (by kernel_rfl)) (by kernel_rfl) (by kernel_rfl) (OpensF_next (K := (kdSlice kd_T_api_Step)) (t := 39) (ft := 36) (off := 42) (off' := 43) 11 (by kernel_rfl) (Opens_slice (P := Tryd.prog) (t := 36) (e := 44) (by kernel_rfl) (by kernel_rfl) opens_T_api_Step) (by kernel_rfl) (by kernel_rfl) (OpensF_next (K := (kdSlice (kdInt .u8))) (t := 39) (ft := 37) (off := 43) (off' := 44) 12 (by kernel_rfl) (Opens_slice (P := Tryd.prog) (t := 37) (e := 5) (by kernel_rfl) (by kernel_rfl) (Opens_int (P := Tryd.prog) (t := 5) (k := .u8) (by kernel_rfl))) (by kernel_rfl) (by kernel_rfl) (OpensF_next (K := (kdArr .u8 32)) (t := 39) (ft := 24) (off := 44) (off' := 76) 13 (by kernel_rfl) (Opens_arr (P := Tryd.prog) (t := 24) (e := 5) (k := .u8) (N := 32) (by kernel_rfl) (by kernel_rfl) (by kernel_rfl) (by kernel_rfl)) (by kernel_rfl) (by kernel_rfl) (OpensF_next (K := kdBool) (t := 39) (ft := 4) (off := 76) (off' := 77) 14 (by kernel_rfl) (Opens_bool (P := Tryd.prog) (t := 4) (by kernel_rfl)) (by kernel_rfl) (by kernel_rfl) (OpensF_last (n := 0) (K := (kdArr .u8 32)) (t := 39) (ft := 24) (off := 77) 15 (by kernel_rfl) (by kernel_rfl) (Opens_arr (P := Tryd.prog) (t := 24) (e := 5) (k := .u8) (N := 32) (by kernel_rfl) (by kernel_rfl) (by kernel_rfl) (by kernel_rfl)) (by kernel_rfl))))))))))))))))) (fun _ h => h)
def ok_T_api_Sig (x : T_api_Sig) : Prop := inR .i64 x.fWit ∧ (∀ i, i < 32 → inR .u8 (vget (x.fTag) i))
theorem opens_T_api_Sig : Opens kd_T_api_Sig Tryd.prog 84 ok_T_api_Sig :=
 Opens_type (n := 2) (t := 84) (fun y => ⟨y.1, y.2⟩) (fun _ => rfl) (by kernel_rfl) (by kernel_rfl) (OpensF_next (K := (kdInt .i64)) (t := 84) (ft := 3) (off := 0) (off' := 1) 0 (by kernel_rfl) (Opens_int (P := Tryd.prog) (t := 3) (k := .i64) (by kernel_rfl)) (by kernel_rfl) (by kernel_rfl) (OpensF_last (n := 0) (K := (kdArr .u8 32)) (t := 84) (ft := 24) (off := 1) 1 (by kernel_rfl) (by kernel_rfl) (Opens_arr (P := Tryd.prog) (t := 24) (e := 5) (k := .u8) (N := 32) (by kernel_rfl) (by kernel_rfl) (by kernel_rfl) (by kernel_rfl)) (by kernel_rfl))) (fun _ h => h)
def ok_T_api_Point (x : T_api_Point) : Prop := inR .i64 x.fSize ∧ (∀ i, i < 32 → inR .u8 (vget (x.fRoot) i)) ∧ ((x.fSigs).length ≤ maxLen ∧ ∀ y ∈ x.fSigs, ok_T_api_Sig (y))
theorem opens_T_api_Point : Opens kd_T_api_Point Tryd.prog 27 ok_T_api_Point :=
 Opens_type (n := 3) (t := 27) (fun y => ⟨y.1, y.2.1, y.2.2⟩) (fun _ => rfl) (by kernel_rfl) (by kernel_rfl) (OpensF_next (K := (kdInt .i64)) (t := 27) (ft := 3) (off := 0) (off' := 1) 0 (by kernel_rfl) (Opens_int (P := Tryd.prog) (t := 3) (k := .i64) (by kernel_rfl)) (by kernel_rfl) (by kernel_rfl) (OpensF_next (K := (kdArr .u8 32)) (t := 27) (ft := 24) (off := 1) (off' := 33) 1 (by kernel_rfl) (Opens_arr (P := Tryd.prog) (t := 24) (e := 5) (k := .u8) (N := 32) (by kernel_rfl) (by kernel_rfl) (by kernel_rfl) (by kernel_rfl)) (by kernel_rfl) (by kernel_rfl) (OpensF_last (n := 0) (K := (kdSlice kd_T_api_Sig)) (t := 27) (ft := 25) (off := 33) 2 (by kernel_rfl) (by kernel_rfl) (Opens_slice (P := Tryd.prog) (t := 25) (e := 84) (by kernel_rfl) (by kernel_rfl) opens_T_api_Sig) (by kernel_rfl)))) (fun _ h => h)
def exportPaths_laid : List (String × DataW Unit) := [("inspeximus/api.K", Rows.laid_inspeximus_api_K), ("inspeximus/api.First", Rows.laid_inspeximus_api_First)]
theorem exportPaths_met (os : Os) (args : Array Value) : laidMetH Tryd.prog exportPaths_laid ((World.doorLaid Tryd.prog 400 os).forCall (fun _ _ => 0) ⟨#[], args, []⟩).memory :=
 laidMetH_of_parts3 (fuel := 8) (laidMet_of_run' 8 (by kernel_rfl) (by kernel_rfl)) (by kernel_rfl) (by kernel_rfl)
theorem exportPaths_glob0 {w : World} (h : laidMetH Tryd.prog exportPaths_laid w) : Cell (kdArr .u32 8) (snapW w) 0 0 gl_First :=
 glob_cell (t := 112) (e := 35) "inspeximus/api.First" h (by kernel_rfl) (show ("inspeximus/api.First", Rows.laid_inspeximus_api_First) ∈ exportPaths_laid by simp [exportPaths_laid]) (by kernel_rfl) (by kernel_rfl) (by kernel_rfl) (by kernel_rfl) (by kernel_rfl) (by kernel_rfl) (by kernel_rfl)
theorem exportPaths_glob1 {w : World} (h : laidMetH Tryd.prog exportPaths_laid w) : Cell (kdArr .u32 64) (snapW w) 1 0 gl_K :=
 glob_cell (t := 136) (e := 35) "inspeximus/api.K" h (by kernel_rfl) (show ("inspeximus/api.K", Rows.laid_inspeximus_api_K) ∈ exportPaths_laid by simp [exportPaths_laid]) (by kernel_rfl) (by kernel_rfl) (by kernel_rfl) (by kernel_rfl) (by kernel_rfl) (by kernel_rfl) (by kernel_rfl)
set_option maxRecDepth 100000 in
theorem exportPaths_lifted (os : Os) (started : os.Started) (H : Type) (enc : TypeId × Value → H) :
  ReturnsInHanded {} Tryd.checked os 7 .any (fun w args => (Rows.exportPathsSpec.pre enc Tryd.prog Tryd.f7 [] false w args ∧ laidMetH Tryd.prog exportPaths_laid w) ∧ sizedMet enc Tryd.prog Tryd.f7 (OpenSpec.ofChange Rows.exportPathsSpec) false w args) (Rows.exportPathsSpec.post enc Tryd.prog Tryd.f7 false true false false) := by
 refine returnsInHanded_of_change_and (C := Tryd.checked) (X := fun w _ => laidMetH Tryd.prog exportPaths_laid w) (fun _ _ _ hh h => h.of_heap hh) exportPaths_own started (by kernel_rfl) Tryd.func7
  (ChangeSpec.witness_shaped (enc := enc) (C := Tryd.checked) (os := os) (X := fun w _ => laidMetH Tryd.prog exportPaths_laid w) false (World.doorLaid Tryd.prog 400 os) #[.slice none 0 0, .agg #[.int .i64 0, .int .u8 0, .int .u8 0, .int .u8 0, .int .u8 0, .int .u8 0, .int .u8 0, .int .u8 0, .int .u8 0, .int .u8 0, .int .u8 0, .int .u8 0, .int .u8 0, .int .u8 0, .int .u8 0, .int .u8 0, .int .u8 0, .int .u8 0, .int .u8 0, .int .u8 0, .int .u8 0, .int .u8 0, .int .u8 0, .int .u8 0, .int .u8 0, .int .u8 0, .int .u8 0, .int .u8 0, .int .u8 0, .int .u8 0, .int .u8 0, .int .u8 0, .int .u8 0, .slice none 0 0], .int .u32 0, .int .i64 0, .int .i64 0] 8 rfl (World.shaped_of_RefB (by kernel_rfl) (by kernel_rfl)) (by kernel_rfl) (by kernel_rfl) (by kernel_rfl) (exportPaths_met os _)) ?_
 intro W base args ds gs before hval0 hW _ hcnd hLaid _
 have hval : ∀ (j : Nat) t v, Tryd.f7.params[j]? = some t → args[j]? = some v → Value.okWide Tryd.prog W .any base t v := hval0
 have hW' : DataW.Whole enc Tryd.prog Tryd.f7.params.toList Rows.exportPathsSpec.vars false W args.toList ds gs before := hW
 obtain ⟨p, q, hA0, hV, rfl, hfz, hnd⟩ := hW
 have hA : DataW.TrodAll enc Tryd.prog W 0 (fun _ => true) true Tryd.f7.params.toList args.toList ds p := hA0
 clear hA0 hval0 hcnd hfz hnd
 rw [Tryd.params7] at hA hval
 obtain ⟨rfl, rfl⟩ := trodVars_none hV
 obtain ⟨v0, vs0, d0, ds0, p0, q0, ha0, rfl, rfl, h0, hA0⟩ := Go.Sep.trodAll_cons hA
 obtain ⟨v1, vs1, d1, ds1, p1, q1, rfl, rfl, rfl, h1, hA1⟩ := Go.Sep.trodAll_cons hA0
 obtain ⟨v2, vs2, d2, ds2, p2, q2, rfl, rfl, rfl, h2, hA2⟩ := Go.Sep.trodAll_cons hA1
 obtain ⟨v3, vs3, d3, ds3, p3, q3, rfl, rfl, rfl, h3, hA3⟩ := Go.Sep.trodAll_cons hA2
 obtain ⟨v4, vs4, d4, ds4, p4, q4, rfl, rfl, rfl, h4, hA4⟩ := Go.Sep.trodAll_cons hA3
 obtain ⟨rfl, rfl, rfl⟩ := Go.Sep.trodAll_nil hA4
 obtain rfl := args_of ha0
 clear ha0 hA
 obtain ⟨Ar0, cr0, x0, rfl, s0, m0, o0⟩ := arg_slice (e := 39) (show Tryd.prog.underlying 22 = some (.slice 39) by kernel_rfl) (by kernel_rfl) opens_T_api_Rec (hval 0 22 v0 rfl rfl) h0
 obtain ⟨x1, cs1, rfl, r1, o1⟩ := arg_agg opens_T_api_Point (by kernel_rfl) (hval 1 27 v1 rfl rfl) h1
 obtain ⟨A1, c2, rfl, fh3⟩ := kd_T_api_Point_el r1
 obtain ⟨x2, rfl, o2⟩ := arg_int (k := .u32) (show Tryd.prog.underlying 35 = some (.int .u32) by kernel_rfl) (hval 2 35 v2 rfl rfl) h2
 obtain ⟨x3, rfl, o3⟩ := arg_int (k := .i64) (show Tryd.prog.underlying 3 = some (.int .i64) by kernel_rfl) (hval 3 3 v3 rfl rfl) h3
 obtain ⟨x4, rfl, o4⟩ := arg_int (k := .i64) (show Tryd.prog.underlying 3 = some (.int .i64) by kernel_rfl) (hval 4 3 v4 rfl rfl) h4
 have hD : ∀ {x : T_api_Rec}, ok_T_api_Rec x → isB x.fData := by
   rintro x ⟨_, _, _, _, _, _, _, _, _, _, _, _, ⟨_, hdata⟩, _, _, _⟩
   exact fun y hy => inR_u8 (hdata y hy)
 have hlaw := law_ExportPaths (K := 1000000000000) rfl x0 x1 x2 x3 x4 (fun x hx => hD (o0 x hx))
 refine (callsIn_wide.1 (inspeximuslaw18_ExportPaths.calls hlaw (st_start W) s0 fh3 (exportPaths_glob0 hLaid) (exportPaths_glob1 hLaid))).mono ?_
 rintro e W' ⟨v, rfl, D1, rfl, hS⟩
 exact ⟨_, rfl, post_same0 hW' rfl exportPaths_laidOut (by kernel_rfl) rfl rfl (fun _ _ _ => trodAll_mk1 (shut_bool (by kernel_rfl) true)) (stp_below hS)⟩
theorem exportPaths_holds : Rows.ExportPathsSaid :=
 OpenClaim.holds_of_wide 7 Tryd.f7 rfl rfl rfl rfl rfl rfl rfl ⟨rfl, rfl, rfl, rfl, rfl⟩ rfl rfl rfl rfl rfl (by kernel_rfl) Tryd.func7 (by kernel_rfl)
  (of_decide_eq_true (by kernel_rfl)) (by unfold Func.isWrapper; first | (rw [if_pos (by decide +kernel)]; kernel_rfl) | (rw [if_neg (by decide +kernel)]; exact ⟨rfl, rfl⟩))
  (fun os started H enc _ => exportPaths_lifted os started H enc)
theorem exportPathsCard_holds : Rows.ExportPathsCardSaid :=
 Claim7.holds_tied_plain_at .later [] [.data, .data] true (true, "401c7f0eba78895fdb559c398c5a2c8a5ba311b5d0a34e46402e0cab782e9ed7") true
  exportPaths_holds (fun _ h => by cases h) (by kernel_rfl) (fun _ h => by cases h) exportPaths_row_tie rfl ⟨rfl, rfl⟩ (by kernel_rfl) rfl
  (fun f fn hf hfn => by
   obtain rfl : f = 7 := Option.some.inj ((show Tryd.prog.funcNamed "inspeximus/inspeximuslaw18.ExportPaths" = some 7 by kernel_rfl).symm.trans hf) |>.symm
   obtain rfl : fn = Tryd.f7 := (Option.some.inj (Tryd.func7.symm.trans hfn)).symm
   exact ⟨by kernel_rfl, fun j t ht => by
    rw [Tryd.params7] at ht
    have hm : t ∈ [22, 27, 35, 3, 3] := by simpa using Array.mem_of_getElem? ht
    have hall : ([22, 27, 35, 3, 3].all fun u => !Tryd.prog.wantsStandIn u) = true := by kernel_rfl
    exact (show Tryd.prog.wantsStandIn t = false by simpa using List.all_eq_true.1 hall t hm)⟩)
  (by kernel_rfl)
end Go.Proofs.YtjgaokcplofimaaDoor
