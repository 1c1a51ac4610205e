/-
 Proved: for every input 'inspeximus/inspeximuslaw19.AuditSame' returns true, and each argument reads behind the call as it read before it.
 Conditions: none beside those that the given row states.
-/
import Derived.Test.YtomndohdnfebgaaGreatDoorRows
import Derived.Test.YtomndohdnfebgaaGreatDoorTfV
import Derived.Test.YtomndohdnfebgaaGreatDoorSepK
import Derived.Test.YtomndohdnfebgaaGreatDoorTie
import Derived.Test.YtomndohdnfebgaaGreatDoorCards
import Derived.LaidMore
import Derived.Stop.Joined
import Derived.SevenTiedAt
set_option linter.unusedVariables false
namespace Go.Proofs.YtomndohdnfebgaaGreatDoor
open Go Go.Sep Go.ChangeShapes Go.WideShapes Go.ChangeAt Go.RowKit
theorem auditSame_own : ownKnob Tryz.prog.godebug = none := by kernel_rfl
theorem auditSame_laidOut : laidOutB Tryz.prog = true := by kernel_rfl
def ok_T_api_Line (x : T_api_Line) : Prop := inR .i64 x.fPhase ∧ inR .i64 x.fMissing
theorem opens_T_api_Line : Opens kd_T_api_Line Tryz.prog 29 ok_T_api_Line :=
 Opens_type (n := 2) (t := 29) (fun y => ⟨y.1, y.2⟩) (fun _ => rfl) (by kernel_rfl) (by kernel_rfl) (OpensF_next (K := (kdInt .i64)) (t := 29) (ft := 3) (off := 0) (off' := 1) 0 (by kernel_rfl) (Opens_int (P := Tryz.prog) (t := 3) (k := .i64) (by kernel_rfl)) (by kernel_rfl) (by kernel_rfl) (OpensF_last (n := 0) (K := (kdInt .i64)) (t := 29) (ft := 3) (off := 1) 1 (by kernel_rfl) (by kernel_rfl) (Opens_int (P := Tryz.prog) (t := 3) (k := .i64) (by kernel_rfl)) (by kernel_rfl))) (fun _ h => h)
def ok_T_api_Verdict (x : T_api_Verdict) : Prop := inR .i64 x.fCode ∧ ((x.fSagas).length ≤ maxLen ∧ ∀ y ∈ x.fSagas, inR .i64 y) ∧ ((x.fLines).length ≤ maxLen ∧ ∀ y ∈ x.fLines, ok_T_api_Line (y))
theorem opens_T_api_Verdict : Opens kd_T_api_Verdict Tryz.prog 26 ok_T_api_Verdict :=
 Opens_type (n := 3) (t := 26) (fun y => ⟨y.1, y.2.1, y.2.2⟩) (fun _ => rfl) (by kernel_rfl) (by kernel_rfl) (OpensF_next (K := (kdInt .i64)) (t := 26) (ft := 22) (off := 0) (off' := 1) 0 (by kernel_rfl) (Opens_int (P := Tryz.prog) (t := 22) (k := .i64) (by kernel_rfl)) (by kernel_rfl) (by kernel_rfl) (OpensF_next (K := (kdSlice (kdInt .i64))) (t := 26) (ft := 23) (off := 1) (off' := 2) 1 (by kernel_rfl) (Opens_slice (P := Tryz.prog) (t := 23) (e := 3) (by kernel_rfl) (by kernel_rfl) (Opens_int (P := Tryz.prog) (t := 3) (k := .i64) (by kernel_rfl))) (by kernel_rfl) (by kernel_rfl) (OpensF_last (n := 0) (K := (kdSlice kd_T_api_Line)) (t := 26) (ft := 24) (off := 2) 2 (by kernel_rfl) (by kernel_rfl) (Opens_slice (P := Tryz.prog) (t := 24) (e := 29) (by kernel_rfl) (by kernel_rfl) opens_T_api_Line) (by kernel_rfl)))) (fun _ h => h)
def auditSame_laid : List (String × DataW Unit) := [("inspeximus/api.K", Rows.laid_inspeximus_api_K), ("inspeximus/api.First", Rows.laid_inspeximus_api_First)]
theorem auditSame_met (os : Os) (args : Array Value) : laidMetH Tryz.prog auditSame_laid ((World.doorLaid Tryz.prog 400 os).forCall (fun _ _ => 0) ⟨#[], args, []⟩).memory :=
 laidMetH_of_parts3 (fuel := 8) (laidMet_of_run' 8 (by kernel_rfl) (by kernel_rfl)) (by kernel_rfl) (by kernel_rfl)
theorem auditSame_glob0 {w : World} (h : laidMetH Tryz.prog auditSame_laid w) : Cell (kdArr .u32 8) (snapW w) 0 0 gl_First :=
 glob_cell (t := 207) (e := 42) "inspeximus/api.First" h (by kernel_rfl) (show ("inspeximus/api.First", Rows.laid_inspeximus_api_First) ∈ auditSame_laid by simp [auditSame_laid]) (by kernel_rfl) (by kernel_rfl) (by kernel_rfl) (by kernel_rfl) (by kernel_rfl) (by kernel_rfl) (by kernel_rfl)
theorem auditSame_glob1 {w : World} (h : laidMetH Tryz.prog auditSame_laid w) : Cell (kdArr .u32 64) (snapW w) 1 0 gl_K :=
 glob_cell (t := 252) (e := 42) "inspeximus/api.K" h (by kernel_rfl) (show ("inspeximus/api.K", Rows.laid_inspeximus_api_K) ∈ auditSame_laid by simp [auditSame_laid]) (by kernel_rfl) (by kernel_rfl) (by kernel_rfl) (by kernel_rfl) (by kernel_rfl) (by kernel_rfl) (by kernel_rfl)
set_option maxRecDepth 100000 in
theorem auditSame_lifted (os : Os) (started : os.Started) (H : Type) (enc : TypeId × Value → H) :
  ReturnsInHanded {} Tryz.checked os 3 .any (fun w args => (Rows.auditSameSpec.pre enc Tryz.prog Tryz.f3 [] false w args ∧ laidMetH Tryz.prog auditSame_laid w) ∧ sizedMet enc Tryz.prog Tryz.f3 (OpenSpec.ofChange Rows.auditSameSpec) false w args) (Rows.auditSameSpec.post enc Tryz.prog Tryz.f3 false true false false) := by
 refine returnsInHanded_of_change_and (C := Tryz.checked) (X := fun w _ => laidMetH Tryz.prog auditSame_laid w) (fun _ _ _ hh h => h.of_heap hh) auditSame_own started (by kernel_rfl) Tryz.func3
  (ChangeSpec.witness_shaped (enc := enc) (C := Tryz.checked) (os := os) (X := fun w _ => laidMetH Tryz.prog auditSame_laid w) false (World.doorLaid Tryz.prog 400 os) #[.agg #[.int .i64 0, .slice none 0 0, .slice none 0 0], .agg #[.int .i64 0, .slice none 0 0, .slice none 0 0], .int .i64 0] 8 rfl (World.shaped_of_RefB (by kernel_rfl) (by kernel_rfl)) (by kernel_rfl) (by kernel_rfl) (by kernel_rfl) (auditSame_met os _)) ?_
 intro W base args ds gs before hval0 hW _ hcnd hLaid _
 have hval : ∀ (j : Nat) t v, Tryz.f3.params[j]? = some t → args[j]? = some v → Value.okWide Tryz.prog W .any base t v := hval0
 have hW' : DataW.Whole enc Tryz.prog Tryz.f3.params.toList Rows.auditSameSpec.vars false W args.toList ds gs before := hW
 obtain ⟨p, q, hA0, hV, rfl, hfz, hnd⟩ := hW
 have hA : DataW.TrodAll enc Tryz.prog W 0 (fun _ => true) true Tryz.f3.params.toList args.toList ds p := hA0
 clear hA0 hval0 hcnd hfz hnd
 rw [Tryz.params3] at hA hval
 obtain ⟨rfl, rfl⟩ := trodVars_none hV
 obtain ⟨v0, vs0, d0, ds0, p0, q0, ha0, rfl, rfl, h0, hA0⟩ := Go.Sep.trodAll_cons hA
 obtain ⟨v1, vs1, d1, ds1, p1, q1, rfl, rfl, rfl, h1, hA1⟩ := Go.Sep.trodAll_cons hA0
 obtain ⟨v2, vs2, d2, ds2, p2, q2, rfl, rfl, rfl, h2, hA2⟩ := Go.Sep.trodAll_cons hA1
 obtain ⟨rfl, rfl, rfl⟩ := Go.Sep.trodAll_nil hA2
 obtain rfl := args_of ha0
 clear ha0 hA
 obtain ⟨x0, cs0, rfl, r0, o0⟩ := arg_agg opens_T_api_Verdict (by kernel_rfl) (hval 0 26 v0 rfl rfl) h0
 obtain ⟨x1, cs1, rfl, r1, o1⟩ := arg_agg opens_T_api_Verdict (by kernel_rfl) (hval 1 26 v1 rfl rfl) h1
 obtain ⟨x2, rfl, o2⟩ := arg_int (k := .i64) (show Tryz.prog.underlying 3 = some (.int .i64) by kernel_rfl) (hval 2 3 v2 rfl rfl) h2
 have hlaw := law_AuditSame (K := 1000000000000) rfl x0 x1 x2
 refine (callsIn_wide.1 (vok_row (T := TD) (P := Tryz.prog) (G := GD) [(.st 1), (.st 1), (.int .i64)] (p := (x0, x1, x2)) (v_inspeximuslaw19_AuditSame (K := 1000000000000)) hlaw (glo_cons (auditSame_glob0 hLaid) (glo_cons (auditSame_glob1 hLaid) glo_nil)) (vu_cons (ag_a rfl r0) (vu_cons (ag_a rfl r1) (vu_one (ag_v rfl rfl)))) (st_start W))).mono ?_
 rintro e W' ⟨v, rfl, D1, rfl, hS⟩
 exact ⟨_, rfl, post_same0 hW' rfl auditSame_laidOut (by kernel_rfl) rfl rfl (fun _ _ _ => trodAll_mk1 (shut_bool (by kernel_rfl) true)) (stp_below hS)⟩
theorem auditSame_holds : Rows.AuditSameSaid :=
 OpenClaim.holds_of_wide 3 Tryz.f3 rfl rfl rfl rfl rfl rfl rfl ⟨rfl, rfl, rfl, rfl, rfl⟩ rfl rfl rfl rfl rfl (by kernel_rfl) Tryz.func3 (by kernel_rfl)
  (of_decide_eq_true (by kernel_rfl)) (by unfold Func.isWrapper; first | (rw [if_pos (by decide +kernel)]; kernel_rfl) | (rw [if_neg (by decide +kernel)]; exact ⟨rfl, rfl⟩))
  (fun os started H enc _ => auditSame_lifted os started H enc)
theorem auditSameCard_holds : Rows.AuditSameCardSaid :=
 Claim7.holds_tied_plain_at .later [] [.data, .data] true (true, "f58eb9baf4613839a835c41ab4429e80f7a3e5f8eb58c59cd321303fa110546e") true
  auditSame_holds (fun _ h => by cases h) (by kernel_rfl) (fun _ h => by cases h) auditSame_row_tie rfl ⟨rfl, rfl⟩ (by kernel_rfl) rfl
  (fun f fn hf hfn => by
   obtain rfl : f = 3 := Option.some.inj ((show Tryz.prog.funcNamed "inspeximus/inspeximuslaw19.AuditSame" = some 3 by kernel_rfl).symm.trans hf) |>.symm
   obtain rfl : fn = Tryz.f3 := (Option.some.inj (Tryz.func3.symm.trans hfn)).symm
   exact ⟨by kernel_rfl, fun j t ht => by
    rw [Tryz.params3] at ht
    have hm : t ∈ [26, 26, 3] := by simpa using Array.mem_of_getElem? ht
    have hall : ([26, 26, 3].all fun u => !Tryz.prog.wantsStandIn u) = true := by kernel_rfl
    exact (show Tryz.prog.wantsStandIn t = false by simpa using List.all_eq_true.1 hall t hm)⟩)
  (by kernel_rfl)
end Go.Proofs.YtomndohdnfebgaaGreatDoor
