/-
 Proved: for every input 'inspeximus/inspeximuslaw09.LogActs' returns true, and each argument reads behind the call as it read before it.
 Conditions: none beside those that the given row states.
-/
import Derived.Test.YthnfokfankaenaaDoorRows
import Derived.Test.YthnfokfankaenaaDoorLLogActsW2
import Derived.Test.YthnfokfankaenaaDoorPureZLogActs
import Derived.Test.YthnfokfankaenaaDoorSepK
import Derived.Test.YthnfokfankaenaaDoorTie
import Derived.Test.YthnfokfankaenaaDoorCards
import Derived.LaidMore
import Derived.Stop.Joined
import Derived.SevenTiedAt
set_option linter.unusedVariables false
namespace Go.Proofs.YthnfokfankaenaaDoor
open Go Go.Sep Go.ChangeShapes Go.WideShapes Go.ChangeAt Go.RowKit
theorem logActs_own : ownKnob Tryd.prog.godebug = none := by kernel_rfl
theorem logActs_laidOut : laidOutB Tryd.prog = true := by kernel_rfl
def ok_T_inspeximusref08_Act (x : T_inspeximusref08_Act) : Prop := inR .i64 x.fKind ∧ inR .i64 x.fN ∧ ((x.fB).length ≤ maxLen ∧ ∀ y ∈ x.fB, inR .u8 y)
theorem opens_T_inspeximusref08_Act : Opens kd_T_inspeximusref08_Act Tryd.prog 39 ok_T_inspeximusref08_Act :=
 Opens_type (n := 3) (t := 39) (fun y => ⟨y.1, y.2.1, y.2.2⟩) (fun _ => rfl) (by kernel_rfl) (by kernel_rfl) (OpensF_next (K := (kdInt .i64)) (t := 39) (ft := 3) (off := 0) (off' := 1) 0 (by kernel_rfl) (Opens_int (P := Tryd.prog) (t := 3) (k := .i64) (by kernel_rfl)) (by kernel_rfl) (by kernel_rfl) (OpensF_next (K := (kdInt .i64)) (t := 39) (ft := 3) (off := 1) (off' := 2) 1 (by kernel_rfl) (Opens_int (P := Tryd.prog) (t := 3) (k := .i64) (by kernel_rfl)) (by kernel_rfl) (by kernel_rfl) (OpensF_last (n := 0) (K := (kdSlice (kdInt .u8))) (t := 39) (ft := 33) (off := 2) 2 (by kernel_rfl) (by kernel_rfl) (Opens_slice (P := Tryd.prog) (t := 33) (e := 5) (by kernel_rfl) (by kernel_rfl) (Opens_int (P := Tryd.prog) (t := 5) (k := .u8) (by kernel_rfl))) (by kernel_rfl)))) (fun _ h => h)
def logActs_laid : List (String × DataW Unit) := [("inspeximus/api.K", Rows.laid_inspeximus_api_K), ("inspeximus/api.First", Rows.laid_inspeximus_api_First)]
theorem logActs_met (os : Os) (args : Array Value) : laidMetH Tryd.prog logActs_laid ((World.doorLaid Tryd.prog 400 os).forCall (fun _ _ => 0) ⟨#[], args, []⟩).memory :=
 laidMetH_of_parts3 (fuel := 8) (laidMet_of_run' 8 (by kernel_rfl) (by kernel_rfl)) (by kernel_rfl) (by kernel_rfl)
theorem logActs_glob0 {w : World} (h : laidMetH Tryd.prog logActs_laid w) : Cell (kdArr .u32 8) (snapW w) 0 0 gl_First :=
 glob_cell (t := 98) (e := 97) "inspeximus/api.First" h (by kernel_rfl) (show ("inspeximus/api.First", Rows.laid_inspeximus_api_First) ∈ logActs_laid by simp [logActs_laid]) (by kernel_rfl) (by kernel_rfl) (by kernel_rfl) (by kernel_rfl) (by kernel_rfl) (by kernel_rfl) (by kernel_rfl)
theorem logActs_glob1 {w : World} (h : laidMetH Tryd.prog logActs_laid w) : Cell (kdArr .u32 64) (snapW w) 1 0 gl_K :=
 glob_cell (t := 114) (e := 97) "inspeximus/api.K" h (by kernel_rfl) (show ("inspeximus/api.K", Rows.laid_inspeximus_api_K) ∈ logActs_laid by simp [logActs_laid]) (by kernel_rfl) (by kernel_rfl) (by kernel_rfl) (by kernel_rfl) (by kernel_rfl) (by kernel_rfl) (by kernel_rfl)
set_option maxRecDepth 100000 in
theorem logActs_lifted (os : Os) (started : os.Started) (H : Type) (enc : TypeId × Value → H) :
  ReturnsInHanded {} Tryd.checked os 3 .any (fun w args => (Rows.logActsSpec.pre enc Tryd.prog Tryd.f3 [] false w args ∧ laidMetH Tryd.prog logActs_laid w) ∧ sizedMet enc Tryd.prog Tryd.f3 (OpenSpec.ofChange Rows.logActsSpec) false w args) (Rows.logActsSpec.post enc Tryd.prog Tryd.f3 false true false false) := by
 refine returnsInHanded_of_change_and (C := Tryd.checked) (X := fun w _ => laidMetH Tryd.prog logActs_laid w) (fun _ _ _ hh h => h.of_heap hh) logActs_own started (by kernel_rfl) Tryd.func3
  (ChangeSpec.witness_shaped (enc := enc) (C := Tryd.checked) (os := os) (X := fun w _ => laidMetH Tryd.prog logActs_laid w) false (World.doorLaid Tryd.prog 400 os) #[.int .i64 0, .slice none 0 0] 8 rfl (World.shaped_of_RefB (by kernel_rfl) (by kernel_rfl)) (by kernel_rfl) (by kernel_rfl) (by kernel_rfl) (logActs_met os _)) ?_
 intro W base args ds gs before hval0 hW _ hcnd hLaid _
 have hval : ∀ (j : Nat) t v, Tryd.f3.params[j]? = some t → args[j]? = some v → Value.okWide Tryd.prog W .any base t v := hval0
 have hW' : DataW.Whole enc Tryd.prog Tryd.f3.params.toList Rows.logActsSpec.vars false W args.toList ds gs before := hW
 obtain ⟨p, q, hA0, hV, rfl, hfz, hnd⟩ := hW
 have hA : DataW.TrodAll enc Tryd.prog W 0 (fun _ => true) true Tryd.f3.params.toList args.toList ds p := hA0
 clear hA0 hval0 hcnd hfz hnd
 rw [Tryd.params3] at hA hval
 obtain ⟨rfl, rfl⟩ := trodVars_none hV
 obtain ⟨v0, vs0, d0, ds0, p0, q0, ha0, rfl, rfl, h0, hA0⟩ := Go.Sep.trodAll_cons hA
 obtain ⟨v1, vs1, d1, ds1, p1, q1, rfl, rfl, rfl, h1, hA1⟩ := Go.Sep.trodAll_cons hA0
 obtain ⟨rfl, rfl, rfl⟩ := Go.Sep.trodAll_nil hA1
 obtain rfl := args_of ha0
 clear ha0 hA
 obtain ⟨x0, rfl, o0⟩ := arg_int (k := .i64) (show Tryd.prog.underlying 3 = some (.int .i64) by kernel_rfl) (hval 0 3 v0 rfl rfl) h0
 obtain ⟨Ar1, cr1, x1, rfl, s1, m1, o1⟩ := arg_slice (e := 39) (show Tryd.prog.underlying 22 = some (.slice 39) by kernel_rfl) (by kernel_rfl) opens_T_inspeximusref08_Act (hval 1 22 v1 rfl rfl) h1
 have hlaw := law_LogActs (K := 1000000000000) rfl x0 x1 (fun a ha x hx => inR_u8 ((o1 a ha).2.2.2 x hx))
 refine (callsIn_wide.1 (inspeximuslaw09_LogActs.calls hlaw (st_start W) s1 (logActs_glob0 hLaid) (logActs_glob1 hLaid))).mono ?_
 rintro e W' ⟨v, rfl, D1, rfl, hS⟩
 exact ⟨_, rfl, post_same0 hW' rfl logActs_laidOut (by kernel_rfl) rfl rfl (fun _ _ _ => trodAll_mk1 (shut_bool (by kernel_rfl) true)) (stp_below hS)⟩
theorem logActs_holds : Rows.LogActsSaid :=
 OpenClaim.holds_of_wide 3 Tryd.f3 rfl rfl rfl rfl rfl rfl rfl ⟨rfl, rfl, rfl, rfl, rfl⟩ rfl rfl rfl rfl rfl (by kernel_rfl) Tryd.func3 (by kernel_rfl)
  (of_decide_eq_true (by kernel_rfl)) (by unfold Func.isWrapper; first | (rw [if_pos (by decide +kernel)]; kernel_rfl) | (rw [if_neg (by decide +kernel)]; exact ⟨rfl, rfl⟩))
  (fun os started H enc _ => logActs_lifted os started H enc)
theorem logActsCard_holds : Rows.LogActsCardSaid :=
 Claim7.holds_tied_plain_at .later [] [.data, .data] true (true, "b7c3601736d21fd416bd6817485523f638b7d2b808dc9f20fa66d54e4ab22f40") false
  logActs_holds (fun _ h => by cases h) (by kernel_rfl) (fun _ h => by cases h) logActs_row_tie rfl ⟨rfl, rfl⟩ (by kernel_rfl) rfl
  (fun f fn hf hfn => by
   obtain rfl : f = 3 := Option.some.inj ((show Tryd.prog.funcNamed "inspeximus/inspeximuslaw09.LogActs" = some 3 by kernel_rfl).symm.trans hf) |>.symm
   obtain rfl : fn = Tryd.f3 := (Option.some.inj (Tryd.func3.symm.trans hfn)).symm
   exact ⟨by kernel_rfl, fun j t ht => by
    rw [Tryd.params3] at ht
    have hm : t ∈ [3, 22] := by simpa using Array.mem_of_getElem? ht
    have hall : ([3, 22].all fun u => !Tryd.prog.wantsStandIn u) = true := by kernel_rfl
    exact (show Tryd.prog.wantsStandIn t = false by simpa using List.all_eq_true.1 hall t hm)⟩)
  (by kernel_rfl)
end Go.Proofs.YthnfokfankaenaaDoor
