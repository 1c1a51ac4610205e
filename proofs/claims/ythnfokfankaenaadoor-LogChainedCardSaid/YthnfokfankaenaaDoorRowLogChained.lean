/-
  Proved: for every input 'inspeximus/inspeximuslaw09.LogChained' returns true, and each argument reads behind the call as it read before it.
  Conditions: none beside those that the given row states.
-/
import Derived.Test.YthnfokfankaenaaDoorRows
import Derived.Test.YthnfokfankaenaaDoorLLogChainedW1
import Derived.Test.YthnfokfankaenaaDoorPureZLogChained
import Derived.Test.YthnfokfankaenaaDoorSepK
import Derived.Test.YthnfokfankaenaaDoorTie
import Derived.Test.YthnfokfankaenaaDoorCards
import Derived.LaidMore
import Derived.Stop.Joined
import Derived.SevenTiedAt
set_option linter.unusedVariables false
namespace Go.Proofs.YthnfokfankaenaaDoor
open Go Go.Sep Go.ChangeShapes Go.WideShapes Go.ChangeAt Go.RowKit

theorem logChained_own : ownKnob Tryd.prog.godebug = none := by kernel_rfl
theorem logChained_laidOut : laidOutB Tryd.prog = true := by kernel_rfl

def logChained_laid : List (String × DataW Unit) := [("inspeximus/api.K", Rows.laid_inspeximus_api_K), ("inspeximus/api.First", Rows.laid_inspeximus_api_First)]
theorem logChained_met (os : Os) (args : Array Value) : laidMetH Tryd.prog logChained_laid ((World.doorLaid Tryd.prog 400 os).forCall (fun _ _ => 0) ⟨#[], args, []⟩).memory :=
  laidMetH_of_parts3 (fuel := 8) (laidMet_of_run' 8 (by kernel_rfl) (by kernel_rfl)) (by kernel_rfl) (by kernel_rfl)
theorem logChained_glob0 {w : World} (h : laidMetH Tryd.prog logChained_laid w) : Cell (kdArr .u32 8) (snapW w) 0 0 gl_First :=
  glob_cell (t := 98) (e := 97) "inspeximus/api.First" h (by kernel_rfl) (show ("inspeximus/api.First", Rows.laid_inspeximus_api_First) ∈ logChained_laid by simp [logChained_laid]) (by kernel_rfl) (by kernel_rfl) (by kernel_rfl) (by kernel_rfl) (by kernel_rfl) (by kernel_rfl) (by kernel_rfl)
theorem logChained_glob1 {w : World} (h : laidMetH Tryd.prog logChained_laid w) : Cell (kdArr .u32 64) (snapW w) 1 0 gl_K :=
  glob_cell (t := 114) (e := 97) "inspeximus/api.K" h (by kernel_rfl) (show ("inspeximus/api.K", Rows.laid_inspeximus_api_K) ∈ logChained_laid by simp [logChained_laid]) (by kernel_rfl) (by kernel_rfl) (by kernel_rfl) (by kernel_rfl) (by kernel_rfl) (by kernel_rfl) (by kernel_rfl)

set_option maxRecDepth 100000 in
theorem logChained_lifted (os : Os) (started : os.Started) (H : Type) (enc : TypeId × Value → H) :
    ReturnsInHanded {} Tryd.checked os 6 .any (fun w args => (Rows.logChainedSpec.pre enc Tryd.prog Tryd.f6 [] false w args ∧ laidMetH Tryd.prog logChained_laid w) ∧ sizedMet enc Tryd.prog Tryd.f6 (OpenSpec.ofChange Rows.logChainedSpec) false w args) (Rows.logChainedSpec.post enc Tryd.prog Tryd.f6 false true false false) := by
  refine returnsInHanded_of_change_and (C := Tryd.checked) (X := fun w _ => laidMetH Tryd.prog logChained_laid w) (fun _ _ _ hh h => h.of_heap hh) logChained_own started (by kernel_rfl) Tryd.func6
    (ChangeSpec.witness_shaped (enc := enc) (C := Tryd.checked) (os := os) (X := fun w _ => laidMetH Tryd.prog logChained_laid w) false (World.doorLaid Tryd.prog 400 os) #[.slice none 0 0] 8 rfl (World.shaped_of_RefB (by kernel_rfl) (by kernel_rfl)) (by kernel_rfl) (by kernel_rfl) (by kernel_rfl) (logChained_met os _)) ?_
  intro W base args ds gs before hval0 hW _ hcnd hLaid _
  have hval : ∀ (j : Nat) t v, Tryd.f6.params[j]? = some t → args[j]? = some v → Value.okWide Tryd.prog W .any base t v := hval0
  have hW' : DataW.Whole enc Tryd.prog Tryd.f6.params.toList Rows.logChainedSpec.vars false W args.toList ds gs before := hW
  obtain ⟨p, q, hA0, hV, rfl, hfz, hnd⟩ := hW
  have hA : DataW.TrodAll enc Tryd.prog W 0 (fun _ => true) true Tryd.f6.params.toList args.toList ds p := hA0
  clear hA0 hval0 hcnd hfz hnd
  rw [Tryd.params6] at hA hval
  obtain ⟨rfl, rfl⟩ := trodVars_none hV
  obtain ⟨v0, vs0, d0, ds0, p0, q0, ha0, rfl, rfl, h0, hA0⟩ := Go.Sep.trodAll_cons hA
  obtain ⟨rfl, rfl, rfl⟩ := Go.Sep.trodAll_nil hA0
  obtain rfl := args_of ha0
  clear ha0 hA
  obtain ⟨Ar0, cr0, x0, rfl, s0, m0, o0⟩ := arg_slice (e := 33) (show Tryd.prog.underlying 26 = some (.slice 33) by kernel_rfl) (by kernel_rfl) (Opens_slice (P := Tryd.prog) (t := 33) (e := 5) (by kernel_rfl) (by kernel_rfl) (Opens_int (P := Tryd.prog) (t := 5) (k := .u8) (by kernel_rfl))) (hval 0 26 v0 rfl rfl) h0
  have hlaw := law_LogChained (K := 1000000000000) rfl x0 (fun b hb x hx => inR_u8 ((o0 b hb).2 x hx))
  refine (callsIn_wide.1 (inspeximuslaw09_LogChained.calls hlaw (st_start W) s0 (logChained_glob0 hLaid) (logChained_glob1 hLaid))).mono ?_
  rintro e W' ⟨v, rfl, D1, rfl, hS⟩
  exact ⟨_, rfl, post_same0 hW' rfl logChained_laidOut (by kernel_rfl) rfl rfl (fun _ _ _ => trodAll_mk1 (shut_bool (by kernel_rfl) true)) (stp_below hS)⟩

theorem logChained_holds : Rows.LogChainedSaid :=
  OpenClaim.holds_of_wide 6 Tryd.f6 rfl rfl rfl rfl rfl rfl rfl ⟨rfl, rfl, rfl, rfl, rfl⟩ rfl rfl rfl rfl rfl (by kernel_rfl) Tryd.func6 (by kernel_rfl)
    (of_decide_eq_true (by kernel_rfl)) (by unfold Func.isWrapper; first | (rw [if_pos (by decide +kernel)]; kernel_rfl) | (rw [if_neg (by decide +kernel)]; exact ⟨rfl, rfl⟩))
    (fun os started H enc _ => logChained_lifted os started H enc)

theorem logChainedCard_holds : Rows.LogChainedCardSaid :=
  Claim7.holds_tied_plain_at .later [] [.data, .data] true (true, "b7c3601736d21fd416bd6817485523f638b7d2b808dc9f20fa66d54e4ab22f40") false
    logChained_holds (fun _ h => by cases h) (by kernel_rfl) (fun _ h => by cases h) logChained_row_tie rfl ⟨rfl, rfl⟩ (by kernel_rfl) rfl
    (fun f fn hf hfn => by
      obtain rfl : f = 6 := Option.some.inj ((show Tryd.prog.funcNamed "inspeximus/inspeximuslaw09.LogChained" = some 6 by kernel_rfl).symm.trans hf) |>.symm
      obtain rfl : fn = Tryd.f6 := (Option.some.inj (Tryd.func6.symm.trans hfn)).symm
      exact ⟨by kernel_rfl, fun j t ht => by
        rw [Tryd.params6] at ht
        have hm : t ∈ [26] := by simpa using Array.mem_of_getElem? ht
        have hall : ([26].all fun u => !Tryd.prog.wantsStandIn u) = true := by kernel_rfl
        exact (show Tryd.prog.wantsStandIn t = false by simpa using List.all_eq_true.1 hall t hm)⟩)
    (by kernel_rfl)
end Go.Proofs.YthnfokfankaenaaDoor
