/-
  Proved: for every input 'inspeximus/inspeximuslaw17.BundleOne' returns true, and each argument reads behind the call as it read before it.
  Conditions: none beside those that the given row states.
-/
import Derived.Test.YtnnhkfmknlfpbaaRows
import Derived.Test.YtnnhkfmknlfpbaaBuOneW3
import Derived.Test.YtnnhkfmknlfpbaaPureZOne
import Derived.Test.YtnnhkfmknlfpbaaSepK
set_option linter.unusedVariables false
namespace Go.Proofs.Ytnnhkfmknlfpbaa
open Go Go.Sep Go.ChangeShapes Go.WideShapes Go.ChangeAt Go.RowKit

theorem bundleOne_own : ownKnob Try.prog.godebug = none := by kernel_rfl
theorem bundleOne_laidOut : laidOutB Try.prog = true := by kernel_rfl

set_option maxRecDepth 100000 in
theorem bundleOne_lifted (os : Os) (started : os.Started) (H : Type) (enc : TypeId × Value → H) :
    ReturnsInHanded {} Try.checked os 4 .any (Rows.bundleOneSpec.pre6 enc Try.prog Try.f4 Rows.bundleOneRow.domain false) (Rows.bundleOneSpec.post enc Try.prog Try.f4 false true false false) := by
  refine returnsInHanded_of_change (C := Try.checked) bundleOne_own started (by kernel_rfl) Try.func4
    (ChangeSpec.witness6 (enc := enc) (C := Try.checked) false ⟨#[], #[.slice none 0 0, .int .u16 0], []⟩ 8 (by kernel_rfl) (by kernel_rfl) (by kernel_rfl) (by kernel_rfl)) ?_
  intro W base args ds gs before hval0 hW hcnd _
  have hval : ∀ (j : Nat) t v, Try.f4.params[j]? = some t → args[j]? = some v → Value.okWide Try.prog W .any base t v := hval0
  have hW' : DataW.Whole enc Try.prog Try.f4.params.toList Rows.bundleOneSpec.vars false W args.toList ds gs before := hW
  obtain ⟨p, q, hA0, hV, rfl, hfz, hnd⟩ := hW
  have hA : DataW.TrodAll enc Try.prog W 0 (fun _ => true) true Try.f4.params.toList args.toList ds p := hA0
  clear hA0 hval0 hcnd hfz hnd
  rw [Try.params4] at hA hval
  obtain ⟨rfl, rfl⟩ := trodVars_none hV
  obtain ⟨v0, vs0, d0, ds0, p0, q0, ha0, rfl, rfl, h0, hA0⟩ := Go.Sep.trodAll_cons hA
  obtain ⟨v1, vs1, d1, ds1, p1, q1, rfl, rfl, rfl, h1, hA1⟩ := Go.Sep.trodAll_cons hA0
  obtain ⟨rfl, rfl, rfl⟩ := Go.Sep.trodAll_nil hA1
  obtain rfl := args_of ha0
  clear ha0 hA
  obtain ⟨A0, c0, x0, rfl, s0, m0, o0⟩ := arg_slice (e := 5) (show Try.prog.underlying 32 = some (.slice 5) by kernel_rfl) (by kernel_rfl) (Opens_int (P := Try.prog) (t := 5) (k := .u8) (by kernel_rfl)) (hval 0 32 v0 rfl rfl) h0
  obtain ⟨x1, rfl, o1⟩ := arg_int (k := .u16) (show Try.prog.underlying 38 = some (.int .u16) by kernel_rfl) (hval 1 38 v1 rfl rfl) h1
  have hlaw := law_BundleOne (K := 1000000000000) rfl x0 x1 (fun x hx => inR_u8 (o0 x hx)) (inR_u16 o1)
  refine (callsIn_wide.1 (inspeximuslaw17_BundleOne.calls hlaw (st_start W) s0)).mono ?_
  rintro e W' ⟨v, rfl, D1, rfl, hS⟩
  exact ⟨_, rfl, post_same0 hW' rfl bundleOne_laidOut (by kernel_rfl) rfl rfl (fun _ _ _ => trodAll_mk1 (shut_bool (by kernel_rfl) true)) (stp_below hS)⟩

theorem bundleOne_holds : Rows.BundleOneSaid :=
  OpenClaim.holds_of_wide 4 Try.f4 rfl rfl rfl rfl rfl rfl rfl ⟨rfl, rfl, rfl, rfl, rfl⟩ rfl rfl rfl rfl rfl (by kernel_rfl) Try.func4 (by kernel_rfl)
    (of_decide_eq_true (by kernel_rfl)) (by unfold Func.isWrapper; first | (rw [if_pos (by decide +kernel)]; kernel_rfl) | (rw [if_neg (by decide +kernel)]; exact ⟨rfl, rfl⟩))
    (fun os started H enc _ => bundleOne_lifted os started H enc)
end Go.Proofs.Ytnnhkfmknlfpbaa
