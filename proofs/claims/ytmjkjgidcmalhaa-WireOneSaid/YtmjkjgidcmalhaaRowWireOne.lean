/-
  Proved: for every input 'inspeximus/inspeximuslaw03.WireOne' returns true, and each argument reads behind the call as it read before it.
  Conditions: none beside those that the given row states.
-/
import Derived.Test.YtmjkjgidcmalhaaRows
import Derived.Test.YtmjkjgidcmalhaaWireW2
import Derived.Test.YtmjkjgidcmalhaaPureL
import Derived.Test.YtmjkjgidcmalhaaSepK
set_option linter.unusedVariables false
namespace Go.Proofs.Ytmjkjgidcmalhaa
open Go Go.Sep Go.ChangeShapes Go.WideShapes Go.ChangeAt Go.RowKit

theorem wireOne_own : ownKnob Try.prog.godebug = none := by kernel_rfl
theorem wireOne_laidOut : laidOutB Try.prog = true := by kernel_rfl

set_option maxRecDepth 100000 in
theorem wireOne_lifted (os : Os) (started : os.Started) (H : Type) (enc : TypeId × Value → H) :
    ReturnsInHanded {} Try.checked os 5 .any (Rows.wireOneSpec.pre6 enc Try.prog Try.f5 Rows.wireOneRow.domain false) (Rows.wireOneSpec.post enc Try.prog Try.f5 false true false false) := by
  refine returnsInHanded_of_change (C := Try.checked) wireOne_own started (by kernel_rfl) Try.func5
    (ChangeSpec.witness6 (enc := enc) (C := Try.checked) false ⟨#[], #[.slice none 0 0], []⟩ 8 (by kernel_rfl) (by kernel_rfl) (by kernel_rfl) (by kernel_rfl)) ?_
  intro W base args ds gs before hval0 hW hcnd _
  have hval : ∀ (j : Nat) t v, Try.f5.params[j]? = some t → args[j]? = some v → Value.okWide Try.prog W .any base t v := hval0
  have hW' : DataW.Whole enc Try.prog Try.f5.params.toList Rows.wireOneSpec.vars false W args.toList ds gs before := hW
  obtain ⟨p, q, hA0, hV, rfl, hfz, hnd⟩ := hW
  have hA : DataW.TrodAll enc Try.prog W 0 (fun _ => true) true Try.f5.params.toList args.toList ds p := hA0
  clear hA0 hval0 hcnd hfz hnd
  rw [Try.params5] at hA hval
  obtain ⟨rfl, rfl⟩ := trodVars_none hV
  obtain ⟨v0, vs0, d0, ds0, p0, q0, ha0, rfl, rfl, h0, hA0⟩ := Go.Sep.trodAll_cons hA
  obtain ⟨rfl, rfl, rfl⟩ := Go.Sep.trodAll_nil hA0
  obtain rfl := args_of ha0
  clear ha0 hA
  obtain ⟨A0, c0, x0, rfl, s0, m0, o0⟩ := arg_slice (e := 5) (show Try.prog.underlying 22 = some (.slice 5) by kernel_rfl) (by kernel_rfl) (Opens_int (P := Try.prog) (t := 5) (k := .u8) (by kernel_rfl)) (hval 0 22 v0 rfl rfl) h0
  have hlaw := law_WireOne (K := 1000000000000) (Nat.le_refl _) x0 (fun x hx => inR_u8 (o0 x hx))
  refine (callsIn_wide.1 (inspeximuslaw03_WireOne.calls hlaw (st_start W) s0)).mono ?_
  rintro e W' ⟨v, rfl, D1, rfl, hS⟩
  exact ⟨_, rfl, post_same0 hW' rfl wireOne_laidOut (by kernel_rfl) rfl rfl (fun _ _ _ => trodAll_mk1 (shut_bool (by kernel_rfl) true)) (stp_below hS)⟩

theorem wireOne_holds : Rows.WireOneSaid :=
  OpenClaim.holds_of_wide 5 Try.f5 rfl rfl rfl rfl rfl rfl rfl ⟨rfl, rfl, rfl, rfl, rfl⟩ rfl rfl rfl rfl rfl (by kernel_rfl) Try.func5 (by kernel_rfl)
    (of_decide_eq_true (by kernel_rfl)) (by unfold Func.isWrapper; first | (rw [if_pos (by decide +kernel)]; kernel_rfl) | (rw [if_neg (by decide +kernel)]; exact ⟨rfl, rfl⟩))
    (fun os started H enc _ => wireOne_lifted os started H enc)
end Go.Proofs.Ytmjkjgidcmalhaa
