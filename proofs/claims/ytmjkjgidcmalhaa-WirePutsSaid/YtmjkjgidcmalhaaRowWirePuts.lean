/-
  Proved: for every input 'inspeximus/inspeximuslaw03.WirePuts' returns true, and each argument reads behind the call as it read before it.
  Conditions: none beside those that the given row states.
-/
import Derived.Test.YtmjkjgidcmalhaaRows
import Derived.Test.YtmjkjgidcmalhaaWireW2
import Derived.Test.YtmjkjgidcmalhaaPureL
import Derived.Test.YtmjkjgidcmalhaaSepK
set_option linter.unusedVariables false
namespace Go.Proofs.Ytmjkjgidcmalhaa
open Go Go.Sep Go.ChangeShapes Go.WideShapes Go.ChangeAt Go.RowKit

theorem wirePuts_own : ownKnob Try.prog.godebug = none := by kernel_rfl
theorem wirePuts_laidOut : laidOutB Try.prog = true := by kernel_rfl

set_option maxRecDepth 100000 in
theorem wirePuts_lifted (os : Os) (started : os.Started) (H : Type) (enc : TypeId × Value → H) :
    ReturnsInHanded {} Try.checked os 3 .any (Rows.wirePutsSpec.pre6 enc Try.prog Try.f3 Rows.wirePutsRow.domain false) (Rows.wirePutsSpec.post enc Try.prog Try.f3 false true false false) := by
  refine returnsInHanded_of_change (C := Try.checked) wirePuts_own started (by kernel_rfl) Try.func3
    (ChangeSpec.witness6 (enc := enc) (C := Try.checked) false ⟨#[], #[.int .i64 0, .bool false, .slice none 0 0, .agg #[.int .u8 0, .int .u8 0, .int .u8 0, .int .u8 0, .int .u8 0, .int .u8 0, .int .u8 0, .int .u8 0, .int .u8 0, .int .u8 0, .int .u8 0, .int .u8 0, .int .u8 0, .int .u8 0, .int .u8 0, .int .u8 0, .int .u8 0, .int .u8 0, .int .u8 0, .int .u8 0, .int .u8 0, .int .u8 0, .int .u8 0, .int .u8 0, .int .u8 0, .int .u8 0, .int .u8 0, .int .u8 0, .int .u8 0, .int .u8 0, .int .u8 0, .int .u8 0]], []⟩ 8 (by kernel_rfl) (by kernel_rfl) (by kernel_rfl) (by kernel_rfl)) ?_
  intro W base args ds gs before hval0 hW hcnd _
  have hval : ∀ (j : Nat) t v, Try.f3.params[j]? = some t → args[j]? = some v → Value.okWide Try.prog W .any base t v := hval0
  have hW' : DataW.Whole enc Try.prog Try.f3.params.toList Rows.wirePutsSpec.vars false W args.toList ds gs before := hW
  obtain ⟨p, q, hA0, hV, rfl, hfz, hnd⟩ := hW
  have hA : DataW.TrodAll enc Try.prog W 0 (fun _ => true) true Try.f3.params.toList args.toList ds p := hA0
  clear hA0 hval0 hcnd hfz hnd
  rw [Try.params3] at hA hval
  obtain ⟨rfl, rfl⟩ := trodVars_none hV
  obtain ⟨v0, vs0, d0, ds0, p0, q0, ha0, rfl, rfl, h0, hA0⟩ := Go.Sep.trodAll_cons hA
  obtain ⟨v1, vs1, d1, ds1, p1, q1, rfl, rfl, rfl, h1, hA1⟩ := Go.Sep.trodAll_cons hA0
  obtain ⟨v2, vs2, d2, ds2, p2, q2, rfl, rfl, rfl, h2, hA2⟩ := Go.Sep.trodAll_cons hA1
  obtain ⟨v3, vs3, d3, ds3, p3, q3, rfl, rfl, rfl, h3, hA3⟩ := Go.Sep.trodAll_cons hA2
  obtain ⟨rfl, rfl, rfl⟩ := Go.Sep.trodAll_nil hA3
  obtain rfl := args_of ha0
  clear ha0 hA
  obtain ⟨x0, rfl, o0⟩ := arg_int (k := .i64) (show Try.prog.underlying 3 = some (.int .i64) by kernel_rfl) (hval 0 3 v0 rfl rfl) h0
  obtain ⟨x1, rfl⟩ := arg_bool (show Try.prog.underlying 4 = some .bool by kernel_rfl) (hval 1 4 v1 rfl rfl)
  obtain ⟨A2, c2, x2, rfl, s2, m2, o2⟩ := arg_slice (e := 5) (show Try.prog.underlying 22 = some (.slice 5) by kernel_rfl) (by kernel_rfl) (Opens_int (P := Try.prog) (t := 5) (k := .u8) (by kernel_rfl)) (hval 2 22 v2 rfl rfl) h2
  obtain ⟨x3, cs3, rfl, rfl, o3⟩ := arg_agg (Opens_arr (P := Try.prog) (t := 24) (e := 5) (k := .u8) (N := 32) (by kernel_rfl) (by kernel_rfl) (by kernel_rfl) (by kernel_rfl)) (by kernel_rfl) (hval 3 24 v3 rfl rfl) h3
  have hlaw := law_WirePuts (K := 1000000000000) (Nat.le_refl _) x0 x1 x2 x3
  refine (callsIn_wide.1 (inspeximuslaw03_WirePuts.calls hlaw (st_start W) s2)).mono ?_
  rintro e W' ⟨v, rfl, D1, rfl, hS⟩
  exact ⟨_, rfl, post_same0 hW' rfl wirePuts_laidOut (by kernel_rfl) rfl rfl (fun _ _ _ => trodAll_mk1 (shut_bool (by kernel_rfl) true)) (stp_below hS)⟩

theorem wirePuts_holds : Rows.WirePutsSaid :=
  OpenClaim.holds_of_wide 3 Try.f3 rfl rfl rfl rfl rfl rfl rfl ⟨rfl, rfl, rfl, rfl, rfl⟩ rfl rfl rfl rfl rfl (by kernel_rfl) Try.func3 (by kernel_rfl)
    (of_decide_eq_true (by kernel_rfl)) (by unfold Func.isWrapper; first | (rw [if_pos (by decide +kernel)]; kernel_rfl) | (rw [if_neg (by decide +kernel)]; exact ⟨rfl, rfl⟩))
    (fun os started H enc _ => wirePuts_lifted os started H enc)
end Go.Proofs.Ytmjkjgidcmalhaa
