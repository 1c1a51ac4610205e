/-
  Proved: for every input 'inspeximus/inspeximuslaw17.BundleSigs' returns true, and each argument reads behind the call as it read before it.
  Conditions: none beside those that the given row states.
-/
import Derived.Test.YtnnhkfmknlfpbaaRows
import Derived.Test.YtnnhkfmknlfpbaaBuSigsW3
import Derived.Test.YtnnhkfmknlfpbaaPureZSigs
import Derived.Test.YtnnhkfmknlfpbaaSepK
set_option linter.unusedVariables false
namespace Go.Proofs.Ytnnhkfmknlfpbaa
open Go Go.Sep Go.ChangeShapes Go.WideShapes Go.ChangeAt Go.RowKit

theorem bundleSigs_own : ownKnob Try.prog.godebug = none := by kernel_rfl
theorem bundleSigs_laidOut : laidOutB Try.prog = true := by kernel_rfl

def ok_T_api_Sig (x : T_api_Sig) : Prop := inR .i64 x.fWit ∧ (∀ i, i < 32 → inR .u8 (vget (x.fTag) i))
theorem opens_T_api_Sig : Opens kd_T_api_Sig Try.prog 43 ok_T_api_Sig :=
  Opens_type (n := 2) (t := 43) (fun y => ⟨y.1, y.2⟩) (fun _ => rfl) (by kernel_rfl) (by kernel_rfl) (OpensF_next (K := (kdInt .i64)) (t := 43) (ft := 3) (off := 0) (off' := 1) 0 (by kernel_rfl) (Opens_int (P := Try.prog) (t := 3) (k := .i64) (by kernel_rfl)) (by kernel_rfl) (by kernel_rfl) (OpensF_last (n := 0) (K := (kdArr .u8 32)) (t := 43) (ft := 23) (off := 1) 1 (by kernel_rfl) (by kernel_rfl) (Opens_arr (P := Try.prog) (t := 23) (e := 5) (k := .u8) (N := 32) (by kernel_rfl) (by kernel_rfl) (by kernel_rfl) (by kernel_rfl)) (by kernel_rfl))) (fun _ h => h)

def ok_T_api_Point (x : T_api_Point) : Prop := inR .i64 x.fSize ∧ (∀ i, i < 32 → inR .u8 (vget (x.fRoot) i)) ∧ ((x.fSigs).length ≤ maxLen ∧ ∀ y ∈ x.fSigs, ok_T_api_Sig (y))
theorem opens_T_api_Point : Opens kd_T_api_Point Try.prog 26 ok_T_api_Point :=
  Opens_type (n := 3) (t := 26) (fun y => ⟨y.1, y.2.1, y.2.2⟩) (fun _ => rfl) (by kernel_rfl) (by kernel_rfl) (OpensF_next (K := (kdInt .i64)) (t := 26) (ft := 3) (off := 0) (off' := 1) 0 (by kernel_rfl) (Opens_int (P := Try.prog) (t := 3) (k := .i64) (by kernel_rfl)) (by kernel_rfl) (by kernel_rfl) (OpensF_next (K := (kdArr .u8 32)) (t := 26) (ft := 23) (off := 1) (off' := 33) 1 (by kernel_rfl) (Opens_arr (P := Try.prog) (t := 23) (e := 5) (k := .u8) (N := 32) (by kernel_rfl) (by kernel_rfl) (by kernel_rfl) (by kernel_rfl)) (by kernel_rfl) (by kernel_rfl) (OpensF_last (n := 0) (K := (kdSlice kd_T_api_Sig)) (t := 26) (ft := 24) (off := 33) 2 (by kernel_rfl) (by kernel_rfl) (Opens_slice (P := Try.prog) (t := 24) (e := 43) (by kernel_rfl) (by kernel_rfl) opens_T_api_Sig) (by kernel_rfl)))) (fun _ h => h)

def ok_T_api_Step (x : T_api_Step) : Prop := inR .i64 x.fPart ∧ inR .i64 x.fKind
theorem opens_T_api_Step : Opens kd_T_api_Step Try.prog 104 ok_T_api_Step :=
  Opens_type (n := 2) (t := 104) (fun y => ⟨y.1, y.2⟩) (fun _ => rfl) (by kernel_rfl) (by kernel_rfl) (OpensF_next (K := (kdInt .i64)) (t := 104) (ft := 3) (off := 0) (off' := 1) 0 (by kernel_rfl) (Opens_int (P := Try.prog) (t := 3) (k := .i64) (by kernel_rfl)) (by kernel_rfl) (by kernel_rfl) (OpensF_last (n := 0) (K := (kdInt .i64)) (t := 104) (ft := 3) (off := 1) 1 (by kernel_rfl) (by kernel_rfl) (Opens_int (P := Try.prog) (t := 3) (k := .i64) (by kernel_rfl)) (by kernel_rfl))) (fun _ h => h)

def ok_T_api_Rec (x : T_api_Rec) : Prop := inR .i64 x.fKind ∧ inR .i64 x.fSaga ∧ inR .i64 x.fSeq ∧ inR .i64 x.fStep ∧ inR .i64 x.fTry ∧ True ∧ True ∧ inR .i64 x.fEnd ∧ inR .i64 x.fPart ∧ inR .i64 x.fEpoch ∧ (∀ i, i < 32 → inR .u8 (vget (x.fTag) i)) ∧ ((x.fSteps).length ≤ maxLen ∧ ∀ y ∈ x.fSteps, ok_T_api_Step (y)) ∧ ((x.fData).length ≤ maxLen ∧ ∀ y ∈ x.fData, inR .u8 y) ∧ (∀ i, i < 32 → inR .u8 (vget (x.fSalt) i)) ∧ True ∧ (∀ i, i < 32 → inR .u8 (vget (x.fCom) i))
theorem opens_T_api_Rec : Opens kd_T_api_Rec Try.prog 47 ok_T_api_Rec :=
  Opens_type (n := 16) (t := 47) (fun y => ⟨y.1, y.2.1, y.2.2.1, y.2.2.2.1, y.2.2.2.2.1, y.2.2.2.2.2.1, y.2.2.2.2.2.2.1, y.2.2.2.2.2.2.2.1, y.2.2.2.2.2.2.2.2.1, y.2.2.2.2.2.2.2.2.2.1, y.2.2.2.2.2.2.2.2.2.2.1, y.2.2.2.2.2.2.2.2.2.2.2.1, y.2.2.2.2.2.2.2.2.2.2.2.2.1, y.2.2.2.2.2.2.2.2.2.2.2.2.2.1, y.2.2.2.2.2.2.2.2.2.2.2.2.2.2.1, y.2.2.2.2.2.2.2.2.2.2.2.2.2.2.2⟩) (fun _ => rfl) (by kernel_rfl) (by kernel_rfl) (OpensF_next (K := (kdInt .i64)) (t := 47) (ft := 3) (off := 0) (off' := 1) 0 (by kernel_rfl) (Opens_int (P := Try.prog) (t := 3) (k := .i64) (by kernel_rfl)) (by kernel_rfl) (by kernel_rfl) (OpensF_next (K := (kdInt .i64)) (t := 47) (ft := 3) (off := 1) (off' := 2) 1 (by kernel_rfl) (Opens_int (P := Try.prog) (t := 3) (k := .i64) (by kernel_rfl)) (by kernel_rfl) (by kernel_rfl) (OpensF_next (K := (kdInt .i64)) (t := 47) (ft := 3) (off := 2) (off' := 3) 2 (by kernel_rfl) (Opens_int (P := Try.prog) (t := 3) (k := .i64) (by kernel_rfl)) (by kernel_rfl) (by kernel_rfl) (OpensF_next (K := (kdInt .i64)) (t := 47) (ft := 3) (off := 3) (off' := 4) 3 (by kernel_rfl) (Opens_int (P := Try.prog) (t := 3) (k := .i64) (by kernel_rfl)) (by kernel_rfl) (by kernel_rfl) (OpensF_next (K := (kdInt .i64)) (t := 47) (ft := 3) (off := 4) (off' := 5) 4 (by kernel_rfl) (Opens_int (P := Try.prog) (t := 3) (k := .i64) (by kernel_rfl)) (by kernel_rfl) (by kernel_rfl) (OpensF_next (K := kdBool) (t := 47) (ft := 4) (off := 5) (off' := 6) 5 (by kernel_rfl) (Opens_bool (P := Try.prog) (t := 4) (by kernel_rfl)) (by kernel_rfl) (by kernel_rfl) (OpensF_next (K := kdBool) (t := 47) (ft := 4) (off := 6) (off' := 7) 6 (by kernel_rfl) (Opens_bool (P := Try.prog) (t := 4) (by kernel_rfl)) (by kernel_rfl) (by kernel_rfl) (OpensF_next (K := (kdInt .i64)) (t := 47) (ft := 3) (off := 7) (off' := 8) 7 (by kernel_rfl) (Opens_int (P := Try.prog) (t := 3) (k := .i64) (by kernel_rfl)) (by kernel_rfl) (by kernel_rfl) (OpensF_next (K := (kdInt .i64)) (t := 47) (ft := 3) (off := 8) (off' := 9) 8 (by kernel_rfl) (Opens_int (P := Try.prog) (t := 3) (k := .i64) (by kernel_rfl)) (by kernel_rfl) (by kernel_rfl) (OpensF_next (K := (kdInt .i64)) (t := 47) (ft := 3) (off := 9) (off' := 10) 9 (by kernel_rfl) (Opens_int (P := Try.prog) (t := 3) (k := .i64) (by kernel_rfl)) (by kernel_rfl) (by kernel_rfl) (OpensF_next (K := (kdArr .u8 32)) (t := 47) (ft := 23) (off := 10) (off' := 42) 10 (by kernel_rfl) (Opens_arr (P := Try.prog) (t := 23) (e := 5) (k := .u8) (N := 32) (by kernel_rfl) (by kernel_rfl) (by kernel_rfl) (by kernel_rfl)) (by kernel_rfl) (by kernel_rfl) (OpensF_next (K := (kdSlice kd_T_api_Step)) (t := 47) (ft := 45) (off := 42) (off' := 43) 11 (by kernel_rfl) (Opens_slice (P := Try.prog) (t := 45) (e := 104) (by kernel_rfl) (by kernel_rfl) opens_T_api_Step) (by kernel_rfl) (by kernel_rfl) (OpensF_next (K := (kdSlice (kdInt .u8))) (t := 47) (ft := 32) (off := 43) (off' := 44) 12 (by kernel_rfl) (Opens_slice (P := Try.prog) (t := 32) (e := 5) (by kernel_rfl) (by kernel_rfl) (Opens_int (P := Try.prog) (t := 5) (k := .u8) (by kernel_rfl))) (by kernel_rfl) (by kernel_rfl) (OpensF_next (K := (kdArr .u8 32)) (t := 47) (ft := 23) (off := 44) (off' := 76) 13 (by kernel_rfl) (Opens_arr (P := Try.prog) (t := 23) (e := 5) (k := .u8) (N := 32) (by kernel_rfl) (by kernel_rfl) (by kernel_rfl) (by kernel_rfl)) (by kernel_rfl) (by kernel_rfl) (OpensF_next (K := kdBool) (t := 47) (ft := 4) (off := 76) (off' := 77) 14 (by kernel_rfl) (Opens_bool (P := Try.prog) (t := 4) (by kernel_rfl)) (by kernel_rfl) (by kernel_rfl) (OpensF_last (n := 0) (K := (kdArr .u8 32)) (t := 47) (ft := 23) (off := 77) 15 (by kernel_rfl) (by kernel_rfl) (Opens_arr (P := Try.prog) (t := 23) (e := 5) (k := .u8) (N := 32) (by kernel_rfl) (by kernel_rfl) (by kernel_rfl) (by kernel_rfl)) (by kernel_rfl))))))))))))))))) (fun _ h => h)

def ok_T_api_Item (x : T_api_Item) : Prop := inR .i64 x.fAt ∧ ok_T_api_Rec (x.fRec) ∧ ((x.fPath).length ≤ maxLen ∧ ∀ y ∈ x.fPath, (∀ i, i < 32 → inR .u8 (vget (y) i)))
theorem opens_T_api_Item : Opens kd_T_api_Item Try.prog 50 ok_T_api_Item :=
  Opens_type (n := 3) (t := 50) (fun y => ⟨y.1, y.2.1, y.2.2⟩) (fun _ => rfl) (by kernel_rfl) (by kernel_rfl) (OpensF_next (K := (kdInt .i64)) (t := 50) (ft := 3) (off := 0) (off' := 1) 0 (by kernel_rfl) (Opens_int (P := Try.prog) (t := 3) (k := .i64) (by kernel_rfl)) (by kernel_rfl) (by kernel_rfl) (OpensF_next (K := kd_T_api_Rec) (t := 50) (ft := 47) (off := 1) (off' := 110) 1 (by kernel_rfl) opens_T_api_Rec (by kernel_rfl) (by kernel_rfl) (OpensF_last (n := 0) (K := (kdSlice (kdArr .u8 32))) (t := 50) (ft := 48) (off := 110) 2 (by kernel_rfl) (by kernel_rfl) (Opens_slice (P := Try.prog) (t := 48) (e := 23) (by kernel_rfl) (by kernel_rfl) (Opens_arr (P := Try.prog) (t := 23) (e := 5) (k := .u8) (N := 32) (by kernel_rfl) (by kernel_rfl) (by kernel_rfl) (by kernel_rfl))) (by kernel_rfl)))) (fun _ h => h)

def ok_T_api_Bundle (x : T_api_Bundle) : Prop := True ∧ ok_T_api_Point (x.fPoint) ∧ ((x.fItems).length ≤ maxLen ∧ ∀ y ∈ x.fItems, ok_T_api_Item (y))
theorem opens_T_api_Bundle : Opens kd_T_api_Bundle Try.prog 29 ok_T_api_Bundle :=
  Opens_type (n := 3) (t := 29) (fun y => ⟨y.1, y.2.1, y.2.2⟩) (fun _ => rfl) (by kernel_rfl) (by kernel_rfl) (OpensF_next (K := kdBool) (t := 29) (ft := 4) (off := 0) (off' := 1) 0 (by kernel_rfl) (Opens_bool (P := Try.prog) (t := 4) (by kernel_rfl)) (by kernel_rfl) (by kernel_rfl) (OpensF_next (K := kd_T_api_Point) (t := 29) (ft := 26) (off := 1) (off' := 35) 1 (by kernel_rfl) opens_T_api_Point (by kernel_rfl) (by kernel_rfl) (OpensF_last (n := 0) (K := (kdSlice kd_T_api_Item)) (t := 29) (ft := 27) (off := 35) 2 (by kernel_rfl) (by kernel_rfl) (Opens_slice (P := Try.prog) (t := 27) (e := 50) (by kernel_rfl) (by kernel_rfl) opens_T_api_Item) (by kernel_rfl)))) (fun _ h => h)

set_option maxRecDepth 100000 in
theorem bundleSigs_lifted (os : Os) (started : os.Started) (H : Type) (enc : TypeId × Value → H) :
    ReturnsInHanded {} Try.checked os 7 .any (Rows.bundleSigsSpec.pre6 enc Try.prog Try.f7 Rows.bundleSigsRow.domain false) (Rows.bundleSigsSpec.post enc Try.prog Try.f7 false true false false) := by
  refine returnsInHanded_of_change (C := Try.checked) bundleSigs_own started (by kernel_rfl) Try.func7
    (ChangeSpec.witness6 (enc := enc) (C := Try.checked) false ⟨#[], #[.agg #[.bool false, .int .i64 0, .int .u8 0, .int .u8 0, .int .u8 0, .int .u8 0, .int .u8 0, .int .u8 0, .int .u8 0, .int .u8 0, .int .u8 0, .int .u8 0, .int .u8 0, .int .u8 0, .int .u8 0, .int .u8 0, .int .u8 0, .int .u8 0, .int .u8 0, .int .u8 0, .int .u8 0, .int .u8 0, .int .u8 0, .int .u8 0, .int .u8 0, .int .u8 0, .int .u8 0, .int .u8 0, .int .u8 0, .int .u8 0, .int .u8 0, .int .u8 0, .int .u8 0, .int .u8 0, .slice none 0 0, .slice none 0 0], .int .i64 0, .agg #[.int .u8 0, .int .u8 0, .int .u8 0, .int .u8 0, .int .u8 0, .int .u8 0, .int .u8 0, .int .u8 0, .int .u8 0, .int .u8 0, .int .u8 0, .int .u8 0, .int .u8 0, .int .u8 0, .int .u8 0, .int .u8 0, .int .u8 0, .int .u8 0, .int .u8 0, .int .u8 0, .int .u8 0, .int .u8 0, .int .u8 0, .int .u8 0, .int .u8 0, .int .u8 0, .int .u8 0, .int .u8 0, .int .u8 0, .int .u8 0, .int .u8 0, .int .u8 0]], []⟩ 8 (by kernel_rfl) (by kernel_rfl) (by kernel_rfl) (by kernel_rfl)) ?_
  intro W base args ds gs before hval0 hW hcnd _
  have hval : ∀ (j : Nat) t v, Try.f7.params[j]? = some t → args[j]? = some v → Value.okWide Try.prog W .any base t v := hval0
  have hW' : DataW.Whole enc Try.prog Try.f7.params.toList Rows.bundleSigsSpec.vars false W args.toList ds gs before := hW
  obtain ⟨p, q, hA0, hV, rfl, hfz, hnd⟩ := hW
  have hA : DataW.TrodAll enc Try.prog W 0 (fun _ => true) true Try.f7.params.toList args.toList ds p := hA0
  clear hA0 hval0 hcnd hfz hnd
  rw [Try.params7] at hA hval
  obtain ⟨rfl, rfl⟩ := trodVars_none hV
  obtain ⟨v0, vs0, d0, ds0, p0, q0, ha0, rfl, rfl, h0, hA0⟩ := Go.Sep.trodAll_cons hA
  obtain ⟨v1, vs1, d1, ds1, p1, q1, rfl, rfl, rfl, h1, hA1⟩ := Go.Sep.trodAll_cons hA0
  obtain ⟨v2, vs2, d2, ds2, p2, q2, rfl, rfl, rfl, h2, hA2⟩ := Go.Sep.trodAll_cons hA1
  obtain ⟨rfl, rfl, rfl⟩ := Go.Sep.trodAll_nil hA2
  obtain rfl := args_of ha0
  clear ha0 hA
  obtain ⟨x0, cs0, rfl, r0, o0⟩ := arg_agg opens_T_api_Bundle (by kernel_rfl) (hval 0 29 v0 rfl rfl) h0
  obtain ⟨A1, c2, A4, c5, rfl, h3, h6⟩ := kd_T_api_Bundle_el r0
  obtain ⟨x1, rfl, o1⟩ := arg_int (k := .i64) (show Try.prog.underlying 3 = some (.int .i64) by kernel_rfl) (hval 1 3 v1 rfl rfl) h1
  obtain ⟨x2, cs2, rfl, rfl, o2⟩ := arg_agg (Opens_arr (P := Try.prog) (t := 23) (e := 5) (k := .u8) (N := 32) (by kernel_rfl) (by kernel_rfl) (by kernel_rfl) (by kernel_rfl)) (by kernel_rfl) (hval 2 23 v2 rfl rfl) h2
  have hB : argBun x0 := by
      obtain ⟨_, ⟨_, hroot, _, hsigs⟩, _, hitems⟩ := o0
      have hv : ∀ (h : Vector Int 32), (∀ i, i < 32 → inR .u8 (vget h i)) → isB (vlist h) := fun h hh => vlist_inB (fun i hi => inR_u8 (hh i hi))
      exact ⟨hv _ hroot, fun s hs => hv _ (hsigs s hs).2, fun y hy => by
        obtain ⟨_, ⟨_, _, _, _, _, _, _, _, _, _, htag, _, ⟨_, hdata⟩, hsalt, _, hcom⟩, _⟩ := hitems y hy
        exact ⟨fun x hx => inR_u8 (hdata x hx), hv _ htag, hv _ hsalt, hv _ hcom⟩, fun y hy z hz => hv _ ((hitems y hy).2.2.2 z hz)⟩
  have hlaw := law_BundleSigs (K := 1000000000000) rfl x0 x1 x2 hB (vlist_inB (fun i hi => inR_u8 (o2 i hi)))
  refine (callsIn_wide.1 (inspeximuslaw17_BundleSigs.calls hlaw (st_start W) h3 h6)).mono ?_
  rintro e W' ⟨v, rfl, D1, rfl, hS⟩
  exact ⟨_, rfl, post_same0 hW' rfl bundleSigs_laidOut (by kernel_rfl) rfl rfl (fun _ _ _ => trodAll_mk1 (shut_bool (by kernel_rfl) true)) (stp_below hS)⟩

theorem bundleSigs_holds : Rows.BundleSigsSaid :=
  OpenClaim.holds_of_wide 7 Try.f7 rfl rfl rfl rfl rfl rfl rfl ⟨rfl, rfl, rfl, rfl, rfl⟩ rfl rfl rfl rfl rfl (by kernel_rfl) Try.func7 (by kernel_rfl)
    (of_decide_eq_true (by kernel_rfl)) (by unfold Func.isWrapper; first | (rw [if_pos (by decide +kernel)]; kernel_rfl) | (rw [if_neg (by decide +kernel)]; exact ⟨rfl, rfl⟩))
    (fun os started H enc _ => bundleSigs_lifted os started H enc)
end Go.Proofs.Ytnnhkfmknlfpbaa
