/-
 Proved: calls of the cut's functions come to what their plain functions compute.
-/
import Derived.Test.YtomndohdnfebgaaGreatDoorProg
import Derived.Test.YtomndohdnfebgaaGreatDoorTfDef
import Derived.Test.YtomndohdnfebgaaGreatDoorSxX
import Derived.Test.YtomndohdnfebgaaGreatDoorSxTh
import Derived.Test.YtomndohdnfebgaaGreatDoorSxRv
import Derived.Test.YtomndohdnfebgaaGreatDoorTfOW0
set_option linter.unusedVariables false
set_option maxRecDepth 100000
namespace Go.Proofs.YtomndohdnfebgaaGreatDoor
open Go Go.Sep
@[reducible] def tyD : Nat → Type
 | 0 => T_api_Line
 | 1 => T_api_Verdict
 | 2 => T_api_Keys
 | 3 => T_api_Step
 | 4 => T_api_Rec
 | 5 => T_api_Sig
 | 6 => T_api_Point
 | 7 => T_rec_plain
 | 8 => T_api_Item
 | 9 => T_api_Bundle
 | 10 => T_wire_Reader
 | 11 => T_keys_must
 | 12 => T_audit_auditor
 | 13 => T_tree_stack_inspeximus_api_Hash_
 | 14 => T_tree_Front
 | 15 => T_api_Saga
 | 16 => T_api_Book
 | 17 => T_saga_told
 | _ => Unit
@[reducible] def fsD : Nat → List Ty
 | 0 => [(.int .i64), (.int .i64)]
 | 1 => [(.int .i64), (.sl (.int .i64)), (.sl (.st 0))]
 | 2 => [(.sl (.arr .u8 32)), (.sl (.arr .u8 32)), (.int .i64)]
 | 3 => [(.int .i64), (.int .i64)]
 | 4 => [(.int .i64), (.int .i64), (.int .i64), (.int .i64), (.int .i64), .bool, .bool, (.int .i64), (.int .i64), (.int .i64), (.arr .u8 32), (.sl (.st 3)), (.sl (.int .u8)), (.arr .u8 32), .bool, (.arr .u8 32)]
 | 5 => [(.int .i64), (.arr .u8 32)]
 | 6 => [(.int .i64), (.arr .u8 32), (.sl (.st 5))]
 | 7 => [(.int .i64), (.int .i64), (.int .i64), (.int .i64), (.int .i64), .bool, .bool, .bool, (.int .i64), (.int .i64), (.int .i64)]
 | 8 => [(.int .i64), (.st 4), (.sl (.arr .u8 32))]
 | 9 => [.bool, (.st 6), (.sl (.st 8))]
 | 10 => [(.sl (.int .u8)), (.int .i64)]
 | 11 => [(.arr .u8 32)]
 | 12 => [(.st 2), (.int .i64)]
 | 13 => [(.sl (.arr .u8 32))]
 | 14 => [(.st 13), (.int .i64)]
 | 15 => [(.sl (.st 3)), (.int .i64), (.int .i64), (.int .i64), .bool, .bool, (.int .i64), (.int .i64), (.int .i64), (.int .i64)]
 | 16 => [(.arr .i64 4), (.sl (.st 15))]
 | 17 => [(.int .i64), (.int .i64), (.int .i64), .bool, (.int .i64)]
 | _ => []
def TD : Tb where
 ty := tyD
 fs := fsD
 get := fun n => match n with
  | 0 => fun x => (x.fPhase, x.fMissing)
  | 1 => fun x => (x.fCode, x.fSagas, x.fLines)
  | 2 => fun x => (x.fParts, x.fWits, x.fNeed)
  | 3 => fun x => (x.fPart, x.fKind)
  | 4 => fun x => (x.fKind, x.fSaga, x.fSeq, x.fStep, x.fTry, x.fBack, x.fGood, x.fEnd, x.fPart, x.fEpoch, x.fTag, x.fSteps, x.fData, x.fSalt, x.fGone, x.fCom)
  | 5 => fun x => (x.fWit, x.fTag)
  | 6 => fun x => (x.fSize, x.fRoot, x.fSigs)
  | 7 => fun x => (x.fKind, x.fSaga, x.fSeq, x.fStep, x.fTry, x.fBack, x.fGood, x.fGone, x.fEnd, x.fPart, x.fEpoch)
  | 8 => fun x => (x.fAt, x.fRec, x.fPath)
  | 9 => fun x => (x.fWhole, x.fPoint, x.fItems)
  | 10 => fun x => (x.fB, x.fBad)
  | 11 => fun x => x.fTag
  | 12 => fun x => (x.fK, x.fLimit)
  | 13 => fun x => x.fL
  | 14 => fun x => (x.fTrees, x.fN)
  | 15 => fun x => (x.fSteps, x.fPhase, x.fAt, x.fTries, x.fWait, x.fBack, x.fDone, x.fUndone, x.fSome, x.fSeq)
  | 16 => fun x => (x.fEpochs, x.fSagas)
  | 17 => fun x => (x.fKind, x.fStep, x.fTry, x.fBack, x.fEnd)
  | _ + 18 => fun x => x
 of := fun n => match n with
  | 0 => fun y => ⟨y.1, y.2⟩
  | 1 => fun y => ⟨y.1, y.2.1, y.2.2⟩
  | 2 => fun y => ⟨y.1, y.2.1, y.2.2⟩
  | 3 => fun y => ⟨y.1, y.2⟩
  | 4 => fun y => ⟨y.1, y.2.1, y.2.2.1, y.2.2.2.1, y.2.2.2.2.1, y.2.2.2.2.2.1, y.2.2.2.2.2.2.1, y.2.2.2.2.2.2.2.1, y.2.2.2.2.2.2.2.2.1, y.2.2.2.2.2.2.2.2.2.1, y.2.2.2.2.2.2.2.2.2.2.1, y.2.2.2.2.2.2.2.2.2.2.2.1, y.2.2.2.2.2.2.2.2.2.2.2.2.1, y.2.2.2.2.2.2.2.2.2.2.2.2.2.1, y.2.2.2.2.2.2.2.2.2.2.2.2.2.2.1, y.2.2.2.2.2.2.2.2.2.2.2.2.2.2.2⟩
  | 5 => fun y => ⟨y.1, y.2⟩
  | 6 => fun y => ⟨y.1, y.2.1, y.2.2⟩
  | 7 => fun y => ⟨y.1, y.2.1, y.2.2.1, y.2.2.2.1, y.2.2.2.2.1, y.2.2.2.2.2.1, y.2.2.2.2.2.2.1, y.2.2.2.2.2.2.2.1, y.2.2.2.2.2.2.2.2.1, y.2.2.2.2.2.2.2.2.2.1, y.2.2.2.2.2.2.2.2.2.2⟩
  | 8 => fun y => ⟨y.1, y.2.1, y.2.2⟩
  | 9 => fun y => ⟨y.1, y.2.1, y.2.2⟩
  | 10 => fun y => ⟨y.1, y.2⟩
  | 11 => fun y => ⟨y⟩
  | 12 => fun y => ⟨y.1, y.2⟩
  | 13 => fun y => ⟨y⟩
  | 14 => fun y => ⟨y.1, y.2⟩
  | 15 => fun y => ⟨y.1, y.2.1, y.2.2.1, y.2.2.2.1, y.2.2.2.2.1, y.2.2.2.2.2.1, y.2.2.2.2.2.2.1, y.2.2.2.2.2.2.2.1, y.2.2.2.2.2.2.2.2.1, y.2.2.2.2.2.2.2.2.2⟩
  | 16 => fun y => ⟨y.1, y.2⟩
  | 17 => fun y => ⟨y.1, y.2.1, y.2.2.1, y.2.2.2.1, y.2.2.2.2⟩
  | _ + 18 => fun x => x
 kd := fun n => match n with
  | 0 => kd_T_api_Line
  | 1 => kd_T_api_Verdict
  | 2 => kd_T_api_Keys
  | 3 => kd_T_api_Step
  | 4 => kd_T_api_Rec
  | 5 => kd_T_api_Sig
  | 6 => kd_T_api_Point
  | 7 => kd_T_rec_plain
  | 8 => kd_T_api_Item
  | 9 => kd_T_api_Bundle
  | 10 => kd_T_wire_Reader
  | 11 => kd_T_keys_must
  | 12 => kd_T_audit_auditor
  | 13 => kd_T_tree_stack_inspeximus_api_Hash_
  | 14 => kd_T_tree_Front
  | 15 => kd_T_api_Saga
  | 16 => kd_T_api_Book
  | 17 => kd_T_saga_told
  | _ + 18 => kdUnit
 tn := fun t => lookA [(25, 1), (26, 1), (28, 0), (29, 0), (34, 2), (35, 2), (39, 6), (40, 6), (45, 9), (46, 9), (51, 4), (52, 4), (54, 8), (55, 8), (69, 16), (70, 16), (89, 3), (90, 3), (106, 5), (107, 5), (124, 12), (125, 12), (139, 11), (140, 11), (151, 15), (152, 15), (161, 7), (162, 7), (175, 10), (176, 10), (186, 13), (187, 13), (188, 14), (189, 14), (269, 17), (270, 17)] t
 te := fun t => lookA [] t
theorem tbok : TbOk TD := ⟨fun n _ _ _ => match n with
 | 0 => Iff.rfl
 | 1 => Iff.rfl
 | 2 => Iff.rfl
 | 3 => Iff.rfl
 | 4 => Iff.rfl
 | 5 => Iff.rfl
 | 6 => Iff.rfl
 | 7 => Iff.rfl
 | 8 => Iff.rfl
 | 9 => Iff.rfl
 | 10 => Iff.rfl
 | 11 => Iff.rfl
 | 12 => Iff.rfl
 | 13 => Iff.rfl
 | 14 => Iff.rfl
 | 15 => Iff.rfl
 | 16 => Iff.rfl
 | 17 => Iff.rfl
 | _ + 18 => Iff.rfl, fun n _ => match n with
 | 0 => rfl
 | 1 => rfl
 | 2 => rfl
 | 3 => rfl
 | 4 => rfl
 | 5 => rfl
 | 6 => rfl
 | 7 => rfl
 | 8 => rfl
 | 9 => rfl
 | 10 => rfl
 | 11 => rfl
 | 12 => rfl
 | 13 => rfl
 | 14 => rfl
 | 15 => rfl
 | 16 => rfl
 | 17 => rfl
 | _ + 18 => rfl⟩
def GD : List (Nat × Dy TD) := [(0, ⟨(.arr .u32 8), gl_First⟩), (1, ⟨(.arr .u32 64), gl_K⟩)]
@[reducible] def ob : List Nat → List (Nat × Nat × Bool)
 | [] => []
 | n :: l => (n / 10, n % 10 / 2, Nat.beq (n % 2) 1) :: ob l
@[reducible] def tI : Ty := .int .i64
@[reducible] def tH : Ty := .arr .u8 32
@[reducible] def tB : Ty := .sl (.int .u8)
@[reducible] def dI : Pt := .dt (.int .i64)
@[reducible] def dF : Pt := .dt .bool
@[reducible] def dH : Pt := .dt (.arr .u8 32)
@[reducible] def dB : Pt := .dt (.sl (.int .u8))
@[reducible] def dD (n : Nat) : Pt := .dt (.st n)
@[reducible] def sd (fid : Nat) (pt rt : List Ty) (fn : TU TD.ty pt → Option (TU TD.ty rt)) : FSp TD := { fid := fid, args := dts pt, blks := [], pt := pt, rt := rt, fn := fn, res := dts rt, out := [], new := [] }
@[reducible] def sg (fid : Nat) (args : Pt) (blks : List (TypeId × Pt)) (pt rt : List Ty) (fn : TU TD.ty pt → Option (TU TD.ty rt)) (res : Pt) (out : List (Option Pt)) (new : List (TypeId × Pt)) : FSp TD := { fid := fid, args := args, blks := blks, pt := pt, rt := rt, fn := fn, res := res, out := out, new := new }
@[reducible] def sp (fid : Nat) (args : Pt) (blks : List (TypeId × Pt)) (pt rt : List Ty) (pv : TypeId × Bool) (fs : TU TD.ty pt → Option (Int ⊕ TU TD.ty rt)) (pk : List Bool) (res : Pt) (out : List (Option Pt)) (new : List (TypeId × Pt)) : FSp TD := { fid := fid, args := args, blks := blks, pt := pt, rt := rt, fn := fun p => sm (fs p) (fun _ => none) some, pv := some pv, fs := fs, pk := pk, res := res, out := out, new := new }
theorem v0 : ∀ s ∈ ([] : List (FSp TD)), VOk Tryz.prog GD s := vs_nil
theorem vl {s : FSp TD} {l : List (FSp TD)} (h : VOk Tryz.prog GD s) (h' : ∀ x ∈ l, VOk Tryz.prog GD x) : ∀ x ∈ s :: l, VOk Tryz.prog GD x := vs_cons h h'
section
variable {n : Nat} {s : FSp TD} {f : Func} {c : Code} {sps : List (FSp TD)} {rvs : List (RvSp TD)} {mps : List (FuncId × (SV TD → Option (SV TD)))}
theorem vk (K : Nat) (h : Hn) (hf : Tryz.prog.funcs[s.fid]? = some f) (hn : f.ntmps = n) (hsp : ∀ x ∈ sps, VOk Tryz.prog GD x) (hb : f.body = some c := by exact rfl)
  (hok : (Nat.ble (lenP s.args) n && (lstP s.args && (lstP s.res && (!(f.name == "runtime.NumGoroutine") && s.pv.isNone)))) = true := by kernel_rfl) (hfn : (fun p => s.fn p) = funS (T := TD) (cx Tryz.prog GD sps K n [] []) s f h := by kernel_rfl) : VOk Tryz.prog GD s := vok_of tbok hf hb hn hok hsp rv_nil mp_nil hfn
theorem vkM (K : Nat) (h : Hn) (hf : Tryz.prog.funcs[s.fid]? = some f) (hn : f.ntmps = n) (hsp : ∀ x ∈ sps, VOk Tryz.prog GD x) (hrv : ∀ x ∈ rvs, RvOk Tryz.prog x) (hmp : ∀ f g, lookA mps f = some g → MpOk Tryz.prog f g) (hb : f.body = some c := by exact rfl)
  (hok : (Nat.ble (lenP s.args) n && (lstP s.args && (lstP s.res && (!(f.name == "runtime.NumGoroutine") && s.pv.isNone)))) = true := by kernel_rfl) (hfn : (fun p => s.fn p) = funS (T := TD) (cx Tryz.prog GD sps K n rvs mps) s f h := by kernel_rfl) : VOk Tryz.prog GD s := vok_of tbok hf hb hn hok hsp hrv hmp hfn
theorem vkP (K : Nat) (h : Hn) (hf : Tryz.prog.funcs[s.fid]? = some f) (hn : f.ntmps = n) (hsp : ∀ x ∈ sps, VOk Tryz.prog GD x) (hgn : (fun p => s.fn p) = fun p => sm (s.fs p) (fun _ => none) some) (hb : f.body = some c := by exact rfl)
  (hok : (Nat.ble (lenP s.args) n && (lstP s.args && (lstP s.res && !(f.name == "runtime.NumGoroutine")))) = true := by kernel_rfl) (hfn : (fun p => s.fs p) = funP (T := TD) (cx Tryz.prog GD sps K n [] []) s f h := by kernel_rfl) : VOk Tryz.prog GD s := vokP_of tbok hf hb hn hok hsp rv_nil mp_nil hgn hfn
end
def MP_141 : SV TD → Option (SV TD) := fun l => match l with | .nl => some (.mp [.int .i64 1, .int .i64 2, .int .i64 3, .int .i64 4, .int .i64 5, .int .i64 6] (.cs (.agg (.cs (.fn 179 .nl) .nl)) (.cs (.agg (.cs (.fn 180 .nl) .nl)) (.cs (.agg (.cs (.fn 181 .nl) .nl)) (.cs (.agg (.cs (.fn 180 .nl) .nl)) (.cs (.agg (.cs (.fn 180 .nl) .nl)) (.cs (.agg (.cs (.fn 182 .nl) .nl)) .nl))))))) | _ => none
theorem mp_141 : MpOk Tryz.prog 141 MP_141 := by
 refine ⟨fun ρ g w0 D l vs sv hA hf hS => ?_, by kernel_rfl⟩
 unfold MP_141 at hf
 split at hf
 ·obtain rfl : vs = [] := hA
  cases hf
  have hS := Stp.refl hS
  refine calls_body (n := 9) Tryz.func141 rfl Tryz.ntmps141 rfl (fun a hE => ?_)
  have hE : Env a 9 [] [] := hE
  refine wpIn_seq (region_at ?_)
  refine segN 1 (j := 1) [(0, .map none)] hE (by kernel_rfl) rfl (fun a hE => ?_)
  refine at_end rfl ?_
  refine wpIn_seq (region_at ?_)
  refine at_op (op_makeMap rfl rfl rfl rfl hE rfl hS (fun a b w hE hS => ?_)) rfl
  refine at_op (op_tk hE (tk_build ([.func (.func 179) #[] #[]]) rfl rfl rfl rfl hE rfl rfl (by kernel_rfl) (fun a hE => ?_))) rfl
  refine at_op (op_insert (kt := 3) (et := 204) (kk := .i64) rfl rfl rfl rfl hE hS rfl rfl rfl (by kernel_rfl) (by kernel_rfl) (by kernel_rfl) (fun a w hE hS => ?_)) rfl
  refine at_op (op_tk hE (tk_build ([.func (.func 180) #[] #[]]) rfl rfl rfl rfl hE rfl rfl (by kernel_rfl) (fun a hE => ?_))) rfl
  refine at_op (op_insert (kt := 3) (et := 204) (kk := .i64) rfl rfl rfl rfl hE hS rfl rfl rfl (by kernel_rfl) (by kernel_rfl) (by kernel_rfl) (fun a w hE hS => ?_)) rfl
  refine at_op (op_tk hE (tk_build ([.func (.func 181) #[] #[]]) rfl rfl rfl rfl hE rfl rfl (by kernel_rfl) (fun a hE => ?_))) rfl
  refine at_op (op_insert (kt := 3) (et := 204) (kk := .i64) rfl rfl rfl rfl hE hS rfl rfl rfl (by kernel_rfl) (by kernel_rfl) (by kernel_rfl) (fun a w hE hS => ?_)) rfl
  refine at_op (op_tk hE (tk_build ([.func (.func 180) #[] #[]]) rfl rfl rfl rfl hE rfl rfl (by kernel_rfl) (fun a hE => ?_))) rfl
  refine at_op (op_insert (kt := 3) (et := 204) (kk := .i64) rfl rfl rfl rfl hE hS rfl rfl rfl (by kernel_rfl) (by kernel_rfl) (by kernel_rfl) (fun a w hE hS => ?_)) rfl
  refine at_op (op_tk hE (tk_build ([.func (.func 180) #[] #[]]) rfl rfl rfl rfl hE rfl rfl (by kernel_rfl) (fun a hE => ?_))) rfl
  refine at_op (op_insert (kt := 3) (et := 204) (kk := .i64) rfl rfl rfl rfl hE hS rfl rfl rfl (by kernel_rfl) (by kernel_rfl) (by kernel_rfl) (fun a w hE hS => ?_)) rfl
  refine at_op (op_tk hE (tk_build ([.func (.func 182) #[] #[]]) rfl rfl rfl rfl hE rfl rfl (by kernel_rfl) (fun a hE => ?_))) rfl
  refine at_op (op_insert (kt := 3) (et := 204) (kk := .i64) rfl rfl rfl rfl hE hS rfl rfl rfl (by kernel_rfl) (by kernel_rfl) (by kernel_rfl) (fun a w hE hS => ?_)) rfl
  refine segN 1 (j := 14) [(8, .map (some b))] hE (by kernel_rfl) rfl (fun a hE => ?_)
  refine segN 1 (j := 15) [(0, .map (some b))] hE (by kernel_rfl) rfl (fun a hE => ?_)
  refine at_end rfl ?_
  refine wpIn_ret ?_
  refine ret_gen ([.map (some b)]) hE (by rw [show Tryz.f141.results.toList = [.tmp 0] from rfl]; exact ⟨_, _, rfl, rfl, rfl⟩) ?_
  refine ⟨_, rfl, _, RV_one rfl ⟨b, _, _, rfl, by unfold Snap.ins; rw [if_pos rfl], rfl, ⟨_, _, rfl, ⟨_, ⟨_, _, rfl, ⟨[], rfl, rfl⟩, rfl⟩, rfl⟩, ⟨_, _, rfl, ⟨_, ⟨_, _, rfl, ⟨[], rfl, rfl⟩, rfl⟩, rfl⟩, ⟨_, _, rfl, ⟨_, ⟨_, _, rfl, ⟨[], rfl, rfl⟩, rfl⟩, rfl⟩, ⟨_, _, rfl, ⟨_, ⟨_, _, rfl, ⟨[], rfl, rfl⟩, rfl⟩, rfl⟩, ⟨_, _, rfl, ⟨_, ⟨_, _, rfl, ⟨[], rfl, rfl⟩, rfl⟩, rfl⟩, ⟨_, _, rfl, ⟨_, ⟨_, _, rfl, ⟨[], rfl, rfl⟩, rfl⟩, rfl⟩, rfl⟩⟩⟩⟩⟩⟩⟩, (Stp.freezeM hS).2⟩
 ·cases hf
def S_slices_Concat_byte_byte (K : Nat) : FSp TD := sg 133 (.cs (.dt (.sl tB)) .nl) [] [(.sl tB)] [tB] (fun p => slices_Concat_byte_byte.f K (p)) (.cs (.own (.int .u8) 5 true) .nl) [] []
theorem v_slices_Concat_byte_byte (K : Nat) : VOk Tryz.prog GD (S_slices_Concat_byte_byte K) := vok_glueO (T := TD) (ts := [(.sl (.sl (.int .u8)))]) (rt := (.int .u8)) (e := 5) (f := true) (fn := fun p => slices_Concat_byte_byte.f K (p)) (fun g w0 D p vals r hG hv hS hr => by
 obtain ⟨v0, h0, rfl⟩ := hv
 obtain ⟨A0, c0, e0, f0⟩ := h0
 cases e0
 exact CallsIn.mono (slices_Concat_byte_byte.calls hr hS f0) fun e w' ⟨u, h1, D1, A, c, q, h2, h3, h4⟩ => ⟨u, h1, D1, A, c, q, h2, h4, h3⟩) (by kernel_rfl)
def S0_sha_Sum (K : Nat) : FSp TD := { fid := 83, args := (.cs (.dt (.sl (.sl (.int .u8)))) .nl), blks := [], pt := [(.sl (.sl (.int .u8)))], rt := [(.arr .u8 32)], fn := fun p => sha_Sum.f K (p), res := (.cs (.dt (.arr .u8 32)) .nl), out := [], new := [] }
theorem v0_sha_Sum {K : Nat} : VOk Tryz.prog GD (S0_sha_Sum K) := vok_glue (T := TD) (ts := [(.sl (.sl (.int .u8)))]) (rt := (.arr .u8 32)) (fn := fun p => sha_Sum.f K (p)) (fun g w0 D p vals r hG hv hS hr => by
 obtain ⟨v0, h0, rfl⟩ := hv
 obtain ⟨A0, c0, e0, f0⟩ := h0
 cases e0
 exact CallsIn.mono (sha_Sum.calls hr hS f0 (hG 0 _ rfl) (hG 1 _ rfl)) fun e w' ⟨u, h1, D1, h2, h3⟩ => ⟨u, h1, D1, ⟨_, rfl, h2⟩, h3⟩) (by kernel_rfl)
def S_sha_Sum (K : Nat) : FSp TD := { fid := 83, args := (.cs (.dt (.sl (.sl (.int .u8)))) .nl), blks := [], pt := [(.sl (.sl (.int .u8)))], rt := [(.arr .u8 32)], fn := fun p => shaQ.f K (p), res := (.cs (.dt (.arr .u8 32)) .nl), out := [], new := [] }
theorem v_sha_Sum (K : Nat) : VOk Tryz.prog GD (S_sha_Sum K) := (congrArg (fun f => VOk Tryz.prog GD ({ fid := 83, args := (.cs (.dt (.sl (.sl (.int .u8)))) .nl), blks := [], pt := [(.sl (.sl (.int .u8)))], rt := [(.arr .u8 32)], fn := f, res := (.cs (.dt (.arr .u8 32)) .nl), out := [], new := [] } : FSp TD)) (shaQ_fn K)).mpr v0_sha_Sum
def S_slices_Clone_byte_byte (K : Nat) : FSp TD := sg 111 (.cs dB .nl) [] [tB] [tB] (fun p => slices_Clone_byte_byte.f K (p)) (.cs (.own (.int .u8) 5 true) .nl) [] []
theorem v_slices_Clone_byte_byte (K : Nat) : VOk Tryz.prog GD (S_slices_Clone_byte_byte K) := vok_glueO (T := TD) (ts := [(.sl (.int .u8))]) (rt := (.int .u8)) (e := 5) (f := true) (fn := fun p => slices_Clone_byte_byte.f K (p)) (fun g w0 D p vals r hG hv hS hr => by
 obtain ⟨v0, h0, rfl⟩ := hv
 obtain ⟨A0, c0, e0, f0⟩ := h0
 cases e0
 exact CallsIn.mono (slices_Clone_byte_byte.calls hr hS f0) fun e w' ⟨u, h1, D1, A, c, q, h2, h3, h4⟩ => ⟨u, h1, D1, A, c, q, h2, h4, h3⟩) (by kernel_rfl)
def S_slices_Clone_api_Sig_api_Sig (K : Nat) : FSp TD := sg 157 (.cs (.dt (.sl (.st 5))) .nl) [] [(.sl (.st 5))] [(.sl (.st 5))] (fun p => slices_Clone_api_Sig_api_Sig.f K (p)) (.cs (.own (.st 5) 107 true) .nl) [] []
theorem v_slices_Clone_api_Sig_api_Sig (K : Nat) : VOk Tryz.prog GD (S_slices_Clone_api_Sig_api_Sig K) := vok_glueO (T := TD) (ts := [(.sl (.st 5))]) (rt := (.st 5)) (e := 107) (f := true) (fn := fun p => slices_Clone_api_Sig_api_Sig.f K (p)) (fun g w0 D p vals r hG hv hS hr => by
 obtain ⟨v0, h0, rfl⟩ := hv
 obtain ⟨A0, c0, e0, f0⟩ := h0
 cases e0
 exact CallsIn.mono (slices_Clone_api_Sig_api_Sig.calls hr hS f0) fun e w' ⟨u, h1, D1, A, c, q, h2, h3, h4⟩ => ⟨u, h1, D1, A, c, q, h2, h4, h3⟩) (by kernel_rfl)
def S_slices_Clone_api_Step_api_Step (K : Nat) : FSp TD := sg 62 (.cs (.dt (.sl (.st 3))) .nl) [] [(.sl (.st 3))] [(.sl (.st 3))] (fun p => slices_Clone_api_Step_api_Step.f K (p)) (.cs (.own (.st 3) 90 true) .nl) [] []
theorem v_slices_Clone_api_Step_api_Step (K : Nat) : VOk Tryz.prog GD (S_slices_Clone_api_Step_api_Step K) := vok_glueO (T := TD) (ts := [(.sl (.st 3))]) (rt := (.st 3)) (e := 90) (f := true) (fn := fun p => slices_Clone_api_Step_api_Step.f K (p)) (fun g w0 D p vals r hG hv hS hr => by
 obtain ⟨v0, h0, rfl⟩ := hv
 obtain ⟨A0, c0, e0, f0⟩ := h0
 cases e0
 exact CallsIn.mono (slices_Clone_api_Step_api_Step.calls hr hS f0) fun e w' ⟨u, h1, D1, A, c, q, h2, h3, h4⟩ => ⟨u, h1, D1, A, c, q, h2, h4, h3⟩) (by kernel_rfl)
def S_slices_Clone_api_Saga_api_Saga (K : Nat) : FSp TD := sg 206 (.cs (.dt (.sl (.st 15))) .nl) [] [(.sl (.st 15))] [(.sl (.st 15))] (fun p => slices_Clone_api_Saga_api_Saga.f K (p)) (.cs (.own (.st 15) 152 true) .nl) [] []
theorem v_slices_Clone_api_Saga_api_Saga (K : Nat) : VOk Tryz.prog GD (S_slices_Clone_api_Saga_api_Saga K) := vok_glueO (T := TD) (ts := [(.sl (.st 15))]) (rt := (.st 15)) (e := 152) (f := true) (fn := fun p => slices_Clone_api_Saga_api_Saga.f K (p)) (fun g w0 D p vals r hG hv hS hr => by
 obtain ⟨v0, h0, rfl⟩ := hv
 obtain ⟨A0, c0, e0, f0⟩ := h0
 cases e0
 exact CallsIn.mono (slices_Clone_api_Saga_api_Saga.calls hr hS f0) fun e w' ⟨u, h1, D1, A, c, q, h2, h3, h4⟩ => ⟨u, h1, D1, A, c, q, h2, h4, h3⟩) (by kernel_rfl)
def S_saga_target (K : Nat) : FSp TD := sd 209 [(.st 15)] [tI] (fun p => saga_target.f K (p))
theorem v_saga_target (K : Nat) : VOk Tryz.prog GD (S_saga_target K) := vok_glue (T := TD) (ts := [(.st 15)]) (rt := (.int .i64)) (fn := fun p => saga_target.f K (p)) (fun g w0 D p vals r hG hv hS hr => by
 obtain ⟨v0, h0, rfl⟩ := hv
 obtain ⟨cs0, e0, rfl⟩ := h0
 obtain ⟨a0_0, a0_1, rfl, f0_0⟩ := kd_T_api_Saga_el e0
 exact CallsIn.mono (saga_target.calls hr hS f0_0) fun e w' ⟨u, h1, D1, h2, h3⟩ => ⟨u, h1, D1, (by rw [h2]; rfl), h3⟩) (by kernel_rfl)
def V_slices_Reverse_byte_byte (K : Nat) : RvSp TD := ⟨134, (.int .u8), 5, slices_Reverse_byte_byte.f K⟩
theorem w_slices_Reverse_byte_byte (K : Nat) : RvOk Tryz.prog (V_slices_Reverse_byte_byte K) := ⟨fun g w0 D A cap xs ys q hS hO hr => slices_Reverse_byte_byte.calls hr hS hO, by kernel_rfl, fun xs ys h => slices_Reverse_byte_byte.len h⟩
def S_inspeximuslaw10_Few (K : Nat) : FSp TD := sd 35 [] [(.st 2)] (fun p => inspeximuslaw10_Few.f K)
theorem v_inspeximuslaw10_Few (K : Nat) : VOk Tryz.prog GD (S_inspeximuslaw10_Few K) := vk K .n Tryz.func35 Tryz.ntmps35 v0
def S_keys_within (K : Nat) : FSp TD := sd 78 [tI, tI, tI] [.bool] (fun p => keys_within.f K (p.1) (p.2.1) (p.2.2))
theorem v_keys_within (K : Nat) : VOk Tryz.prog GD (S_keys_within K) := vk K .n Tryz.func78 Tryz.ntmps78 v0
def S_keys_May (K : Nat) : FSp TD := sd 66 [(.st 2)] [.bool] (fun p => keys_May.f K (p))
theorem v_keys_May (K : Nat) : VOk Tryz.prog GD (S_keys_May K) := vk K .n Tryz.func66 Tryz.ntmps66 (vl (v_keys_within K) v0)
def S_keys_known (K : Nat) : FSp TD := sd 81 [(.st 2), tI, tI] [.bool] (fun p => keys_known.f K (p.1) (p.2.1) (p.2.2))
theorem v_keys_known (K : Nat) : VOk Tryz.prog GD (S_keys_known K) := vk K .n Tryz.func81 Tryz.ntmps81 (vl (v_keys_May K) (vl (v_keys_within K) v0))
def S_mac_row (K : Nat) : FSp TD := sg 156 (.cs (.dt (.int .u64)) (.cs dI .nl)) [] [(.int .u64), tI] [tB] (fun p => mac_row.f K (p.1) (p.2)) (.cs (.own (.int .u8) 5 true) .nl) [] []
theorem v_mac_row (K : Nat) : VOk Tryz.prog GD (S_mac_row K) := vk K (.s .n (.s .n (.s (.s .n (.l ⟨[(0, (.dt (.int .u64))), (5, (.own (.int .u8) 5 true)), (11, dI)], [], [(.int .u64), tB, tI], [], [], []⟩ (some ⟨[(5, (.own (.int .u8) 5 true))], [], [tB], [], [], []⟩) false .n)) .n))) Tryz.func156 Tryz.ntmps156 v0
def S_mac_Key_1 (K : Nat) : FSp TD := sg 155 (.cs dI .nl) [] [tI] [tB] (fun p => mac_Key_1.f K (p)) (.cs (.own (.int .u8) 5 true) .nl) [] []
theorem v_mac_Key_1 (K : Nat) : VOk Tryz.prog GD (S_mac_Key_1 K) := vk K .n Tryz.func155 Tryz.ntmps155 (vl (v_mac_row K) v0)
def S_mac_joined_int (K : Nat) : FSp TD := sg 154 (.cs (.dt (.sl tI)) (.cs (.fn 155 .nl) .nl)) [] [(.sl tI)] [tB] (fun p => mac_joined_int.f K (p)) (.cs (.own (.int .u8) 5 true) .nl) [] []
theorem v_mac_joined_int (K : Nat) : VOk Tryz.prog GD (S_mac_joined_int K) := vk K (.s .n (.s .n (.s (.s .n (.l ⟨[(5, (.own (.int .u8) 5 true)), (10, dI)], [], [tB, tI], [], [], []⟩ (some ⟨[(5, (.own (.int .u8) 5 true))], [], [tB], [], [], []⟩) false .n)) .n))) Tryz.func154 Tryz.ntmps154 (vl (v_mac_Key_1 K) v0)
def S_mac_pad (K : Nat) : FSp TD := sg 177 (.cs dB (.cs (.dt (.int .u8)) .nl)) [] [tB, (.int .u8)] [tB] (fun p => mac_pad.f K (p.1) (p.2)) (.cs (.own (.int .u8) 5 true) .nl) [] []
theorem v_mac_pad (K : Nat) : VOk Tryz.prog GD (S_mac_pad K) := vk K (.s .n (.s .n (.s .n (.s (.s .n (.l ⟨[(5, (.own (.int .u8) 5 true)), (13, dI)], [], [tB, tI], [], [], []⟩ (some ⟨[(5, (.own (.int .u8) 5 true))], [], [tB], [], [], []⟩) false .n)) .n)))) Tryz.func177 Tryz.ntmps177 v0
def S_mac_Tag (K : Nat) : FSp TD := sd 139 [tB, (.sl tB)] [tH] (fun p => mac_Tag.f K (p.1) (p.2))
theorem v_mac_Tag (K : Nat) : VOk Tryz.prog GD (S_mac_Tag K) := vk K (.s .n (.j ⟨[(0, dB)], [], [tB], [], [], []⟩ .n (.s .n (.s (.r (ob [2, 20, 16, 36, 46, 56]) [6] []) .n)))) Tryz.func139 Tryz.ntmps139 (vl (v_sha_Sum K) (vl (v_mac_pad K) v0))
def S_mac_Key (K : Nat) : FSp TD := sd 103 [tH, (.sl tI)] [tH] (fun p => mac_Key.f K (p.1) (p.2))
theorem v_mac_Key (K : Nat) : VOk Tryz.prog GD (S_mac_Key K) := vk K (.s .n (.s (.r (ob [0, 12, 26, 36, 46, 56]) [2] []) .n)) Tryz.func103 Tryz.ntmps103 (vl (v_mac_joined_int K) (vl (v_mac_Tag K) v0))
def S_keys_Part (K : Nat) : FSp TD := sd 104 [(.st 2), tI, tI] [tH] (fun p => keys_Part.f K (p.1) (p.2.1) (p.2.2))
theorem v_keys_Part (K : Nat) : VOk Tryz.prog GD (S_keys_Part K) := vk K .n Tryz.func104 Tryz.ntmps104 (vl (v_keys_known K) (vl (v_mac_Key K) v0))
def S_keys_bit (K : Nat) : FSp TD := sd 105 [.bool] [tI] (fun p => keys_bit.f K (p))
theorem v_keys_bit (K : Nat) : VOk Tryz.prog GD (S_keys_bit K) := vk K .n Tryz.func105 Tryz.ntmps105 v0
def S_keys_Receipt (K : Nat) : FSp TD := sd 36 [(.st 2), (.st 4)] [tH] (fun p => keys_Receipt.f K (p.1) (p.2))
theorem v_keys_Receipt (K : Nat) : VOk Tryz.prog GD (S_keys_Receipt K) := vk K (.s .n (.s (.j ⟨[(16, dF)], [], [.bool], [], [], []⟩ .n .n) (.s (.r (ob [2, 12, 22, 32, 42, 60, 70, 80, 90, 100, 110, 130, 140, 56, 126, 156, 164, 176, 186]) [] [3]) .n))) Tryz.func36 Tryz.ntmps36 (vl (v_keys_known K) (vl (v_keys_Part K) (vl (v_keys_bit K) (vl (v_mac_Key K) v0))))
def S_rec_within (K : Nat) : FSp TD := sd 164 [tI, tI, tI] [.bool] (fun p => rec_within.f K (p.1) (p.2.1) (p.2.2))
theorem v_rec_within (K : Nat) : VOk Tryz.prog GD (S_rec_within K) := vk K .n Tryz.func164 Tryz.ntmps164 v0
def S_rec_ranges_1 (K : Nat) : FSp TD := sd 165 [(.st 3)] [.bool] (fun p => rec_ranges_1.f K (p))
theorem v_rec_ranges_1 (K : Nat) : VOk Tryz.prog GD (S_rec_ranges_1 K) := vk K .n Tryz.func165 Tryz.ntmps165 (vl (v_rec_within K) v0)
def S_slices_IndexFunc_api_Step_api_Step (K : Nat) : FSp TD := sg 196 (.cs (.dt (.sl (.st 3))) (.cs (.fn 165 .nl) .nl)) [] [(.sl (.st 3))] [tI] (fun p => slices_IndexFunc_api_Step_api_Step.f K (p)) (.cs dI .nl) [] []
theorem v_slices_IndexFunc_api_Step_api_Step (K : Nat) : VOk Tryz.prog GD (S_slices_IndexFunc_api_Step_api_Step K) := vk K (.s .n (.s (.s .n (.l ⟨[(8, dI)], [], [tI], [], [], []⟩ (some ⟨[], [], [], [], [], []⟩) true .n)) .n)) Tryz.func196 Tryz.ntmps196 (vl (v_rec_ranges_1 K) v0)
def S_slices_ContainsFunc_api_Step_api_Step (K : Nat) : FSp TD := sg 166 (.cs (.dt (.sl (.st 3))) (.cs (.fn 165 .nl) .nl)) [] [(.sl (.st 3))] [.bool] (fun p => slices_ContainsFunc_api_Step_api_Step.f K (p)) (.cs dF .nl) [] []
theorem v_slices_ContainsFunc_api_Step_api_Step (K : Nat) : VOk Tryz.prog GD (S_slices_ContainsFunc_api_Step_api_Step K) := vk K .n Tryz.func166 Tryz.ntmps166 (vl (v_slices_IndexFunc_api_Step_api_Step K) v0)
def S_rec_ranges (K : Nat) : FSp TD := sd 123 [(.st 4)] [.bool] (fun p => rec_ranges.f K (p))
theorem v_rec_ranges (K : Nat) : VOk Tryz.prog GD (S_rec_ranges K) := vk K (.s .n (.s (.j ⟨[(19, dF)], [], [.bool], [], [], []⟩ .n .n) (.s (.s .n (.s .n (.s .n (.j ⟨[(41, dF)], [], [.bool], [], [], []⟩ .n .n)))) .n))) Tryz.func123 Tryz.ntmps123 (vl (v_rec_within K) (vl (v_slices_ContainsFunc_api_Step_api_Step K) v0))
def S_rec_kept (K : Nat) : FSp TD := sd 124 [(.st 4)] [(.st 4)] (fun p => rec_kept.f K (p))
theorem v_rec_kept (K : Nat) : VOk Tryz.prog GD (S_rec_kept K) := vk K (.s .n (.s .n (.j ⟨[], [(3, (dD 4))], [(.st 4)], [], [], [1]⟩ (.s .n (.s (.s (.j ⟨[], [(3, (dD 4))], [(.st 4)], [], [], []⟩ (.s (.s (.s (.s .n (.s .n (.s (.j ⟨[(13, dF)], [], [.bool], [], [], []⟩ .n .n) .n))) .n) (.s (.s (.r (ob [2, 12, 20, 30, 40, 50, 62, 76, 82, 96, 102, 116]) [] [1]) (.s .n (.s .n (.r (ob [2, 12, 20, 30, 42, 56, 62, 76]) [] [1])))) .n)) (.r (ob [2, 12, 20, 30, 40, 50, 60, 70, 82, 96, 102, 116, 122, 136, 142, 156]) [] [1])) (.s (.r (ob [2, 12, 20, 30, 40, 50, 60, 70, 80, 90, 102, 116, 122, 136, 142, 156, 162, 176, 182, 196]) [] [1]) .n)) (.s (.r (ob [2, 12, 20, 30, 40, 50, 62, 76, 82, 96, 102, 116]) [] [1]) .n)) (.s (.r (ob [2, 12, 20, 30, 42, 56, 62, 76]) [] [1]) .n))) .n))) Tryz.func124 Tryz.ntmps124 v0
def S_slices_Equal_api_Step_api_Step (K : Nat) : FSp TD := sd 97 [(.sl (.st 3)), (.sl (.st 3))] [.bool] (fun p => slices_Equal_api_Step_api_Step.f K (p.1) (p.2))
theorem v_slices_Equal_api_Step_api_Step (K : Nat) : VOk Tryz.prog GD (S_slices_Equal_api_Step_api_Step K) := vk K (.s .n (.s .n (.s (.s .n (.l ⟨[(13, dI)], [], [tI], [], [], []⟩ (some ⟨[], [], [], [], [], []⟩) true (.s .n (.s .n (.s (.s .n (.s (.r (ob [2, 12, 22, 32, 42, 52, 62, 72, 82]) [] []) .n)) .n))))) .n))) Tryz.func97 Tryz.ntmps97 v0
def S_bytes_Equal (K : Nat) : FSp TD := sd 96 [tB, tB] [.bool] (fun p => bytes_Equal.f K (p.1) (p.2))
theorem v_bytes_Equal (K : Nat) : VOk Tryz.prog GD (S_bytes_Equal K) := vk K .n Tryz.func96 Tryz.ntmps96 v0
def S_rec_head (K : Nat) : FSp TD := sd 98 [(.st 4)] [(.st 7)] (fun p => rec_head.f K (p))
theorem v_rec_head (K : Nat) : VOk Tryz.prog GD (S_rec_head K) := vk K .n Tryz.func98 Tryz.ntmps98 v0
def S_rec_Same (K : Nat) : FSp TD := sd 31 [(.st 4), (.st 4)] [.bool] (fun p => rec_Same.f K (p.1) (p.2))
theorem v_rec_Same (K : Nat) : VOk Tryz.prog GD (S_rec_Same K) := vk K (.s .n (.s (.j ⟨[(18, dF)], [], [.bool], [], [], []⟩ .n .n) (.j ⟨[(4, dF)], [], [.bool], [], [], [2, 3]⟩ (.r (ob [2, 20, 16, 36, 42, 53, 62, 72, 82, 92, 102, 112, 123, 132, 142, 152, 162, 172, 182, 193, 202, 212, 222, 232, 242, 252, 262]) [] [3]) .n))) Tryz.func31 Tryz.ntmps31 (vl (v_slices_Equal_api_Step_api_Step K) (vl (v_bytes_Equal K) (vl (v_rec_head K) v0)))
def S_rec_Right (K : Nat) : FSp TD := sd 61 [(.st 4)] [.bool] (fun p => rec_Right.f K (p))
theorem v_rec_Right (K : Nat) : VOk Tryz.prog GD (S_rec_Right K) := vk K (.s .n (.s (.r (ob [2, 16, 23, 30, 42, 56, 66, 72, 82]) [] [1]) .n)) Tryz.func61 Tryz.ntmps61 (vl (v_rec_ranges K) (vl (v_rec_kept K) (vl (v_rec_Same K) v0)))
def S_export_right_1 (K : Nat) : FSp TD := sd 146 [(.st 4)] [.bool] (fun p => export_right_1.f K (p))
theorem v_export_right_1 (K : Nat) : VOk Tryz.prog GD (S_export_right_1 K) := vk K .n Tryz.func146 Tryz.ntmps146 (vl (v_rec_Right K) v0)
def S_slices_IndexFunc_api_Rec_api_Rec (K : Nat) : FSp TD := sg 186 (.cs (.dt (.sl (.st 4))) (.cs (.fn 146 .nl) .nl)) [] [(.sl (.st 4))] [tI] (fun p => slices_IndexFunc_api_Rec_api_Rec.f K (p)) (.cs dI .nl) [] []
theorem v_slices_IndexFunc_api_Rec_api_Rec (K : Nat) : VOk Tryz.prog GD (S_slices_IndexFunc_api_Rec_api_Rec K) := vk K (.s .n (.s (.s .n (.l ⟨[(8, dI)], [], [tI], [], [], []⟩ (some ⟨[], [], [], [], [], []⟩) true .n)) .n)) Tryz.func186 Tryz.ntmps186 (vl (v_export_right_1 K) v0)
def S_slices_ContainsFunc_api_Rec_api_Rec (K : Nat) : FSp TD := sg 145 (.cs (.dt (.sl (.st 4))) (.cs (.fn 146 .nl) .nl)) [] [(.sl (.st 4))] [.bool] (fun p => slices_ContainsFunc_api_Rec_api_Rec.f K (p)) (.cs dF .nl) [] []
theorem v_slices_ContainsFunc_api_Rec_api_Rec (K : Nat) : VOk Tryz.prog GD (S_slices_ContainsFunc_api_Rec_api_Rec K) := vk K .n Tryz.func145 Tryz.ntmps145 (vl (v_slices_IndexFunc_api_Rec_api_Rec K) v0)
def S_export_right (K : Nat) : FSp TD := sd 86 [(.sl (.st 4))] [.bool] (fun p => export_right.f K (p))
theorem v_export_right (K : Nat) : VOk Tryz.prog GD (S_export_right K) := vk K .n Tryz.func86 Tryz.ntmps86 (vl (v_slices_ContainsFunc_api_Rec_api_Rec K) v0)
def S_wire_Num (K : Nat) : FSp TD := sg 71 (.cs dI .nl) [] [tI] [tB] (fun p => wire_Num.f K (p)) (.cs (.own (.int .u8) 5 true) .nl) [] []
theorem v_wire_Num (K : Nat) : VOk Tryz.prog GD (S_wire_Num K) := vkM K (.s .n (.s (.j ⟨[(9, dF)], [], [.bool], [], [], []⟩ .n .n) (.s .n (.s (.s .n (.l ⟨[(0, dI), (3, (.own (.int .u8) 5 true))], [], [tI, tB], [], [], []⟩ (some ⟨[(3, (.own (.int .u8) 5 true))], [], [tB], [], [], []⟩) false .n)) .n)))) Tryz.func71 Tryz.ntmps71 v0 (rv_cons (w_slices_Reverse_byte_byte K) rv_nil) mp_nil
def S_rec_forms (K : Nat) : FSp TD := sg 147 .nl [] [] [] (fun p => rec_forms.f K) (.cs (.agg (.cs (.agg (.cs (.raw .nilFunc) .nl)) (.cs (.agg (.cs (.fn 187 .nl) .nl)) (.cs (.agg (.cs (.fn 188 .nl) .nl)) (.cs (.agg (.cs (.fn 189 .nl) .nl)) (.cs (.agg (.cs (.fn 188 .nl) .nl)) (.cs (.agg (.cs (.fn 191 .nl) .nl)) (.cs (.agg (.cs (.fn 192 .nl) .nl)) .nl)))))))) .nl) [] []
theorem v_rec_forms (K : Nat) : VOk Tryz.prog GD (S_rec_forms K) := vk K .n Tryz.func147 Tryz.ntmps147 v0
def S_rec_numbers (K : Nat) : FSp TD := sg 190 (.cs (.dt (.sl tI)) .nl) [] [(.sl tI)] [tB] (fun p => rec_numbers.f K (p)) (.cs (.own (.int .u8) 5 true) .nl) [] []
theorem v_rec_numbers (K : Nat) : VOk Tryz.prog GD (S_rec_numbers K) := vk K (.s .n (.s .n (.s (.s .n (.l ⟨[(3, (.own (.int .u8) 5 true)), (8, dI)], [], [tB, tI], [], [], []⟩ (some ⟨[(3, (.own (.int .u8) 5 true))], [], [tB], [], [], []⟩) false .n)) .n))) Tryz.func190 Tryz.ntmps190 (vl (v_wire_Num K) v0)
def S_rec_begin (K : Nat) : FSp TD := sg 187 (.cs (dD 4) .nl) [] [(.st 4)] [tB] (fun p => rec_begin.f K (p)) (.cs (.own (.int .u8) 5 true) .nl) [] []
theorem v_rec_begin (K : Nat) : VOk Tryz.prog GD (S_rec_begin K) := vk K (.s .n (.s .n (.s (.s .n (.l ⟨[(3, (.own (.int .u8) 5 true)), (16, dI)], [], [tB, tI], [], [], [1]⟩ (some ⟨[(3, (.own (.int .u8) 5 true))], [], [tB], [], [], [1]⟩) false .n)) .n))) Tryz.func187 Tryz.ntmps187 (vl (v_rec_numbers K) v0)
def S_wire_All (K : Nat) : FSp TD := sg 69 (.cs (.dt (.sl tB)) .nl) [] [(.sl tB)] [tB] (fun p => wire_All.f K (p)) (.cs (.own (.int .u8) 5 true) .nl) [] []
theorem v_wire_All (K : Nat) : VOk Tryz.prog GD (S_wire_All K) := vk K .n Tryz.func69 Tryz.ntmps69 (vl (v_slices_Concat_byte_byte K) v0)
def S_wire_Flag (K : Nat) : FSp TD := sg 70 (.cs dF .nl) [] [.bool] [tB] (fun p => wire_Flag.f K (p)) (.cs (.own (.int .u8) 5 true) .nl) [] []
theorem v_wire_Flag (K : Nat) : VOk Tryz.prog GD (S_wire_Flag K) := vk K .n Tryz.func70 Tryz.ntmps70 v0
def S_rec_call (K : Nat) : FSp TD := sg 188 (.cs (dD 4) .nl) [] [(.st 4)] [tB] (fun p => rec_call.f K (p)) (.cs (.own (.int .u8) 5 true) .nl) [] []
theorem v_rec_call (K : Nat) : VOk Tryz.prog GD (S_rec_call K) := vk K (.s .n (.s (.r (ob [2, 12, 22, 32, 42, 52, 62, 72, 84, 100, 110, 96, 126, 136, 146, 152]) [] [1]) .n)) Tryz.func188 Tryz.ntmps188 (vl (v_rec_numbers K) (vl (v_wire_Flag K) (vl (v_wire_All K) v0)))
def S_wire_Hash (K : Nat) : FSp TD := sg 72 (.cs dH .nl) [] [tH] [tB] (fun p => wire_Hash.f K (p)) (.cs (.own (.int .u8) 5 true) .nl) [] []
theorem v_wire_Hash (K : Nat) : VOk Tryz.prog GD (S_wire_Hash K) := vk K .n Tryz.func72 Tryz.ntmps72 (vl (v_slices_Clone_byte_byte K) v0)
def S_rec_forms_1 (K : Nat) : FSp TD := sg 189 (.cs (dD 4) .nl) [] [(.st 4)] [tB] (fun p => rec_forms_1.f K (p)) (.cs (.own (.int .u8) 5 true) .nl) [] []
theorem v_rec_forms_1 (K : Nat) : VOk Tryz.prog GD (S_rec_forms_1 K) := vk K (.s .n (.s (.r (ob [2, 20, 30, 50, 60, 70, 80, 94, 110, 120, 16, 46, 106, 136, 146, 156, 162]) [] [1]) .n)) Tryz.func189 Tryz.ntmps189 (vl (v_rec_call K) (vl (v_wire_Flag K) (vl (v_rec_numbers K) (vl (v_wire_Hash K) (vl (v_wire_All K) v0)))))
def S_rec_forms_2 (K : Nat) : FSp TD := sg 191 (.cs (dD 4) .nl) [] [(.st 4)] [tB] (fun p => rec_forms_2.f K (p)) (.cs (.own (.int .u8) 5 true) .nl) [] []
theorem v_rec_forms_2 (K : Nat) : VOk Tryz.prog GD (S_rec_forms_2 K) := vk K .n Tryz.func191 Tryz.ntmps191 (vl (v_rec_numbers K) v0)
def S_rec_forms_3 (K : Nat) : FSp TD := sg 192 (.cs (dD 4) .nl) [] [(.st 4)] [tB] (fun p => rec_forms_3.f K (p)) (.cs (.own (.int .u8) 5 true) .nl) [] []
theorem v_rec_forms_3 (K : Nat) : VOk Tryz.prog GD (S_rec_forms_3 K) := vk K .n Tryz.func192 Tryz.ntmps192 (vl (v_rec_numbers K) v0)
def S_mac_Of_1 (K : Nat) : FSp TD := sg 168 (.cs dB .nl) [] [tB] [tB] (fun p => mac_Of_1.f K (p)) (.cs (.own (.int .u8) 5 true) .nl) [] []
theorem v_mac_Of_1 (K : Nat) : VOk Tryz.prog GD (S_mac_Of_1 K) := vk K .n Tryz.func168 Tryz.ntmps168 (vl (v_mac_row K) (vl (v_slices_Concat_byte_byte K) v0))
def S_mac_joined_byte (K : Nat) : FSp TD := sg 167 (.cs (.dt (.sl tB)) (.cs (.fn 168 .nl) .nl)) [] [(.sl tB)] [tB] (fun p => mac_joined_byte.f K (p)) (.cs (.own (.int .u8) 5 true) .nl) [] []
theorem v_mac_joined_byte (K : Nat) : VOk Tryz.prog GD (S_mac_joined_byte K) := vk K (.s .n (.s .n (.s (.s .n (.l ⟨[(5, (.own (.int .u8) 5 true)), (10, dI)], [], [tB, tI], [], [], []⟩ (some ⟨[(5, (.own (.int .u8) 5 true))], [], [tB], [], [], []⟩) false .n)) .n))) Tryz.func167 Tryz.ntmps167 (vl (v_mac_Of_1 K) v0)
def S_mac_Of (K : Nat) : FSp TD := sd 125 [tI, (.sl tB)] [tH] (fun p => mac_Of.f K (p.1) (p.2))
theorem v_mac_Of (K : Nat) : VOk Tryz.prog GD (S_mac_Of K) := vk K .n Tryz.func125 Tryz.ntmps125 (vl (v_mac_joined_byte K) (vl (v_sha_Sum K) v0))
def S_rec_Com (K : Nat) : FSp TD := sd 63 [(.st 4)] [tH] (fun p => rec_Com.f K (p))
theorem v_rec_Com (K : Nat) : VOk Tryz.prog GD (S_rec_Com K) := vk K (.s .n (.s (.j ⟨[(3, dF)], [], [.bool], [], [], []⟩ .n .n) (.s (.r (ob [2, 12, 22, 32, 46, 56, 66]) [1] []) .n))) Tryz.func63 Tryz.ntmps63 (vl (v_rec_Right K) (vl (v_mac_Of K) v0))
def S_rec_Sealed_1 (K : Nat) : FSp TD := sg 93 (.cs (.ptr 0 0) .nl) [(52, (dD 4))] [(.st 4)] [tB] (fun p => rec_Sealed_1.f K (p)) (.cs (.own (.int .u8) 5 true) .nl) [none] []
theorem v_rec_Sealed_1 (K : Nat) : VOk Tryz.prog GD (S_rec_Sealed_1 K) := vk K .n Tryz.func93 Tryz.ntmps93 (vl (v_rec_Com K) (vl (v_wire_Hash K) v0))
def S_rec_put (K : Nat) : FSp TD := sg 92 (.cs (dD 4) (.cs (.fn 93 (.cs (.ptr 0 0) .nl)) .nl)) [(52, (dD 4))] [(.st 4), (.st 4)] [tB] (fun p => rec_put.f K (p.1) (p.2)) (.cs (.own (.int .u8) 5 true) .nl) [none] []
theorem v_rec_put (K : Nat) : VOk Tryz.prog GD (S_rec_put K) := vk K (.s .n (.s .n (.j ⟨[(5, (.own (.int .u8) 5 true))], [], [tB], [], [], []⟩ (.r (ob [2, 12, 40, 50, 80, 26, 36, 62, 72, 96, 106, 116, 122]) [] [2]) .n))) Tryz.func92 Tryz.ntmps92 (vl (v_rec_Right K) (vl (v_wire_Num K) (vl (v_rec_forms K) (vl (v_rec_begin K) (vl (v_wire_All K) (vl (v_rec_call K) (vl (v_rec_forms_1 K) (vl (v_rec_forms_2 K) (vl (v_rec_forms_3 K) (vl (v_rec_Sealed_1 K) v0))))))))))
def S_rec_Sealed (K : Nat) : FSp TD := sg 28 (.cs (dD 4) .nl) [] [(.st 4)] [tB] (fun p => rec_Sealed.f K (p)) (.cs (.own (.int .u8) 5 true) .nl) [] []
theorem v_rec_Sealed (K : Nat) : VOk Tryz.prog GD (S_rec_Sealed K) := vk K .n Tryz.func28 Tryz.ntmps28 (vl (v_rec_put K) v0)
def S_tree_Leaf (K : Nat) : FSp TD := sd 87 [tB] [tH] (fun p => tree_Leaf.f K (p))
theorem v_tree_Leaf (K : Nat) : VOk Tryz.prog GD (S_tree_Leaf K) := vk K .n Tryz.func87 Tryz.ntmps87 (vl (v_sha_Sum K) v0)
def S_export_Hashes (K : Nat) : FSp TD := sd 24 [(.sl (.st 4))] [(.sl tH)] (fun p => export_Hashes.f K (p))
theorem v_export_Hashes (K : Nat) : VOk Tryz.prog GD (S_export_Hashes K) := vk K (.s .n (.s .n (.s .n (.s (.s .n (.l ⟨[(3, (.own tH 37 true)), (11, dI)], [], [(.sl tH), tI], [], [], []⟩ (some ⟨[(3, (.own tH 37 true))], [], [(.sl tH)], [], [], []⟩) false .n)) .n)))) Tryz.func24 Tryz.ntmps24 (vl (v_export_right K) (vl (v_rec_Sealed K) (vl (v_tree_Leaf K) v0)))
def S_tree_Split (K : Nat) : FSp TD := sd 84 [tI] [tI] (fun p => tree_Split.f K (p))
theorem v_tree_Split (K : Nat) : VOk Tryz.prog GD (S_tree_Split K) := vk K (.s .n (.s .n (.s .n (.s (.l ⟨[(3, dI)], [], [tI], [], [], []⟩ (some ⟨[(3, dI)], [], [tI], [], [], []⟩) false .n) .n)))) Tryz.func84 Tryz.ntmps84 v0
def S_tree_Node (K : Nat) : FSp TD := sd 85 [tH, tH] [tH] (fun p => tree_Node.f K (p.1) (p.2))
theorem v_tree_Node (K : Nat) : VOk Tryz.prog GD (S_tree_Node K) := vk K (.s .n (.s (.r (ob [4, 12, 22, 36, 46, 56]) [2, 3] []) .n)) Tryz.func85 Tryz.ntmps85 (vl (v_sha_Sum K) v0)
def R_tree_Root (K k : Nat) : FSp TD := sd 23 [(.sl tH)] [tH] (fun p => tree_Root.r K k (p))
theorem r_tree_Root (K : Nat) : ∀ k, VOk Tryz.prog GD (R_tree_Root K k) := by
 intro k
 induction k with
 | zero => exact vok_no Tryz.func23 rfl (by kernel_rfl) (fun _ => rfl)
 | succ k ih =>
  exact vk K (.s .n (.s .n (.s .n (.s (.r (ob [2, 12, 40, 50, 60, 26, 36, 76, 86, 96]) [] []) .n)))) Tryz.func23 Tryz.ntmps23 (vl (v_sha_Sum K) (vl (v_tree_Split K) (vl (v_tree_Node K) (vl ih v0))))
def S_tree_Root (K : Nat) : FSp TD := R_tree_Root K K
theorem v_tree_Root (K : Nat) : VOk Tryz.prog GD (S_tree_Root K) := r_tree_Root K K
def S_keys_text (K : Nat) : FSp TD := sd 138 [(.st 6)] [tH] (fun p => keys_text.f K (p))
theorem v_keys_text (K : Nat) : VOk Tryz.prog GD (S_keys_text K) := vk K (.s .n (.s (.r (ob [2, 12, 30, 40, 26, 56, 66, 76]) [1] []) .n)) Tryz.func138 Tryz.ntmps138 (vl (v_wire_Num K) (vl (v_mac_Of K) v0))
def S_keys_Sign (K : Nat) : FSp TD := sd 79 [(.st 2), tI, (.st 6)] [tH] (fun p => keys_Sign.f K (p.1) (p.2.1) (p.2.2))
theorem v_keys_Sign (K : Nat) : VOk Tryz.prog GD (S_keys_Sign K) := vk K (.s .n (.s (.j ⟨[(25, dF)], [], [.bool], [], [], []⟩ .n .n) (.s .n (.s (.r (ob [0, 10, 20, 30, 40, 54, 62, 76, 86, 96]) [7] [3]) .n)))) Tryz.func79 Tryz.ntmps79 (vl (v_keys_May K) (vl (v_keys_within K) (vl (v_keys_text K) (vl (v_mac_Tag K) v0))))
def S_inspeximuslaw19_Signed (K : Nat) : FSp TD := sg 37 (.cs (dD 2) (.cs (.dt (.sl (.st 4))) .nl)) [] [(.st 2), (.sl (.st 4))] [tI, tH, (.sl (.st 5))] (fun p => inspeximuslaw19_Signed.f K (p.1) (p.2)) (.cs (.agg (.cs dI (.cs dH (.cs (.own (.st 5) 107 true) .nl)))) .nl) [] []
theorem v_inspeximuslaw19_Signed (K : Nat) : VOk Tryz.prog GD (S_inspeximuslaw19_Signed K) := vk K (.s .n (.s .n (.s .n (.s (.s .n (.l ⟨[(7, dI)], [(6, (.agg (.cs dI (.cs dH (.cs (.own (.st 5) 107 true) .nl)))))], [tI, tI, tH, (.sl (.st 5))], [], [], []⟩ (some ⟨[], [(6, (.agg (.cs dI (.cs dH (.cs (.own (.st 5) 107 true) .nl)))))], [tI, tH, (.sl (.st 5))], [], [], [2, 5]⟩) false (.s .n (.s (.r (ob [0, 10, 20, 32, 42, 52, 66, 72, 84, 96, 102, 116]) [] [6]) .n)))) .n)))) Tryz.func37 Tryz.ntmps37 (vl (v_export_Hashes K) (vl (v_tree_Root K) (vl (v_keys_Sign K) v0)))
def S_export_those (K : Nat) : FSp TD := sg 107 (.cs dI (.cs (.fn 108 .nl) .nl)) [] [tI] [tI] (fun p => export_those.f K (p)) (.cs (.fn 159 (.cs (.ptr 0 0) (.cs (.ptr 1 0) .nl))) .nl) [] [(3, dI), (173, (.fn 108 .nl))]
theorem v_export_those (K : Nat) : VOk Tryz.prog GD (S_export_those K) := vk K .n Tryz.func107 Tryz.ntmps107 v0
def S_export_Whole_1 (K : Nat) : FSp TD := sd 108 [tI] [.bool] (fun p => export_Whole_1.f K (p))
theorem v_export_Whole_1 (K : Nat) : VOk Tryz.prog GD (S_export_Whole_1 K) := vk K .n Tryz.func108 Tryz.ntmps108 v0
def S_rec_Redact (K : Nat) : FSp TD := sd 16 [(.st 4)] [(.st 4)] (fun p => rec_Redact.f K (p))
theorem v_rec_Redact (K : Nat) : VOk Tryz.prog GD (S_rec_Redact K) := vk K (.s .n (.s (.j ⟨[(10, dF)], [], [.bool], [], [], []⟩ .n .n) (.s (.r (ob [0, 10, 22, 32, 50, 46, 66, 72, 86]) [] [1]) .n))) Tryz.func16 Tryz.ntmps16 (vl (v_rec_Right K) (vl (v_slices_Clone_api_Step_api_Step K) (vl (v_rec_Com K) v0)))
def S_export_masked (K : Nat) : FSp TD := sd 158 [(.st 4), tI, (.int .u32)] [(.st 4)] (fun p => export_masked.f K (p.1) (p.2.1) (p.2.2))
theorem v_export_masked (K : Nat) : VOk Tryz.prog GD (S_export_masked K) := vk K (.s .n (.s .n (.s (.r (ob [2, 12, 30, 40, 26, 60, 56, 76, 82, 96]) [] [3]) .n))) Tryz.func158 Tryz.ntmps158 (vl (v_rec_Redact K) (vl (v_slices_Clone_api_Step_api_Step K) (vl (v_slices_Clone_byte_byte K) v0)))
def R_proof_Path (K k : Nat) : FSp TD := sg 91 (.cs (.dt (.sl tH)) (.cs dI .nl)) [] [(.sl tH), tI] [(.sl tH), .bool] (fun p => proof_Path.r K k (p.1) (p.2)) (.cs (.own tH 37 true) (.cs dF .nl)) [] []
theorem r_proof_Path (K : Nat) : ∀ k, VOk Tryz.prog GD (R_proof_Path K k) := by
 intro k
 induction k with
 | zero => exact vok_no Tryz.func91 rfl (by kernel_rfl) (fun _ => rfl)
 | succ k ih =>
  exact vk K (.s .n (.s (.j ⟨[(18, dF)], [], [.bool], [], [], []⟩ .n .n) .n)) Tryz.func91 Tryz.ntmps91 (vl (v_tree_Split K) (vl (v_tree_Root K) (vl ih v0)))
def S_proof_Path (K : Nat) : FSp TD := R_proof_Path K K
theorem v_proof_Path (K : Nat) : VOk Tryz.prog GD (S_proof_Path K) := r_proof_Path K K
def S_bundle_within (K : Nat) : FSp TD := sd 122 [tI, tI, tI] [.bool] (fun p => bundle_within.f K (p.1) (p.2.1) (p.2.2))
theorem v_bundle_within (K : Nat) : VOk Tryz.prog GD (S_bundle_within K) := vk K .n Tryz.func122 Tryz.ntmps122 v0
def S_bundle_point_1 (K : Nat) : FSp TD := sd 162 [(.st 5)] [.bool] (fun p => bundle_point_1.f K (p))
theorem v_bundle_point_1 (K : Nat) : VOk Tryz.prog GD (S_bundle_point_1 K) := vk K .n Tryz.func162 Tryz.ntmps162 (vl (v_bundle_within K) v0)
def S_slices_IndexFunc_api_Sig_api_Sig (K : Nat) : FSp TD := sg 195 (.cs (.dt (.sl (.st 5))) (.cs (.fn 162 .nl) .nl)) [] [(.sl (.st 5))] [tI] (fun p => slices_IndexFunc_api_Sig_api_Sig.f K (p)) (.cs dI .nl) [] []
theorem v_slices_IndexFunc_api_Sig_api_Sig (K : Nat) : VOk Tryz.prog GD (S_slices_IndexFunc_api_Sig_api_Sig K) := vk K (.s .n (.s (.s .n (.l ⟨[(8, dI)], [], [tI], [], [], []⟩ (some ⟨[], [], [], [], [], []⟩) true .n)) .n)) Tryz.func195 Tryz.ntmps195 (vl (v_bundle_point_1 K) v0)
def S_slices_ContainsFunc_api_Sig_api_Sig (K : Nat) : FSp TD := sg 163 (.cs (.dt (.sl (.st 5))) (.cs (.fn 162 .nl) .nl)) [] [(.sl (.st 5))] [.bool] (fun p => slices_ContainsFunc_api_Sig_api_Sig.f K (p)) (.cs dF .nl) [] []
theorem v_slices_ContainsFunc_api_Sig_api_Sig (K : Nat) : VOk Tryz.prog GD (S_slices_ContainsFunc_api_Sig_api_Sig K) := vk K .n Tryz.func163 Tryz.ntmps163 (vl (v_slices_IndexFunc_api_Sig_api_Sig K) v0)
def S_bundle_point (K : Nat) : FSp TD := sd 121 [(.st 6)] [.bool] (fun p => bundle_point.f K (p))
theorem v_bundle_point (K : Nat) : VOk Tryz.prog GD (S_bundle_point K) := vk K .n Tryz.func121 Tryz.ntmps121 (vl (v_bundle_within K) (vl (v_slices_ContainsFunc_api_Sig_api_Sig K) v0))
def S_bundle_Right (K : Nat) : FSp TD := sd 60 [(.st 9)] [.bool] (fun p => bundle_Right.f K (p))
theorem v_bundle_Right (K : Nat) : VOk Tryz.prog GD (S_bundle_Right K) := vk K (.s .n (.s (.j ⟨[(31, dF)], [], [.bool], [], [], []⟩ .n .n) (.s .n (.s (.s .n (.l ⟨[(3, dI), (35, dI)], [], [tI, tI], [], [], []⟩ (some ⟨[], [], [], [], [], [1]⟩) true (.s .n (.s .n (.s (.s .n (.s (.j ⟨[(77, dF)], [], [.bool], [], [], []⟩ .n .n) .n)) .n))))) .n)))) Tryz.func60 Tryz.ntmps60 (vl (v_bundle_point K) (vl (v_rec_Right K) (vl (v_bundle_within K) v0)))
def S_export_made (K : Nat) : FSp TD := sg 106 (.cs (.dt (.sl (.st 4))) (.cs (dD 6) (.cs (.dt (.int .u32)) (.cs dF (.cs (.fn 159 (.cs (.ptr 0 0) (.cs (.ptr 1 0) .nl))) .nl))))) [(3, dI), (173, (.fn 108 .nl))] [(.sl (.st 4)), (.st 6), (.int .u32), .bool, tI] [(.st 9), .bool] (fun p => export_made.f K (p.1) (p.2.1) (p.2.2.1) (p.2.2.2.1) (p.2.2.2.2)) (.cs (dD 9) (.cs dF .nl)) [none, none] []
theorem v_export_made (K : Nat) : VOk Tryz.prog GD (S_export_made K) := vk K (.s .n (.s (.j ⟨[(35, dF)], [], [.bool], [], [], []⟩ .n .n) (.s .n (.s (.r (ob [0, 10, 20, 30, 40, 52, 62, 104, 76, 82, 92, 116]) [] [6, 8]) (.s (.s .n (.g (.s .n (.l ⟨[(6, dI)], [(1000000000013, (.agg (.cs dF (.cs (dD 6) (.cs (.own (.st 8) 55 false) .nl)))))], [tI, .bool, (.st 6), (.sl (.st 8))], [], [], []⟩ (some ⟨[], [(1000000000013, (.agg (.cs dF (.cs (dD 6) (.cs (.own (.st 8) 55 false) .nl)))))], [.bool, (.st 6), (.sl (.st 8))], [], [], []⟩) true (.s .n (.s .n (.j ⟨[], [(1000000000013, (.agg (.cs dF (.cs (dD 6) (.cs (.own (.st 8) 55 false) .nl)))))], [.bool, (.st 6), (.sl (.st 8))], [], [], []⟩ .n .n))))) .n (.s (.j ⟨[(61, dF)], [], [.bool], [], [], []⟩ .n .n) (.s (.r (ob [0, 12, 22, 32, 42, 52, 62, 94, 76, 82, 106]) [] []) (.j ⟨[(73, dF)], [(15, (.agg (.cs dI (.cs (dD 4) (.cs (.own tH 37 true) .nl)))))], [.bool, tI, (.st 4), (.sl tH)], [], [], []⟩ .n .n))))) .n))))) Tryz.func106 Tryz.ntmps106 (vl (v_export_right K) (vl (v_export_Hashes K) (vl (v_slices_Clone_api_Sig_api_Sig K) (vl (v_export_Whole_1 K) (vl (v_export_masked K) (vl (v_proof_Path K) (vl (v_bundle_Right K) v0)))))))
def S_export_Whole (K : Nat) : FSp TD := sd 38 [(.sl (.st 4)), (.st 6), (.int .u32)] [(.st 9), .bool] (fun p => export_Whole.f K (p.1) (p.2.1) (p.2.2))
theorem v_export_Whole (K : Nat) : VOk Tryz.prog GD (S_export_Whole K) := vk K (.s .n (.s (.r (ob [0, 10, 20, 32, 42, 52, 66, 76, 82, 92, 106, 112]) [] [4]) .n)) Tryz.func38 Tryz.ntmps38 (vl (v_export_those K) (vl (v_export_made K) v0))
def S_export_those_v2 (K : Nat) : FSp TD := sg 107 (.cs dI (.cs (.fn 109 (.cs (.ptr 0 0) (.cs (.ptr 1 0) .nl))) .nl)) [(64, (.dt (.sl (.st 4)))), (3, dI)] [tI, (.sl (.st 4)), tI] [tI] (fun p => export_those_v2.f K (p.1) (p.2.1) (p.2.2)) (.cs (.fn 159 (.cs (.ptr 2 0) (.cs (.ptr 3 0) .nl))) .nl) [none, none] [(3, dI), (173, (.fn 109 (.cs (.ptr 0 0) (.cs (.ptr 1 0) .nl))))]
theorem v_export_those_v2 (K : Nat) : VOk Tryz.prog GD (S_export_those_v2 K) := vk K .n Tryz.func107 Tryz.ntmps107 v0
def S_export_Saga_1 (K : Nat) : FSp TD := sg 109 (.cs dI (.cs (.ptr 0 0) (.cs (.ptr 1 0) .nl))) [(64, (.dt (.sl (.st 4)))), (3, dI)] [tI, (.sl (.st 4)), tI] [.bool] (fun p => export_Saga_1.f K (p.1) (p.2.1) (p.2.2)) (.cs dF .nl) [none, none] []
theorem v_export_Saga_1 (K : Nat) : VOk Tryz.prog GD (S_export_Saga_1 K) := vk K (.s .n (.s (.r (ob [2, 12, 22, 32, 42, 52, 63, 72, 82, 92, 102, 112, 122, 132, 142, 152]) [] []) .n)) Tryz.func109 Tryz.ntmps109 v0
def S_export_made_v2 (K : Nat) : FSp TD := sg 106 (.cs (.dt (.sl (.st 4))) (.cs (dD 6) (.cs (.dt (.int .u32)) (.cs dF (.cs (.fn 159 (.cs (.ptr 0 0) (.cs (.ptr 1 0) .nl))) .nl))))) [(3, dI), (173, (.fn 109 (.cs (.ptr 2 0) (.cs (.ptr 3 0) .nl)))), (64, (.dt (.sl (.st 4)))), (3, dI)] [(.sl (.st 4)), (.st 6), (.int .u32), .bool, tI, (.sl (.st 4)), tI] [(.st 9), .bool] (fun p => export_made_v2.f K (p.1) (p.2.1) (p.2.2.1) (p.2.2.2.1) (p.2.2.2.2.1) (p.2.2.2.2.2.1) (p.2.2.2.2.2.2)) (.cs (dD 9) (.cs dF .nl)) [none, none, none, none] []
theorem v_export_made_v2 (K : Nat) : VOk Tryz.prog GD (S_export_made_v2 K) := vk K (.s .n (.s (.j ⟨[(35, dF)], [], [.bool], [], [], []⟩ .n .n) (.s .n (.s (.r (ob [0, 10, 20, 30, 40, 52, 62, 104, 76, 82, 92, 116]) [] [6, 8]) (.s (.s .n (.g (.s .n (.l ⟨[(6, dI)], [(1000000000013, (.agg (.cs dF (.cs (dD 6) (.cs (.own (.st 8) 55 false) .nl)))))], [tI, .bool, (.st 6), (.sl (.st 8))], [], [], []⟩ (some ⟨[], [(1000000000013, (.agg (.cs dF (.cs (dD 6) (.cs (.own (.st 8) 55 false) .nl)))))], [.bool, (.st 6), (.sl (.st 8))], [], [], []⟩) true (.s .n (.s .n (.j ⟨[], [(1000000000013, (.agg (.cs dF (.cs (dD 6) (.cs (.own (.st 8) 55 false) .nl)))))], [.bool, (.st 6), (.sl (.st 8))], [], [], []⟩ .n .n))))) .n (.s (.j ⟨[(61, dF)], [], [.bool], [], [], []⟩ .n .n) (.s (.r (ob [0, 12, 22, 32, 42, 52, 62, 94, 76, 82, 106]) [] []) (.j ⟨[(73, dF)], [(15, (.agg (.cs dI (.cs (dD 4) (.cs (.own tH 37 true) .nl)))))], [.bool, tI, (.st 4), (.sl tH)], [], [], []⟩ .n .n))))) .n))))) Tryz.func106 Tryz.ntmps106 (vl (v_export_right K) (vl (v_export_Hashes K) (vl (v_slices_Clone_api_Sig_api_Sig K) (vl (v_export_Saga_1 K) (vl (v_export_masked K) (vl (v_proof_Path K) (vl (v_bundle_Right K) v0)))))))
def S_export_Saga (K : Nat) : FSp TD := sd 39 [(.sl (.st 4)), (.st 6), (.int .u32), tI] [(.st 9), .bool] (fun p => export_Saga.f K (p.1) (p.2.1) (p.2.2.1) (p.2.2.2))
theorem v_export_Saga (K : Nat) : VOk Tryz.prog GD (S_export_Saga K) := vk K (.s .n (.s (.r (ob [0, 10, 20, 32, 42, 52, 62, 72, 82, 92, 106, 116, 122, 132, 146, 152]) [] [4, 5]) .n)) Tryz.func39 Tryz.ntmps39 (vl (v_export_those_v2 K) (vl (v_export_made_v2 K) v0))
def S_bundle_Put_1 (K : Nat) : FSp TD := sg 74 (.cs (dD 5) .nl) [] [(.st 5)] [tB] (fun p => bundle_Put_1.f K (p)) (.cs (.own (.int .u8) 5 true) .nl) [] []
theorem v_bundle_Put_1 (K : Nat) : VOk Tryz.prog GD (S_bundle_Put_1 K) := vk K (.s .n (.s (.r (ob [2, 12, 30, 40, 26, 56, 66, 76, 82]) [] [1]) .n)) Tryz.func74 Tryz.ntmps74 (vl (v_wire_Num K) (vl (v_wire_Hash K) (vl (v_wire_All K) v0)))
def S_bundle_list_api_Sig (K : Nat) : FSp TD := sg 73 (.cs (.dt (.sl (.st 5))) (.cs (.fn 74 .nl) .nl)) [] [(.sl (.st 5))] [tB] (fun p => bundle_list_api_Sig.f K (p)) (.cs (.own (.int .u8) 5 true) .nl) [] []
theorem v_bundle_list_api_Sig (K : Nat) : VOk Tryz.prog GD (S_bundle_list_api_Sig K) := vk K (.s .n (.s .n (.s (.s .n (.l ⟨[(5, (.own (.int .u8) 5 true)), (13, dI)], [], [tB, tI], [], [], []⟩ (some ⟨[(5, (.own (.int .u8) 5 true))], [], [tB], [], [], []⟩) false .n)) .n))) Tryz.func73 Tryz.ntmps73 (vl (v_wire_Num K) (vl (v_bundle_Put_1 K) v0))
def S_wire_Bytes (K : Nat) : FSp TD := sg 137 (.cs dB .nl) [] [tB] [tB] (fun p => wire_Bytes.f K (p)) (.cs (.own (.int .u8) 5 true) .nl) [] []
theorem v_wire_Bytes (K : Nat) : VOk Tryz.prog GD (S_wire_Bytes K) := vk K .n Tryz.func137 Tryz.ntmps137 (vl (v_wire_Num K) v0)
def S_rec_Open_1 (K : Nat) : FSp TD := sg 136 (.cs (.ptr 0 0) .nl) [(52, (dD 4))] [(.st 4)] [tB] (fun p => rec_Open_1.f K (p)) (.cs (.own (.int .u8) 5 true) .nl) [none] []
theorem v_rec_Open_1 (K : Nat) : VOk Tryz.prog GD (S_rec_Open_1 K) := vk K (.s .n (.s (.s .n (.s (.s (.r (ob [10, 20, 6, 36, 46, 56, 62]) [] [0]) .n) .n)) (.s (.r (ob [10, 20, 40, 50, 6, 36, 66, 76, 86, 92]) [] [0]) .n))) Tryz.func136 Tryz.ntmps136 (vl (v_wire_Flag K) (vl (v_wire_Hash K) (vl (v_wire_All K) (vl (v_wire_Bytes K) v0))))
def S_rec_put_v2 (K : Nat) : FSp TD := sg 92 (.cs (dD 4) (.cs (.fn 136 (.cs (.ptr 0 0) .nl)) .nl)) [(52, (dD 4))] [(.st 4), (.st 4)] [tB] (fun p => rec_put_v2.f K (p.1) (p.2)) (.cs (.own (.int .u8) 5 true) .nl) [none] []
theorem v_rec_put_v2 (K : Nat) : VOk Tryz.prog GD (S_rec_put_v2 K) := vk K (.s .n (.s .n (.j ⟨[(5, (.own (.int .u8) 5 true))], [], [tB], [], [], []⟩ (.r (ob [2, 12, 40, 50, 80, 26, 36, 62, 72, 96, 106, 116, 122]) [] [2]) .n))) Tryz.func92 Tryz.ntmps92 (vl (v_rec_Right K) (vl (v_wire_Num K) (vl (v_rec_forms K) (vl (v_rec_begin K) (vl (v_wire_All K) (vl (v_rec_call K) (vl (v_rec_forms_1 K) (vl (v_rec_forms_2 K) (vl (v_rec_forms_3 K) (vl (v_rec_Open_1 K) v0))))))))))
def S_rec_Open (K : Nat) : FSp TD := sg 77 (.cs (dD 4) .nl) [] [(.st 4)] [tB] (fun p => rec_Open.f K (p)) (.cs (.own (.int .u8) 5 true) .nl) [] []
theorem v_rec_Open (K : Nat) : VOk Tryz.prog GD (S_rec_Open K) := vk K .n Tryz.func77 Tryz.ntmps77 (vl (v_rec_put_v2 K) v0)
def S_bundle_list_api_Hash (K : Nat) : FSp TD := sg 135 (.cs (.dt (.sl tH)) (.cs (.fn 72 .nl) .nl)) [] [(.sl tH)] [tB] (fun p => bundle_list_api_Hash.f K (p)) (.cs (.own (.int .u8) 5 true) .nl) [] []
theorem v_bundle_list_api_Hash (K : Nat) : VOk Tryz.prog GD (S_bundle_list_api_Hash K) := vk K (.s .n (.s .n (.s (.s .n (.l ⟨[(5, (.own (.int .u8) 5 true)), (13, dI)], [], [tB, tI], [], [], []⟩ (some ⟨[(5, (.own (.int .u8) 5 true))], [], [tB], [], [], []⟩) false .n)) .n))) Tryz.func135 Tryz.ntmps135 (vl (v_wire_Num K) (vl (v_wire_Hash K) v0))
def S_bundle_item (K : Nat) : FSp TD := sg 76 (.cs (dD 8) .nl) [] [(.st 8)] [tB] (fun p => bundle_item.f K (p)) (.cs (.own (.int .u8) 5 true) .nl) [] []
theorem v_bundle_item (K : Nat) : VOk Tryz.prog GD (S_bundle_item K) := vk K (.s .n (.s (.r (ob [2, 12, 30, 40, 60, 70, 26, 56, 86, 96, 106, 112]) [] [1]) .n)) Tryz.func76 Tryz.ntmps76 (vl (v_wire_Num K) (vl (v_rec_Open K) (vl (v_bundle_list_api_Hash K) (vl (v_wire_All K) v0))))
def S_bundle_list_api_Item (K : Nat) : FSp TD := sg 75 (.cs (.dt (.sl (.st 8))) (.cs (.fn 76 .nl) .nl)) [] [(.sl (.st 8))] [tB] (fun p => bundle_list_api_Item.f K (p)) (.cs (.own (.int .u8) 5 true) .nl) [] []
theorem v_bundle_list_api_Item (K : Nat) : VOk Tryz.prog GD (S_bundle_list_api_Item K) := vk K (.s .n (.s .n (.s (.s .n (.l ⟨[(5, (.own (.int .u8) 5 true)), (13, dI)], [], [tB, tI], [], [], []⟩ (some ⟨[(5, (.own (.int .u8) 5 true))], [], [tB], [], [], []⟩) false .n)) .n))) Tryz.func75 Tryz.ntmps75 (vl (v_wire_Num K) (vl (v_bundle_item K) v0))
def S_bundle_Put (K : Nat) : FSp TD := sg 18 (.cs (dD 9) .nl) [] [(.st 9)] [tB] (fun p => bundle_Put.f K (p)) (.cs (.own (.int .u8) 5 true) .nl) [] []
theorem v_bundle_Put (K : Nat) : VOk Tryz.prog GD (S_bundle_Put K) := vk K (.s .n (.s .n (.s (.r (ob [4, 18, 22, 32, 50, 60, 70, 90, 100, 110, 130, 140, 150, 46, 86, 126, 166, 176, 186, 192]) [] [1]) (.s .n (.s (.s .n (.l ⟨[(3, (.own (.int .u8) 5 true)), (39, dI)], [], [tB, tI], [], [], [1]⟩ (some ⟨[(3, (.own (.int .u8) 5 true))], [], [tB], [], [], [1]⟩) false .n)) .n))))) Tryz.func18 Tryz.ntmps18 (vl (v_bundle_Right K) (vl (v_wire_Flag K) (vl (v_wire_Num K) (vl (v_wire_Hash K) (vl (v_bundle_list_api_Sig K) (vl (v_wire_All K) (vl (v_bundle_list_api_Item K) (vl (v_rec_Open K) v0))))))))
def S_audit_must (K : Nat) : FSp TD := sp 65 (.cs dF (.cs dI .nl)) [] [.bool, tI] [] (120, true) (fun p => audit_must.fs K (p.1) (p.2)) [] .nl [] []
theorem v_audit_must (K : Nat) : VOk Tryz.prog GD (S_audit_must K) := vkP K .n Tryz.func65 Tryz.ntmps65 v0 rfl
def S_bytes_HasPrefix (K : Nat) : FSp TD := sd 110 [tB, tB] [.bool] (fun p => bytes_HasPrefix.f K (p.1) (p.2))
theorem v_bytes_HasPrefix (K : Nat) : VOk Tryz.prog GD (S_bytes_HasPrefix K) := vk K .n Tryz.func110 Tryz.ntmps110 (vl (v_bytes_Equal K) v0)
def S_bytes_CutPrefix (K : Nat) : FSp TD := sd 45 [tB, tB] [tB, .bool] (fun p => bytes_CutPrefix.f K (p.1) (p.2))
theorem v_bytes_CutPrefix (K : Nat) : VOk Tryz.prog GD (S_bytes_CutPrefix K) := vk K .n Tryz.func45 Tryz.ntmps45 (vl (v_bytes_HasPrefix K) v0)
def S_wire_Read (K : Nat) : FSp TD := sg 46 (.cs dB .nl) [] [tB] [(.st 10)] (fun p => wire_Read.f K (p)) (.cs (.ptr 0 0) .nl) [] [(176, (dD 10))]
theorem v_wire_Read (K : Nat) : VOk Tryz.prog GD (S_wire_Read K) := vk K .n Tryz.func46 Tryz.ntmps46 (vl (v_slices_Clone_byte_byte K) v0)
def S_wire_Reader_Bad (K : Nat) : FSp TD := sg 118 (.cs (.ptr 0 0) .nl) [(176, (dD 10))] [(.st 10)] [tI] (fun p => wire_Reader_Bad.f K (p)) (.cs dI .nl) [none] []
theorem v_wire_Reader_Bad (K : Nat) : VOk Tryz.prog GD (S_wire_Reader_Bad K) := vk K .n Tryz.func118 Tryz.ntmps118 v0
def S_wire_Reader_Flag_1 (K : Nat) : FSp TD := sd 113 [tB] [.bool, tI, tI] (fun p => wire_Reader_Flag_1.f K (p))
theorem v_wire_Reader_Flag_1 (K : Nat) : VOk Tryz.prog GD (S_wire_Reader_Flag_1 K) := vk K .n Tryz.func113 Tryz.ntmps113 v0
def S_wire_Reader_Fail (K : Nat) : FSp TD := sg 49 (.cs (.ptr 0 0) (.cs dI .nl)) [(176, (dD 10))] [tI, (.st 10)] [(.st 10)] (fun p => wire_Reader_Fail.f K (p.1) (p.2)) .nl [some (dD 10)] []
theorem v_wire_Reader_Fail (K : Nat) : VOk Tryz.prog GD (S_wire_Reader_Fail K) := vk K (.j ⟨[(16, dF)], [], [.bool], [], [], []⟩ .n .n) Tryz.func49 Tryz.ntmps49 v0
def S_wire_take_bool (K : Nat) : FSp TD := sg 112 (.cs (.ptr 0 0) (.cs (.fn 113 .nl) .nl)) [(176, (dD 10))] [(.st 10)] [.bool, (.st 10)] (fun p => wire_take_bool.f K (p)) (.cs dF .nl) [some (dD 10)] []
theorem v_wire_take_bool (K : Nat) : VOk Tryz.prog GD (S_wire_take_bool K) := vk K .n Tryz.func112 Tryz.ntmps112 (vl (v_wire_Reader_Bad K) (vl (v_wire_Reader_Flag_1 K) (vl (v_wire_Reader_Fail K) v0)))
def S_wire_Reader_Flag (K : Nat) : FSp TD := sg 47 (.cs (.ptr 0 0) .nl) [(176, (dD 10))] [(.st 10)] [.bool, (.st 10)] (fun p => wire_Reader_Flag.f K (p)) (.cs dF .nl) [some (dD 10)] []
theorem v_wire_Reader_Flag (K : Nat) : VOk Tryz.prog GD (S_wire_Reader_Flag K) := vk K .n Tryz.func47 Tryz.ntmps47 (vl (v_wire_take_bool K) v0)
def S_wire_number (K : Nat) : FSp TD := sd 115 [tB] [tI, tI, tI] (fun p => wire_number.f K (p))
theorem v_wire_number (K : Nat) : VOk Tryz.prog GD (S_wire_number K) := vk K (.s .n (.s .n (.s (.s .n (.l ⟨[(5, dI), (10, dI)], [], [tI, tI], [], [], []⟩ (some ⟨[], [], [], [], [], []⟩) true (.s .n (.s .n (.s (.s .n (.s (.j ⟨[(24, dF)], [], [.bool], [], [], []⟩ .n .n) .n)) .n))))) .n))) Tryz.func115 Tryz.ntmps115 v0
def S_wire_take_int (K : Nat) : FSp TD := sg 114 (.cs (.ptr 0 0) (.cs (.fn 115 .nl) .nl)) [(176, (dD 10))] [(.st 10)] [tI, (.st 10)] (fun p => wire_take_int.f K (p)) (.cs dI .nl) [some (dD 10)] []
theorem v_wire_take_int (K : Nat) : VOk Tryz.prog GD (S_wire_take_int K) := vk K .n Tryz.func114 Tryz.ntmps114 (vl (v_wire_Reader_Bad K) (vl (v_wire_number K) (vl (v_wire_Reader_Fail K) v0)))
def S_wire_Reader_Num (K : Nat) : FSp TD := sg 48 (.cs (.ptr 0 0) .nl) [(176, (dD 10))] [(.st 10)] [tI, (.st 10)] (fun p => wire_Reader_Num.f K (p)) (.cs dI .nl) [some (dD 10)] []
theorem v_wire_Reader_Num (K : Nat) : VOk Tryz.prog GD (S_wire_Reader_Num K) := vk K .n Tryz.func48 Tryz.ntmps48 (vl (v_wire_take_int K) v0)
def S_wire_Reader_Hash_1 (K : Nat) : FSp TD := sd 117 [tB] [tH, tI, tI] (fun p => wire_Reader_Hash_1.f K (p))
theorem v_wire_Reader_Hash_1 (K : Nat) : VOk Tryz.prog GD (S_wire_Reader_Hash_1 K) := vk K .n Tryz.func117 Tryz.ntmps117 v0
def S_wire_take_api_Hash (K : Nat) : FSp TD := sg 116 (.cs (.ptr 0 0) (.cs (.fn 117 .nl) .nl)) [(176, (dD 10))] [(.st 10)] [tH, (.st 10)] (fun p => wire_take_api_Hash.f K (p)) (.cs dH .nl) [some (dD 10)] []
theorem v_wire_take_api_Hash (K : Nat) : VOk Tryz.prog GD (S_wire_take_api_Hash K) := vk K .n Tryz.func116 Tryz.ntmps116 (vl (v_wire_Reader_Bad K) (vl (v_wire_Reader_Hash_1 K) (vl (v_wire_Reader_Fail K) v0)))
def S_wire_Reader_Hash (K : Nat) : FSp TD := sg 50 (.cs (.ptr 0 0) .nl) [(176, (dD 10))] [(.st 10)] [tH, (.st 10)] (fun p => wire_Reader_Hash.f K (p)) (.cs dH .nl) [some (dD 10)] []
theorem v_wire_Reader_Hash (K : Nat) : VOk Tryz.prog GD (S_wire_Reader_Hash K) := vk K .n Tryz.func50 Tryz.ntmps50 (vl (v_wire_take_api_Hash K) v0)
def S_bundle_Get_1 (K : Nat) : FSp TD := sg 52 (.cs dI (.cs (.ptr 0 0) .nl)) [(100, (.ptr 1 0)), (176, (dD 10))] [tI, (.st 10)] [(.st 5), (.st 10)] (fun p => bundle_Get_1.f K (p.1) (p.2)) (.cs (dD 5) .nl) [none, some (dD 10)] []
theorem v_bundle_Get_1 (K : Nat) : VOk Tryz.prog GD (S_bundle_Get_1 K) := vk K (.s .n (.s (.r (ob [2, 20, 16, 36, 42, 56]) [] [1]) .n)) Tryz.func52 Tryz.ntmps52 (vl (v_wire_Reader_Num K) (vl (v_wire_Reader_Hash K) v0))
def S_bundle_read_api_Sig (K : Nat) : FSp TD := sg 51 (.cs (.ptr 0 0) (.cs dI (.cs dI (.cs (.fn 52 (.cs (.ptr 1 0) .nl)) .nl)))) [(176, (dD 10)), (100, (.ptr 0 0))] [tI, tI, (.st 10)] [(.sl (.st 5)), (.st 10)] (fun p => bundle_read_api_Sig.f K (p.1) (p.2.1) (p.2.2)) (.cs (.own (.st 5) 107 true) .nl) [some (dD 10), none] []
theorem v_bundle_read_api_Sig (K : Nat) : VOk Tryz.prog GD (S_bundle_read_api_Sig K) := vk K (.s .n (.j ⟨[], [(0, (dD 10))], [(.st 10)], [], [], []⟩ .n (.s .n (.s (.s .n (.l ⟨[(9, (.own (.st 5) 107 true)), (17, dI)], [(0, (dD 10))], [(.sl (.st 5)), tI, (.st 10)], [], [], []⟩ (some ⟨[(9, (.own (.st 5) 107 true))], [(0, (dD 10))], [(.sl (.st 5)), (.st 10)], [], [], []⟩) false .n)) .n)))) Tryz.func51 Tryz.ntmps51 (vl (v_wire_Reader_Fail K) (vl (v_wire_Reader_Bad K) (vl (v_bundle_Get_1 K) v0)))
def S_rec_steps (K : Nat) : FSp TD := sg 119 (.cs (.ptr 0 0) .nl) [(176, (dD 10))] [(.st 10)] [(.sl (.st 3)), (.st 10)] (fun p => rec_steps.f K (p)) (.cs (.own (.st 3) 90 true) .nl) [some (dD 10)] []
theorem v_rec_steps (K : Nat) : VOk Tryz.prog GD (S_rec_steps K) := vk K (.s .n (.s .n (.j ⟨[], [(0, (dD 10))], [(.st 10)], [], [], []⟩ .n (.s .n (.s (.s .n (.l ⟨[(4, (.own (.st 3) 90 true)), (12, dI)], [(0, (dD 10))], [(.sl (.st 3)), tI, (.st 10)], [], [], []⟩ (some ⟨[(4, (.own (.st 3) 90 true))], [(0, (dD 10))], [(.sl (.st 3)), (.st 10)], [], [], []⟩) false .n)) .n))))) Tryz.func119 Tryz.ntmps119 (vl (v_wire_Reader_Num K) (vl (v_wire_Reader_Fail K) (vl (v_wire_Reader_Bad K) v0)))
def S_wire_Reader_Bytes_1 (K : Nat) : FSp TD := sg 161 (.cs dB (.cs (.ptr 0 0) .nl)) [(3, dI)] [tB, tI] [tB, tI, tI] (fun p => wire_Reader_Bytes_1.f K (p.1) (p.2)) (.cs (.own (.int .u8) 5 true) (.cs dI (.cs dI .nl))) [none] []
theorem v_wire_Reader_Bytes_1 (K : Nat) : VOk Tryz.prog GD (S_wire_Reader_Bytes_1 K) := vk K .n Tryz.func161 Tryz.ntmps161 (vl (v_wire_number K) (vl (v_slices_Clone_byte_byte K) v0))
def S_wire_take_byte (K : Nat) : FSp TD := sg 160 (.cs (.ptr 0 0) (.cs (.fn 161 (.cs (.ptr 1 0) .nl)) .nl)) [(176, (dD 10)), (3, dI)] [(.st 10), tI] [tB, (.st 10)] (fun p => wire_take_byte.f K (p.1) (p.2)) (.cs (.own (.int .u8) 5 true) .nl) [some (dD 10), none] []
theorem v_wire_take_byte (K : Nat) : VOk Tryz.prog GD (S_wire_take_byte K) := vk K .n Tryz.func160 Tryz.ntmps160 (vl (v_wire_Reader_Bad K) (vl (v_wire_Reader_Bytes_1 K) (vl (v_wire_Reader_Fail K) v0)))
def S_wire_Reader_Bytes (K : Nat) : FSp TD := sg 120 (.cs (.ptr 0 0) (.cs dI .nl)) [(176, (dD 10))] [tI, (.st 10)] [tB, (.st 10)] (fun p => wire_Reader_Bytes.f K (p.1) (p.2)) (.cs (.own (.int .u8) 5 true) .nl) [some (dD 10)] []
theorem v_wire_Reader_Bytes (K : Nat) : VOk Tryz.prog GD (S_wire_Reader_Bytes K) := vk K .n Tryz.func120 Tryz.ntmps120 (vl (v_wire_take_byte K) v0)
def S_rec_Read (K : Nat) : FSp TD := sg 55 (.cs (.ptr 0 0) .nl) [(176, (dD 10))] [(.st 10)] [(.st 4), (.st 10)] (fun p => rec_Read.f K (p)) (.cs (dD 4) .nl) [some (dD 10)] []
theorem v_rec_Read (K : Nat) : VOk Tryz.prog GD (S_rec_Read K) := vk K (.s .n (.s .n (.j ⟨[], [(0, (dD 10)), (3, (.agg (.cs dI (.cs dI (.cs dI (.cs dI (.cs dI (.cs dF (.cs dF (.cs dI (.cs dI (.cs dI (.cs dH (.cs (.dt (.sl (.st 3))) (.cs dB (.cs dH (.cs dF (.cs dH .nl))))))))))))))))))], [(.st 10), tI, tI, tI, tI, tI, .bool, .bool, tI, tI, tI, tH, (.sl (.st 3)), tB, tH, .bool, tH], [], [], []⟩ (.s .n (.s .n (.s .n (.j ⟨[(33, dF)], [], [.bool], [], [], []⟩ .n .n)))) (.j ⟨[], [(0, (dD 10))], [(.st 10)], [], [], []⟩ .n .n)))) Tryz.func55 Tryz.ntmps55 (vl (v_wire_Reader_Num K) (vl (v_rec_steps K) (vl (v_wire_Reader_Flag K) (vl (v_wire_Reader_Hash K) (vl (v_wire_Reader_Bytes K) (vl (v_wire_Reader_Fail K) (vl (v_rec_Right K) (vl (v_wire_Reader_Bad K) v0))))))))
def S_bundle_Get_2 (K : Nat) : FSp TD := sg 54 (.cs dI (.cs (.ptr 0 0) .nl)) [(100, (.ptr 1 0)), (176, (dD 10))] [tI, (.st 10)] [(.st 8), (.st 10)] (fun p => bundle_Get_2.f K (p.1) (p.2)) (.cs (dD 8) .nl) [none, some (dD 10)] []
theorem v_bundle_Get_2 (K : Nat) : VOk Tryz.prog GD (S_bundle_Get_2 K) := vk K .n Tryz.func54 Tryz.ntmps54 (vl (v_rec_Read K) v0)
def S_bundle_read_api_Item (K : Nat) : FSp TD := sg 53 (.cs (.ptr 0 0) (.cs dI (.cs dI (.cs (.fn 54 (.cs (.ptr 1 0) .nl)) .nl)))) [(176, (dD 10)), (100, (.ptr 0 0))] [tI, tI, (.st 10)] [(.sl (.st 8)), (.st 10)] (fun p => bundle_read_api_Item.f K (p.1) (p.2.1) (p.2.2)) (.cs (.own (.st 8) 55 true) .nl) [some (dD 10), none] []
theorem v_bundle_read_api_Item (K : Nat) : VOk Tryz.prog GD (S_bundle_read_api_Item K) := vk K (.s .n (.j ⟨[], [(0, (dD 10))], [(.st 10)], [], [], []⟩ .n (.s .n (.s (.s .n (.l ⟨[(9, (.own (.st 8) 55 true)), (17, dI)], [(0, (dD 10))], [(.sl (.st 8)), tI, (.st 10)], [], [], []⟩ (some ⟨[(9, (.own (.st 8) 55 true))], [(0, (dD 10))], [(.sl (.st 8)), (.st 10)], [], [], []⟩) false .n)) .n)))) Tryz.func53 Tryz.ntmps53 (vl (v_wire_Reader_Fail K) (vl (v_wire_Reader_Bad K) (vl (v_bundle_Get_2 K) v0)))
def S_bundle_Get_3_1 (K : Nat) : FSp TD := sg 58 (.cs dI (.cs (.ptr 0 0) .nl)) [(100, (.ptr 1 0)), (176, (dD 10))] [tI, (.st 10)] [tH, (.st 10)] (fun p => bundle_Get_3_1.f K (p.1) (p.2)) (.cs dH .nl) [none, some (dD 10)] []
theorem v_bundle_Get_3_1 (K : Nat) : VOk Tryz.prog GD (S_bundle_Get_3_1 K) := vk K .n Tryz.func58 Tryz.ntmps58 (vl (v_wire_Reader_Hash K) v0)
def S_bundle_read_api_Hash (K : Nat) : FSp TD := sg 57 (.cs (.ptr 0 0) (.cs dI (.cs dI (.cs (.fn 58 (.cs (.ptr 1 0) .nl)) .nl)))) [(176, (dD 10)), (100, (.ptr 0 0))] [tI, tI, (.st 10)] [(.sl tH), (.st 10)] (fun p => bundle_read_api_Hash.f K (p.1) (p.2.1) (p.2.2)) (.cs (.own tH 37 true) .nl) [some (dD 10), none] []
theorem v_bundle_read_api_Hash (K : Nat) : VOk Tryz.prog GD (S_bundle_read_api_Hash K) := vk K (.s .n (.j ⟨[], [(0, (dD 10))], [(.st 10)], [], [], []⟩ .n (.s .n (.s (.s .n (.l ⟨[(9, (.own tH 37 true)), (17, dI)], [(0, (dD 10))], [(.sl tH), tI, (.st 10)], [], [], []⟩ (some ⟨[(9, (.own tH 37 true))], [(0, (dD 10))], [(.sl tH), (.st 10)], [], [], []⟩) false .n)) .n)))) Tryz.func57 Tryz.ntmps57 (vl (v_wire_Reader_Fail K) (vl (v_wire_Reader_Bad K) (vl (v_bundle_Get_3_1 K) v0)))
def S_bundle_Get_3 (K : Nat) : FSp TD := sg 56 (.cs dI (.cs (.ptr 0 0) .nl)) [(100, (.ptr 1 0)), (176, (dD 10))] [tI, (.st 10)] [(.st 8), (.st 10)] (fun p => bundle_Get_3.f K (p.1) (p.2)) (.cs (dD 8) .nl) [none, some (dD 10)] []
theorem v_bundle_Get_3 (K : Nat) : VOk Tryz.prog GD (S_bundle_Get_3 K) := vk K (.s .n (.s (.r (ob [2, 20, 54, 16, 36, 42, 66]) [] [1]) (.s (.r (ob [0, 12, 30, 26, 46, 52, 66]) [] [1]) .n))) Tryz.func56 Tryz.ntmps56 (vl (v_wire_Reader_Num K) (vl (v_rec_Read K) (vl (v_bundle_read_api_Hash K) v0)))
def S_bundle_read_api_Item_v2 (K : Nat) : FSp TD := sg 53 (.cs (.ptr 0 0) (.cs dI (.cs dI (.cs (.fn 56 (.cs (.ptr 1 0) .nl)) .nl)))) [(176, (dD 10)), (100, (.ptr 0 0))] [tI, tI, (.st 10)] [(.sl (.st 8)), (.st 10)] (fun p => bundle_read_api_Item_v2.f K (p.1) (p.2.1) (p.2.2)) (.cs (.own (.st 8) 55 true) .nl) [some (dD 10), none] []
theorem v_bundle_read_api_Item_v2 (K : Nat) : VOk Tryz.prog GD (S_bundle_read_api_Item_v2 K) := vk K (.s .n (.j ⟨[], [(0, (dD 10))], [(.st 10)], [], [], []⟩ .n (.s .n (.s (.s .n (.l ⟨[(9, (.own (.st 8) 55 true)), (17, dI)], [(0, (dD 10))], [(.sl (.st 8)), tI, (.st 10)], [], [], []⟩ (some ⟨[(9, (.own (.st 8) 55 true))], [(0, (dD 10))], [(.sl (.st 8)), (.st 10)], [], [], []⟩) false .n)) .n)))) Tryz.func53 Tryz.ntmps53 (vl (v_wire_Reader_Fail K) (vl (v_wire_Reader_Bad K) (vl (v_bundle_Get_3 K) v0)))
def S_wire_Reader_Done (K : Nat) : FSp TD := sg 59 (.cs (.ptr 0 0) .nl) [(176, (dD 10))] [(.st 10)] [tI] (fun p => wire_Reader_Done.f K (p)) (.cs dI .nl) [none] []
theorem v_wire_Reader_Done (K : Nat) : VOk Tryz.prog GD (S_wire_Reader_Done K) := vk K .n Tryz.func59 Tryz.ntmps59 (vl (v_wire_Reader_Bad K) v0)
def S_bundle_Get (K : Nat) : FSp TD := sd 15 [tB] [(.st 9), tI] (fun p => bundle_Get.f K (p))
theorem v_bundle_Get (K : Nat) : VOk Tryz.prog GD (S_bundle_Get K) := vk K (.s .n (.s .n (.s .n (.s .n (.s .n (.s .n (.j ⟨[], [(1000000006, (dD 10))], [(.st 10)], [], [], []⟩ .n (.s .n (.s (.r (ob [0, 12, 30, 26, 46, 52, 62, 76]) [] [6]) (.j ⟨[], [(7, (.agg (.cs dF (.cs (.agg (.cs dI (.cs dH (.cs (.own (.st 5) 107 true) .nl)))) (.cs (.own (.st 8) 55 true) .nl))))), (1000000006, (dD 10))], [.bool, tI, tH, (.sl (.st 5)), (.sl (.st 8)), (.st 10)], [], [], []⟩ (.s .n (.s .n (.r (ob [0, 12, 30, 40, 50, 60, 26, 76, 82, 96]) [] [6, 7]))) .n)))))))))) Tryz.func15 Tryz.ntmps15 (vl (v_bytes_CutPrefix K) (vl (v_wire_Read K) (vl (v_wire_Reader_Flag K) (vl (v_wire_Reader_Num K) (vl (v_wire_Reader_Fail K) (vl (v_wire_Reader_Hash K) (vl (v_bundle_read_api_Sig K) (vl (v_bundle_read_api_Item K) (vl (v_bundle_read_api_Item_v2 K) (vl (v_wire_Reader_Done K) (vl (v_bundle_Right K) v0)))))))))))
def S_mac_Equal_1 (K : Nat) : FSp TD := sg 178 (.cs dI (.cs (.ptr 0 0) (.cs (.ptr 1 0) (.cs (.ptr 2 0) .nl)))) [(5, (.dt (.int .u8))), (37, dH), (37, dH)] [tI, (.int .u8), tH, tH] [(.int .u8)] (fun p => mac_Equal_1.f K (p.1) (p.2.1) (p.2.2.1) (p.2.2.2)) .nl [some (.dt (.int .u8)), none, none] []
theorem v_mac_Equal_1 (K : Nat) : VOk Tryz.prog GD (S_mac_Equal_1 K) := vk K (.r (ob [2, 12, 22, 32, 42, 52, 62, 72, 82, 96]) [] []) Tryz.func178 Tryz.ntmps178 v0
def S_mac_Equal (K : Nat) : FSp TD := sd 140 [tH, tH] [.bool] (fun p => mac_Equal.f K (p.1) (p.2))
theorem v_mac_Equal (K : Nat) : VOk Tryz.prog GD (S_mac_Equal K) := vk K (.s .n (.s .n (.s .n (.s (.s .n (.l ⟨[(9, dI)], [(5, (.dt (.int .u8)))], [tI, (.int .u8)], [], [], []⟩ (some ⟨[], [(5, (.dt (.int .u8)))], [(.int .u8)], [], [], [2, 3]⟩) false .n)) .n)))) Tryz.func140 Tryz.ntmps140 (vl (v_mac_Equal_1 K) v0)
def S_keys_must_is (K : Nat) : FSp TD := sd 80 [(.st 11), tH] [.bool] (fun p => keys_must_is.f K (p.1) (p.2))
theorem v_keys_must_is (K : Nat) : VOk Tryz.prog GD (S_keys_must_is K) := vk K .n Tryz.func80 Tryz.ntmps80 (vl (v_mac_Equal K) v0)
def S_keys_Check (K : Nat) : FSp TD := sd 19 [(.st 2), (.st 6)] [tI] (fun p => keys_Check.f K (p.1) (p.2))
theorem v_keys_Check (K : Nat) : VOk Tryz.prog GD (S_keys_Check K) := vk K (.s .n (.s (.j ⟨[(17, dF)], [], [.bool], [], [], []⟩ .n .n) (.s .n (.s (.s .n (.l ⟨[(21, dI)], [(5, (.dt (.vec 4 .bool)))], [tI, (.vec 4 .bool)], [], [], []⟩ (some ⟨[], [], [], [], [], [5]⟩) true (.s .n (.s .n (.s (.s .n (.s (.j ⟨[(38, dF)], [], [.bool], [], [], []⟩ .n .n) .n)) .n))))) .n)))) Tryz.func19 Tryz.ntmps19 (vl (v_keys_May K) (vl (v_keys_within K) (vl (v_keys_Sign K) (vl (v_keys_must_is K) v0))))
def S_audit_leaf (K : Nat) : FSp TD := sd 127 [(.st 4)] [tH] (fun p => audit_leaf.f K (p))
theorem v_audit_leaf (K : Nat) : VOk Tryz.prog GD (S_audit_leaf K) := vk K .n Tryz.func127 Tryz.ntmps127 (vl (v_rec_Sealed K) (vl (v_tree_Leaf K) v0))
def S_tree_stack_api_Hash_pop (K : Nat) : FSp TD := sg 169 (.cs (.ptr 0 0) .nl) [(189, (.agg (.cs (.agg (.cs (.own tH 37 true) .nl)) (.cs dI .nl))))] [(.sl tH), tI] [tH, (.sl tH), tI] (fun p => tree_stack_api_Hash_pop.f K (p.1) (p.2)) (.cs dH .nl) [some (.agg (.cs (.agg (.cs (.own tH 37 true) .nl)) (.cs dI .nl)))] []
theorem v_tree_stack_api_Hash_pop (K : Nat) : VOk Tryz.prog GD (S_tree_stack_api_Hash_pop K) := vk K (.s .n (.s (.r (ob [2, 12, 22, 32, 42, 52, 62, 72, 82, 92, 102, 112, 124, 136]) [] []) (.s (.r (ob [0, 12, 22, 32, 42, 52, 62, 72, 82, 92, 102, 116, 122, 132, 146]) [] []) .n))) Tryz.func169 Tryz.ntmps169 v0
def S_tree_stack_api_Hash_push (K : Nat) : FSp TD := sg 170 (.cs (.ptr 0 0) (.cs dH .nl)) [(189, (.agg (.cs (.agg (.cs (.own tH 37 true) .nl)) (.cs dI .nl))))] [tH, (.sl tH), tI] [(.sl tH), tI] (fun p => tree_stack_api_Hash_push.f K (p.1) (p.2.1) (p.2.2)) .nl [some (.agg (.cs (.agg (.cs (.own tH 37 true) .nl)) (.cs dI .nl)))] []
theorem v_tree_stack_api_Hash_push (K : Nat) : VOk Tryz.prog GD (S_tree_stack_api_Hash_push K) := vk K (.s .n (.r (ob [0, 12, 22, 32, 42, 52, 64, 76, 82, 92, 106]) [] [])) Tryz.func170 Tryz.ntmps170 v0
def S_tree_Front_Add (K : Nat) : FSp TD := sg 126 (.cs (.ptr 0 0) (.cs dH .nl)) [(189, (.agg (.cs (.agg (.cs (.own tH 37 true) .nl)) (.cs dI .nl))))] [tH, (.sl tH), tI] [(.sl tH), tI] (fun p => tree_Front_Add.f K (p.1) (p.2.1) (p.2.2)) .nl [some (.agg (.cs (.agg (.cs (.own tH 37 true) .nl)) (.cs dI .nl)))] []
theorem v_tree_Front_Add (K : Nat) : VOk Tryz.prog GD (S_tree_Front_Add K) := vk K (.s .n (.s .n (.s (.s .n (.l ⟨[(4, dI)], [(0, (.agg (.cs (.agg (.cs (.own tH 37 true) .nl)) (.cs dI .nl)))), (3, dH)], [tI, (.sl tH), tI, tH], [], [], []⟩ (some ⟨[], [(0, (.agg (.cs (.agg (.cs (.own tH 37 true) .nl)) (.cs dI .nl)))), (3, dH)], [(.sl tH), tI, tH], [], [], []⟩) false (.s .n (.s (.r (ob [2, 12, 22, 40, 36, 56, 66]) [] [3]) .n)))) (.s (.r (ob [2, 12, 22, 32, 46]) [] []) .n)))) Tryz.func126 Tryz.ntmps126 (vl (v_tree_stack_api_Hash_pop K) (vl (v_tree_Node K) (vl (v_tree_stack_api_Hash_push K) v0)))
def S_tree_Front_Size (K : Nat) : FSp TD := sg 171 (.cs (.ptr 0 0) .nl) [(189, (.agg (.cs (.agg (.cs (.own tH 37 true) .nl)) (.cs dI .nl))))] [(.sl tH), tI] [tI, (.sl tH), tI] (fun p => tree_Front_Size.f K (p.1) (p.2)) (.cs dI .nl) [some (.agg (.cs (.agg (.cs (.own tH 37 true) .nl)) (.cs dI .nl)))] []
theorem v_tree_Front_Size (K : Nat) : VOk Tryz.prog GD (S_tree_Front_Size K) := vk K .n Tryz.func171 Tryz.ntmps171 v0
def S_tree_stack_api_Hash_down (K : Nat) : FSp TD := sg 172 (.cs (.ptr 0 0) .nl) [(189, (.agg (.cs (.agg (.cs (.own tH 37 true) .nl)) (.cs dI .nl))))] [(.sl tH), tI] [(.sl tH), tI] (fun p => tree_stack_api_Hash_down.f K (p.1) (p.2)) (.cs (.fn 197 (.cs (.ptr 1 0) .nl)) .nl) [some (.agg (.cs (.agg (.cs (.own tH 37 true) .nl)) (.cs dI .nl)))] [(264, (.ptr 0 0))]
theorem v_tree_stack_api_Hash_down (K : Nat) : VOk Tryz.prog GD (S_tree_stack_api_Hash_down K) := vk K .n Tryz.func172 Tryz.ntmps172 v0
def S_tree_Front_Root (K : Nat) : FSp TD := sg 128 (.cs (.ptr 0 0) .nl) [(189, (.agg (.cs (.agg (.cs (.own tH 37 true) .nl)) (.cs dI .nl))))] [(.sl tH), tI] [tH, (.sl tH), tI] (fun p => tree_Front_Root.f K (p.1) (p.2)) (.cs dH .nl) [some (.agg (.cs (.agg (.cs (.own tH 37 true) .nl)) (.cs dI .nl)))] []
theorem v_tree_Front_Root (K : Nat) : VOk Tryz.prog GD (S_tree_Front_Root K) := vk K (.s .n (.s .n (.s .n (.s .n (.s (.s .n (.g (.s .n (.l ⟨[(3, dI)], [(1000000000003, dH), (1000000000004, dF)], [tI, tH, .bool], [], [], []⟩ (some ⟨[], [(1000000000003, dH), (1000000000004, dF)], [tH, .bool], [], [], []⟩) false (.s .n (.j ⟨[], [(1000000000003, dH), (1000000000004, dF)], [tH, .bool], [], [], []⟩ .n .n)))) .n .n)) .n))))) Tryz.func128 Tryz.ntmps128 (vl (v_tree_Front_Size K) (vl (v_sha_Sum K) (vl (v_tree_stack_api_Hash_down K) (vl (v_tree_Node K) v0))))
def S_keys_Holds (K : Nat) : FSp TD := sd 21 [(.st 2), (.st 4)] [.bool] (fun p => keys_Holds.f K (p.1) (p.2))
theorem v_keys_Holds (K : Nat) : VOk Tryz.prog GD (S_keys_Holds K) := vk K (.s .n (.s .n (.j ⟨[(4, dF)], [], [.bool], [], [], [2, 3]⟩ .n .n))) Tryz.func21 Tryz.ntmps21 (vl (v_keys_Receipt K) (vl (v_rec_Right K) (vl (v_keys_known K) (vl (v_keys_must_is K) v0))))
def S_audit_auditor_receipt (K : Nat) : FSp TD := sp 129 (.cs (dD 12) (.cs (dD 4) .nl)) [] [(.st 12), (.st 4)] [] (120, true) (fun p => audit_auditor_receipt.fs K (p.1) (p.2)) [] .nl [] []
theorem v_audit_auditor_receipt (K : Nat) : VOk Tryz.prog GD (S_audit_auditor_receipt K) := vkP K .n Tryz.func129 Tryz.ntmps129 (vl (v_keys_Holds K) (vl (v_audit_must K) v0)) rfl
def S_saga_within (K : Nat) : FSp TD := sd 198 [tI, tI, tI] [.bool] (fun p => saga_within.f K (p.1) (p.2.1) (p.2.2))
theorem v_saga_within (K : Nat) : VOk Tryz.prog GD (S_saga_within K) := vk K .n Tryz.func198 Tryz.ntmps198 v0
def S_saga_May (K : Nat) : FSp TD := sd 173 [(.sl (.st 3))] [.bool] (fun p => saga_May.f K (p))
theorem v_saga_May (K : Nat) : VOk Tryz.prog GD (S_saga_May K) := vk K (.s .n (.s .n (.s .n (.s (.s .n (.l ⟨[(3, dI), (12, dI)], [], [tI, tI], [], [], []⟩ (some ⟨[], [], [], [], [], []⟩) true (.s .n (.s .n (.j ⟨[(3, dI)], [], [tI], [], [], []⟩ (.s .n (.s (.j ⟨[(26, dF)], [], [.bool], [], [], []⟩ .n .n) .n)) .n))))) .n)))) Tryz.func173 Tryz.ntmps173 (vl (v_saga_within K) v0)
def S_saga_New (K : Nat) : FSp TD := sd 174 [(.sl (.st 3))] [(.st 15)] (fun p => saga_New.f K (p))
theorem v_saga_New (K : Nat) : VOk Tryz.prog GD (S_saga_New K) := vk K .n Tryz.func174 Tryz.ntmps174 (vl (v_saga_May K) (vl (v_slices_Clone_api_Step_api_Step K) v0))
def S_book_begin (K : Nat) : FSp TD := sd 179 [(.st 16), (.st 4), tI] [(.st 16), .bool] (fun p => book_begin.f K (p.1) (p.2.1) (p.2.2))
theorem v_book_begin (K : Nat) : VOk Tryz.prog GD (S_book_begin K) := vk K (.s .n (.s (.j ⟨[(25, dF)], [], [.bool], [], [], []⟩ .n .n) (.s (.r (ob [2, 12, 30, 40, 26, 56, 66, 76, 82, 96]) [] [4]) .n))) Tryz.func179 Tryz.ntmps179 (vl (v_saga_May K) (vl (v_slices_Clone_api_Saga_api_Saga K) (vl (v_saga_New K) v0)))
def S_saga_Over (K : Nat) : FSp TD := sd 199 [(.st 15)] [.bool] (fun p => saga_Over.f K (p))
theorem v_saga_Over (K : Nat) : VOk Tryz.prog GD (S_saga_Over K) := vk K .n Tryz.func199 Tryz.ntmps199 (vl (v_saga_within K) v0)
def S_saga_step (K : Nat) : FSp TD := sd 203 [(.st 15)] [tI] (fun p => saga_step.f K (p))
theorem v_saga_step (K : Nat) : VOk Tryz.prog GD (S_saga_step K) := vk K .n Tryz.func203 Tryz.ntmps203 (vl (v_saga_target K) v0)
def S_saga_Due (K : Nat) : FSp TD := sd 200 [(.st 15), tI] [(.st 4), .bool] (fun p => saga_Due.f K (p.1) (p.2))
theorem v_saga_Due (K : Nat) : VOk Tryz.prog GD (S_saga_Due K) := vk K (.s .n (.s (.j ⟨[(23, dF)], [], [.bool], [], [], []⟩ .n .n) (.s .n (.s (.j ⟨[(27, dF)], [], [.bool], [], [], []⟩ .n .n) .n)))) Tryz.func200 Tryz.ntmps200 (vl (v_saga_Over K) (vl (v_saga_within K) (vl (v_saga_step K) v0)))
def S_saga_pick (K : Nat) : FSp TD := sd 201 [(.st 15), (.st 15), .bool] [(.st 15), .bool] (fun p => saga_pick.f K (p.1) (p.2.1) (p.2.2))
theorem v_saga_pick (K : Nat) : VOk Tryz.prog GD (S_saga_pick K) := vk K .n Tryz.func201 Tryz.ntmps201 v0
def S_saga_of (K : Nat) : FSp TD := sd 202 [(.st 4)] [(.st 17)] (fun p => saga_of.f K (p))
theorem v_saga_of (K : Nat) : VOk Tryz.prog GD (S_saga_of K) := vk K .n Tryz.func202 Tryz.ntmps202 v0
def S_saga_turn (K : Nat) : FSp TD := sd 210 [(.st 15)] [(.st 15)] (fun p => saga_turn.f K (p))
theorem v_saga_turn (K : Nat) : VOk Tryz.prog GD (S_saga_turn K) := vk K .n Tryz.func210 Tryz.ntmps210 v0
def S_saga_answered (K : Nat) : FSp TD := sd 204 [(.st 15), (.st 4)] [(.st 15)] (fun p => saga_answered.f K (p.1) (p.2))
theorem v_saga_answered (K : Nat) : VOk Tryz.prog GD (S_saga_answered K) := vk K (.s .n (.s .n (.s .n (.j ⟨[], [(2, (dD 15))], [(.st 15)], [], [], [3]⟩ (.j ⟨[(11, dF)], [], [.bool], [], [], []⟩ .n .n) .n)))) Tryz.func204 Tryz.ntmps204 (vl (v_saga_step K) (vl (v_saga_turn K) v0))
def S_saga_lapsed (K : Nat) : FSp TD := sd 205 [(.st 15), tI] [(.st 15)] (fun p => saga_lapsed.f K (p.1) (p.2))
theorem v_saga_lapsed (K : Nat) : VOk Tryz.prog GD (S_saga_lapsed K) := vk K (.s .n (.s .n (.s (.s .n (.s (.s (.r (ob [2, 12, 22, 32, 42, 52, 66]) [] []) (.j ⟨[(29, dF)], [], [.bool], [], [], []⟩ .n .n)) .n)) .n))) Tryz.func205 Tryz.ntmps205 (vl (v_saga_step K) (vl (v_saga_turn K) v0))
def S_saga_Go (K : Nat) : FSp TD := sd 175 [(.st 15), (.st 4), tI] [(.st 15), .bool] (fun p => saga_Go.f K (p.1) (p.2.1) (p.2.2))
theorem v_saga_Go (K : Nat) : VOk Tryz.prog GD (S_saga_Go K) := vk K (.s .n (.s (.j ⟨[(30, dF)], [], [.bool], [], [], []⟩ .n .n) (.s .n (.s .n (.s .n (.s (.s .n (.j ⟨[], [], [], [], [], [9]⟩ (.s (.s (.s (.s (.s .n (.s .n (.j ⟨[(49, dF)], [], [.bool], [], [], [9]⟩ .n .n))) .n) (.s (.s (.r (ob [0, 10, 20, 30, 42, 56, 62, 76, 82, 96]) [] [4]) (.s (.r (ob [0, 10, 22, 33, 42, 60, 56, 76, 82, 92, 106, 112, 122, 136, 142]) [] [3, 4, 8]) .n)) .n)) (.s (.s .n (.s (.r (ob [0, 10, 22, 33, 42, 60, 56, 76, 82, 92, 106, 112, 122, 136, 142]) [] [3, 4, 8]) .n)) .n)) (.s (.j ⟨[(111, dF)], [], [.bool], [], [], []⟩ (.r (ob [2, 12, 22, 33, 40, 50, 62, 76, 82, 92, 103, 112, 122, 132, 142, 152, 162, 173, 182, 192, 202, 212, 222, 232]) [] [4]) .n) .n)) .n)) .n)))))) Tryz.func175 Tryz.ntmps175 (vl (v_saga_Over K) (vl (v_saga_within K) (vl (v_saga_Due K) (vl (v_saga_pick K) (vl (v_saga_of K) (vl (v_saga_step K) (vl (v_saga_answered K) (vl (v_saga_lapsed K) v0))))))))
def S_book_call (K : Nat) : FSp TD := sd 180 [(.st 16), (.st 4), tI] [(.st 16), .bool] (fun p => book_call.f K (p.1) (p.2.1) (p.2.2))
theorem v_book_call (K : Nat) : VOk Tryz.prog GD (S_book_call K) := vk K (.s .n (.s .n (.s (.r (ob [2, 12, 22, 32, 42, 52, 62, 72, 124, 86, 92, 102, 110, 136, 142]) [] []) .n))) Tryz.func180 Tryz.ntmps180 (vl (v_saga_Go K) (vl (v_slices_Clone_api_Saga_api_Saga K) v0))
def S_book_receipt (K : Nat) : FSp TD := sd 181 [(.st 16), (.st 4), tI] [(.st 16), .bool] (fun p => book_receipt.f K (p.1) (p.2.1) (p.2.2))
theorem v_book_receipt (K : Nat) : VOk Tryz.prog GD (S_book_receipt K) := vk K (.s .n (.s (.j ⟨[(53, dF)], [], [.bool], [], [], []⟩ (.r (ob [2, 12, 22, 32, 42, 52, 63, 72, 82, 92, 102, 112, 122, 132, 142, 152, 162, 172, 182, 193, 202, 212, 222, 232, 242, 252, 262, 272, 282, 292, 302, 312, 322, 332, 342, 352, 363, 372, 382, 392, 402, 412, 422, 432, 442, 452]) [] []) .n) .n)) Tryz.func181 Tryz.ntmps181 (vl (v_book_call K) v0)
def S_book_rotate (K : Nat) : FSp TD := sd 182 [(.st 16), (.st 4), tI] [(.st 16), .bool] (fun p => book_rotate.f K (p.1) (p.2.1) (p.2.2))
theorem v_book_rotate (K : Nat) : VOk Tryz.prog GD (S_book_rotate K) := vk K (.s .n (.s (.s (.r (ob [2, 12, 22, 32, 42, 52, 62, 72, 82]) [] []) .n) .n)) Tryz.func182 Tryz.ntmps182 v0
def S_book_Go (K : Nat) : FSp TD := sd 82 [(.st 16), (.st 4), tI] [(.st 16), .bool] (fun p => book_Go.f K (p.1) (p.2.1) (p.2.2))
theorem v_book_Go (K : Nat) : VOk Tryz.prog GD (S_book_Go K) := vkM K (.s .n (.s (.j ⟨[(18, dF)], [], [.bool], [], [], []⟩ .n .n) (.s (.r (ob [10, 20, 50, 60, 70, 6, 32, 42, 86, 92, 102, 116, 122]) [] [3, 4]) .n))) Tryz.func82 Tryz.ntmps82 (vl (v_rec_Right K) (vl (v_book_begin K) (vl (v_book_call K) (vl (v_book_receipt K) (vl (v_book_rotate K) v0))))) rv_nil (mp_cons mp_141 mp_nil)
def S_saga_Missing (K : Nat) : FSp TD := sd 90 [(.st 15)] [tI] (fun p => saga_Missing.f K (p))
theorem v_saga_Missing (K : Nat) : VOk Tryz.prog GD (S_saga_Missing K) := vk K .n Tryz.func90 Tryz.ntmps90 v0
def S_book_Report (K : Nat) : FSp TD := sg 26 (.cs (dD 16) .nl) [] [(.st 16)] [(.sl (.st 0))] (fun p => book_Report.f K (p)) (.cs (.own (.st 0) 29 true) .nl) [] []
theorem v_book_Report (K : Nat) : VOk Tryz.prog GD (S_book_Report K) := vk K (.s .n (.s .n (.s (.s .n (.l ⟨[(3, (.own (.st 0) 29 true)), (9, dI)], [], [(.sl (.st 0)), tI], [], [], [1]⟩ (some ⟨[(3, (.own (.st 0) 29 true))], [], [(.sl (.st 0))], [], [], [1]⟩) false (.s .n (.s .n (.s (.s .n (.r (ob [0, 10, 20, 32, 46, 52, 64, 76, 82]) [] [5])) .n))))) .n))) Tryz.func26 Tryz.ntmps26 (vl (v_saga_Missing K) v0)
def S_audit_auditor_whole (K : Nat) : FSp TD := sp 67 (.cs (dD 12) (.cs (dD 9) .nl)) [] [(.st 12), (.st 9)] [tI, (.sl tI), (.sl (.st 0))] (120, true) (fun p => audit_auditor_whole.fs K (p.1) (p.2)) [] (.cs (.agg (.cs dI (.cs (.own tI 3 true) (.cs (.own (.st 0) 29 true) .nl)))) .nl) [] []
theorem v_audit_auditor_whole (K : Nat) : VOk Tryz.prog GD (S_audit_auditor_whole K) := vkP K (.s .n (.s .n (.s (.s .n (.l ⟨[(17, dI)], [(5, (.agg (.cs (.agg (.cs (.own tH 37 true) .nl)) (.cs dI .nl))))], [tI, (.sl tH), tI], [], [], []⟩ (some ⟨[], [(5, (.agg (.cs (.agg (.cs (.own tH 37 true) .nl)) (.cs dI .nl))))], [(.sl tH), tI], [], [], []⟩) false .n)) (.s (.q (ob [10, 20, 30, 6, 42]) [] [3]) (.s .n (.s (.s .n (.l ⟨[(35, dI)], [(8, (dD 16))], [tI, (.st 16)], [], [], [3, 5]⟩ (some ⟨[], [(8, (dD 16))], [(.st 16)], [], [], [2, 3, 5]⟩) true .n)) (.s .n (.s (.s .n (.l ⟨[(61, dI)], [(12, (.agg (.cs dI (.cs (.own tI 3 true) (.cs (.own (.st 0) 29 true) .nl)))))], [tI, tI, (.sl tI), (.sl (.st 0))], [], [], [8]⟩ (some ⟨[], [(12, (.agg (.cs dI (.cs (.own tI 3 true) (.cs (.own (.st 0) 29 true) .nl)))))], [tI, (.sl tI), (.sl (.st 0))], [], [], [8]⟩) false .n)) .n)))))))) Tryz.func67 Tryz.ntmps67 (vl (v_audit_leaf K) (vl (v_tree_Front_Add K) (vl (v_tree_Front_Root K) (vl (v_audit_must K) (vl (v_audit_auditor_receipt K) (vl (v_book_Go K) (vl (v_book_Report K) v0))))))) rfl
def S_proof_taken_2 (K : Nat) : FSp TD := sp 194 (.cs (.ptr 0 0) (.cs (.ptr 1 0) .nl)) [(3, dI), (33, (.dt (.sl tH)))] [tI, (.sl tH)] [tH, tI] (259, false) (fun p => proof_taken_2.fs K (p.1) (p.2)) [true, true] (.cs dH .nl) [some dI, none] []
theorem v_proof_taken_2 (K : Nat) : VOk Tryz.prog GD (S_proof_taken_2 K) := vkP K .n Tryz.func194 Tryz.ntmps194 v0 rfl
def R_proof_Comes_1_1 (K k : Nat) : FSp TD := sp 150 (.cs dI (.cs dI (.cs (.ptr 0 0) (.cs (.ptr 1 0) (.cs (.ptr 2 0) .nl))))) [(37, dH), (104, (.fn 194 (.cs (.ptr 3 0) (.cs (.ptr 4 0) .nl)))), (218, (.fn 150 (.cs (.ptr 0 0) (.cs (.ptr 1 0) (.cs (.ptr 2 0) .nl))))), (3, dI), (33, (.dt (.sl tH)))] [tI, tI, tH, tI, (.sl tH)] [tH, tI] (259, false) (fun p => proof_Comes_1_1.r K k (p.1) (p.2.1) (p.2.2.1) (p.2.2.2.1) (p.2.2.2.2)) [true, true, true, false, true] (.cs dH .nl) [none, none, none, some dI, none] []
theorem r_proof_Comes_1_1 (K : Nat) : ∀ k, VOk Tryz.prog GD (R_proof_Comes_1_1 K k) := by
 intro k
 induction k with
 | zero => exact vok_noP Tryz.func150 rfl (by kernel_rfl) (fun _ => rfl) (fun _ => rfl)
 | succ k ih =>
  exact vkP K (.s .n (.s .n (.s (.r (ob [2, 20, 44, 16, 36, 52, 66]) [] [3]) (.s (.s .n (.s (.s (.r (ob [2, 12, 22, 40, 36, 56, 66]) [] [9]) .n) .n)) (.s (.r (ob [0, 12, 22, 32, 42, 52, 62, 72, 86, 96, 106]) [] [9]) .n))))) Tryz.func150 Tryz.ntmps150 (vl (v_tree_Split K) (vl (v_proof_taken_2 K) (vl (v_tree_Node K) (vl ih v0)))) rfl
def S_proof_Comes_1_1 (K : Nat) : FSp TD := R_proof_Comes_1_1 K K
theorem v_proof_Comes_1_1 (K : Nat) : VOk Tryz.prog GD (S_proof_Comes_1_1 K) := r_proof_Comes_1_1 K K
def S_proof_Comes_1 (K : Nat) : FSp TD := sp 149 (.cs (.fn 194 (.cs (.ptr 0 0) (.cs (.ptr 1 0) .nl))) (.cs (.ptr 2 0) (.cs (.ptr 3 0) (.cs (.ptr 4 0) (.cs (.ptr 5 0) .nl))))) [(3, dI), (33, (.dt (.sl tH))), (37, dH), (3, dI), (3, dI), (37, dH)] [tI, (.sl tH), tH, tI, tI, tH] [tI, tH] (259, false) (fun p => proof_Comes_1.fs K (p.1) (p.2.1) (p.2.2.1) (p.2.2.2.1) (p.2.2.2.2.1) (p.2.2.2.2.2)) [false, true, true, true, true, true] .nl [some dI, none, none, none, none, some dH] []
theorem v_proof_Comes_1 (K : Nat) : VOk Tryz.prog GD (S_proof_Comes_1 K) := vkP K .n Tryz.func149 Tryz.ntmps149 (vl (v_proof_Comes_1_1 K) v0) rfl
def S_proof_taken (K : Nat) : FSp TD := sg 148 (.cs (.dt (.sl tH)) (.cs (.fn 149 (.cs (.ptr 0 0) (.cs (.ptr 1 0) (.cs (.ptr 2 0) (.cs (.ptr 3 0) .nl))))) .nl)) [(37, dH), (3, dI), (3, dI), (37, dH)] [(.sl tH), tH, tI, tI, tH] [.bool, tH] (fun p => proof_taken.f K (p.1) (p.2.1) (p.2.2.1) (p.2.2.2.1) (p.2.2.2.2)) (.cs dF .nl) [none, none, none, some dH] []
theorem v_proof_taken (K : Nat) : VOk Tryz.prog GD (S_proof_taken K) := vokR_of tbok (n := 14) Tryz.func148 rfl Tryz.ntmps148 (by kernel_rfl) (sps := [S_proof_Comes_1 K]) (rvs := []) (mps := []) (vs_cons (v_proof_Comes_1 K) vs_nil) rv_nil mp_nil (by kernel_rfl : (fun p => (S_proof_taken K).fn p) = funR (T := TD) (cx Tryz.prog GD [S_proof_Comes_1 K] K 14 [] []) (S_proof_taken K) Tryz.f148 .n .n .n)
def S_proof_Comes (K : Nat) : FSp TD := sd 94 [tH, tI, tI, (.sl tH)] [tH, .bool] (fun p => proof_Comes.f K (p.1) (p.2.1) (p.2.2.1) (p.2.2.2))
theorem v_proof_Comes (K : Nat) : VOk Tryz.prog GD (S_proof_Comes K) := vk K (.s .n (.s (.j ⟨[(22, dF)], [], [.bool], [], [], []⟩ .n .n) .n)) Tryz.func94 Tryz.ntmps94 (vl (v_proof_taken K) v0)
def S_proof_In (K : Nat) : FSp TD := sd 130 [tH, tI, tI, (.sl tH), tH] [.bool] (fun p => proof_In.f K (p.1) (p.2.1) (p.2.2.1) (p.2.2.2.1) (p.2.2.2.2))
theorem v_proof_In (K : Nat) : VOk Tryz.prog GD (S_proof_In K) := vk K .n Tryz.func130 Tryz.ntmps130 (vl (v_proof_Comes K) (vl (v_mac_Equal K) v0))
def S_audit_seen_begin (K : Nat) : FSp TD := sp 131 (.cs (.ptr 0 0) (.cs (dD 4) .nl)) [(195, (.agg (.cs (.dt (.vec 12 .bool)) (.cs (.own tI 3 true) (.cs (.dt (.vec 12 (.st 15))) .nl)))))] [(.st 4), (.vec 12 .bool), (.sl tI), (.vec 12 (.st 15))] [(.vec 12 .bool), (.sl tI), (.vec 12 (.st 15))] (120, true) (fun p => audit_seen_begin.fs K (p.1) (p.2.1) (p.2.2.1) (p.2.2.2)) [false] .nl [some (.agg (.cs (.dt (.vec 12 .bool)) (.cs (.own tI 3 true) (.cs (.dt (.vec 12 (.st 15))) .nl))))] []
theorem v_audit_seen_begin (K : Nat) : VOk Tryz.prog GD (S_audit_seen_begin K) := vkP K (.s .n (.j ⟨[], [], [], [], [], []⟩ (.q (ob [2, 12, 22, 32, 42, 52, 62, 72, 83, 92, 102, 116, 122]) [] []) (.s (.r (ob [0, 10, 20, 32, 42, 60, 70, 56, 82, 96]) [] [3]) (.r (ob [0, 12, 22, 32, 42, 52, 62, 74, 86, 92, 102, 116]) [] [])))) Tryz.func131 Tryz.ntmps131 (vl (v_audit_must K) (vl (v_saga_May K) (vl (v_saga_New K) v0))) rfl
def S_audit_seen_next (K : Nat) : FSp TD := sp 132 (.cs (.ptr 0 0) (.cs (dD 4) (.cs dI .nl))) [(195, (.agg (.cs (.dt (.vec 12 .bool)) (.cs (.own tI 3 true) (.cs (.dt (.vec 12 (.st 15))) .nl)))))] [(.st 4), tI, (.vec 12 .bool), (.sl tI), (.vec 12 (.st 15))] [(.vec 12 .bool), (.sl tI), (.vec 12 (.st 15))] (120, true) (fun p => audit_seen_next.fs K (p.1) (p.2.1) (p.2.2.1) (p.2.2.2.1) (p.2.2.2.2)) [false] .nl [some (.agg (.cs (.dt (.vec 12 .bool)) (.cs (.own tI 3 true) (.cs (.dt (.vec 12 (.st 15))) .nl))))] []
theorem v_audit_seen_next (K : Nat) : VOk Tryz.prog GD (S_audit_seen_next K) := vkP K (.s .n (.s (.r (ob [2, 12, 22, 32, 42, 52, 62, 74, 86]) [] []) (.s .n (.s .n (.j ⟨[], [], [], [], [], [6]⟩ (.q (ob [2, 13, 22, 32, 42, 53, 62, 72, 82, 92, 102, 112, 122, 132, 142, 152, 162, 172]) [] []) (.r (ob [2, 12, 22, 32, 42, 52, 62, 76]) [] [])))))) Tryz.func132 Tryz.ntmps132 (vl (v_saga_Go K) (vl (v_audit_must K) v0)) rfl
def S_audit_auditor_some (K : Nat) : FSp TD := sp 68 (.cs (dD 12) (.cs (dD 9) .nl)) [] [(.st 12), (.st 9)] [tI, (.sl tI), (.sl (.st 0))] (120, true) (fun p => audit_auditor_some.fs K (p.1) (p.2)) [] (.cs (.agg (.cs dI (.cs (.own tI 3 true) (.cs (.own (.st 0) 29 true) .nl)))) .nl) [] []
theorem v_audit_auditor_some (K : Nat) : VOk Tryz.prog GD (S_audit_auditor_some K) := vkP K (.s .n (.s .n (.s (.s .n (.l ⟨[(15, dI)], [(5, (.agg (.cs (.dt (.vec 12 .bool)) (.cs (.own tI 3 true) (.cs (.dt (.vec 12 (.st 15))) .nl)))))], [tI, (.vec 12 .bool), (.sl tI), (.vec 12 (.st 15))], [], [], []⟩ (some ⟨[], [(5, (.agg (.cs (.dt (.vec 12 .bool)) (.cs (.own tI 3 true) (.cs (.dt (.vec 12 (.st 15))) .nl)))))], [(.vec 12 .bool), (.sl tI), (.vec 12 (.st 15))], [], [], [2, 3]⟩) true (.s .n (.s .n (.j ⟨[], [(5, (.agg (.cs (.dt (.vec 12 .bool)) (.cs (.own tI 3 true) (.cs (.dt (.vec 12 (.st 15))) .nl)))))], [(.vec 12 .bool), (.sl tI), (.vec 12 (.st 15))], [], [], []⟩ (.s .n (.s .n (.s (.q (ob [2, 20, 30, 40, 50, 60, 70, 80, 90, 100, 110, 16, 126]) [] [3, 7]) (.s .n (.j ⟨[], [(5, (.agg (.cs (.dt (.vec 12 .bool)) (.cs (.own tI 3 true) (.cs (.dt (.vec 12 (.st 15))) .nl)))))], [(.vec 12 .bool), (.sl tI), (.vec 12 (.st 15))], [], [], [7]⟩ .n .n))))) .n))))) (.s .n (.s (.s .n (.l ⟨[(58, dI)], [(9, (.agg (.cs dI (.cs (.own tI 3 true) (.cs (.own (.st 0) 29 true) .nl)))))], [tI, tI, (.sl tI), (.sl (.st 0))], [56], [], []⟩ (some ⟨[], [(9, (.agg (.cs dI (.cs (.own tI 3 true) (.cs (.own (.st 0) 29 true) .nl)))))], [tI, (.sl tI), (.sl (.st 0))], [], [], [5, 56]⟩) false (.s .n (.s .n (.s (.s .n (.s .n (.r (ob [0, 10, 20, 30, 40, 50, 60, 72, 82, 92, 102, 116, 122, 134, 146, 152, 166]) [] [5, 9]))) .n))))) .n))))) Tryz.func68 Tryz.ntmps68 (vl (v_audit_leaf K) (vl (v_proof_In K) (vl (v_audit_must K) (vl (v_audit_auditor_receipt K) (vl (v_audit_seen_begin K) (vl (v_audit_seen_next K) (vl (v_saga_Missing K) v0))))))) rfl
def S_audit_Check (K : Nat) : FSp TD := sg 17 (.cs (dD 2) (.cs dI (.cs (dD 6) (.cs dB .nl)))) [] [(.st 2), tI, (.st 6), tB] [tI, (.sl tI), (.sl (.st 0))] (fun p => audit_Check.f K (p.1) (p.2.1) (p.2.2.1) (p.2.2.2)) (.cs (.agg (.cs dI (.cs (.own tI 3 true) (.cs (.own (.st 0) 29 true) .nl)))) .nl) [] []
theorem v_audit_Check (K : Nat) : VOk Tryz.prog GD (S_audit_Check K) := vokR_of tbok (n := 67) Tryz.func17 rfl Tryz.ntmps17 (by kernel_rfl) (sps := [S_keys_May K, S_audit_must K, S_bundle_Get K, S_keys_Check K, S_audit_auditor_whole K, S_audit_auditor_some K]) (rvs := []) (mps := []) (vs_cons (v_keys_May K) (vs_cons (v_audit_must K) (vs_cons (v_bundle_Get K) (vs_cons (v_keys_Check K) (vs_cons (v_audit_auditor_whole K) (vs_cons (v_audit_auditor_some K) vs_nil)))))) rv_nil mp_nil (by kernel_rfl : (fun p => (S_audit_Check K).fn p) = funR (T := TD) (cx Tryz.prog GD [S_keys_May K, S_audit_must K, S_bundle_Get K, S_keys_Check K, S_audit_auditor_whole K, S_audit_auditor_some K] K 67 [] []) (S_audit_Check K) Tryz.f17 .n (.j ⟨[], [], [], [], [], []⟩ .n (.s .n (.s .n (.s .n (.s .n (.j ⟨[], [], [], [], [], [6]⟩ .n .n)))))) .n)
def S_slices_Equal_int_int (K : Nat) : FSp TD := sd 40 [(.sl tI), (.sl tI)] [.bool] (fun p => slices_Equal_int_int.f K (p.1) (p.2))
theorem v_slices_Equal_int_int (K : Nat) : VOk Tryz.prog GD (S_slices_Equal_int_int K) := vk K (.s .n (.s .n (.s (.s .n (.l ⟨[(13, dI)], [], [tI], [], [], []⟩ (some ⟨[], [], [], [], [], []⟩) true (.s .n (.s .n (.s (.s .n (.s (.r (ob [2, 12, 22, 32, 42, 52, 62, 72, 82]) [] []) .n)) .n))))) .n))) Tryz.func40 Tryz.ntmps40 v0
def S_slices_Equal_api_Line_api_Line (K : Nat) : FSp TD := sd 41 [(.sl (.st 0)), (.sl (.st 0))] [.bool] (fun p => slices_Equal_api_Line_api_Line.f K (p.1) (p.2))
theorem v_slices_Equal_api_Line_api_Line (K : Nat) : VOk Tryz.prog GD (S_slices_Equal_api_Line_api_Line K) := vk K (.s .n (.s .n (.s (.s .n (.l ⟨[(13, dI)], [], [tI], [], [], []⟩ (some ⟨[], [], [], [], [], []⟩) true (.s .n (.s .n (.s (.s .n (.s (.r (ob [2, 12, 22, 32, 42, 52, 62, 72, 82]) [] []) .n)) .n))))) .n))) Tryz.func41 Tryz.ntmps41 v0
def S_audit_Same (K : Nat) : FSp TD := sd 11 [(.st 1), (.st 1)] [.bool] (fun p => audit_Same.f K (p.1) (p.2))
theorem v_audit_Same (K : Nat) : VOk Tryz.prog GD (S_audit_Same K) := vk K .n Tryz.func11 Tryz.ntmps11 (vl (v_slices_Equal_int_int K) (vl (v_slices_Equal_api_Line_api_Line K) v0))
def S_slices_Index_int_int (K : Nat) : FSp TD := sd 44 [(.sl tI), tI] [tI] (fun p => slices_Index_int_int.f K (p.1) (p.2))
theorem v_slices_Index_int_int (K : Nat) : VOk Tryz.prog GD (S_slices_Index_int_int K) := vk K (.s .n (.s (.s .n (.l ⟨[(8, dI)], [], [tI], [], [], []⟩ (some ⟨[], [], [], [], [], []⟩) true .n)) .n)) Tryz.func44 Tryz.ntmps44 v0
def S_audit_Over (K : Nat) : FSp TD := sd 13 [(.st 1), tI] [.bool] (fun p => audit_Over.f K (p.1) (p.2))
theorem v_audit_Over (K : Nat) : VOk Tryz.prog GD (S_audit_Over K) := vk K (.s .n (.s .n (.j ⟨[(4, dF)], [], [.bool], [], [], [2]⟩ .n .n))) Tryz.func13 Tryz.ntmps13 (vl (v_slices_Index_int_int K) v0)
def S_inspeximuslaw19_alive (K : Nat) : FSp TD := sd 10 [] [.bool] (fun p => inspeximuslaw19_alive.f K)
theorem v_inspeximuslaw19_alive (K : Nat) : VOk Tryz.prog GD (S_inspeximuslaw19_alive K) := vokC_of tbok (n := 127) Tryz.func10 rfl Tryz.ntmps10 (by kernel_rfl) (sps := [S_inspeximuslaw10_Few K, S_keys_Receipt K, S_inspeximuslaw19_Signed K, S_export_Whole K, S_export_Saga K, S_bundle_Put K, S_audit_Check K, S_audit_Same K, S_audit_Over K]) (rvs := []) (mps := []) (vs_cons (v_inspeximuslaw10_Few K) (vs_cons (v_keys_Receipt K) (vs_cons (v_inspeximuslaw19_Signed K) (vs_cons (v_export_Whole K) (vs_cons (v_export_Saga K) (vs_cons (v_bundle_Put K) (vs_cons (v_audit_Check K) (vs_cons (v_audit_Same K) (vs_cons (v_audit_Over K) vs_nil))))))))) rv_nil mp_nil (by kernel_rfl : (fun p => (S_inspeximuslaw19_alive K).fn p) = funC (T := TD) (cx Tryz.prog GD [S_inspeximuslaw10_Few K, S_keys_Receipt K, S_inspeximuslaw19_Signed K, S_export_Whole K, S_export_Saga K, S_bundle_Put K, S_audit_Check K, S_audit_Same K, S_audit_Over K] K 127 [] []) (S_inspeximuslaw19_alive K) Tryz.f10 [.one .n, .one .n, .one .n, .one (.r [(0, 0, false), (1, 1, false), (2, 1, false), (3, 1, false), (4, 1, false), (5, 3, false), (6, 1, false), (7, 1, false), (8, 3, false)] [] []), .beg, .one .n, .fin [1, 2, 3], .beg, .one .n, .one .n, .one (.r [(0, 0, false), (1, 0, false), (2, 1, false), (5, 0, false), (6, 0, false), (7, 0, false), (10, 2, false), (11, 2, false), (3, 3, false), (4, 3, false), (8, 3, false), (9, 3, false), (12, 3, false), (13, 3, false)] [] [1, 3, 6]), .fin [1, 2, 3, 8, 9]] (.s (.r [(0, 1, false), (1, 1, false), (2, 1, false), (3, 1, false), (4, 1, false), (5, 1, false), (6, 1, false), (7, 1, false), (8, 1, false), (9, 3, false)] [] []) (.s .n (.s .n (.s (.r [(0, 0, false), (1, 0, false), (2, 1, false), (5, 2, false), (3, 3, false), (4, 3, false), (6, 3, false)] [] [1, 10]) (.s (.r [(0, 0, false), (1, 0, false), (2, 1, false), (5, 2, false), (3, 3, false), (4, 3, false), (6, 3, false)] [] [1, 3]) (.j ⟨[(0, (.dt .bool))], [], [.bool], [], [], [1, 2, 3, 8, 9, 10, 11, 13, 14]⟩ .n .n)))))))
def S_inspeximusref01_Ints (K : Nat) : FSp TD := sd 42 [(.sl tI), (.sl tI)] [.bool] (fun p => inspeximusref01_Ints.f K (p.1) (p.2))
theorem v_inspeximusref01_Ints (K : Nat) : VOk Tryz.prog GD (S_inspeximusref01_Ints K) := vk K (.s .n (.s .n (.s (.s .n (.l ⟨[(5, dI)], [], [tI], [], [], []⟩ (some ⟨[], [], [], [], [], []⟩) true (.s .n (.s (.s (.r (ob [2, 12, 22, 32, 42, 52, 62, 72, 82]) [] []) .n) .n)))) .n))) Tryz.func42 Tryz.ntmps42 v0
def S_inspeximusref12_Lines (K : Nat) : FSp TD := sd 43 [(.sl (.st 0)), (.sl (.st 0))] [.bool] (fun p => inspeximusref12_Lines.f K (p.1) (p.2))
theorem v_inspeximusref12_Lines (K : Nat) : VOk Tryz.prog GD (S_inspeximusref12_Lines K) := vk K (.s .n (.s .n (.s (.s .n (.l ⟨[(5, dI)], [], [tI], [], [], []⟩ (some ⟨[], [], [], [], [], []⟩) true (.s .n (.s (.s (.r (ob [2, 12, 22, 32, 42, 52, 62, 72, 82]) [] []) .n) .n)))) .n))) Tryz.func43 Tryz.ntmps43 v0
def S_inspeximusref19_Same (K : Nat) : FSp TD := sd 12 [(.st 1), (.st 1)] [.bool] (fun p => inspeximusref19_Same.f K (p.1) (p.2))
theorem v_inspeximusref19_Same (K : Nat) : VOk Tryz.prog GD (S_inspeximusref19_Same K) := vk K .n Tryz.func12 Tryz.ntmps12 (vl (v_inspeximusref01_Ints K) (vl (v_inspeximusref12_Lines K) v0))
def S_inspeximuslaw19_AuditSame (K : Nat) : FSp TD := sd 3 [(.st 1), (.st 1), tI] [.bool] (fun p => inspeximuslaw19_AuditSame.f K (p.1) (p.2.1) (p.2.2))
theorem v_inspeximuslaw19_AuditSame (K : Nat) : VOk Tryz.prog GD (S_inspeximuslaw19_AuditSame K) := vk K (.s .n (.s .n (.s (.j ⟨[(32, dF)], [], [.bool], [], [], []⟩ .n .n) (.s .n (.s (.s .n (.l ⟨[(7, dF), (8, dI)], [], [.bool, tI], [], [], []⟩ (some ⟨[(7, dF)], [], [.bool], [], [], []⟩) false (.s .n (.j ⟨[(7, dF)], [], [.bool], [], [], []⟩ .n .n)))) (.s (.r (ob [2, 12, 30, 40, 26, 56, 62, 73, 82, 92, 110, 106, 122, 132, 142]) [] [3, 4]) .n)))))) Tryz.func3 Tryz.ntmps3 (vl (v_inspeximuslaw19_alive K) (vl (v_audit_Same K) (vl (v_inspeximusref19_Same K) (vl (v_audit_Over K) v0))))
end Go.Proofs.YtomndohdnfebgaaGreatDoor
