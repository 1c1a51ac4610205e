/-
  Proved, text by text: a call of a function of the cut comes to what its plain function computes.
  Conditions: those that each theorem names.
-/
import Derived.Test.YtjgaokcplofimaaDoorProg
import Derived.Test.YtjgaokcplofimaaDoorSepN
import Derived.Test.YtjgaokcplofimaaDoorSepV
import Derived.Test.YtjgaokcplofimaaDoorXExportPathsW2
set_option linter.unusedVariables false
set_option maxHeartbeats 4000000
namespace Go.Proofs.YtjgaokcplofimaaDoor
open Go Go.Sep
set_option maxRecDepth 100000 in
theorem proof_Comes_1.calls {K : Nat} {g w0 : World} {D0 : Snap} {x13 : Int} {x14 : (List (Vector Int 32))} {x18 : (Vector Int 32)} {x19 : Int} {x20 : Int} {x21 : (Vector Int 32)} {b1 : Nat} {b2 : Nat} {b3 : Nat} {b4 : Nat} {b5 : Nat} {b6 : Nat} {A15 : Option Addr} {c16 : Nat} {r : (Int × (Vector Int 32))} (hf : proof_Comes_1.f K x13 x14 x18 x19 x20 x21 = some r) (hS0 : St g w0 D0 [bx b1 3 ([.int .i64 (x13)]), bx b2 40 ([.slice A15 (List.length (x14)) c16]), bx b3 24 (acells .u8 32 (x18)), bx b4 3 ([.int .i64 (x19)]), bx b5 3 ([.int .i64 (x20)]), bx b6 24 (acells .u8 32 (x21))]) (h17 : Sl (kdArr .u8 32) D0 A15 c16 (x14)) (hG0 : Cell (kdArr .u32 8) D0 0 0 gl_First) (hG1 : Cell (kdArr .u32 64) D0 1 0 gl_K) :
  CallsIn (Fw none) 0 Tryd.prog 83 (List.toArray [.func (.func 101) #[] #[.pointer (some ⟨b1, 0, none⟩), .pointer (some ⟨b2, 0, none⟩)], .pointer (some ⟨b3, 0, none⟩), .pointer (some ⟨b4, 0, none⟩), .pointer (some ⟨b5, 0, none⟩), .pointer (some ⟨b6, 0, none⟩)]) w0 (fun e w' => ∃ v, e = .returned v ∧ ∃ D1, v = .tuple #[] ∧ Stp g w0 D0 [bx b1 3 ([.int .i64 (x13)]), bx b2 40 ([.slice A15 (List.length (x14)) c16]), bx b3 24 (acells .u8 32 (x18)), bx b4 3 ([.int .i64 (x19)]), bx b5 3 ([.int .i64 (x20)]), bx b6 24 (acells .u8 32 (x21))] w' D1 [bx b1 3 ([.int .i64 (r.1)]), bx b2 40 ([.slice A15 (List.length (x14)) c16]), bx b3 24 (acells .u8 32 (x18)), bx b4 3 ([.int .i64 (x19)]), bx b5 3 ([.int .i64 (x20)]), bx b6 24 (acells .u8 32 (r.2))]) := by
 unfold proof_Comes_1.f at hf
 have hS := Stp.refl hS0
 clear hS0
 refine calls_body (n := 12) Tryd.func83 rfl Tryd.ntmps83 rfl fun a hE => ?_
 have hE : Env a 12 [] [(0, .func (.func 101) #[] #[.pointer (some ⟨b1, 0, none⟩), .pointer (some ⟨b2, 0, none⟩)]), (1, .pointer (some ⟨b3, 0, none⟩)), (2, .pointer (some ⟨b4, 0, none⟩)), (3, .pointer (some ⟨b5, 0, none⟩)), (4, .pointer (some ⟨b6, 0, none⟩))] := hE
 refine sq (ra ?_)
 refine at_op (op_box rfl rfl rfl rfl hE rfl hS rfl (fun a b31 w _ hE hS => ?_)) rfl
 refine ae ?_
 refine sq (ra ?_)
 refine at_op (op_alloc (z := .nilFunc) rfl rfl rfl rfl hE rfl hS (by kernel_rfl) (fun a b33 w _ hE hS => ?_)) rfl
 refine ae ?_
 refine sq (ra ?_)
 refine sN 1 1 [(7, .func (.func 84) #[] #[.pointer (some ⟨b3, 0, none⟩), .pointer (some ⟨b31, 0, none⟩), .pointer (some ⟨b33, 0, none⟩)])] hE fun a hE => ?_
 refine at_op (op_store (v := .func (.func 84) #[] #[.pointer (some ⟨b3, 0, none⟩), .pointer (some ⟨b31, 0, none⟩), .pointer (some ⟨b33, 0, none⟩)]) ([.func (.func 84) #[] #[.pointer (some ⟨b3, 0, none⟩), .pointer (some ⟨b31, 0, none⟩), .pointer (some ⟨b33, 0, none⟩)]]) rfl rfl rfl rfl hE hS rfl rfl (by kernel_rfl) (by kernel_rfl) (by kernel_rfl) (by kernel_rfl) (by kernel_rfl) (fun a w _ hE hS => ?_)) rfl
 refine ae ?_
 refine ra ?_
 refine sM 3 3 [0, 5, 6] [(8, .func (.func 84) #[] #[.pointer (some ⟨b3, 0, none⟩), .pointer (some ⟨b31, 0, none⟩), .pointer (some ⟨b33, 0, none⟩)]), (9, .int .i64 (x19)), (10, .int .i64 (x20))] hE hS fun a hE => ?_
 have hS := hS.p (.d 4 (.d 1 (.d 0 (.d 2 (.d 3 (.d 5 (.d 6 (.d 7 .n))))))))
 obtain ⟨r35, h36, hf⟩ := bs hf
 refine aC rfl rfl rfl rfl hE rfl rfl rfl rfl (proof_Comes_1_1.calls h36 (hS.st.fore (L := [bx b3 24 (acells .u8 32 (x18)), bx b31 118 ([.func (.func 101) #[] #[.pointer (some ⟨b1, 0, none⟩), .pointer (some ⟨b2, 0, none⟩)]]), bx b33 119 ([.func (.func 84) #[] #[.pointer (some ⟨b3, 0, none⟩), .pointer (some ⟨b31, 0, none⟩), .pointer (some ⟨b33, 0, none⟩)]]), bx b1 3 ([.int .i64 (x13)]), bx b2 40 ([.slice A15 (List.length (x14)) c16])])) h17 hG0 hG1) fun a v w hR hE => ?_
 obtain ⟨D37, rfl, hS1⟩ := hR
 have le39 := hS1.dle
 have hS := hS.callR hS1 rfl (.c (.c (.c (.c (.c .n)))))
 have hS := hS.p (.d 7 (.d 0 (.d 1 (.d 2 (.d 3 (.d 4 (.d 5 (.d 6 .n))))))))
 refine at_op (op_store (v := .agg (List.toArray (acells .u8 32 (r35.1)))) (acells .u8 32 (r35.1)) rfl rfl rfl rfl hE hS rfl rfl (by kernel_rfl) (by kernel_rfl) (by kernel_rfl) (by kernel_rfl) (by kernel_rfl) (fun a w _ hE hS => ?_)) rfl
 refine ae ?_
 obtain rfl := si hf
 refine ret_genN ([]) hE (by rw [show Tryd.f83.results.toList = [] from rfl]; exact rfl) ?_
 have hS := hS.p (.d 4 (.d 5 (.d 1 (.d 6 (.d 7 (.d 0 .n))))))
 exact ⟨_, rfl, D37, rfl, hS⟩
theorem proof_taken.def {w : World} {b : Nat} : CallsDIn (Fw none) 0 Tryd.prog 100 (List.toArray [.pointer (some ⟨b, 0, none⟩)]) .returning w fun e u' w' => e = .returned (.tuple #[]) ∧ u' = .returning ∧ w' = w := by
 refine callsD_bodyS (n := 15) Tryd.func100 rfl Tryd.ntmps100 rfl fun c₀ cs a hu hE => ?_
 have hE : Env a 15 [] [(0, .pointer (some ⟨b, 0, none⟩))] := hE
 have hr : recoverD (c₀ :: cs) = none := by simp [recoverD, hu]
 refine wpSIn_seq (regS (l := [0, 1]) rfl ?_)
 refine opsS_recover (i := 0) (d := 4) rfl rfl rfl rfl hE rfl hr fun a hE => ?_
 refine opsS_tk hE (tk_pure (i := 1) (d := 1) .nilIface hE rfl rfl rfl rfl (fun _ _ _ h => by cases h) rfl fun a hE => ?_)
 refine wpSIn_seq (wpSIn_of_wpIn rfl ?_)
 refine ra ?_
 refine sN 1 1 [(5, .nilIface)] hE fun a hE => ?_
 refine at_op (op_tk hE (tk_of (d := 6) (v := .bool false) hE rfl rfl rfl rfl rfl (fun w' _ => ?_) fun a hE => ?_)) rfl
 ·have h5 : a.eval (.tmp 5) = .nilIface := hE.eval rfl
  have h6 : a.eval (.const .nilIface) = .nilIface := hE.eval rfl
  have e1 : Sem.run Tryd.prog (eqGuard BinOp.neq 20 (Operand.tmp 5) (Operand.const Value.nilIface) Value.nilIface Value.nilIface) w' = .ok () w' := by kernel_rfl
  have e2 : Sem.run Tryd.prog (binOp BinOp.neq 20 Value.nilIface Value.nilIface) w' = .ok (.bool false) w' := by kernel_rfl
  simp [execOp, h5, h6, e1, e2]
 refine ae ?_
 refine wpSIn_cond (t := false) (hE.eval rfl) ?_
 refine wpSIn_of_wpIn rfl (wpIn_skip ?_)
 exact ⟨hE.ds, .returning, by rw [← hu], .tuple #[], results_run (vs := []) hE rfl, rfl, rfl, rfl⟩
set_option maxRecDepth 100000 in
theorem proof_taken.calls {K : Nat} {g w0 : World} {D0 : Snap} {x9 : (List (Vector Int 32))} {x13 : (Vector Int 32)} {x14 : Int} {x15 : Int} {x16 : (Vector Int 32)} {b1 : Nat} {b2 : Nat} {b3 : Nat} {b4 : Nat} {A10 : Option Addr} {c11 : Nat} {r : (Bool × (Vector Int 32))} (hf : proof_taken.f K x9 x13 x14 x15 x16 = some r) (hS0 : St g w0 D0 [bx b1 24 (acells .u8 32 (x13)), bx b2 3 ([.int .i64 (x14)]), bx b3 3 ([.int .i64 (x15)]), bx b4 24 (acells .u8 32 (x16))]) (h12 : Sl (kdArr .u8 32) D0 A10 c11 (x9)) (hG0 : Cell (kdArr .u32 8) D0 0 0 gl_First) (hG1 : Cell (kdArr .u32 64) D0 1 0 gl_K) :
  CallsIn (Fw none) 0 Tryd.prog 82 (List.toArray [.slice A10 (List.length (x9)) c11, .func (.func 83) #[] #[.pointer (some ⟨b1, 0, none⟩), .pointer (some ⟨b2, 0, none⟩), .pointer (some ⟨b3, 0, none⟩), .pointer (some ⟨b4, 0, none⟩)]]) w0 (fun e w' => ∃ v, e = .returned v ∧ ∃ D1, v = .bool (r.1) ∧ Stp g w0 D0 [bx b1 24 (acells .u8 32 (x13)), bx b2 3 ([.int .i64 (x14)]), bx b3 3 ([.int .i64 (x15)]), bx b4 24 (acells .u8 32 (x16))] w' D1 [bx b1 24 (acells .u8 32 (x13)), bx b2 3 ([.int .i64 (x14)]), bx b3 3 ([.int .i64 (x15)]), bx b4 24 (acells .u8 32 (r.2))]) := by
 unfold proof_taken.f at hf
 have hS := Stp.refl hS0
 clear hS0
 refine calls_bodyD (n := 14) Tryd.func82 rfl Tryd.ntmps82 rfl fun a hE => ?_
 have hE : Env a 14 [] [(0, .slice A10 (List.length (x9)) c11), (1, .func (.func 83) #[] #[.pointer (some ⟨b1, 0, none⟩), .pointer (some ⟨b2, 0, none⟩), .pointer (some ⟨b3, 0, none⟩), .pointer (some ⟨b4, 0, none⟩)])] := hE
 refine sq (ra ?_)
 refine at_op (op_box rfl rfl rfl rfl hE rfl hS rfl (fun a b28 w _ hE hS => ?_)) rfl
 refine at_op (op_alloc (z := .bool false) rfl rfl rfl rfl hE rfl hS (by kernel_rfl) (fun a b30 w _ hE hS => ?_)) rfl
 refine ae ?_
 refine sq (ra ?_)
 refine sN 1 1 [(6, .func (.func 100) #[] #[.pointer (some ⟨b30, 0, none⟩)])] hE fun a hE => ?_
 refine at_op (op_defer rfl rfl rfl rfl hE rfl (fun a hE => ?_)) rfl
 refine ae ?_
 refine sq (ra ?_)
 refine sM 2 2 [1] [(8, .int .i64 (((List.length (x9) : Nat) : Int)))] hE hS fun a hE => ?_
 refine at_op (op_alloc (z := .int .i64 ((0 : Int))) rfl rfl rfl rfl hE rfl hS (by kernel_rfl) (fun a b32 w _ hE hS => ?_)) rfl
 refine at_op (op_store (v := .int .i64 (((List.length (x9) : Nat) : Int))) ([.int .i64 (((List.length (x9) : Nat) : Int))]) rfl rfl rfl rfl hE hS rfl rfl (by kernel_rfl) (by kernel_rfl) (by kernel_rfl) (by kernel_rfl) (by kernel_rfl) (fun a w _ hE hS => ?_)) rfl
 refine ae ?_
 refine sq (ra ?_)
 refine sN 2 2 [(9, .func (.func 83) #[] #[.pointer (some ⟨b1, 0, none⟩), .pointer (some ⟨b2, 0, none⟩), .pointer (some ⟨b3, 0, none⟩), .pointer (some ⟨b4, 0, none⟩)]), (10, .func (.func 101) #[] #[.pointer (some ⟨b32, 0, none⟩), .pointer (some ⟨b28, 0, none⟩)])] hE fun a hE => ?_
 have hS := hS.p (.d 0 (.d 2 (.d 3 (.d 4 (.d 5 (.d 6 (.d 1 .n)))))))
 obtain ⟨r34, h35, hf⟩ := bs hf
 refine aC rfl rfl rfl rfl hE rfl rfl rfl rfl (proof_Comes_1.calls h35 (hS.st.fore (L := [bx b32 3 ([.int .i64 (((List.length (x9) : Nat) : Int))]), bx b28 40 ([.slice A10 (List.length (x9)) c11]), bx b1 24 (acells .u8 32 (x13)), bx b2 3 ([.int .i64 (x14)]), bx b3 3 ([.int .i64 (x15)]), bx b4 24 (acells .u8 32 (x16))])) h12 hG0 hG1) fun a v w hR hE => ?_
 obtain ⟨D36, rfl, hS1⟩ := hR
 have le38 := hS1.dle
 have hS := hS.callR hS1 rfl (.c (.c (.c (.c (.c (.c .n))))))
 refine ae ?_
 refine sq (ra ?_)
 refine sM 2 2 [0] [(13, .bool ((decide (r34.1 = (0 : Int)))))] hE hS fun a hE => ?_
 have hS := hS.p (.d 6 (.d 0 (.d 1 (.d 2 (.d 3 (.d 4 (.d 5 .n)))))))
 refine at_op (op_store (v := .bool ((decide (r34.1 = (0 : Int))))) ([.bool ((decide (r34.1 = (0 : Int))))]) rfl rfl rfl rfl hE hS rfl rfl (by kernel_rfl) (by kernel_rfl) (by kernel_rfl) (by kernel_rfl) (by kernel_rfl) (fun a w _ hE hS => ?_)) rfl
 refine ae ?_
 refine wpIn_ret ?_
 obtain rfl := si hf
 refine ret_ ?_
 refine ret_def ([.bool ((decide (r34.1 = (0 : Int))))]) hE (by kernel_rfl) proof_taken.def (by rw [show Tryd.f82.results.toList = [.cell 4 4] from rfl]; exact ⟨_, _, _, 0, _, _, rfl, rfl, hS.heapAt (j := 0) rfl, by kernel_rfl, rfl⟩) ?_
 have hS := hS.p (.d 3 (.d 4 (.d 5 (.d 6 .n))))
 exact ⟨_, rfl, D36, rfl, hS⟩
set_option maxRecDepth 100000 in
theorem proof_Comes.calls {K : Nat} {g w0 : World} {D0 : Snap} {x1 : (Vector Int 32)} {x2 : Int} {x3 : Int} {x4 : (List (Vector Int 32))} {A5 : Option Addr} {c6 : Nat} {r : ((Vector Int 32) × Bool)} (hf : proof_Comes.f K x1 x2 x3 x4 = some r) (hS0 : St g w0 D0 []) (h7 : Sl (kdArr .u8 32) D0 A5 c6 (x4)) (hG0 : Cell (kdArr .u32 8) D0 0 0 gl_First) (hG1 : Cell (kdArr .u32 64) D0 1 0 gl_K) :
  CallsIn (Fw none) 0 Tryd.prog 53 (List.toArray [.agg (List.toArray (acells .u8 32 (x1))), .int .i64 (x2), .int .i64 (x3), .slice A5 (List.length (x4)) c6]) w0 (fun e w' => ∃ v, e = .returned v ∧ ∃ D1, v = .tuple #[.agg (List.toArray (acells .u8 32 (r.1))), .bool (r.2)] ∧ Stp g w0 D0 [] w' D1 []) := by
 unfold proof_Comes.f at hf
 have hS := Stp.refl hS0
 clear hS0
 refine calls_body (n := 31) Tryd.func53 rfl Tryd.ntmps53 rfl fun a hE => ?_
 have hE : Env a 31 [] [(0, .agg (List.toArray (acells .u8 32 (x1)))), (1, .int .i64 (x2)), (2, .int .i64 (x3)), (3, .slice A5 (List.length (x4)) c6)] := hE
 refine sq (ra ?_)
 refine at_op (op_box rfl rfl rfl rfl hE rfl hS rfl (fun a b33 w _ hE hS => ?_)) rfl
 refine at_op (op_box rfl rfl rfl rfl hE rfl hS rfl (fun a b35 w _ hE hS => ?_)) rfl
 refine at_op (op_box rfl rfl rfl rfl hE rfl hS rfl (fun a b37 w _ hE hS => ?_)) rfl
 refine at_op (op_alloc (z := .agg (List.toArray (acells .u8 32 ((Vector.replicate 32 (0 : Int)))))) rfl rfl rfl rfl hE rfl hS (by kernel_rfl) (fun a b39 w _ hE hS => ?_)) rfl
 refine sN 1 5 [(9, .bool false)] hE fun a hE => ?_
 refine ae ?_
 refine sq ?_
 obtain ⟨j56, hj57, hf⟩ := jn_elim hf
 refine seq_join (fun a w => ∃ (y46 : Bool), ∃ D47, Env a 31 [] [(3, .slice A5 (List.length (x4)) c6), (4, .pointer (some ⟨b33, 0, none⟩)), (5, .pointer (some ⟨b35, 0, none⟩)), (6, .pointer (some ⟨b37, 0, none⟩)), (8, .pointer (some ⟨b39, 0, none⟩)), (22, .bool (y46))] ∧ Stp g w0 D0 [] w D47 [bx b33 24 (acells .u8 32 (x1)), bx b35 3 ([.int .i64 (x2)]), bx b37 3 ([.int .i64 (x3)]), bx b39 24 (acells .u8 32 ((Vector.replicate 32 (0 : Int))))] ∧ Snap.le D0 D47 ∧ j56 y46 = some r) ?_ ?_
 ·clear hj57
  refine ra ?_
  refine sM 3 3 [2] [(14, .bool ((decide (x2 < (0 : Int)))))] hE hS fun a hE => ?_
  refine bo ((decide (x2 < (0 : Int)))) (fun hb => ?_) fun hb => ?_
  ·replace hf := cf hb hf
   have hE := hE.know (t := 14) rfl hb
   refine sM 5 8 [2, 1] [(19, .bool ((decide (x3 ≤ x2))))] hE hS fun a hE => ?_
   refine bo ((decide (x3 ≤ x2))) (fun hb => ?_) fun hb => ?_
   ·replace hf := cf hb hf
    have hE := hE.know (t := 19) rfl hb
    refine sM 3 11 [1] [(22, .bool ((decide ((1048576 : Int) < x3))))] hE hS fun a hE => ?_
    refine ae ?_
    have hS := hS.p (.d 3 (.d 2 (.d 1 (.d 0 .n))))
    exact ⟨(decide ((1048576 : Int) < x3)), D0, hE.wk, hS, lr, hf⟩
   replace hf := ct hb hf
   have hE := hE.know (t := 19) rfl hb
   refine sN 3 11 [(22, .bool true)] hE fun a hE => ?_
   refine ae ?_
   have hS := hS.p (.d 3 (.d 2 (.d 1 (.d 0 .n))))
   exact ⟨true, D0, hE.wk, hS, lr, hf⟩
  replace hf := ct hb hf
  have hE := hE.know (t := 14) rfl hb
  refine sN 8 11 [(22, .bool true)] hE fun a hE => ?_
  refine ae ?_
  have hS := hS.p (.d 3 (.d 2 (.d 1 (.d 0 .n))))
  exact ⟨true, D0, hE.wk, hS, lr, hf⟩
 clear hE hS
 rintro a w ⟨y46, D47, hE, hS, le48, hf⟩
 replace hf := hj57 _ hf
 clear hj57
 refine cond_split hE (b := y46) rfl (fun hb => ?_) (fun hb => ?_)
 ·replace hf := ct hb hf
  refine sq (ra ?_)
  refine at_op (op_tk hE (tk_build (acells .u8 32 ((vofL 32 [(0 : Int), (0 : Int), (0 : Int), (0 : Int), (0 : Int), (0 : Int), (0 : Int), (0 : Int), (0 : Int), (0 : Int), (0 : Int), (0 : Int), (0 : Int), (0 : Int), (0 : Int), (0 : Int), (0 : Int), (0 : Int), (0 : Int), (0 : Int), (0 : Int), (0 : Int), (0 : Int), (0 : Int), (0 : Int), (0 : Int), (0 : Int), (0 : Int), (0 : Int), (0 : Int), (0 : Int), (0 : Int)]))) rfl rfl rfl rfl hE rfl rfl (by kernel_rfl) (fun a hE => ?_))) rfl
  have hS := hS.p (.d 3 (.d 0 (.d 1 (.d 2 .n))))
  refine at_op (op_store (v := .agg (List.toArray (acells .u8 32 ((vofL 32 [(0 : Int), (0 : Int), (0 : Int), (0 : Int), (0 : Int), (0 : Int), (0 : Int), (0 : Int), (0 : Int), (0 : Int), (0 : Int), (0 : Int), (0 : Int), (0 : Int), (0 : Int), (0 : Int), (0 : Int), (0 : Int), (0 : Int), (0 : Int), (0 : Int), (0 : Int), (0 : Int), (0 : Int), (0 : Int), (0 : Int), (0 : Int), (0 : Int), (0 : Int), (0 : Int), (0 : Int), (0 : Int)]))))) (acells .u8 32 ((vofL 32 [(0 : Int), (0 : Int), (0 : Int), (0 : Int), (0 : Int), (0 : Int), (0 : Int), (0 : Int), (0 : Int), (0 : Int), (0 : Int), (0 : Int), (0 : Int), (0 : Int), (0 : Int), (0 : Int), (0 : Int), (0 : Int), (0 : Int), (0 : Int), (0 : Int), (0 : Int), (0 : Int), (0 : Int), (0 : Int), (0 : Int), (0 : Int), (0 : Int), (0 : Int), (0 : Int), (0 : Int), (0 : Int)]))) rfl rfl rfl rfl hE hS rfl rfl (by kernel_rfl) (by kernel_rfl) (by kernel_rfl) (by kernel_rfl) (by kernel_rfl) (fun a w _ hE hS => ?_)) rfl
  refine sN 1 3 [(9, .bool false)] hE fun a hE => ?_
  refine ae ?_
  refine wpIn_ret ?_
  obtain rfl := si hf
  refine ret_ ?_
  refine ret_gen ([.agg (List.toArray (acells .u8 32 ((vofL 32 [(0 : Int), (0 : Int), (0 : Int), (0 : Int), (0 : Int), (0 : Int), (0 : Int), (0 : Int), (0 : Int), (0 : Int), (0 : Int), (0 : Int), (0 : Int), (0 : Int), (0 : Int), (0 : Int), (0 : Int), (0 : Int), (0 : Int), (0 : Int), (0 : Int), (0 : Int), (0 : Int), (0 : Int), (0 : Int), (0 : Int), (0 : Int), (0 : Int), (0 : Int), (0 : Int), (0 : Int), (0 : Int)])))), .bool false]) hE (by rw [show Tryd.f53.results.toList = [.cell 8 24, .tmp 9] from rfl]; exact ⟨_, _, _, 0, _, _, rfl, rfl, hS.heapAt (j := 0) rfl, by kernel_rfl, ⟨_, _, rfl, rfl, rfl⟩⟩) ?_
  have hS := hS.p .n
  exact ⟨_, rfl, D47, rfl, hS⟩
 replace hf := cf hb hf
 refine wpIn_skip ?_
 refine sq (ra ?_)
 refine at_op (op_alloc (z := .agg (List.toArray (acells .u8 32 ((Vector.replicate 32 (0 : Int)))))) rfl rfl rfl rfl hE rfl hS (by kernel_rfl) (fun a b49 w _ hE hS => ?_)) rfl
 refine ae ?_
 refine sq (ra ?_)
 refine sN 2 2 [(24, .slice A5 (List.length (x4)) c6), (25, .func (.func 83) #[] #[.pointer (some ⟨b33, 0, none⟩), .pointer (some ⟨b35, 0, none⟩), .pointer (some ⟨b37, 0, none⟩), .pointer (some ⟨b49, 0, none⟩)])] hE fun a hE => ?_
 have hS := hS.p (.d 1 (.d 2 (.d 3 (.d 0 (.d 4 .n)))))
 obtain ⟨r51, h52, hf⟩ := bs hf
 refine aC rfl rfl rfl rfl hE rfl rfl rfl rfl (proof_taken.calls h52 (hS.st.fore (L := [bx b33 24 (acells .u8 32 (x1)), bx b35 3 ([.int .i64 (x2)]), bx b37 3 ([.int .i64 (x3)]), bx b49 24 (acells .u8 32 ((Vector.replicate 32 (0 : Int))))])) (h7.mono le48) (hG0.mono le48) (hG1.mono le48)) fun a v w hR hE => ?_
 obtain ⟨D53, rfl, hS1⟩ := hR
 have le55 := hS1.dle
 have hS := hS.callR hS1 rfl (.c (.c (.c (.c .n))))
 refine sN 1 4 [(11, .bool (r51.1))] hE fun a hE => ?_
 refine ae ?_
 refine sq (sq (ra ?_))
 refine sN 2 2 [(28, .bool ((!r51.1)))] hE fun a hE => ?_
 refine ae ?_
 refine cond_split hE (b := (!r51.1)) rfl (fun hb => ?_) (fun hb => ?_)
 ·replace hf := ct hb hf
  refine sq (ra ?_)
  refine at_op (op_tk hE (tk_build (acells .u8 32 ((vofL 32 [(0 : Int), (0 : Int), (0 : Int), (0 : Int), (0 : Int), (0 : Int), (0 : Int), (0 : Int), (0 : Int), (0 : Int), (0 : Int), (0 : Int), (0 : Int), (0 : Int), (0 : Int), (0 : Int), (0 : Int), (0 : Int), (0 : Int), (0 : Int), (0 : Int), (0 : Int), (0 : Int), (0 : Int), (0 : Int), (0 : Int), (0 : Int), (0 : Int), (0 : Int), (0 : Int), (0 : Int), (0 : Int)]))) rfl rfl rfl rfl hE rfl rfl (by kernel_rfl) (fun a hE => ?_))) rfl
  have hS := hS.p (.d 4 (.d 0 (.d 1 (.d 2 (.d 3 .n)))))
  refine at_op (op_store (v := .agg (List.toArray (acells .u8 32 ((vofL 32 [(0 : Int), (0 : Int), (0 : Int), (0 : Int), (0 : Int), (0 : Int), (0 : Int), (0 : Int), (0 : Int), (0 : Int), (0 : Int), (0 : Int), (0 : Int), (0 : Int), (0 : Int), (0 : Int), (0 : Int), (0 : Int), (0 : Int), (0 : Int), (0 : Int), (0 : Int), (0 : Int), (0 : Int), (0 : Int), (0 : Int), (0 : Int), (0 : Int), (0 : Int), (0 : Int), (0 : Int), (0 : Int)]))))) (acells .u8 32 ((vofL 32 [(0 : Int), (0 : Int), (0 : Int), (0 : Int), (0 : Int), (0 : Int), (0 : Int), (0 : Int), (0 : Int), (0 : Int), (0 : Int), (0 : Int), (0 : Int), (0 : Int), (0 : Int), (0 : Int), (0 : Int), (0 : Int), (0 : Int), (0 : Int), (0 : Int), (0 : Int), (0 : Int), (0 : Int), (0 : Int), (0 : Int), (0 : Int), (0 : Int), (0 : Int), (0 : Int), (0 : Int), (0 : Int)]))) rfl rfl rfl rfl hE hS rfl rfl (by kernel_rfl) (by kernel_rfl) (by kernel_rfl) (by kernel_rfl) (by kernel_rfl) (fun a w _ hE hS => ?_)) rfl
  refine sN 1 3 [(9, .bool false)] hE fun a hE => ?_
  refine ae ?_
  refine wpIn_ret ?_
  obtain rfl := si hf
  refine ret_ ?_
  refine ret_gen ([.agg (List.toArray (acells .u8 32 ((vofL 32 [(0 : Int), (0 : Int), (0 : Int), (0 : Int), (0 : Int), (0 : Int), (0 : Int), (0 : Int), (0 : Int), (0 : Int), (0 : Int), (0 : Int), (0 : Int), (0 : Int), (0 : Int), (0 : Int), (0 : Int), (0 : Int), (0 : Int), (0 : Int), (0 : Int), (0 : Int), (0 : Int), (0 : Int), (0 : Int), (0 : Int), (0 : Int), (0 : Int), (0 : Int), (0 : Int), (0 : Int), (0 : Int)])))), .bool false]) hE (by rw [show Tryd.f53.results.toList = [.cell 8 24, .tmp 9] from rfl]; exact ⟨_, _, _, 0, _, _, rfl, rfl, hS.heapAt (j := 0) rfl, by kernel_rfl, ⟨_, _, rfl, rfl, rfl⟩⟩) ?_
  have hS := hS.p .n
  exact ⟨_, rfl, D53, rfl, hS⟩
 replace hf := cf hb hf
 refine wpIn_skip ?_
 refine sq (ra ?_)
 refine sM 1 1 [3] [(30, .agg (List.toArray (acells .u8 32 (r51.2))))] hE hS fun a hE => ?_
 have hS := hS.p (.d 4 (.d 0 (.d 1 (.d 2 (.d 3 .n)))))
 refine at_op (op_store (v := .agg (List.toArray (acells .u8 32 (r51.2)))) (acells .u8 32 (r51.2)) rfl rfl rfl rfl hE hS rfl rfl (by kernel_rfl) (by kernel_rfl) (by kernel_rfl) (by kernel_rfl) (by kernel_rfl) (fun a w _ hE hS => ?_)) rfl
 refine sN 1 3 [(9, .bool true)] hE fun a hE => ?_
 refine ae ?_
 refine wpIn_ret ?_
 obtain rfl := si hf
 refine ret_ ?_
 refine ret_gen ([.agg (List.toArray (acells .u8 32 (r51.2))), .bool true]) hE (by rw [show Tryd.f53.results.toList = [.cell 8 24, .tmp 9] from rfl]; exact ⟨_, _, _, 0, _, _, rfl, rfl, hS.heapAt (j := 0) rfl, by kernel_rfl, ⟨_, _, rfl, rfl, rfl⟩⟩) ?_
 have hS := hS.p .n
 exact ⟨_, rfl, D53, rfl, hS⟩
set_option maxRecDepth 100000 in
theorem mac_Equal_1.calls {K : Nat} {g w0 : World} {D0 : Snap} {x7 : Int} {x8 : Int} {x9 : (Vector Int 32)} {x10 : (Vector Int 32)} {b1 : Nat} {b2 : Nat} {b3 : Nat} {r : (Int)} (hf : mac_Equal_1.f K x7 x8 x9 x10 = some r) (hS0 : St g w0 D0 [bx b1 5 ([.int .u8 (x8)]), bx b2 24 (acells .u8 32 (x9)), bx b3 24 (acells .u8 32 (x10))]) :
  CallsIn (Fw none) 0 Tryd.prog 85 (List.toArray [.int .i64 (x7), .pointer (some ⟨b1, 0, none⟩), .pointer (some ⟨b2, 0, none⟩), .pointer (some ⟨b3, 0, none⟩)]) w0 (fun e w' => ∃ v, e = .returned v ∧ ∃ D1, v = .tuple #[] ∧ Stp g w0 D0 [bx b1 5 ([.int .u8 (x8)]), bx b2 24 (acells .u8 32 (x9)), bx b3 24 (acells .u8 32 (x10))] w' D1 [bx b1 5 ([.int .u8 (r)]), bx b2 24 (acells .u8 32 (x9)), bx b3 24 (acells .u8 32 (x10))]) := by
 unfold mac_Equal_1.f at hf
 have hS := Stp.refl hS0
 clear hS0
 refine calls_body (n := 14) Tryd.func85 rfl Tryd.ntmps85 rfl fun a hE => ?_
 have hE : Env a 14 [] [(0, .int .i64 (x7)), (1, .pointer (some ⟨b1, 0, none⟩)), (2, .pointer (some ⟨b2, 0, none⟩)), (3, .pointer (some ⟨b3, 0, none⟩))] := hE
 refine region_draw (fun j => Keeps (mfOf [(9, [b1])] j)) (by kernel_rfl) ?_
 have hS := hS.drew
 first | generalize w.drew = w at hS ⊢ | generalize w0.drew = w at hS ⊢
 refine wP 1 2 9 (.int .i64 (x7)) hE fun a hE => ?_
 refine wP 4 18 8 (.int .i64 (x7)) hE fun a hE => ?_
 refine tL 0 19 7 0 (.int .u8 (x8)) hE hS fun a hE => ?_
 obtain ⟨hm17, hf⟩ := chk_some hf
 refine tW 2 23 (fuel := 6) (by kernel_rfl) hE (fun M => tk_indexPA (N := 32) (k := .u8) (m := x7) rfl rfl rfl rfl hE rfl rfl rfl (by kernel_rfl) hm17 (fun a hE => ?_))
 refine tT 3 31 (fuel := 5) (by kernel_rfl) hE (tk_loadPA 1 (N := 32) (k := .u8) (v := x9) (m := x7) rfl rfl rfl rfl hE rfl hS rfl rfl (by kernel_rfl) hm17 (kL (j := 1) hS rfl List.not_mem_nil) (fun a hE => ?_))
 obtain ⟨hm18, hf⟩ := chk_some hf
 refine tW 5 63 (fuel := 4) (by kernel_rfl) hE (fun M => tk_indexPA (N := 32) (k := .u8) (m := x7) rfl rfl rfl rfl hE rfl rfl rfl (by kernel_rfl) hm18 (fun a hE => ?_))
 refine tT 6 127 (fuel := 3) (by kernel_rfl) hE (tk_loadPA 2 (N := 32) (k := .u8) (v := x10) (m := x7) rfl rfl rfl rfl hE rfl hS rfl rfl (by kernel_rfl) hm18 (kL (j := 2) hS rfl List.not_mem_nil) (fun a hE => ?_))
 refine wP 7 255 2 (.int .u8 ((bxor .u8 (vget (x9) (Int.toNat (x7))) (vget (x10) (Int.toNat (x7)))))) hE fun a hE => ?_
 refine wP 8 511 1 (.int .u8 ((bor .u8 x8 (bxor .u8 (vget (x9) (Int.toNat (x7))) (vget (x10) (Int.toNat (x7))))))) hE fun a hE => ?_
 refine oG 9 1023 (fuel := 0) (by kernel_rfl) (op_store (v := .int .u8 ((bor .u8 x8 (bxor .u8 (vget (x9) (Int.toNat (x7))) (vget (x10) (Int.toNat (x7))))))) ([.int .u8 ((bor .u8 x8 (bxor .u8 (vget (x9) (Int.toNat (x7))) (vget (x10) (Int.toNat (x7))))))]) rfl rfl rfl rfl hE hS rfl rfl (by kernel_rfl) (by kernel_rfl) (by kernel_rfl) (by kernel_rfl) (by kernel_rfl) (fun a w hkp hE hS => ⟨hkp.mono (fun _ h => h), ?_⟩))
 clear hkp
 refine doneG (by kernel_rfl) ?_
 obtain rfl := si hf
 refine ret_genN ([]) hE (by rw [show Tryd.f85.results.toList = [] from rfl]; exact rfl) ?_
 exact ⟨_, rfl, D0, rfl, hS⟩
set_option maxRecDepth 100000 in
theorem mac_Equal.calls {K : Nat} {g w0 : World} {D0 : Snap} {x1 : (Vector Int 32)} {x2 : (Vector Int 32)} {r : (Bool)} (hf : mac_Equal.f K x1 x2 = some r) (hS0 : St g w0 D0 []) :
  CallsIn (Fw none) 0 Tryd.prog 54 (List.toArray [.agg (List.toArray (acells .u8 32 (x1))), .agg (List.toArray (acells .u8 32 (x2)))]) w0 (fun e w' => ∃ v, e = .returned v ∧ ∃ D1, v = .bool (r) ∧ Stp g w0 D0 [] w' D1 []) := by
 unfold mac_Equal.f at hf
 have hS := Stp.refl hS0
 clear hS0
 refine calls_body (n := 18) Tryd.func54 rfl Tryd.ntmps54 rfl fun a hE => ?_
 have hE : Env a 18 [] [(0, .agg (List.toArray (acells .u8 32 (x1)))), (1, .agg (List.toArray (acells .u8 32 (x2))))] := hE
 refine sq (ra ?_)
 refine at_op (op_box rfl rfl rfl rfl hE rfl hS rfl (fun a b2 w _ hE hS => ?_)) rfl
 refine at_op (op_box rfl rfl rfl rfl hE rfl hS rfl (fun a b3 w _ hE hS => ?_)) rfl
 refine sN 1 3 [(4, .bool false)] hE fun a hE => ?_
 refine ae ?_
 refine sq (ra ?_)
 refine at_op (op_alloc (z := .int .u8 ((0 : Int))) rfl rfl rfl rfl hE rfl hS (by kernel_rfl) (fun a b1 w _ hE hS => ?_)) rfl
 refine ae ?_
 refine sq (ra ?_)
 refine sN 2 2 [(6, .func (.func 85) #[] #[.pointer (some ⟨b1, 0, none⟩), .pointer (some ⟨b2, 0, none⟩), .pointer (some ⟨b3, 0, none⟩)])] hE fun a hE => ?_
 refine ae ?_
 refine sq (sq (ra ?_))
 refine sN 1 1 [(9, .int .i64 ((0 : Int)))] hE fun a hE => ?_
 refine ae ?_
 obtain ⟨s1, hf, hs1⟩ := bs hf
 have hS := hS.p (.d 0 (.d 2 (.d 1 .n)))
 refine block_loop (fun a w => ∃ (z1 : Int), ∃ D2, Env a 18 [] [(5, .pointer (some ⟨b1, 0, none⟩))] ∧ Stp g w0 D0 [] w D2 [bx b1 5 ([.int .u8 (z1)])] ∧ Snap.le D0 D2 ∧ z1 = s1) (fun k a w => ∃ (y1 : Int × Int), ∃ D3, Env a 18 [] [(5, .pointer (some ⟨b1, 0, none⟩)), (6, .func (.func 85) #[] #[.pointer (some ⟨b1, 0, none⟩), .pointer (some ⟨b2, 0, none⟩), .pointer (some ⟨b3, 0, none⟩)]), (9, .int .i64 (y1.1))] ∧ Stp g w0 D0 [] w D3 [bx b1 5 ([.int .u8 (y1.2)]), bx b2 24 (acells .u8 32 (x1)), bx b3 24 (acells .u8 32 (x2))] ∧ Snap.le D0 D3 ∧ mac_Equal_l1.l K x1 x2 k y1 = some s1) K ?_ ?_ ?_
 ·exact ⟨((0 : Int), (0 : Int)), D0, hE.wk, hS, lr, hf⟩
 ·clear hE hS hf
  rintro a w ⟨z1, D2, hE, hS, le4, rfl⟩
  have hf := hs1
  clear hs1
  refine sq (ra ?_)
  refine sM 3 3 [0] [(4, .bool ((decide (z1 = (0 : Int)))))] hE hS fun a hE => ?_
  refine ae ?_
  refine wpIn_ret ?_
  obtain rfl := si hf
  refine ret_ ?_
  refine rT 4 (.bool ((decide (z1 = (0 : Int))))) hE ?_
  have hS := hS.p .n
  exact ⟨_, rfl, D2, rfl, hS⟩
 clear hE hS hf
 rintro k a w ⟨y1, D3, hE, hS, le1, hf⟩
 obtain ⟨k, rfl, hf⟩ := mac_Equal_l1.some _ _ hf
 refine ⟨k, rfl, ?_⟩
 unfold mac_Equal_l1.b at hf
 refine sq (ra ?_)
 refine sN 1 1 [(10, .bool ((decide (y1.1 < (32 : Int)))))] hE fun a hE => ?_
 refine ae ?_
 refine sq ?_
 refine cond_split hE (b := (decide (y1.1 < (32 : Int)))) rfl (fun hb => ?_) (fun hb => ?_)
 ·replace hf := ct hb hf
  refine wpIn_skip ?_
  refine sq ?_
  refine wpIn_block ?_
  refine sq (ra ?_)
  refine sN 2 2 [(7, .int .i64 (y1.1))] hE fun a hE => ?_
  refine ae ?_
  refine ra ?_
  refine sN 2 2 [(12, .func (.func 85) #[] #[.pointer (some ⟨b1, 0, none⟩), .pointer (some ⟨b2, 0, none⟩), .pointer (some ⟨b3, 0, none⟩)]), (13, .int .i64 (y1.1))] hE fun a hE => ?_
  obtain ⟨r1, h1, hf⟩ := bs hf
  refine aC rfl rfl rfl rfl hE rfl rfl rfl rfl (mac_Equal_1.calls h1 (hS.st.fore (L := [bx b1 5 ([.int .u8 (y1.2)]), bx b2 24 (acells .u8 32 (x1)), bx b3 24 (acells .u8 32 (x2))])) ) fun a v w hR hE => ?_
  obtain ⟨D4, rfl, hS1⟩ := hR
  have le3 := hS1.dle
  have hS := hS.callR hS1 rfl (.c (.c (.c .n)))
  refine ae ?_
  refine ra ?_
  refine sN 2 2 [(9, .int .i64 ((IntKind.wrap .i64 (y1.1 + (1 : Int)))))] hE fun a hE => ?_
  exact ae ⟨((IntKind.wrap .i64 (y1.1 + (1 : Int))), r1), D4, hE.wk, hS, (le2 le1 le3), hf⟩
 replace hf := cf hb hf
 refine wpIn_exit ?_
 obtain rfl := si hf
 have hS := hS.p (.d 0 .n)
 exact ⟨y1.2, D3, hE.wk, hS, le1, rfl⟩
set_option maxRecDepth 100000 in
theorem proof_In.calls {K : Nat} {g w0 : World} {D0 : Snap} {x1 : (Vector Int 32)} {x2 : Int} {x3 : Int} {x4 : (List (Vector Int 32))} {x8 : (Vector Int 32)} {A5 : Option Addr} {c6 : Nat} {r : (Bool)} (hf : proof_In.f K x1 x2 x3 x4 x8 = some r) (hS0 : St g w0 D0 []) (h7 : Sl (kdArr .u8 32) D0 A5 c6 (x4)) (hG0 : Cell (kdArr .u32 8) D0 0 0 gl_First) (hG1 : Cell (kdArr .u32 64) D0 1 0 gl_K) :
  CallsIn (Fw none) 0 Tryd.prog 23 (List.toArray [.agg (List.toArray (acells .u8 32 (x1))), .int .i64 (x2), .int .i64 (x3), .slice A5 (List.length (x4)) c6, .agg (List.toArray (acells .u8 32 (x8)))]) w0 (fun e w' => ∃ v, e = .returned v ∧ ∃ D1, v = .bool (r) ∧ Stp g w0 D0 [] w' D1 []) := by
 unfold proof_In.f at hf
 have hS := Stp.refl hS0
 clear hS0
 refine calls_body (n := 27) Tryd.func23 rfl Tryd.ntmps23 rfl fun a hE => ?_
 have hE : Env a 27 [] [(0, .agg (List.toArray (acells .u8 32 (x1)))), (1, .int .i64 (x2)), (2, .int .i64 (x3)), (3, .slice A5 (List.length (x4)) c6), (4, .agg (List.toArray (acells .u8 32 (x8))))] := hE
 refine sq (ra ?_)
 refine at_op (op_box rfl rfl rfl rfl hE rfl hS rfl (fun a b30 w _ hE hS => ?_)) rfl
 refine at_op (op_box rfl rfl rfl rfl hE rfl hS rfl (fun a b32 w _ hE hS => ?_)) rfl
 refine sN 1 3 [(10, .bool false)] hE fun a hE => ?_
 refine ae ?_
 refine sq (ra ?_)
 refine sM 4 4 [1] [(14, .agg (List.toArray (acells .u8 32 (x1)))), (15, .int .i64 (x2)), (16, .int .i64 (x3)), (17, .slice A5 (List.length (x4)) c6)] hE hS fun a hE => ?_
 obtain ⟨r34, h35, hf⟩ := bs hf
 refine aC rfl rfl rfl rfl hE rfl rfl rfl rfl (proof_Comes.calls h35 (hS.st.fore (L := [])) h7 hG0 hG1) fun a v w hR hE => ?_
 obtain ⟨D36, rfl, hS1⟩ := hR
 have le38 := hS1.dle
 have hS := hS.callR hS1 rfl .n
 refine sN 3 8 [(19, .agg (List.toArray (acells .u8 32 (r34.1)))), (20, .bool (r34.2))] hE fun a hE => ?_
 refine at_op (op_alloc (z := .agg (List.toArray (acells .u8 32 ((Vector.replicate 32 (0 : Int)))))) rfl rfl rfl rfl hE rfl hS (by kernel_rfl) (fun a b39 w _ hE hS => ?_)) rfl
 refine at_op (op_store (v := .agg (List.toArray (acells .u8 32 (r34.1)))) (acells .u8 32 (r34.1)) rfl rfl rfl rfl hE hS rfl rfl (by kernel_rfl) (by kernel_rfl) (by kernel_rfl) (by kernel_rfl) (by kernel_rfl) (fun a w _ hE hS => ?_)) rfl
 refine sN 1 11 [(12, .bool (r34.2))] hE fun a hE => ?_
 refine ae ?_
 refine sq (ra ?_)
 refine sN 2 2 [(22, .bool (r34.2))] hE fun a hE => ?_
 refine bo (r34.2) (fun hb => ?_) fun hb => ?_
 ·replace hf := cf hb hf
  have hE := hE.know (t := 22) rfl hb
  refine sN 5 7 [(10, .bool false)] hE fun a hE => ?_
  refine ae ?_
  refine wpIn_ret ?_
  obtain rfl := si hf
  refine ret_ ?_
  refine rT 10 (.bool false) hE ?_
  have hS := hS.p .n
  exact ⟨_, rfl, D36, rfl, hS⟩
 replace hf := ct hb hf
 have hE := hE.know (t := 22) rfl hb
 refine sM 2 4 [0, 1] [(23, .agg (List.toArray (acells .u8 32 (r34.1)))), (24, .agg (List.toArray (acells .u8 32 (x8))))] hE hS fun a hE => ?_
 obtain ⟨r46, h47, hf⟩ := bs hf
 refine aC rfl rfl rfl rfl hE rfl rfl rfl rfl (mac_Equal.calls h47 (hS.st.fore (L := [])) ) fun a v w hR hE => ?_
 obtain ⟨D48, rfl, hS1⟩ := hR
 have le50 := hS1.dle
 have hS := hS.callR hS1 rfl .n
 refine sN 2 7 [(10, .bool (r46))] hE fun a hE => ?_
 refine ae ?_
 refine wpIn_ret ?_
 obtain rfl := si hf
 refine ret_ ?_
 refine rT 10 (.bool (r46)) hE ?_
 have hS := hS.p .n
 exact ⟨_, rfl, D48, rfl, hS⟩
set_option maxRecDepth 100000 in
theorem inspeximuslaw18_ExportPaths.calls {K : Nat} {g w0 : World} {D0 : Snap} {x1 : (List T_api_Rec)} {x5 : T_api_Point} {x9 : Int} {x10 : Int} {x11 : Int} {A2 : Option Addr} {c3 : Nat} {A6 : Option Addr} {c7 : Nat} {r : (Bool)} (hf : inspeximuslaw18_ExportPaths.f K x1 x5 x9 x10 x11 = some r) (hS0 : St g w0 D0 []) (h4 : Sl kd_T_api_Rec D0 A2 c3 (x1)) (h8 : Sl kd_T_api_Sig D0 A6 c7 (x5.fSigs)) (hG0 : Cell (kdArr .u32 8) D0 0 0 gl_First) (hG1 : Cell (kdArr .u32 64) D0 1 0 gl_K) :
  CallsIn (Fw none) 0 Tryd.prog 7 (List.toArray [.slice A2 (List.length (x1)) c3, .agg (List.toArray (c_T_api_Point (x5) A6 c7)), .int .u32 (x9), .int .i64 (x10), .int .i64 (x11)]) w0 (fun e w' => ∃ v, e = .returned v ∧ ∃ D1, v = .bool (r) ∧ Stp g w0 D0 [] w' D1 []) := by
 unfold inspeximuslaw18_ExportPaths.f at hf
 have hS := Stp.refl hS0
 clear hS0
 refine calls_body (n := 81) Tryd.func7 rfl Tryd.ntmps7 rfl fun a hE => ?_
 have hE : Env a 81 [] [(0, .slice A2 (List.length (x1)) c3), (1, .agg (List.toArray (c_T_api_Point (x5) A6 c7))), (2, .int .u32 (x9)), (3, .int .i64 (x10)), (4, .int .i64 (x11))] := hE
 refine sq (ra ?_)
 refine at_op (op_box rfl rfl rfl rfl hE rfl hS rfl (fun a b1 w _ hE hS => ?_)) rfl
 refine sN 1 2 [(10, .bool false)] hE fun a hE => ?_
 refine ae ?_
 refine sq (sq (ra ?_))
 obtain ⟨r5, h3, hf⟩ := bs hf
 refine aC rfl rfl rfl rfl hE rfl rfl rfl rfl (inspeximuslaw18_alive.calls h3 (hS.st.fore (L := [])) hG0 hG1) fun a v w hR hE => ?_
 obtain ⟨D6, rfl, hS1⟩ := hR
 have le1 := hS1.dle
 have hS := hS.callR hS1 rfl .n
 refine sN 1 2 [(17, .bool ((!r5)))] hE fun a hE => ?_
 refine ae ?_
 refine cond_split hE (b := (!r5)) rfl (fun hb => ?_) (fun hb => ?_)
 ·replace hf := ct hb hf
  refine sq (ra ?_)
  refine sN 1 1 [(10, .bool false)] hE fun a hE => ?_
  refine ae ?_
  refine wpIn_ret ?_
  obtain rfl := si hf
  refine ret_ ?_
  refine rT 10 (.bool false) hE ?_
  have hS := hS.p .n
  exact ⟨_, rfl, D6, rfl, hS⟩
 replace hf := cf hb hf
 refine wpIn_skip ?_
 refine sq (sq (ra ?_))
 refine sM 2 2 [0] [(18, .slice A2 (List.length (x1)) c3), (19, .agg (List.toArray (c_T_api_Point (x5) A6 c7)))] hE hS fun a hE => ?_
 obtain ⟨r6, h5, hf⟩ := bs hf
 refine aC rfl rfl rfl rfl hE rfl rfl rfl rfl (inspeximuslaw18_few.calls h5 (hS.st.fore (L := [])) (h4.mono le1) (h8.mono le1)) fun a v w hR hE => ?_
 obtain ⟨D7, rfl, hS1⟩ := hR
 have le3 := hS1.dle
 have hS := hS.callR hS1 rfl .n
 refine sN 1 4 [(21, .bool ((!r6)))] hE fun a hE => ?_
 refine ae ?_
 refine cond_split hE (b := (!r6)) rfl (fun hb => ?_) (fun hb => ?_)
 ·replace hf := ct hb hf
  refine sq (ra ?_)
  refine sN 1 1 [(10, .bool true)] hE fun a hE => ?_
  refine ae ?_
  refine wpIn_ret ?_
  obtain rfl := si hf
  refine ret_ ?_
  refine rT 10 (.bool true) hE ?_
  have hS := hS.p .n
  exact ⟨_, rfl, D7, rfl, hS⟩
 replace hf := cf hb hf
 refine wpIn_skip ?_
 refine sq (ra ?_)
 refine sM 5 5 [0] [(23, .slice A2 (List.length (x1)) c3), (24, .agg (List.toArray (c_T_api_Point (x5) A6 c7))), (25, .int .u32 (x9)), (26, .int .i64 (x10)), (27, .int .i64 (x11))] hE hS fun a hE => ?_
 obtain ⟨r1, h6, hf⟩ := bs hf
 refine aC rfl rfl rfl rfl hE rfl rfl rfl rfl (export_Range.calls h6 (hS.st.fore (L := [])) (h4.mono (le2 le1 le3)) (h8.mono (le2 le1 le3)) (hG0.mono (le2 le1 le3)) (hG1.mono (le2 le1 le3))) fun a v w hR hE => ?_
 obtain ⟨D8, A5, c5, A1, c1, rfl, hS1, h33, h7⟩ := hR
 have le4 := hS1.dle
 have hS := hS.callR hS1 rfl .n
 refine sN 3 9 [(29, .agg (List.toArray (c_T_api_Bundle (r1.1) A5 c5 A1 c1))), (30, .bool (r1.2))] hE fun a hE => ?_
 refine at_op (op_alloc (z := .agg (List.toArray (c_T_api_Bundle (z_T_api_Bundle) none 0 none 0))) rfl rfl rfl rfl hE rfl hS (by kernel_rfl) (fun a b2 w _ hE hS => ?_)) rfl
 refine at_op (op_store (v := .agg (List.toArray (c_T_api_Bundle (r1.1) A5 c5 A1 c1))) (c_T_api_Bundle (r1.1) A5 c5 A1 c1) rfl rfl rfl rfl hE hS rfl rfl (by kernel_rfl) (by kernel_rfl) (by kernel_rfl) (by kernel_rfl) (by kernel_rfl) (fun a w _ hE hS => ?_)) rfl
 refine sN 1 12 [(12, .bool (r1.2))] hE fun a hE => ?_
 refine ae ?_
 refine sq (sq (ra ?_))
 refine sN 2 2 [(32, .bool ((!r1.2)))] hE fun a hE => ?_
 refine ae ?_
 refine cond_split hE (b := (!r1.2)) rfl (fun hb => ?_) (fun hb => ?_)
 ·replace hf := ct hb hf
  refine sq (ra ?_)
  refine sM 5 5 [0] [(10, .bool ((decide (((List.length (r1.1.fItems) : Nat) : Int) = (0 : Int)))))] hE hS fun a hE => ?_
  refine ae ?_
  refine wpIn_ret ?_
  obtain rfl := si hf
  refine ret_ ?_
  refine rT 10 (.bool ((decide (((List.length (r1.1.fItems) : Nat) : Int) = (0 : Int))))) hE ?_
  have hS := hS.p .n
  exact ⟨_, rfl, D8, rfl, hS⟩
 replace hf := cf hb hf
 refine wpIn_skip ?_
 refine sq (ra ?_)
 refine sM 3 3 [1] [(37, .slice A2 (List.length (x1)) c3), (39, .int .i64 (x5.fSize))] hE hS fun a hE => ?_
 obtain ⟨l1, h9, hf⟩ := bs hf
 refine at_op (op_tk hE (g_slice (K := kd_T_api_Rec) (e := 39) (by_ := 224) (zl := 109) rfl rfl rfl rfl hE rfl rfl (by kernel_rfl) rfl ⟨_, rfl⟩ (h4.mono (le2 (le2 le1 le3) le4)) h9 (fun a A10 c10 hE h10 => ?_))) rfl
 obtain ⟨r7, h11, hf⟩ := bs hf
 refine aC rfl rfl rfl rfl hE rfl rfl rfl rfl (export_Hashes.calls h11 (hS.st.fore (L := [])) h10 (hG0.mono (le2 (le2 le1 le3) le4)) (hG1.mono (le2 (le2 le1 le3) le4))) fun a v w hR hE => ?_
 obtain ⟨D11, A11, c11, rfl, hS1, h12⟩ := hR
 have le5 := hS1.dle
 have hS := hS.callR hS1 rfl .n
 obtain ⟨r2, h13, hf⟩ := bs hf
 refine aC rfl rfl rfl rfl hE rfl rfl rfl rfl (tree_Root.calls h13 (hS.st.fore (L := [])) h12 (hG0.mono (le2 (le2 (le2 le1 le3) le4) le5)) (hG1.mono (le2 (le2 (le2 le1 le3) le4) le5))) fun a v w hR hE => ?_
 obtain ⟨D5, rfl, hS1⟩ := hR
 have le9 := hS1.dle
 have hS := hS.callR hS1 rfl .n
 refine at_op (op_alloc (z := .agg (List.toArray (acells .u8 32 ((Vector.replicate 32 (0 : Int)))))) rfl rfl rfl rfl hE rfl hS (by kernel_rfl) (fun a b3 w _ hE hS => ?_)) rfl
 refine at_op (op_store (v := .agg (List.toArray (acells .u8 32 (r2)))) (acells .u8 32 (r2)) rfl rfl rfl rfl hE hS rfl rfl (by kernel_rfl) (by kernel_rfl) (by kernel_rfl) (by kernel_rfl) (by kernel_rfl) (fun a w _ hE hS => ?_)) rfl
 refine ae ?_
 refine sq (sq (ra ?_))
 refine sN 1 1 [(14, .int .i64 ((0 : Int)))] hE fun a hE => ?_
 refine ae ?_
 obtain ⟨s1, hf, hs1⟩ := bs hf
 have hS := hS.p (.d 2 (.d 1 (.d 0 .n)))
 refine block_loop (fun a w => ∃ (z1 : Unit), ∃ D4, Env a 81 [] [] ∧ Stp g w0 D0 [] w D4 [] ∧ Snap.le D5 D4 ∧ (Sum.inr z1) = s1) (fun k a w => ∃ (y1 : Int), ∃ D2, Env a 81 [] [(0, .slice A2 (List.length (x1)) c3), (6, .pointer (some ⟨b1, 0, none⟩)), (11, .pointer (some ⟨b2, 0, none⟩)), (13, .pointer (some ⟨b3, 0, none⟩)), (14, .int .i64 (y1))] ∧ Stp g w0 D0 [] w D2 [bx b1 27 (c_T_api_Point (x5) A6 c7), bx b2 32 (c_T_api_Bundle (r1.1) A5 c5 A1 c1), bx b3 24 (acells .u8 32 (r2))] ∧ Snap.le D5 D2 ∧ inspeximuslaw18_ExportPaths_l1.l K x1 x5 r1 r2 k y1 = some s1) K ?_ ?_ ?_
 ·exact ⟨(0 : Int), D5, hE.wk, hS, lr, hf⟩
 ·clear hE hS hf
  rintro a w ⟨z1, D4, hE, hS, le16, rfl⟩
  have hf := hs1
  clear hs1
  refine sq (ra ?_)
  refine sN 1 1 [(10, .bool true)] hE fun a hE => ?_
  refine ae ?_
  refine wpIn_ret ?_
  obtain rfl := si hf
  refine ret_ ?_
  refine rT 10 (.bool true) hE ?_
  exact ⟨_, rfl, D4, rfl, hS⟩
 clear hE hS hf
 rintro k a w ⟨y1, D2, hE, hS, le6, hf⟩
 obtain ⟨k, rfl, hf⟩ := inspeximuslaw18_ExportPaths_l1.some _ _ _ _ hf
 refine ⟨k, rfl, ?_⟩
 unfold inspeximuslaw18_ExportPaths_l1.b at hf
 refine sq (sq (ra ?_))
 refine sM 5 5 [1] [(47, .bool ((decide (y1 < ((List.length (r1.1.fItems) : Nat) : Int)))))] hE hS fun a hE => ?_
 refine ae ?_
 refine cond_split hE (b := (decide (y1 < ((List.length (r1.1.fItems) : Nat) : Int)))) rfl (fun hb => ?_) (fun hb => ?_)
 ·replace hf := ct hb hf
  refine wpIn_skip ?_
  refine sq ?_
  refine wpIn_block ?_
  refine sq (ra ?_)
  refine sM 3 3 [1] [(51, .slice A1 (List.length (r1.1.fItems)) c1), (52, .int .i64 (y1))] hE hS fun a hE => ?_
  obtain ⟨x2, h14, hf⟩ := bs hf
  refine at_op (op_tk hE (g_index (K := kd_T_api_Item) (e := 42) (by_ := 256) (zl := 111) rfl rfl rfl rfl hE rfl rfl rfl (by kernel_rfl) rfl (h7.mono (le2 (le2 le5 le9) le6)) h14 (fun a b4 o1 hE h15 => ?_))) rfl
  obtain ⟨cs1, C1, T1, fr1, hr1, hb1, hc1⟩ := id h15
  obtain ⟨A3, c2, A4, c4, A7, c6, rfl, h1, h2, h16⟩ := kd_T_api_Item_el hr1
  refine at_op (op_tk hE (tk_loadX (off0 := o1) (off := 0) (c := c_T_api_Item (x2) A3 c2 A4 c4 A7 c6) (.agg (List.toArray (c_T_api_Item (x2) A3 c2 A4 c4 A7 c6))) rfl rfl rfl rfl hE rfl hS rfl hb1 hc1 (by kernel_rfl) (by kernel_rfl) (kD hS dn_nil) (fun a hE => ?_))) rfl
  refine at_op (op_alloc (z := .agg (List.toArray (c_T_api_Item (z_T_api_Item) none 0 none 0 none 0))) rfl rfl rfl rfl hE rfl hS (by kernel_rfl) (fun a b5 w _ hE hS => ?_)) rfl
  refine at_op (op_store (v := .agg (List.toArray (c_T_api_Item (x2) A3 c2 A4 c4 A7 c6))) (c_T_api_Item (x2) A3 c2 A4 c4 A7 c6) rfl rfl rfl rfl hE hS rfl rfl (by kernel_rfl) (by kernel_rfl) (by kernel_rfl) (by kernel_rfl) (by kernel_rfl) (fun a w _ hE hS => ?_)) rfl
  refine ae ?_
  obtain ⟨j1, hj1, hf⟩ := jn_elim hf
  refine seq_join (fun a w => ∃ (y2 : Bool), ∃ D3, Env a 81 [] [(0, .slice A2 (List.length (x1)) c3), (6, .pointer (some ⟨b1, 0, none⟩)), (11, .pointer (some ⟨b2, 0, none⟩)), (13, .pointer (some ⟨b3, 0, none⟩)), (14, .int .i64 (y1)), (80, .bool (y2))] ∧ Stp g w0 D0 [] w D3 [bx b1 27 (c_T_api_Point (x5) A6 c7), bx b2 32 (c_T_api_Bundle (r1.1) A5 c5 A1 c1), bx b3 24 (acells .u8 32 (r2))] ∧ Snap.le D2 D3 ∧ j1 y2 = some s1) ?_ ?_
  ·clear hj1
   refine region_draw (fun j => Keeps (mfOf [] j)) (by kernel_rfl) ?_
   have hS := hS.drew
   first | generalize w.drew = w at hS ⊢ | generalize w0.drew = w at hS ⊢
   refine wF 0 1 25 1 39 1 hE fun a hE => ?_
   refine tL 1 3 24 0 (.agg (List.toArray (c_T_api_Rec (x2.fRec) A3 c2 A4 c4))) hE hS fun a hE => ?_
   refine wF 4 19 23 0 3 0 hE fun a hE => ?_
   refine tL 5 51 22 0 (.int .i64 (x2.fAt)) hE hS fun a hE => ?_
   refine wF 6 115 21 0 3 0 hE fun a hE => ?_
   refine tL 7 243 20 1 (.int .i64 (x5.fSize)) hE hS fun a hE => ?_
   refine wF 8 499 19 110 40 110 hE fun a hE => ?_
   refine tL 9 1011 18 0 (.slice A7 (List.length (x2.fPath)) c6) hE hS fun a hE => ?_
   refine tL 10 2035 17 3 (.agg (List.toArray (acells .u8 32 (r2)))) hE hS fun a hE => ?_
   obtain ⟨r8, h17, hf⟩ := bs hf
   refine oC 2 2039 16 rfl rfl rfl rfl hE rfl rfl rfl rfl (rec_Sealed.calls h17 (hS.st.fore (L := [])) h1 h2 (hG0.mono (le2 (le2 (le2 (le2 (le2 le1 le3) le4) le5) le9) le6)) (hG1.mono (le2 (le2 (le2 (le2 (le2 le1 le3) le4) le5) le9) le6))) fun a v w hR hE => ?_
   obtain ⟨D12, A12, c12, q1, rfl, hS1, h18⟩ := hR
   refine ⟨(hS1.keeps.sub (M' := []) trivial).mono (fun _ h => h), ?_⟩
   have le7 := hS1.dle
   have hS := hS.callR hS1 rfl (.c .n)
   obtain ⟨D13, q2, le8, hS, h34, h19⟩ := hS.lent h18
   obtain ⟨r9, h20, hf⟩ := bs hf
   refine oC 3 2047 15 rfl rfl rfl rfl hE rfl rfl rfl rfl (tree_Leaf.calls h20 (hS.st.fore (L := [])) h19 (hG0.mono (le2 (le2 (le2 (le2 (le2 (le2 (le2 le1 le3) le4) le5) le9) le6) le7) le8)) (hG1.mono (le2 (le2 (le2 (le2 (le2 (le2 (le2 le1 le3) le4) le5) le9) le6) le7) le8))) fun a v w hR hE => ?_
   obtain ⟨D14, rfl, hS1⟩ := hR
   refine ⟨(hS1.keeps.sub (M' := []) trivial).mono (fun _ h => h), ?_⟩
   have le10 := hS1.dle
   have hS := hS.callR hS1 rfl .n
   obtain ⟨r3, h21, hf⟩ := bs hf
   refine oC 11 4095 14 rfl rfl rfl rfl hE rfl rfl rfl rfl (proof_In.calls h21 (hS.st.fore (L := [])) (h16.mono (le2 (le2 le7 le8) le10)) (hG0.mono (le2 (le2 (le2 (le2 (le2 (le2 (le2 (le2 le1 le3) le4) le5) le9) le6) le7) le8) le10)) (hG1.mono (le2 (le2 (le2 (le2 (le2 (le2 (le2 (le2 le1 le3) le4) le5) le9) le6) le7) le8) le10))) fun a v w hR hE => ?_
   obtain ⟨D9, rfl, hS1⟩ := hR
   refine ⟨(hS1.keeps.sub (M' := []) trivial).mono (fun _ h => h), ?_⟩
   have le11 := hS1.dle
   have hS := hS.callR hS1 rfl .n
   refine wP 12 8191 13 (.bool ((!r3))) hE fun a hE => ?_
   refine wP 13 16383 12 (.bool ((!r3))) hE fun a hE => ?_
   refine bo ((!r3)) (fun hb => ?_) fun hb => ?_
   ·replace hf := cf hb hf
    have hE := hE.know (t := 68) rfl hb
    refine wP 17 147455 11 (.slice A2 (List.length (x1)) c3) hE fun a hE => ?_
    refine wF 14 163839 10 1 39 1 hE fun a hE => ?_
    refine tL 15 196607 9 1 (.agg (List.toArray (c_T_api_Rec (x2.fRec) A3 c2 A4 c4))) hE hS fun a hE => ?_
    refine wF 18 458751 8 0 3 0 hE fun a hE => ?_
    refine tL 19 983039 7 1 (.int .i64 (x2.fAt)) hE hS fun a hE => ?_
    obtain ⟨x3, h22, hf⟩ := bs hf
    refine tW 20 2031615 (fuel := 6) (by kernel_rfl) hE (fun M => g_index (K := kd_T_api_Rec) (e := 39) (by_ := 224) (zl := 109) rfl rfl rfl rfl hE rfl rfl rfl (by kernel_rfl) rfl (h4.mono (le2 (le2 (le2 (le2 (le2 (le2 (le2 (le2 (le2 le1 le3) le4) le5) le9) le6) le7) le8) le10) le11)) h22 (fun a b6 o2 hE h23 => ?_))
    obtain ⟨cs2, C2, T2, fr2, hr2, hb2, hc2⟩ := id h23
    obtain ⟨A8, c8, A9, c9, rfl, h24, h25⟩ := kd_T_api_Rec_el hr2
    refine tT 21 4128767 (fuel := 5) (by kernel_rfl) hE (tk_loadX (off0 := o2) (off := 0) (c := c_T_api_Rec (x3) A8 c8 A9 c9) (.agg (List.toArray (c_T_api_Rec (x3) A8 c8 A9 c9))) rfl rfl rfl rfl hE rfl hS rfl hb2 hc2 (by kernel_rfl) (by kernel_rfl) (kD hS dn_nil) (fun a hE => ?_))
    obtain ⟨r10, h26, hf⟩ := bs hf
    refine oC 16 4194303 4 rfl rfl rfl rfl hE rfl rfl rfl rfl (rec_Redact.calls h26 (hS.st.fore (L := [])) (h1.mono (le2 (le2 (le2 le7 le8) le10) le11)) (h2.mono (le2 (le2 (le2 le7 le8) le10) le11)) (hG0.mono (le2 (le2 (le2 (le2 (le2 (le2 (le2 (le2 (le2 le1 le3) le4) le5) le9) le6) le7) le8) le10) le11)) (hG1.mono (le2 (le2 (le2 (le2 (le2 (le2 (le2 (le2 (le2 le1 le3) le4) le5) le9) le6) le7) le8) le10) le11))) fun a v w hR hE => ?_
    obtain ⟨D15, A13, c13, A14, c14, rfl, hS1, h27, h28⟩ := hR
    refine ⟨(hS1.keeps.sub (M' := []) trivial).mono (fun _ h => h), ?_⟩
    have le12 := hS1.dle
    have hS := hS.callR hS1 rfl .n
    obtain ⟨r11, h29, hf⟩ := bs hf
    refine oC 22 8388607 3 rfl rfl rfl rfl hE rfl rfl rfl rfl (rec_Redact.calls h29 (hS.st.fore (L := [])) (h24.mono le12) (h25.mono le12) (hG0.mono (le2 (le2 (le2 (le2 (le2 (le2 (le2 (le2 (le2 (le2 le1 le3) le4) le5) le9) le6) le7) le8) le10) le11) le12)) (hG1.mono (le2 (le2 (le2 (le2 (le2 (le2 (le2 (le2 (le2 (le2 le1 le3) le4) le5) le9) le6) le7) le8) le10) le11) le12))) fun a v w hR hE => ?_
    obtain ⟨D16, A15, c15, A16, c16, rfl, hS1, h30, h31⟩ := hR
    refine ⟨(hS1.keeps.sub (M' := []) trivial).mono (fun _ h => h), ?_⟩
    have le13 := hS1.dle
    have hS := hS.callR hS1 rfl .n
    obtain ⟨r4, h32, hf⟩ := bs hf
    refine oC 23 16777215 2 rfl rfl rfl rfl hE rfl rfl rfl rfl (rec_Same.calls h32 (hS.st.fore (L := [])) (h27.mono le13) (h28.mono le13) h30 h31) fun a v w hR hE => ?_
    obtain ⟨D10, rfl, hS1⟩ := hR
    refine ⟨(hS1.keeps.sub (M' := []) trivial).mono (fun _ h => h), ?_⟩
    have le14 := hS1.dle
    have hS := hS.callR hS1 rfl .n
    refine wP 24 33554431 1 (.bool ((!r4))) hE fun a hE => ?_
    refine wP 25 67108863 0 (.bool ((!r4))) hE fun a hE => ?_
    refine doneG (by kernel_rfl) ?_
    have hS := hS.p (.d 2 (.d 3 (.d 4 .n)))
    exact ⟨(!r4), D10, hE.wk, hS, (le2 (le2 (le2 (le2 (le2 (le2 le7 le8) le10) le11) le12) le13) le14), hf⟩
   replace hf := ct hb hf
   have hE := hE.know (t := 68) rfl hb
   refine wS 14 32767 11 hE fun a hE => ?_
   refine wS 15 65535 10 hE fun a hE => ?_
   refine wS 16 131071 9 hE fun a hE => ?_
   refine wS 17 262143 8 hE fun a hE => ?_
   refine wS 18 524287 7 hE fun a hE => ?_
   refine wS 19 1048575 6 hE fun a hE => ?_
   refine wS 20 2097151 5 hE fun a hE => ?_
   refine wS 21 4194303 4 hE fun a hE => ?_
   refine wS 22 8388607 3 hE fun a hE => ?_
   refine wS 23 16777215 2 hE fun a hE => ?_
   refine wS 24 33554431 1 hE fun a hE => ?_
   refine wP 25 67108863 0 (.bool true) hE fun a hE => ?_
   refine doneG (by kernel_rfl) ?_
   have hS := hS.p (.d 2 (.d 3 (.d 4 .n)))
   exact ⟨true, D9, hE.wk, hS, (le2 (le2 (le2 le7 le8) le10) le11), hf⟩
  clear hE hS
  rintro a w ⟨y2, D3, hE, hS, le15, hf⟩
  replace hf := hj1 _ hf
  clear hj1
  refine cond_split hE (b := y2) rfl (fun hb => ?_) (fun hb => ?_)
  ·replace hf := ct hb hf
   refine sq (ra ?_)
   refine sN 1 1 [(10, .bool false)] hE fun a hE => ?_
   refine ae ?_
   refine wpIn_ret ?_
   obtain rfl := si hf
   replace hf := hs1
   obtain rfl := si hf
   refine ret_ ?_
   refine rT 10 (.bool false) hE ?_
   have hS := hS.p .n
   exact ⟨_, rfl, D3, rfl, hS⟩
  replace hf := cf hb hf
  refine wpIn_skip ?_
  refine ra ?_
  refine sN 3 3 [(14, .int .i64 ((IntKind.wrap .i64 (y1 + (1 : Int)))))] hE fun a hE => ?_
  exact ae ⟨(IntKind.wrap .i64 (y1 + (1 : Int))), D3, hE.wk, hS, (le2 le6 le15), hf⟩
 replace hf := cf hb hf
 refine wpIn_exit ?_
 obtain rfl := si hf
 have hS := hS.p .n
 exact ⟨(), D2, hE.wk, hS, le6, rfl⟩
end Go.Proofs.YtjgaokcplofimaaDoor
