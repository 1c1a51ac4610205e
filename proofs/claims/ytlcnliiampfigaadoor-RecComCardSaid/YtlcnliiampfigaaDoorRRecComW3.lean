/-
  Proved, text by text: a call of a function of the cut comes to what its plain function computes.
  Conditions: those that each theorem names.
-/
import Derived.Test.YtlcnliiampfigaaDoorProg
import Derived.Test.YtlcnliiampfigaaDoorRRecComW2
set_option linter.unusedVariables false
namespace Go.Proofs.YtlcnliiampfigaaDoor
open Go Go.Sep

set_option maxRecDepth 100000 in
set_option maxHeartbeats 4000000 in
theorem inspeximuslaw04_RecCom.calls {K : Nat} {g w0 : World} {D0 : Snap} {x1 : T_api_Rec} {x8 : (List Int)} {x12 : (Vector Int 32)} {A2 : Option Addr} {c3 : Nat} {A5 : Option Addr} {c6 : Nat} {A9 : Option Addr} {c10 : Nat} {r : (Bool)} (hf : inspeximuslaw04_RecCom.f K x1 x8 x12 = some r) (hS0 : St g w0 D0 []) (h4 : Sl kd_T_api_Step D0 A2 c3 (x1.fSteps)) (h7 : Sl (kdInt .u8) D0 A5 c6 (x1.fData)) (h11 : Sl (kdInt .u8) D0 A9 c10 (x8)) (hG0 : Cell (kdArr .u32 8) D0 0 0 gl_First) (hG1 : Cell (kdArr .u32 64) D0 1 0 gl_K) :
    CallsIn (Fw none) 0 Tryd.prog 7 (List.toArray [.agg (List.toArray (c_T_api_Rec (x1) A2 c3 A5 c6)), .slice A9 (List.length (x8)) c10, .agg (List.toArray (acells .u8 32 (x12)))]) w0 (fun e w' => ∃ v, e = .returned v ∧ ∃ (D1 : Snap), v = .bool (r) ∧ Stp g w0 D0 [] w' D1 []) := by
  unfold inspeximuslaw04_RecCom.f at hf
  have hS := Stp.refl hS0
  clear hS0
  refine calls_body (n := 62) Tryd.func7 rfl Tryd.ntmps7 rfl (fun a hE => ?_)
  have hE : Env a 62 [] [(0, .agg (List.toArray (c_T_api_Rec (x1) A2 c3 A5 c6))), (1, .slice A9 (List.length (x8)) c10), (2, .agg (List.toArray (acells .u8 32 (x12))))] := hE
  refine wpIn_seq ?_
  refine region_at ?_
  refine at_op (op_box rfl rfl rfl rfl hE rfl hS rfl (fun a b279 w _ hE hS => ?_)) rfl
  refine at_op (op_box rfl rfl rfl rfl hE rfl hS rfl (fun a b281 w _ hE hS => ?_)) rfl
  refine segN 1 (j := 3) [(6, .bool false)] hE (by kernel_rfl) rfl (fun a hE => ?_)
  refine at_end rfl ?_
  refine wpIn_seq ?_
  refine wpIn_seq ?_
  refine region_at ?_
  obtain ⟨r288, h289, hf⟩ := bind_some hf
  refine at_op (op_call rfl rfl rfl rfl hE rfl rfl rfl rfl (by kernel_rfl) (inspeximuslaw04_alive.calls (g := g) h289 (hS.st.fore (L := [])) hG0 hG1) (fun a v w hR hE => ?_)) rfl
  obtain ⟨D290, rfl, hS1⟩ := hR
  have le292 := hS1.dle
  have hS := hS.callR hS1 rfl .n
  clear hS1
  refine segN 1 (j := 2) [(10, .bool ((!r288)))] hE (by kernel_rfl) rfl (fun a hE => ?_)
  refine at_end rfl ?_
  refine cond_split hE (b := (!r288)) rfl (fun hb => ?_) (fun hb => ?_)
  · replace hf := cond_t hb hf
    clear hb
    refine wpIn_seq ?_
    refine region_at ?_
    refine segN 1 (j := 1) [(6, .bool false)] hE (by kernel_rfl) rfl (fun a hE => ?_)
    refine at_end rfl ?_
    refine wpIn_ret ?_
    obtain rfl := Option.some.inj hf
    repeat (with_reducible first | refine then_ret ?_ | refine block_ret ?_ | refine qx_ret ?_)
    refine ret_gen ([.bool false]) hE (by rw [show Tryd.f7.results.toList = [.tmp 6] from rfl]; exact ⟨_, _, rfl, rfl, rfl⟩) ?_
    have hS := hS.pk .n rfl
    exact ⟨_, rfl, D290, rfl, hS⟩
  · replace hf := cond_f hb hf
    clear hb
    refine wpIn_skip ?_
    refine wpIn_seq ?_
    obtain ⟨j533, hj534, hf⟩ := jn_elim hf
    refine seq_join (fun a w => ∃ (y328 : Bool), ∃ (D329 : Snap), Env a 62 [] [(1, .slice A9 (List.length (x8)) c10), (3, .pointer (some ⟨b279, 0, none⟩)), (5, .pointer (some ⟨b281, 0, none⟩)), (27, .bool (y328))] ∧ Stp g w0 D0 [] w D329 [bx b279 27 (c_T_api_Rec (x1) A2 c3 A5 c6), bx b281 23 (acells .u8 32 (x12))] ∧ Snap.le D290 D329 ∧ j533 y328 = some r) ?_ ?_
    · clear hj534
      refine region_at ?_
      refine at_op (op_tk hE (tk_load 1 (.agg (List.toArray (c_T_api_Rec (x1) A2 c3 A5 c6))) rfl rfl rfl rfl hE rfl hS rfl rfl (by kernel_rfl) (kL (j := 1) hS rfl List.not_mem_nil) (fun a hE => ?_))) rfl
      obtain ⟨r535, h536, hf⟩ := bind_some hf
      refine at_op (op_call rfl rfl rfl rfl hE rfl rfl rfl rfl (by kernel_rfl) (inspeximusref04_Great.calls (g := g) h536 (hS.st.fore (L := [])) (h4.mono le292) (h7.mono le292)) (fun a v w hR hE => ?_)) rfl
      obtain ⟨D537, rfl, hS1⟩ := hR
      have le539 := hS1.dle
      have hS := hS.callR hS1 rfl .n
      clear hS1
      refine segN 1 (j := 3) [(13, .bool (r535))] hE (by kernel_rfl) rfl (fun a hE => ?_)
      cases hb : r535
      · replace hf := cond_f hb hf
        have hE := hE.know (t := 13) (b := r535) (b' := false) rfl hb
        clear hb
        refine segN 5 (j := 8) [(18, .bool ((decide ((60 : Int) < ((List.length (x8) : Nat) : Int)))))] hE (by kernel_rfl) rfl (fun a hE => ?_)
        cases hb : (decide ((60 : Int) < ((List.length (x8) : Nat) : Int)))
        · replace hf := cond_f hb hf
          have hE := hE.know (t := 18) (b := (decide ((60 : Int) < ((List.length (x8) : Nat) : Int)))) (b' := false) rfl hb
          clear hb
          refine at_op (op_tk hE (tk_load 1 (.agg (List.toArray (c_T_api_Rec (x1) A2 c3 A5 c6))) rfl rfl rfl rfl hE rfl hS rfl rfl (by kernel_rfl) (kL (j := 1) hS rfl List.not_mem_nil) (fun a hE => ?_))) rfl
          obtain ⟨r540, h541, hf⟩ := bind_some hf
          refine at_op (op_call rfl rfl rfl rfl hE rfl rfl rfl rfl (by kernel_rfl) (rec_Right.calls (g := g) h541 (hS.st.fore (L := [])) (h4.mono (Snap.le.trans le292 le539)) (h7.mono (Snap.le.trans le292 le539))) (fun a v w hR hE => ?_)) rfl
          obtain ⟨D542, rfl, hS1⟩ := hR
          have le544 := hS1.dle
          have hS := hS.callR hS1 rfl .n
          clear hS1
          refine segN 3 (j := 13) [(23, .bool ((!r540)))] hE (by kernel_rfl) rfl (fun a hE => ?_)
          cases hb : (!r540)
          · replace hf := cond_f hb hf
            have hE := hE.know (t := 23) (b := (!r540)) (b' := false) rfl hb
            clear hb
            refine at_op (op_tk hE (g_fieldAddr (fo := 0) (ft := 3) 0 rfl rfl rfl rfl hE rfl rfl (by kernel_rfl) rfl (fun a hE => ?_))) rfl
            refine at_op (op_tk hE (tk_load 1 (.int .i64 (x1.fKind)) rfl rfl rfl rfl hE rfl hS rfl rfl (by kernel_rfl) (kL (j := 1) hS rfl List.not_mem_nil) (fun a hE => ?_))) rfl
            refine segN 2 (j := 17) [(27, .bool ((!decide (x1.fKind = (1 : Int)))))] hE (by kernel_rfl) rfl (fun a hE => ?_)
            refine at_end rfl ?_
            have hS := hS.pk (.c 1 rfl (.c 0 rfl .n)) rfl
            exact ⟨(!decide (x1.fKind = (1 : Int))), D542, hE.weak (by kernel_rfl), hS, (Snap.le.trans le539 le544), hf⟩
          · replace hf := cond_t hb hf
            have hE := hE.know (t := 23) (b := (!r540)) (b' := true) rfl hb
            clear hb
            refine segN 4 (j := 17) [(27, .bool true)] hE (by kernel_rfl) rfl (fun a hE => ?_)
            refine at_end rfl ?_
            have hS := hS.pk (.c 1 rfl (.c 0 rfl .n)) rfl
            exact ⟨true, D542, hE.weak (by kernel_rfl), hS, (Snap.le.trans le539 le544), hf⟩
        · replace hf := cond_t hb hf
          have hE := hE.know (t := 18) (b := (decide ((60 : Int) < ((List.length (x8) : Nat) : Int)))) (b' := true) rfl hb
          clear hb
          refine segN 9 (j := 17) [(27, .bool true)] hE (by kernel_rfl) rfl (fun a hE => ?_)
          refine at_end rfl ?_
          have hS := hS.pk (.c 1 rfl (.c 0 rfl .n)) rfl
          exact ⟨true, D537, hE.weak (by kernel_rfl), hS, le539, hf⟩
      · replace hf := cond_t hb hf
        have hE := hE.know (t := 13) (b := r535) (b' := true) rfl hb
        clear hb
        refine segN 14 (j := 17) [(27, .bool true)] hE (by kernel_rfl) rfl (fun a hE => ?_)
        refine at_end rfl ?_
        have hS := hS.pk (.c 1 rfl (.c 0 rfl .n)) rfl
        exact ⟨true, D537, hE.weak (by kernel_rfl), hS, le539, hf⟩
    · clear hE hS
      rintro a w ⟨y328, D329, hE, hS, le330, hf⟩
      replace hf := hj534 _ hf
      clear hj534
      refine cond_split hE (b := y328) rfl (fun hb => ?_) (fun hb => ?_)
      · replace hf := cond_t hb hf
        clear hb
        refine wpIn_seq ?_
        refine region_at ?_
        refine segN 1 (j := 1) [(6, .bool true)] hE (by kernel_rfl) rfl (fun a hE => ?_)
        refine at_end rfl ?_
        refine wpIn_ret ?_
        obtain rfl := Option.some.inj hf
        repeat (with_reducible first | refine then_ret ?_ | refine block_ret ?_ | refine qx_ret ?_)
        refine ret_gen ([.bool true]) hE (by rw [show Tryd.f7.results.toList = [.tmp 6] from rfl]; exact ⟨_, _, rfl, rfl, rfl⟩) ?_
        have hS := hS.pk .n rfl
        exact ⟨_, rfl, D329, rfl, hS⟩
      · replace hf := cond_f hb hf
        clear hb
        refine wpIn_skip ?_
        refine wpIn_seq ?_
        refine region_at ?_
        refine at_op (op_tk hE (tk_build (c_T_api_Step ((T_api_Step.mk ((0 : Int)) ((2 : Int))))) rfl rfl rfl rfl hE rfl rfl (by kernel_rfl) (fun a hE => ?_))) rfl
        refine at_op (op_buildSlice (K := kd_T_api_Step) (e := 37) (cs := (c_T_api_Step ((T_api_Step.mk ((0 : Int)) ((2 : Int))))) ++ []) ([(T_api_Step.mk ((0 : Int)) ((2 : Int)))] : List T_api_Step) rfl rfl rfl rfl hE rfl hS rfl (by kernel_rfl) rfl rfl (by exact (show RL kd_T_api_Step D329 ([(T_api_Step.mk ((0 : Int)) ((2 : Int)))] : List T_api_Step) ((c_T_api_Step ((T_api_Step.mk ((0 : Int)) ((2 : Int))))) ++ []) from ⟨_, _, rfl, (kd_T_api_Step_mk (D := D329) (x := (T_api_Step.mk ((0 : Int)) ((2 : Int)))) rfl rfl), rfl⟩)) (fun a A331 q332 w _ hE h333 hS => ?_)) rfl
        refine segN 1 (j := 3) [(30, .slice A9 (List.length (x8)) c10)] hE (by kernel_rfl) rfl (fun a hE => ?_)
        refine at_op (op_tk hE (tk_load 2 (.agg (List.toArray (acells .u8 32 (x12)))) rfl rfl rfl rfl hE rfl hS rfl rfl (by kernel_rfl) (kL (j := 2) hS rfl List.not_mem_nil) (fun a hE => ?_))) rfl
        obtain ⟨D335, q338, le336, hS, h339, h337⟩ := hS.lent h333
        refine at_op (op_tk hE (tk_build (c_T_api_Rec ({ z_T_api_Rec with fKind := (1 : Int), fSaga := (3 : Int), fSteps := ([(T_api_Step.mk ((0 : Int)) ((2 : Int)))] : List T_api_Step), fData := x8, fSalt := x12 }) A331 1 A9 c10) rfl rfl rfl rfl hE rfl rfl (by kernel_rfl) (fun a hE => ?_))) rfl
        refine at_op (op_alloc (z := .agg (List.toArray (c_T_api_Rec (z_T_api_Rec) none 0 none 0))) rfl rfl rfl rfl hE rfl hS (by kernel_rfl) (fun a b340 w _ hE hS => ?_)) rfl
        obtain ⟨v342, hv343, hf⟩ := bind_some hf
        replace hv343 := Option.some.inj hv343
        refine at_op (op_store (v := .agg (List.toArray (c_T_api_Rec ({ z_T_api_Rec with fKind := (1 : Int), fSaga := (3 : Int), fSteps := ([(T_api_Step.mk ((0 : Int)) ((2 : Int)))] : List T_api_Step), fData := x8, fSalt := x12 }) A331 1 A9 c10))) (c_T_api_Rec (v342) A331 1 A9 c10) rfl rfl rfl rfl hE hS rfl rfl (by kernel_rfl) (by kernel_rfl) (by kernel_rfl) (by kernel_rfl) (by rw [← hv343]; kernel_rfl) (fun a w _ hE hS => ?_)) rfl
        have h344 : Sl kd_T_api_Step D335 A331 1 (v342.fSteps) := by rw [← hv343]; exact h337
        have h345 : Sl (kdInt .u8) D0 A9 c10 (v342.fData) := by rw [← hv343]; exact h11
        refine at_end rfl ?_
        refine wpIn_seq ?_
        refine region_at ?_
        refine at_op (op_tk hE (tk_load 2 (.agg (List.toArray (c_T_api_Rec (x1) A2 c3 A5 c6))) rfl rfl rfl rfl hE rfl hS rfl rfl (by kernel_rfl) (kL (j := 2) hS rfl List.not_mem_nil) (fun a hE => ?_))) rfl
        refine at_op (op_alloc (z := .agg (List.toArray (c_T_api_Rec (z_T_api_Rec) none 0 none 0))) rfl rfl rfl rfl hE rfl hS (by kernel_rfl) (fun a b346 w _ hE hS => ?_)) rfl
        refine at_op (op_store (v := .agg (List.toArray (c_T_api_Rec (x1) A2 c3 A5 c6))) (c_T_api_Rec (x1) A2 c3 A5 c6) rfl rfl rfl rfl hE hS rfl rfl (by kernel_rfl) (by kernel_rfl) (by kernel_rfl) (by kernel_rfl) (by kernel_rfl) (fun a w _ hE hS => ?_)) rfl
        refine at_end rfl ?_
        refine wpIn_seq ?_
        refine region_at ?_
        refine at_op (op_tk hE (g_fieldAddr (fo := 76) (ft := 4) 76 rfl rfl rfl rfl hE rfl rfl (by kernel_rfl) rfl (fun a hE => ?_))) rfl
        obtain ⟨v348, hv349, hf⟩ := bind_some hf
        replace hv349 := Option.some.inj hv349
        refine at_op (op_store (v := .bool false) (c_T_api_Rec (v348) A2 c3 A5 c6) rfl rfl rfl rfl hE hS rfl rfl (by kernel_rfl) (by kernel_rfl) (by kernel_rfl) (by kernel_rfl) (by rw [← hv349]; kernel_rfl) (fun a w _ hE hS => ?_)) rfl
        have h350 : Sl kd_T_api_Step D0 A2 c3 (v348.fSteps) := by rw [← hv349]; exact h4
        have h351 : Sl (kdInt .u8) D0 A5 c6 (v348.fData) := by rw [← hv349]; exact h7
        refine at_end rfl ?_
        refine wpIn_seq ?_
        refine region_at ?_
        refine at_op (op_tk hE (tk_build (acells .u8 32 ((vofL 32 [(0 : Int), (0 : Int), (0 : Int), (0 : Int), (0 : Int), (0 : Int), (0 : Int), (0 : Int), (0 : Int), (0 : Int), (0 : Int), (0 : Int), (0 : Int), (0 : Int), (0 : Int), (0 : Int), (0 : Int), (0 : Int), (0 : Int), (0 : Int), (0 : Int), (0 : Int), (0 : Int), (0 : Int), (0 : Int), (0 : Int), (0 : Int), (0 : Int), (0 : Int), (0 : Int), (0 : Int), (0 : Int)]))) rfl rfl rfl rfl hE rfl rfl (by kernel_rfl) (fun a hE => ?_))) rfl
        refine at_op (op_tk hE (g_fieldAddr (fo := 77) (ft := 23) 77 rfl rfl rfl rfl hE rfl rfl (by kernel_rfl) rfl (fun a hE => ?_))) rfl
        obtain ⟨v352, hv353, hf⟩ := bind_some hf
        replace hv353 := Option.some.inj hv353
        refine at_op (op_store (v := .agg (List.toArray (acells .u8 32 ((vofL 32 [(0 : Int), (0 : Int), (0 : Int), (0 : Int), (0 : Int), (0 : Int), (0 : Int), (0 : Int), (0 : Int), (0 : Int), (0 : Int), (0 : Int), (0 : Int), (0 : Int), (0 : Int), (0 : Int), (0 : Int), (0 : Int), (0 : Int), (0 : Int), (0 : Int), (0 : Int), (0 : Int), (0 : Int), (0 : Int), (0 : Int), (0 : Int), (0 : Int), (0 : Int), (0 : Int), (0 : Int), (0 : Int)]))))) (c_T_api_Rec (v352) A2 c3 A5 c6) rfl rfl rfl rfl hE hS rfl rfl (by kernel_rfl) (by kernel_rfl) (by kernel_rfl) (by kernel_rfl) (by rw [← hv353]; kernel_rfl) (fun a w _ hE hS => ?_)) rfl
        have h354 : Sl kd_T_api_Step D0 A2 c3 (v352.fSteps) := by rw [← hv353]; exact h350
        have h355 : Sl (kdInt .u8) D0 A5 c6 (v352.fData) := by rw [← hv353]; exact h351
        refine at_end rfl ?_
        refine wpIn_seq ?_
        refine region_at ?_
        refine segN 1 (j := 1) [(37, .slice A9 (List.length (x8)) c10)] hE (by kernel_rfl) rfl (fun a hE => ?_)
        refine at_op (op_tk hE (g_fieldAddr (fo := 43) (ft := 25) 43 rfl rfl rfl rfl hE rfl rfl (by kernel_rfl) rfl (fun a hE => ?_))) rfl
        obtain ⟨v356, hv357, hf⟩ := bind_some hf
        replace hv357 := Option.some.inj hv357
        refine at_op (op_store (v := .slice A9 (List.length (x8)) c10) (c_T_api_Rec (v356) A2 c3 A9 c10) rfl rfl rfl rfl hE hS rfl rfl (by kernel_rfl) (by kernel_rfl) (by kernel_rfl) (by kernel_rfl) (by rw [← hv357]; kernel_rfl) (fun a w _ hE hS => ?_)) rfl
        have h358 : Sl kd_T_api_Step D0 A2 c3 (v356.fSteps) := by rw [← hv357]; exact h354
        have h359 : Sl (kdInt .u8) D0 A9 c10 (v356.fData) := by rw [← hv357]; exact h11
        refine at_end rfl ?_
        refine wpIn_seq ?_
        refine region_at ?_
        refine at_op (op_tk hE (tk_load 4 (.agg (List.toArray (acells .u8 32 (x12)))) rfl rfl rfl rfl hE rfl hS rfl rfl (by kernel_rfl) (kL (j := 4) hS rfl List.not_mem_nil) (fun a hE => ?_))) rfl
        refine at_op (op_tk hE (g_fieldAddr (fo := 44) (ft := 23) 44 rfl rfl rfl rfl hE rfl rfl (by kernel_rfl) rfl (fun a hE => ?_))) rfl
        obtain ⟨v360, hv361, hf⟩ := bind_some hf
        replace hv361 := Option.some.inj hv361
        refine at_op (op_store (v := .agg (List.toArray (acells .u8 32 (x12)))) (c_T_api_Rec (v360) A2 c3 A9 c10) rfl rfl rfl rfl hE hS rfl rfl (by kernel_rfl) (by kernel_rfl) (by kernel_rfl) (by kernel_rfl) (by rw [← hv361]; kernel_rfl) (fun a w _ hE hS => ?_)) rfl
        have h362 : Sl kd_T_api_Step D0 A2 c3 (v360.fSteps) := by rw [← hv361]; exact h358
        have h363 : Sl (kdInt .u8) D0 A9 c10 (v360.fData) := by rw [← hv361]; exact h359
        refine at_end rfl ?_
        obtain ⟨j449, hj450, hf⟩ := jn_elim hf
        refine seq_join (fun a w => ∃ (y446 : Bool), ∃ (D447 : Snap), Env a 62 [] [(6, .bool (y446))] ∧ Stp g w0 D0 [] w D447 [] ∧ Snap.le D335 D447 ∧ j449 y446 = some r) ?_ ?_
        · clear hj450
          refine region_draw (fun j => Keeps (mfOf [] j)) (by kernel_rfl) ?_
          have hS := hS.drew
          first | generalize w.drew = w at hS ⊢ | generalize w0.drew = w at hS ⊢
          refine tT 0 1 (fuel := 21) (by kernel_rfl) hE (tk_load 1 (.agg (List.toArray (c_T_api_Rec (v342) A331 1 A9 c10))) rfl rfl rfl rfl hE rfl hS rfl rfl (by kernel_rfl) (kL (j := 1) hS rfl List.not_mem_nil) (fun a hE => ?_))
          have hS := hS.pk (.c 0 rfl (.c 1 rfl (.c 3 rfl (.c 4 rfl .n)))) rfl
          obtain ⟨r492, h493, hf⟩ := bind_some hf
          refine oG 1 3 (fuel := 20) (by kernel_rfl) (op_call rfl rfl rfl rfl hE rfl rfl rfl rfl (by kernel_rfl) (rec_Right.calls (g := g) h493 (hS.st.fore (L := [])) h344 (h345.mono (Snap.le.trans (Snap.le.trans le292 le330) le336))) (fun a v w hR hE => ?_))
          obtain ⟨D494, rfl, hS1⟩ := hR
          refine ⟨(hS1.keeps.sub (M' := []) trivial).mono (fun _ h => h), ?_⟩
          have le496 := hS1.dle
          have hS := hS.callR hS1 rfl .n
          clear hS1
          refine tW 2 7 (fuel := 19) (by kernel_rfl) hE (fun M => tk_pure (.bool (r492)) hE rfl rfl rfl rfl (fun _ _ _ e => by cases e) (by kernel_rfl) (fun a hE => ?_))
          cases hb : r492
          · replace hf := cond_f hb hf
            have hE := hE.know (t := 43) (b := r492) (b' := false) rfl hb
            clear hb
            refine tW 3 15 (fuel := 18) (by kernel_rfl) hE (fun M => tk_skip hE rfl rfl rfl rfl (fun a hE => ?_))
            refine tW 4 31 (fuel := 17) (by kernel_rfl) hE (fun M => tk_skip hE rfl rfl rfl rfl (fun a hE => ?_))
            refine tW 5 63 (fuel := 16) (by kernel_rfl) hE (fun M => tk_pure (.bool false) hE rfl rfl rfl rfl (fun _ _ _ e => by cases e) (by kernel_rfl) (fun a hE => ?_))
            refine tW 6 127 (fuel := 15) (by kernel_rfl) hE (fun M => tk_pure (.bool false) hE rfl rfl rfl rfl (fun _ _ _ e => by cases e) (by kernel_rfl) (fun a hE => ?_))
            refine tW 7 255 (fuel := 14) (by kernel_rfl) hE (fun M => tk_skip hE rfl rfl rfl rfl (fun a hE => ?_))
            refine tW 8 511 (fuel := 13) (by kernel_rfl) hE (fun M => tk_skip hE rfl rfl rfl rfl (fun a hE => ?_))
            refine tW 9 1023 (fuel := 12) (by kernel_rfl) hE (fun M => tk_skip hE rfl rfl rfl rfl (fun a hE => ?_))
            refine tW 10 2047 (fuel := 11) (by kernel_rfl) hE (fun M => tk_skip hE rfl rfl rfl rfl (fun a hE => ?_))
            refine tW 11 4095 (fuel := 10) (by kernel_rfl) hE (fun M => tk_skip hE rfl rfl rfl rfl (fun a hE => ?_))
            refine tW 12 8191 (fuel := 9) (by kernel_rfl) hE (fun M => tk_pure (.bool false) hE rfl rfl rfl rfl (fun _ _ _ e => by cases e) (by kernel_rfl) (fun a hE => ?_))
            refine tW 13 16383 (fuel := 8) (by kernel_rfl) hE (fun M => tk_pure (.bool false) hE rfl rfl rfl rfl (fun _ _ _ e => by cases e) (by kernel_rfl) (fun a hE => ?_))
            refine tW 14 32767 (fuel := 7) (by kernel_rfl) hE (fun M => tk_skip hE rfl rfl rfl rfl (fun a hE => ?_))
            refine tW 15 65535 (fuel := 6) (by kernel_rfl) hE (fun M => tk_skip hE rfl rfl rfl rfl (fun a hE => ?_))
            refine tW 16 131071 (fuel := 5) (by kernel_rfl) hE (fun M => tk_skip hE rfl rfl rfl rfl (fun a hE => ?_))
            refine tW 17 262143 (fuel := 4) (by kernel_rfl) hE (fun M => tk_skip hE rfl rfl rfl rfl (fun a hE => ?_))
            refine tW 18 524287 (fuel := 3) (by kernel_rfl) hE (fun M => tk_skip hE rfl rfl rfl rfl (fun a hE => ?_))
            refine tW 19 1048575 (fuel := 2) (by kernel_rfl) hE (fun M => tk_skip hE rfl rfl rfl rfl (fun a hE => ?_))
            refine tW 20 2097151 (fuel := 1) (by kernel_rfl) hE (fun M => tk_pure (.bool false) hE rfl rfl rfl rfl (fun _ _ _ e => by cases e) (by kernel_rfl) (fun a hE => ?_))
            refine tW 21 4194303 (fuel := 0) (by kernel_rfl) hE (fun M => tk_pure (.bool false) hE rfl rfl rfl rfl (fun _ _ _ e => by cases e) (by kernel_rfl) (fun a hE => ?_))
            refine doneG (by kernel_rfl) ?_
            have hS := hS.pk .n rfl
            exact ⟨false, D494, hE.weak (by kernel_rfl), hS, le496, hf⟩
          · replace hf := cond_t hb hf
            have hE := hE.know (t := 43) (b := r492) (b' := true) rfl hb
            clear hb
            refine tT 3 15 (fuel := 18) (by kernel_rfl) hE (tk_load 0 (.agg (List.toArray (c_T_api_Rec (v360) A2 c3 A9 c10))) rfl rfl rfl rfl hE rfl hS rfl rfl (by kernel_rfl) (kL (j := 0) hS rfl List.not_mem_nil) (fun a hE => ?_))
            obtain ⟨r497, h498, hf⟩ := bind_some hf
            refine oG 4 31 (fuel := 17) (by kernel_rfl) (op_call rfl rfl rfl rfl hE rfl rfl rfl rfl (by kernel_rfl) (rec_Right.calls (g := g) h498 (hS.st.fore (L := [])) (h362.mono (Snap.le.trans (Snap.le.trans (Snap.le.trans le292 le330) le336) le496)) (h363.mono (Snap.le.trans (Snap.le.trans (Snap.le.trans le292 le330) le336) le496))) (fun a v w hR hE => ?_))
            obtain ⟨D499, rfl, hS1⟩ := hR
            refine ⟨(hS1.keeps.sub (M' := []) trivial).mono (fun _ h => h), ?_⟩
            have le501 := hS1.dle
            have hS := hS.callR hS1 rfl .n
            clear hS1
            refine tW 5 63 (fuel := 16) (by kernel_rfl) hE (fun M => tk_pure (.bool (r497)) hE rfl rfl rfl rfl (fun _ _ _ e => by cases e) (by kernel_rfl) (fun a hE => ?_))
            refine tW 6 127 (fuel := 15) (by kernel_rfl) hE (fun M => tk_pure (.bool (r497)) hE rfl rfl rfl rfl (fun _ _ _ e => by cases e) (by kernel_rfl) (fun a hE => ?_))
            cases hb : r497
            · replace hf := cond_f hb hf
              have hE := hE.know (t := 47) (b := r497) (b' := false) rfl hb
              clear hb
              refine tW 7 255 (fuel := 14) (by kernel_rfl) hE (fun M => tk_skip hE rfl rfl rfl rfl (fun a hE => ?_))
              refine tW 8 511 (fuel := 13) (by kernel_rfl) hE (fun M => tk_skip hE rfl rfl rfl rfl (fun a hE => ?_))
              refine tW 9 1023 (fuel := 12) (by kernel_rfl) hE (fun M => tk_skip hE rfl rfl rfl rfl (fun a hE => ?_))
              refine tW 10 2047 (fuel := 11) (by kernel_rfl) hE (fun M => tk_skip hE rfl rfl rfl rfl (fun a hE => ?_))
              refine tW 11 4095 (fuel := 10) (by kernel_rfl) hE (fun M => tk_skip hE rfl rfl rfl rfl (fun a hE => ?_))
              refine tW 12 8191 (fuel := 9) (by kernel_rfl) hE (fun M => tk_pure (.bool false) hE rfl rfl rfl rfl (fun _ _ _ e => by cases e) (by kernel_rfl) (fun a hE => ?_))
              refine tW 13 16383 (fuel := 8) (by kernel_rfl) hE (fun M => tk_pure (.bool false) hE rfl rfl rfl rfl (fun _ _ _ e => by cases e) (by kernel_rfl) (fun a hE => ?_))
              refine tW 14 32767 (fuel := 7) (by kernel_rfl) hE (fun M => tk_skip hE rfl rfl rfl rfl (fun a hE => ?_))
              refine tW 15 65535 (fuel := 6) (by kernel_rfl) hE (fun M => tk_skip hE rfl rfl rfl rfl (fun a hE => ?_))
              refine tW 16 131071 (fuel := 5) (by kernel_rfl) hE (fun M => tk_skip hE rfl rfl rfl rfl (fun a hE => ?_))
              refine tW 17 262143 (fuel := 4) (by kernel_rfl) hE (fun M => tk_skip hE rfl rfl rfl rfl (fun a hE => ?_))
              refine tW 18 524287 (fuel := 3) (by kernel_rfl) hE (fun M => tk_skip hE rfl rfl rfl rfl (fun a hE => ?_))
              refine tW 19 1048575 (fuel := 2) (by kernel_rfl) hE (fun M => tk_skip hE rfl rfl rfl rfl (fun a hE => ?_))
              refine tW 20 2097151 (fuel := 1) (by kernel_rfl) hE (fun M => tk_pure (.bool false) hE rfl rfl rfl rfl (fun _ _ _ e => by cases e) (by kernel_rfl) (fun a hE => ?_))
              refine tW 21 4194303 (fuel := 0) (by kernel_rfl) hE (fun M => tk_pure (.bool false) hE rfl rfl rfl rfl (fun _ _ _ e => by cases e) (by kernel_rfl) (fun a hE => ?_))
              refine doneG (by kernel_rfl) ?_
              have hS := hS.pk .n rfl
              exact ⟨false, D499, hE.weak (by kernel_rfl), hS, (Snap.le.trans le496 le501), hf⟩
            · replace hf := cond_t hb hf
              have hE := hE.know (t := 47) (b := r497) (b' := true) rfl hb
              clear hb
              refine tT 7 255 (fuel := 14) (by kernel_rfl) hE (tk_load 1 (.agg (List.toArray (c_T_api_Rec (v342) A331 1 A9 c10))) rfl rfl rfl rfl hE rfl hS rfl rfl (by kernel_rfl) (kL (j := 1) hS rfl List.not_mem_nil) (fun a hE => ?_))
              refine tT 9 767 (fuel := 13) (by kernel_rfl) hE (tk_load 0 (.agg (List.toArray (c_T_api_Rec (v360) A2 c3 A9 c10))) rfl rfl rfl rfl hE rfl hS rfl rfl (by kernel_rfl) (kL (j := 0) hS rfl List.not_mem_nil) (fun a hE => ?_))
              obtain ⟨r502, h503, hf⟩ := bind_some hf
              refine oG 8 1023 (fuel := 12) (by kernel_rfl) (op_call rfl rfl rfl rfl hE rfl rfl rfl rfl (by kernel_rfl) (rec_Com.calls (g := g) h503 (hS.st.fore (L := [])) (h344.mono (Snap.le.trans le496 le501)) (h345.mono (Snap.le.trans (Snap.le.trans (Snap.le.trans (Snap.le.trans le292 le330) le336) le496) le501)) (hG0.mono (Snap.le.trans (Snap.le.trans (Snap.le.trans (Snap.le.trans le292 le330) le336) le496) le501)) (hG1.mono (Snap.le.trans (Snap.le.trans (Snap.le.trans (Snap.le.trans le292 le330) le336) le496) le501))) (fun a v w hR hE => ?_))
              obtain ⟨D504, rfl, hS1⟩ := hR
              refine ⟨(hS1.keeps.sub (M' := []) trivial).mono (fun _ h => h), ?_⟩
              have le506 := hS1.dle
              have hS := hS.callR hS1 rfl .n
              clear hS1
              obtain ⟨r507, h508, hf⟩ := bind_some hf
              refine oG 10 2047 (fuel := 11) (by kernel_rfl) (op_call rfl rfl rfl rfl hE rfl rfl rfl rfl (by kernel_rfl) (rec_Com.calls (g := g) h508 (hS.st.fore (L := [])) (h362.mono (Snap.le.trans (Snap.le.trans (Snap.le.trans (Snap.le.trans (Snap.le.trans le292 le330) le336) le496) le501) le506)) (h363.mono (Snap.le.trans (Snap.le.trans (Snap.le.trans (Snap.le.trans (Snap.le.trans le292 le330) le336) le496) le501) le506)) (hG0.mono (Snap.le.trans (Snap.le.trans (Snap.le.trans (Snap.le.trans (Snap.le.trans le292 le330) le336) le496) le501) le506)) (hG1.mono (Snap.le.trans (Snap.le.trans (Snap.le.trans (Snap.le.trans (Snap.le.trans le292 le330) le336) le496) le501) le506))) (fun a v w hR hE => ?_))
              obtain ⟨D509, rfl, hS1⟩ := hR
              refine ⟨(hS1.keeps.sub (M' := []) trivial).mono (fun _ h => h), ?_⟩
              have le511 := hS1.dle
              have hS := hS.callR hS1 rfl .n
              clear hS1
              refine tW 11 4095 (fuel := 10) (by kernel_rfl) hE (fun M => tk_bin (r := .bool ((decide (r502 = r507)))) rfl rfl rfl rfl hE rfl rfl rfl (eqagg_run (by kernel_rfl) (EqR_arr (k := .u8) (N := 32) (by kernel_rfl))) (fun a hE => ?_))
              refine tW 12 8191 (fuel := 9) (by kernel_rfl) hE (fun M => tk_pure (.bool ((decide (r502 = r507)))) hE rfl rfl rfl rfl (fun _ _ _ e => by cases e) (by kernel_rfl) (fun a hE => ?_))
              refine tW 13 16383 (fuel := 8) (by kernel_rfl) hE (fun M => tk_pure (.bool ((decide (r502 = r507)))) hE rfl rfl rfl rfl (fun _ _ _ e => by cases e) (by kernel_rfl) (fun a hE => ?_))
              cases hb : (decide (r502 = r507))
              · replace hf := cond_f hb hf
                have hE := hE.know (t := 54) (b := (decide (r502 = r507))) (b' := false) rfl hb
                clear hb
                refine tW 14 32767 (fuel := 7) (by kernel_rfl) hE (fun M => tk_skip hE rfl rfl rfl rfl (fun a hE => ?_))
                refine tW 15 65535 (fuel := 6) (by kernel_rfl) hE (fun M => tk_skip hE rfl rfl rfl rfl (fun a hE => ?_))
                refine tW 16 131071 (fuel := 5) (by kernel_rfl) hE (fun M => tk_skip hE rfl rfl rfl rfl (fun a hE => ?_))
                refine tW 17 262143 (fuel := 4) (by kernel_rfl) hE (fun M => tk_skip hE rfl rfl rfl rfl (fun a hE => ?_))
                refine tW 18 524287 (fuel := 3) (by kernel_rfl) hE (fun M => tk_skip hE rfl rfl rfl rfl (fun a hE => ?_))
                refine tW 19 1048575 (fuel := 2) (by kernel_rfl) hE (fun M => tk_skip hE rfl rfl rfl rfl (fun a hE => ?_))
                refine tW 20 2097151 (fuel := 1) (by kernel_rfl) hE (fun M => tk_pure (.bool false) hE rfl rfl rfl rfl (fun _ _ _ e => by cases e) (by kernel_rfl) (fun a hE => ?_))
                refine tW 21 4194303 (fuel := 0) (by kernel_rfl) hE (fun M => tk_pure (.bool false) hE rfl rfl rfl rfl (fun _ _ _ e => by cases e) (by kernel_rfl) (fun a hE => ?_))
                refine doneG (by kernel_rfl) ?_
                have hS := hS.pk .n rfl
                exact ⟨false, D509, hE.weak (by kernel_rfl), hS, (Snap.le.trans (Snap.le.trans (Snap.le.trans le496 le501) le506) le511), hf⟩
              · replace hf := cond_t hb hf
                have hE := hE.know (t := 54) (b := (decide (r502 = r507))) (b' := true) rfl hb
                clear hb
                refine tT 14 32767 (fuel := 7) (by kernel_rfl) hE (tk_load 0 (.agg (List.toArray (c_T_api_Rec (v360) A2 c3 A9 c10))) rfl rfl rfl rfl hE rfl hS rfl rfl (by kernel_rfl) (kL (j := 0) hS rfl List.not_mem_nil) (fun a hE => ?_))
                refine tT 17 163839 (fuel := 6) (by kernel_rfl) hE (tk_load 0 (.agg (List.toArray (c_T_api_Rec (v360) A2 c3 A9 c10))) rfl rfl rfl rfl hE rfl hS rfl rfl (by kernel_rfl) (kL (j := 0) hS rfl List.not_mem_nil) (fun a hE => ?_))
                obtain ⟨r512, h513, hf⟩ := bind_some hf
                refine oG 15 196607 (fuel := 5) (by kernel_rfl) (op_call rfl rfl rfl rfl hE rfl rfl rfl rfl (by kernel_rfl) (rec_Redact.calls (g := g) h513 (hS.st.fore (L := [])) (h362.mono (Snap.le.trans (Snap.le.trans (Snap.le.trans (Snap.le.trans (Snap.le.trans (Snap.le.trans le292 le330) le336) le496) le501) le506) le511)) (h363.mono (Snap.le.trans (Snap.le.trans (Snap.le.trans (Snap.le.trans (Snap.le.trans (Snap.le.trans le292 le330) le336) le496) le501) le506) le511)) (hG0.mono (Snap.le.trans (Snap.le.trans (Snap.le.trans (Snap.le.trans (Snap.le.trans (Snap.le.trans le292 le330) le336) le496) le501) le506) le511)) (hG1.mono (Snap.le.trans (Snap.le.trans (Snap.le.trans (Snap.le.trans (Snap.le.trans (Snap.le.trans le292 le330) le336) le496) le501) le506) le511))) (fun a v w hR hE => ?_))
                obtain ⟨D514, A516, c517, A519, c520, rfl, hS1, h518, h521⟩ := hR
                refine ⟨(hS1.keeps.sub (M' := []) trivial).mono (fun _ h => h), ?_⟩
                have le522 := hS1.dle
                have hS := hS.callR hS1 rfl .n
                clear hS1
                obtain ⟨r523, h524, hf⟩ := bind_some hf
                refine oG 16 262143 (fuel := 4) (by kernel_rfl) (op_call rfl rfl rfl rfl hE rfl rfl rfl rfl (by kernel_rfl) (rec_Com.calls (g := g) h524 (hS.st.fore (L := [])) h518 h521 (hG0.mono (Snap.le.trans (Snap.le.trans (Snap.le.trans (Snap.le.trans (Snap.le.trans (Snap.le.trans (Snap.le.trans le292 le330) le336) le496) le501) le506) le511) le522)) (hG1.mono (Snap.le.trans (Snap.le.trans (Snap.le.trans (Snap.le.trans (Snap.le.trans (Snap.le.trans (Snap.le.trans le292 le330) le336) le496) le501) le506) le511) le522))) (fun a v w hR hE => ?_))
                obtain ⟨D525, rfl, hS1⟩ := hR
                refine ⟨(hS1.keeps.sub (M' := []) trivial).mono (fun _ h => h), ?_⟩
                have le527 := hS1.dle
                have hS := hS.callR hS1 rfl .n
                clear hS1
                obtain ⟨r528, h529, hf⟩ := bind_some hf
                refine oG 18 524287 (fuel := 3) (by kernel_rfl) (op_call rfl rfl rfl rfl hE rfl rfl rfl rfl (by kernel_rfl) (rec_Com.calls (g := g) h529 (hS.st.fore (L := [])) (h362.mono (Snap.le.trans (Snap.le.trans (Snap.le.trans (Snap.le.trans (Snap.le.trans (Snap.le.trans (Snap.le.trans (Snap.le.trans le292 le330) le336) le496) le501) le506) le511) le522) le527)) (h363.mono (Snap.le.trans (Snap.le.trans (Snap.le.trans (Snap.le.trans (Snap.le.trans (Snap.le.trans (Snap.le.trans (Snap.le.trans le292 le330) le336) le496) le501) le506) le511) le522) le527)) (hG0.mono (Snap.le.trans (Snap.le.trans (Snap.le.trans (Snap.le.trans (Snap.le.trans (Snap.le.trans (Snap.le.trans (Snap.le.trans le292 le330) le336) le496) le501) le506) le511) le522) le527)) (hG1.mono (Snap.le.trans (Snap.le.trans (Snap.le.trans (Snap.le.trans (Snap.le.trans (Snap.le.trans (Snap.le.trans (Snap.le.trans le292 le330) le336) le496) le501) le506) le511) le522) le527))) (fun a v w hR hE => ?_))
                obtain ⟨D530, rfl, hS1⟩ := hR
                refine ⟨(hS1.keeps.sub (M' := []) trivial).mono (fun _ h => h), ?_⟩
                have le532 := hS1.dle
                have hS := hS.callR hS1 rfl .n
                clear hS1
                refine tW 19 1048575 (fuel := 2) (by kernel_rfl) hE (fun M => tk_bin (r := .bool ((decide (r523 = r528)))) rfl rfl rfl rfl hE rfl rfl rfl (eqagg_run (by kernel_rfl) (EqR_arr (k := .u8) (N := 32) (by kernel_rfl))) (fun a hE => ?_))
                refine tW 20 2097151 (fuel := 1) (by kernel_rfl) hE (fun M => tk_pure (.bool ((decide (r523 = r528)))) hE rfl rfl rfl rfl (fun _ _ _ e => by cases e) (by kernel_rfl) (fun a hE => ?_))
                refine tW 21 4194303 (fuel := 0) (by kernel_rfl) hE (fun M => tk_pure (.bool ((decide (r523 = r528)))) hE rfl rfl rfl rfl (fun _ _ _ e => by cases e) (by kernel_rfl) (fun a hE => ?_))
                refine doneG (by kernel_rfl) ?_
                have hS := hS.pk .n rfl
                exact ⟨(decide (r523 = r528)), D530, hE.weak (by kernel_rfl), hS, (Snap.le.trans (Snap.le.trans (Snap.le.trans (Snap.le.trans (Snap.le.trans (Snap.le.trans le496 le501) le506) le511) le522) le527) le532), hf⟩
        · clear hE hS
          rintro a w ⟨y446, D447, hE, hS, le448, hf⟩
          replace hf := hj450 _ hf
          clear hj450
          refine wpIn_ret ?_
          obtain rfl := Option.some.inj hf
          repeat (with_reducible first | refine then_ret ?_ | refine block_ret ?_ | refine qx_ret ?_)
          refine ret_gen ([.bool (y446)]) hE (by rw [show Tryd.f7.results.toList = [.tmp 6] from rfl]; exact ⟨_, _, rfl, rfl, rfl⟩) ?_
          exact ⟨_, rfl, D447, rfl, hS⟩

end Go.Proofs.YtlcnliiampfigaaDoor
