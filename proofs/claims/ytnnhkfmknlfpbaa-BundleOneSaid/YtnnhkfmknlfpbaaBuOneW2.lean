/-
  Proved, text by text: a call of a function of the cut comes to what its plain function computes.
  Conditions: those that each theorem names.
-/
import Derived.Test.YtnnhkfmknlfpbaaProg
import Derived.Test.YtnnhkfmknlfpbaaBuOneW1
set_option linter.unusedVariables false
namespace Go.Proofs.Ytnnhkfmknlfpbaa
open Go Go.Sep

set_option maxRecDepth 100000 in
set_option maxHeartbeats 4000000 in
theorem wire_Reader_Bad.calls {K : Nat} {g w0 : World} {D0 : Snap} {x3 : T_wire_Reader} {b1 : Nat} {A4 : Option Addr} {c5 : Nat} {r : (Int)} (hf : wire_Reader_Bad.f K x3 = some r) (hS0 : St g w0 D0 [bx b1 94 (c_T_wire_Reader (x3) A4 c5)]) (h6 : Sl (kdInt .u8) D0 A4 c5 (x3.fB)) :
    CallsIn (Fw none) 0 Try.prog 66 (List.toArray [.pointer (some ⟨b1, 0, none⟩)]) w0 (fun e w' => ∃ v, e = .returned v ∧ ∃ (D1 : Snap), v = .int .i64 (r) ∧ Stp g w0 D0 [bx b1 94 (c_T_wire_Reader (x3) A4 c5)] w' D1 [bx b1 94 (c_T_wire_Reader (x3) A4 c5)]) := by
  unfold wire_Reader_Bad.f at hf
  have hS := Stp.refl hS0
  clear hS0
  refine calls_body (n := 9) Try.func66 rfl Try.ntmps66 rfl (fun a hE => ?_)
  have hE : Env a 9 [] [(0, .pointer (some ⟨b1, 0, none⟩))] := hE
  refine wpIn_seq ?_
  refine region_at ?_
  refine segN 1 (j := 1) [(2, .int .i64 ((0 : Int)))] hE (by kernel_rfl) rfl (fun a hE => ?_)
  refine at_end rfl ?_
  refine wpIn_seq ?_
  refine wpIn_seq ?_
  refine region_at ?_
  refine segN 1 (j := 1) [(3, .pointer (some ⟨b1, 0, none⟩))] hE (by kernel_rfl) rfl (fun a hE => ?_)
  refine at_op (op_tk hE (tk_bin (r := .bool false) rfl rfl rfl rfl hE rfl rfl rfl (eqptr_run (by kernel_rfl) _) (fun a hE => ?_))) rfl
  refine at_end rfl ?_
  refine wpIn_cond_false (hE.eval rfl) ?_
  refine wpIn_skip ?_
  refine wpIn_seq ?_
  refine region_at ?_
  refine segN 2 (j := 2) [(6, .pointer (some ⟨b1, 0, none⟩))] hE (by kernel_rfl) rfl (fun a hE => ?_)
  refine at_op (op_tk hE (g_fieldAddr (fo := 1) (ft := 34) 1 rfl rfl rfl rfl hE rfl rfl (by kernel_rfl) rfl (fun a hE => ?_))) rfl
  refine at_op (op_tk hE (tk_load 0 (.int .i64 (x3.fBad)) rfl rfl rfl rfl hE rfl hS rfl rfl (by kernel_rfl) (kL (j := 0) hS rfl List.not_mem_nil) (fun a hE => ?_))) rfl
  refine segN 1 (j := 5) [(2, .int .i64 (x3.fBad))] hE (by kernel_rfl) rfl (fun a hE => ?_)
  refine at_end rfl ?_
  refine wpIn_ret ?_
  obtain rfl := Option.some.inj hf
  repeat (with_reducible first | refine then_ret ?_ | refine block_ret ?_ | refine qx_ret ?_)
  refine ret_gen ([.int .i64 (x3.fBad)]) hE (by rw [show Try.f66.results.toList = [.tmp 2] from rfl]; exact ⟨_, _, rfl, rfl, rfl⟩) ?_
  exact ⟨_, rfl, D0, rfl, hS⟩

set_option maxRecDepth 100000 in
set_option maxHeartbeats 4000000 in
theorem wire_Reader_Flag_1.calls {K : Nat} {g w0 : World} {D0 : Snap} {x1 : (List Int)} {A2 : Option Addr} {c3 : Nat} {r : (Bool × Int × Int)} (hf : wire_Reader_Flag_1.f K x1 = some r) (hS0 : St g w0 D0 []) (h4 : Sl (kdInt .u8) D0 A2 c3 (x1)) :
    CallsIn (Fw none) 0 Try.prog 61 (List.toArray [.slice A2 (List.length (x1)) c3]) w0 (fun e w' => ∃ v, e = .returned v ∧ ∃ (D1 : Snap), v = .tuple #[.bool (r.1), .int .i64 (r.2.1), .int .i64 (r.2.2)] ∧ Stp g w0 D0 [] w' D1 []) := by
  unfold wire_Reader_Flag_1.f at hf
  have hS := Stp.refl hS0
  clear hS0
  refine calls_body (n := 18) Try.func61 rfl Try.ntmps61 rfl (fun a hE => ?_)
  have hE : Env a 18 [] [(0, .slice A2 (List.length (x1)) c3)] := hE
  refine wpIn_seq ?_
  refine region_at ?_
  refine segN 3 (j := 3) [(2, .bool false), (3, .int .i64 ((0 : Int))), (4, .int .i64 ((0 : Int)))] hE (by kernel_rfl) rfl (fun a hE => ?_)
  refine at_end rfl ?_
  refine wpIn_seq ?_
  refine wpIn_block ?_
  refine wpIn_seq ?_
  refine region_at ?_
  refine segN 4 (j := 4) [(5, .bool ((decide (((List.length (x1) : Nat) : Int) = (0 : Int)))))] hE (by kernel_rfl) rfl (fun a hE => ?_)
  refine at_end rfl ?_
  refine cond_split hE (b := (decide (((List.length (x1) : Nat) : Int) = (0 : Int)))) rfl (fun hb => ?_) (fun hb => ?_)
  · replace hf := cond_t hb hf
    clear hb
    refine wpIn_seq ?_
    refine region_at ?_
    refine segN 3 (j := 3) [(2, .bool false), (3, .int .i64 ((0 : Int))), (4, .int .i64 ((3 : Int)))] hE (by kernel_rfl) rfl (fun a hE => ?_)
    refine at_end rfl ?_
    refine wpIn_ret ?_
    obtain rfl := Option.some.inj hf
    repeat (with_reducible first | refine then_ret ?_ | refine block_ret ?_ | refine qx_ret ?_)
    refine ret_gen ([.bool false, .int .i64 ((0 : Int)), .int .i64 ((3 : Int))]) hE (by rw [show Try.f61.results.toList = [.tmp 2, .tmp 3, .tmp 4] from rfl]; exact ⟨_, _, rfl, rfl, ⟨_, _, rfl, rfl, ⟨_, _, rfl, rfl, rfl⟩⟩⟩) ?_
    exact ⟨_, rfl, D0, rfl, hS⟩
  · replace hf := cond_f hb hf
    clear hb
    refine wpIn_seq ?_
    refine region_at ?_
    refine segN 1 (j := 1) [(10, .slice A2 (List.length (x1)) c3)] hE (by kernel_rfl) rfl (fun a hE => ?_)
    obtain ⟨x53, h54, hf⟩ := bind_some hf
    refine at_op (op_tk hE (g_index (K := (kdInt .u8)) (e := 5) (by_ := 1) (zl := 1) rfl rfl rfl rfl hE rfl rfl rfl (by kernel_rfl) rfl h4 h54 (fun a b55 o56 hE h57 => ?_))) rfl
    obtain ⟨cs58, C59, T60, fr61, hr62, hb63, hc64⟩ := h57
    obtain rfl := hr62
    refine at_op (op_tk hE (tk_loadX (off0 := o56) (off := 0) (c := [.int .u8 (x53)]) (.int .u8 (x53)) rfl rfl rfl rfl hE rfl hS rfl hb63 hc64 (by kernel_rfl) (by kernel_rfl) (kD hS dn_nil) (fun a hE => ?_))) rfl
    refine segN 2 (j := 5) [(9, .bool ((decide ((1 : Int) < x53))))] hE (by kernel_rfl) rfl (fun a hE => ?_)
    refine at_end rfl ?_
    refine cond_split hE (b := (decide ((1 : Int) < x53))) rfl (fun hb => ?_) (fun hb => ?_)
    · replace hf := cond_t hb hf
      clear hb
      refine wpIn_seq ?_
      refine region_at ?_
      refine segN 3 (j := 3) [(2, .bool false), (3, .int .i64 ((0 : Int))), (4, .int .i64 ((2 : Int)))] hE (by kernel_rfl) rfl (fun a hE => ?_)
      refine at_end rfl ?_
      refine wpIn_ret ?_
      obtain rfl := Option.some.inj hf
      repeat (with_reducible first | refine then_ret ?_ | refine block_ret ?_ | refine qx_ret ?_)
      refine ret_gen ([.bool false, .int .i64 ((0 : Int)), .int .i64 ((2 : Int))]) hE (by rw [show Try.f61.results.toList = [.tmp 2, .tmp 3, .tmp 4] from rfl]; exact ⟨_, _, rfl, rfl, ⟨_, _, rfl, rfl, ⟨_, _, rfl, rfl, rfl⟩⟩⟩) ?_
      exact ⟨_, rfl, D0, rfl, hS⟩
    · replace hf := cond_f hb hf
      clear hb
      refine wpIn_skip ?_
      refine wpIn_seq ?_
      refine region_at ?_
      refine segN 1 (j := 1) [(14, .slice A2 (List.length (x1)) c3)] hE (by kernel_rfl) rfl (fun a hE => ?_)
      obtain ⟨x65, h66, hf⟩ := bind_some hf
      refine at_op (op_tk hE (g_index (K := (kdInt .u8)) (e := 5) (by_ := 1) (zl := 1) rfl rfl rfl rfl hE rfl rfl rfl (by kernel_rfl) rfl h4 h66 (fun a b67 o68 hE h69 => ?_))) rfl
      obtain ⟨cs70, C71, T72, fr73, hr74, hb75, hc76⟩ := h69
      obtain rfl := hr74
      refine at_op (op_tk hE (tk_loadX (off0 := o68) (off := 0) (c := [.int .u8 (x65)]) (.int .u8 (x65)) rfl rfl rfl rfl hE rfl hS rfl hb75 hc76 (by kernel_rfl) (by kernel_rfl) (kD hS dn_nil) (fun a hE => ?_))) rfl
      refine segN 4 (j := 7) [(2, .bool ((decide (x65 = (1 : Int))))), (3, .int .i64 ((1 : Int))), (4, .int .i64 ((0 : Int)))] hE (by kernel_rfl) rfl (fun a hE => ?_)
      refine at_end rfl ?_
      refine wpIn_ret ?_
      obtain rfl := Option.some.inj hf
      repeat (with_reducible first | refine then_ret ?_ | refine block_ret ?_ | refine qx_ret ?_)
      refine ret_gen ([.bool ((decide (x65 = (1 : Int)))), .int .i64 ((1 : Int)), .int .i64 ((0 : Int))]) hE (by rw [show Try.f61.results.toList = [.tmp 2, .tmp 3, .tmp 4] from rfl]; exact ⟨_, _, rfl, rfl, ⟨_, _, rfl, rfl, ⟨_, _, rfl, rfl, rfl⟩⟩⟩) ?_
      exact ⟨_, rfl, D0, rfl, hS⟩

set_option maxRecDepth 100000 in
set_option maxHeartbeats 4000000 in
theorem wire_Reader_Fail.calls {K : Nat} {g w0 : World} {D0 : Snap} {x3 : Int} {x4 : T_wire_Reader} {b1 : Nat} {A5 : Option Addr} {c6 : Nat} {r : (T_wire_Reader)} (hf : wire_Reader_Fail.f K x3 x4 = some r) (hS0 : St g w0 D0 [bx b1 94 (c_T_wire_Reader (x4) A5 c6)]) (h7 : Sl (kdInt .u8) D0 A5 c6 (x4.fB)) :
    CallsIn (Fw none) 0 Try.prog 32 (List.toArray [.pointer (some ⟨b1, 0, none⟩), .int .i64 (x3)]) w0 (fun e w' => ∃ v, e = .returned v ∧ ∃ (D1 : Snap) (A17 : Option Addr) (c18 : Nat), v = .tuple #[] ∧ Stp g w0 D0 [bx b1 94 (c_T_wire_Reader (x4) A5 c6)] w' D1 [bx b1 94 (c_T_wire_Reader ((T_wire_Reader.mk (r.fB) (r.fBad))) A17 c18)] ∧ Sl (kdInt .u8) D1 A17 c18 (r.fB)) := by
  unfold wire_Reader_Fail.f at hf
  have hS := Stp.refl hS0
  clear hS0
  refine calls_body (n := 24) Try.func32 rfl Try.ntmps32 rfl (fun a hE => ?_)
  have hE : Env a 24 [] [(0, .pointer (some ⟨b1, 0, none⟩)), (1, .int .i64 (x3))] := hE
  obtain ⟨j27, hj28, hf⟩ := jn_elim hf
  refine seq_join (fun a w => ∃ (y20 : Bool), ∃ (D21 : Snap), Env a 24 [] [(0, .pointer (some ⟨b1, 0, none⟩)), (1, .int .i64 (x3)), (16, .bool (y20))] ∧ Stp g w0 D0 [bx b1 94 (c_T_wire_Reader (x4) A5 c6)] w D21 [bx b1 94 (c_T_wire_Reader (x4) A5 c6)] ∧ Snap.le D0 D21 ∧ j27 y20 = some r) ?_ ?_
  · clear hj28
    refine region_at ?_
    refine segN 1 (j := 1) [(4, .pointer (some ⟨b1, 0, none⟩))] hE (by kernel_rfl) rfl (fun a hE => ?_)
    refine at_op (op_tk hE (tk_bin (r := .bool true) rfl rfl rfl rfl hE rfl rfl rfl (neptr_run (by kernel_rfl) _) (fun a hE => ?_))) rfl
    refine segN 3 (j := 5) [(6, .bool true), (8, .pointer (some ⟨b1, 0, none⟩))] hE (by kernel_rfl) rfl (fun a hE => ?_)
    refine at_op (op_tk hE (g_fieldAddr (fo := 1) (ft := 34) 1 rfl rfl rfl rfl hE rfl rfl (by kernel_rfl) rfl (fun a hE => ?_))) rfl
    refine at_op (op_tk hE (tk_load 0 (.int .i64 (x4.fBad)) rfl rfl rfl rfl hE rfl hS rfl rfl (by kernel_rfl) (kL (j := 0) hS rfl List.not_mem_nil) (fun a hE => ?_))) rfl
    refine segN 3 (j := 10) [(13, .bool ((decide (x4.fBad = (0 : Int)))))] hE (by kernel_rfl) rfl (fun a hE => ?_)
    cases hb : (decide (x4.fBad = (0 : Int)))
    · replace hf := cond_f hb hf
      have hE := hE.know (t := 13) (b := (decide (x4.fBad = (0 : Int)))) (b' := false) rfl hb
      clear hb
      refine segN 3 (j := 13) [(16, .bool false)] hE (by kernel_rfl) rfl (fun a hE => ?_)
      refine at_end rfl ?_
      exact ⟨false, D0, hE.weak (by kernel_rfl), hS, Snap.le.refl _, hf⟩
    · replace hf := cond_t hb hf
      have hE := hE.know (t := 13) (b := (decide (x4.fBad = (0 : Int)))) (b' := true) rfl hb
      clear hb
      refine segN 3 (j := 13) [(16, .bool ((!decide (x3 = (0 : Int)))))] hE (by kernel_rfl) rfl (fun a hE => ?_)
      refine at_end rfl ?_
      exact ⟨(!decide (x3 = (0 : Int))), D0, hE.weak (by kernel_rfl), hS, Snap.le.refl _, hf⟩
  · clear hE hS
    rintro a w ⟨y20, D21, hE, hS, le22, hf⟩
    replace hf := hj28 _ hf
    clear hj28
    refine cond_split hE (b := y20) rfl (fun hb => ?_) (fun hb => ?_)
    · replace hf := cond_t hb hf
      clear hb
      refine region_at ?_
      refine segN 4 (j := 4) [(18, .pointer (some ⟨b1, 0, none⟩)), (19, .int .i64 (x3)), (20, .pointer (some ⟨b1, 0, none⟩))] hE (by kernel_rfl) rfl (fun a hE => ?_)
      refine at_op (op_tk hE (g_fieldAddr (fo := 0) (ft := 32) 0 rfl rfl rfl rfl hE rfl rfl (by kernel_rfl) rfl (fun a hE => ?_))) rfl
      obtain ⟨v23, hv24, hf⟩ := bind_some hf
      replace hv24 := Option.some.inj hv24
      refine at_op (op_store (v := .slice none 0 0) (c_T_wire_Reader ((T_wire_Reader.mk (([] : List Int)) (v23.fBad))) none 0) rfl rfl rfl rfl hE hS rfl rfl (by kernel_rfl) (by kernel_rfl) (by kernel_rfl) (by kernel_rfl) (by rw [← hv24]; kernel_rfl) (fun a w _ hE hS => ?_)) rfl
      refine segN 1 (j := 7) [(22, .pointer (some ⟨b1, 0, none⟩))] hE (by kernel_rfl) rfl (fun a hE => ?_)
      refine at_op (op_tk hE (g_fieldAddr (fo := 1) (ft := 34) 1 rfl rfl rfl rfl hE rfl rfl (by kernel_rfl) rfl (fun a hE => ?_))) rfl
      obtain ⟨v25, hv26, hf⟩ := bind_some hf
      replace hv26 := Option.some.inj hv26
      refine at_op (op_store (v := .int .i64 (x3)) (c_T_wire_Reader ((T_wire_Reader.mk (([] : List Int)) (v25.fBad))) none 0) rfl rfl rfl rfl hE hS rfl rfl (by kernel_rfl) (by kernel_rfl) (by kernel_rfl) (by kernel_rfl) (by rw [← hv26]; kernel_rfl) (fun a w _ hE hS => ?_)) rfl
      refine at_end rfl ?_
      obtain rfl := Option.some.inj hf
      repeat (with_reducible first | refine then_ret ?_ | refine block_ret ?_ | refine qx_ret ?_)
      refine ret_genN ([]) hE (by rw [show Try.f32.results.toList = [] from rfl]; exact rfl) ?_
      exact ⟨_, rfl, D21, none, 0, rfl, hS, (Sl.nil (kdInt .u8) D21)⟩
    · replace hf := cond_f hb hf
      clear hb
      refine wpIn_skip ?_
      obtain rfl := Option.some.inj hf
      repeat (with_reducible first | refine then_ret ?_ | refine block_ret ?_ | refine qx_ret ?_)
      refine ret_genN ([]) hE (by rw [show Try.f32.results.toList = [] from rfl]; exact rfl) ?_
      exact ⟨_, rfl, D21, A5, c6, rfl, hS, (h7.mono le22)⟩

set_option maxRecDepth 100000 in
set_option maxHeartbeats 4000000 in
theorem wire_take_bool.calls {K : Nat} {g w0 : World} {D0 : Snap} {x3 : T_wire_Reader} {b1 : Nat} {A4 : Option Addr} {c5 : Nat} {r : (Bool × T_wire_Reader)} (hf : wire_take_bool.f K x3 = some r) (hS0 : St g w0 D0 [bx b1 94 (c_T_wire_Reader (x3) A4 c5)]) (h6 : Sl (kdInt .u8) D0 A4 c5 (x3.fB)) :
    CallsIn (Fw none) 0 Try.prog 60 (List.toArray [.pointer (some ⟨b1, 0, none⟩), .func (.func 61) #[] #[]]) w0 (fun e w' => ∃ v, e = .returned v ∧ ∃ (D1 : Snap) (A46 : Option Addr) (c47 : Nat), v = .bool (r.1) ∧ Stp g w0 D0 [bx b1 94 (c_T_wire_Reader (x3) A4 c5)] w' D1 [bx b1 94 (c_T_wire_Reader ((T_wire_Reader.mk (r.2.fB) (r.2.fBad))) A46 c47)] ∧ Sl (kdInt .u8) D1 A46 c47 (r.2.fB)) := by
  unfold wire_take_bool.f at hf
  have hS := Stp.refl hS0
  clear hS0
  refine calls_body (n := 39) Try.func60 rfl Try.ntmps60 rfl (fun a hE => ?_)
  have hE : Env a 39 [] [(0, .pointer (some ⟨b1, 0, none⟩)), (1, .func (.func 61) #[] #[])] := hE
  refine wpIn_seq ?_
  refine region_at ?_
  refine segN 1 (j := 1) [(4, .bool false)] hE (by kernel_rfl) rfl (fun a hE => ?_)
  refine at_end rfl ?_
  refine wpIn_seq ?_
  refine region_at ?_
  refine segN 1 (j := 1) [(5, .bool false)] hE (by kernel_rfl) rfl (fun a hE => ?_)
  refine at_end rfl ?_
  refine wpIn_seq ?_
  refine wpIn_seq ?_
  refine region_at ?_
  refine segN 1 (j := 1) [(9, .pointer (some ⟨b1, 0, none⟩))] hE (by kernel_rfl) rfl (fun a hE => ?_)
  obtain ⟨r54, h55, hf⟩ := bind_some hf
  refine at_op (op_call rfl rfl rfl rfl hE rfl rfl rfl rfl (by kernel_rfl) (wire_Reader_Bad.calls (g := g) h55 (hS.st.fore (L := [bx b1 94 (c_T_wire_Reader (x3) A4 c5)])) h6) (fun a v w hR hE => ?_)) rfl
  obtain ⟨D56, rfl, hS1⟩ := hR
  have le58 := hS1.dle
  have hS := hS.callR hS1 rfl (.c .n)
  clear hS1
  refine segN 1 (j := 3) [(11, .bool ((!decide (r54 = (0 : Int)))))] hE (by kernel_rfl) rfl (fun a hE => ?_)
  refine at_end rfl ?_
  refine cond_split hE (b := (!decide (r54 = (0 : Int)))) rfl (fun hb => ?_) (fun hb => ?_)
  · replace hf := cond_t hb hf
    clear hb
    refine wpIn_seq ?_
    refine region_at ?_
    refine segN 2 (j := 2) [(4, .bool false)] hE (by kernel_rfl) rfl (fun a hE => ?_)
    refine at_end rfl ?_
    refine wpIn_ret ?_
    obtain rfl := Option.some.inj hf
    repeat (with_reducible first | refine then_ret ?_ | refine block_ret ?_ | refine qx_ret ?_)
    refine ret_gen ([.bool false]) hE (by rw [show Try.f60.results.toList = [.tmp 4] from rfl]; exact ⟨_, _, rfl, rfl, rfl⟩) ?_
    exact ⟨_, rfl, D56, A4, c5, rfl, hS, (h6.mono le58)⟩
  · replace hf := cond_f hb hf
    clear hb
    refine wpIn_skip ?_
    refine wpIn_seq ?_
    refine region_at ?_
    refine segN 3 (j := 3) [(14, .func (.func 61) #[] #[]), (16, .pointer (some ⟨b1, 0, none⟩))] hE (by kernel_rfl) rfl (fun a hE => ?_)
    refine at_op (op_tk hE (g_fieldAddr (fo := 0) (ft := 32) 0 rfl rfl rfl rfl hE rfl rfl (by kernel_rfl) rfl (fun a hE => ?_))) rfl
    refine at_op (op_tk hE (tk_load 0 (.slice A4 (List.length (x3.fB)) c5) rfl rfl rfl rfl hE rfl hS rfl rfl (by kernel_rfl) (kL (j := 0) hS rfl List.not_mem_nil) (fun a hE => ?_))) rfl
    obtain ⟨r59, h60, hf⟩ := bind_some hf
    refine at_op (op_call rfl rfl rfl rfl hE rfl rfl rfl rfl (by kernel_rfl) (wire_Reader_Flag_1.calls (g := g) h60 (hS.st.fore (L := [])) (h6.mono le58)) (fun a v w hR hE => ?_)) rfl
    obtain ⟨D61, rfl, hS1⟩ := hR
    have le63 := hS1.dle
    have hS := hS.callR hS1 rfl .n
    clear hS1
    refine segN 7 (j := 13) [(6, .bool (r59.1)), (7, .int .i64 (r59.2.1)), (8, .int .i64 (r59.2.2))] hE (by kernel_rfl) rfl (fun a hE => ?_)
    refine at_end rfl ?_
    refine wpIn_seq ?_
    refine wpIn_seq ?_
    refine region_at ?_
    refine segN 2 (j := 2) [(24, .bool ((!decide (r59.2.2 = (0 : Int)))))] hE (by kernel_rfl) rfl (fun a hE => ?_)
    refine at_end rfl ?_
    refine cond_split hE (b := (!decide (r59.2.2 = (0 : Int)))) rfl (fun hb => ?_) (fun hb => ?_)
    · replace hf := cond_t hb hf
      clear hb
      refine wpIn_seq ?_
      refine region_at ?_
      refine segN 2 (j := 2) [(25, .pointer (some ⟨b1, 0, none⟩)), (26, .int .i64 (r59.2.2))] hE (by kernel_rfl) rfl (fun a hE => ?_)
      obtain ⟨r72, h73, hf⟩ := bind_some hf
      refine at_op (op_call rfl rfl rfl rfl hE rfl rfl rfl rfl (by kernel_rfl) (wire_Reader_Fail.calls (g := g) h73 (hS.st.fore (L := [bx b1 94 (c_T_wire_Reader (x3) A4 c5)])) (h6.mono (Snap.le.trans le58 le63))) (fun a v w hR hE => ?_)) rfl
      obtain ⟨D74, A76, c77, rfl, hS1, h78⟩ := hR
      have le79 := hS1.dle
      have hS := hS.callR hS1 rfl (.c .n)
      clear hS1
      refine at_end rfl ?_
      refine wpIn_seq ?_
      refine region_at ?_
      refine segN 2 (j := 2) [(4, .bool false)] hE (by kernel_rfl) rfl (fun a hE => ?_)
      refine at_end rfl ?_
      refine wpIn_ret ?_
      obtain rfl := Option.some.inj hf
      repeat (with_reducible first | refine then_ret ?_ | refine block_ret ?_ | refine qx_ret ?_)
      refine ret_gen ([.bool false]) hE (by rw [show Try.f60.results.toList = [.tmp 4] from rfl]; exact ⟨_, _, rfl, rfl, rfl⟩) ?_
      exact ⟨_, rfl, D74, A76, c77, rfl, hS, h78⟩
    · replace hf := cond_f hb hf
      clear hb
      refine wpIn_skip ?_
      refine wpIn_seq ?_
      refine region_at ?_
      refine segN 3 (j := 3) [(29, .pointer (some ⟨b1, 0, none⟩)), (31, .pointer (some ⟨b1, 0, none⟩))] hE (by kernel_rfl) rfl (fun a hE => ?_)
      refine at_op (op_tk hE (g_fieldAddr (fo := 0) (ft := 32) 0 rfl rfl rfl rfl hE rfl rfl (by kernel_rfl) rfl (fun a hE => ?_))) rfl
      refine at_op (op_tk hE (tk_load 0 (.slice A4 (List.length (x3.fB)) c5) rfl rfl rfl rfl hE rfl hS rfl rfl (by kernel_rfl) (kL (j := 0) hS rfl List.not_mem_nil) (fun a hE => ?_))) rfl
      refine segN 1 (j := 6) [(34, .int .i64 (r59.2.1))] hE (by kernel_rfl) rfl (fun a hE => ?_)
      obtain ⟨l80, h81, hf⟩ := bind_some hf
      refine at_op (op_tk hE (g_slice (K := (kdInt .u8)) (e := 5) (by_ := 1) (zl := 1) rfl rfl rfl rfl hE rfl rfl (by kernel_rfl) ⟨_, rfl⟩ rfl (h6.mono (Snap.le.trans le58 le63)) h81 (fun a A82 c83 hE h84 => ?_))) rfl
      refine segN 1 (j := 8) [(36, .pointer (some ⟨b1, 0, none⟩))] hE (by kernel_rfl) rfl (fun a hE => ?_)
      refine at_op (op_tk hE (g_fieldAddr (fo := 0) (ft := 32) 0 rfl rfl rfl rfl hE rfl rfl (by kernel_rfl) rfl (fun a hE => ?_))) rfl
      obtain ⟨v85, hv86, hf⟩ := bind_some hf
      replace hv86 := Option.some.inj hv86
      refine at_op (op_store (v := .slice A82 (List.length (l80)) c83) (c_T_wire_Reader (v85) A82 c83) rfl rfl rfl rfl hE hS rfl rfl (by kernel_rfl) (by kernel_rfl) (by kernel_rfl) (by kernel_rfl) (by rw [← hv86]; kernel_rfl) (fun a w _ hE hS => ?_)) rfl
      have h87 : Sl (kdInt .u8) D61 A82 c83 (v85.fB) := by rw [← hv86]; exact h84
      refine at_end rfl ?_
      refine wpIn_seq ?_
      refine region_at ?_
      refine segN 2 (j := 2) [(4, .bool (r59.1))] hE (by kernel_rfl) rfl (fun a hE => ?_)
      refine at_end rfl ?_
      refine wpIn_ret ?_
      obtain rfl := Option.some.inj hf
      repeat (with_reducible first | refine then_ret ?_ | refine block_ret ?_ | refine qx_ret ?_)
      refine ret_gen ([.bool (r59.1)]) hE (by rw [show Try.f60.results.toList = [.tmp 4] from rfl]; exact ⟨_, _, rfl, rfl, rfl⟩) ?_
      exact ⟨_, rfl, D61, A82, c83, rfl, hS, h87⟩

set_option maxRecDepth 100000 in
set_option maxHeartbeats 4000000 in
theorem wire_Reader_Flag.calls {K : Nat} {g w0 : World} {D0 : Snap} {x3 : T_wire_Reader} {b1 : Nat} {A4 : Option Addr} {c5 : Nat} {r : (Bool × T_wire_Reader)} (hf : wire_Reader_Flag.f K x3 = some r) (hS0 : St g w0 D0 [bx b1 94 (c_T_wire_Reader (x3) A4 c5)]) (h6 : Sl (kdInt .u8) D0 A4 c5 (x3.fB)) :
    CallsIn (Fw none) 0 Try.prog 30 (List.toArray [.pointer (some ⟨b1, 0, none⟩)]) w0 (fun e w' => ∃ v, e = .returned v ∧ ∃ (D1 : Snap) (A15 : Option Addr) (c16 : Nat), v = .bool (r.1) ∧ Stp g w0 D0 [bx b1 94 (c_T_wire_Reader (x3) A4 c5)] w' D1 [bx b1 94 (c_T_wire_Reader ((T_wire_Reader.mk (r.2.fB) (r.2.fBad))) A15 c16)] ∧ Sl (kdInt .u8) D1 A15 c16 (r.2.fB)) := by
  unfold wire_Reader_Flag.f at hf
  have hS := Stp.refl hS0
  clear hS0
  refine calls_body (n := 5) Try.func30 rfl Try.ntmps30 rfl (fun a hE => ?_)
  have hE : Env a 5 [] [(0, .pointer (some ⟨b1, 0, none⟩))] := hE
  refine wpIn_seq ?_
  refine region_at ?_
  refine segN 1 (j := 1) [(2, .bool false)] hE (by kernel_rfl) rfl (fun a hE => ?_)
  refine at_end rfl ?_
  refine wpIn_seq ?_
  refine region_at ?_
  refine segN 1 (j := 1) [(3, .pointer (some ⟨b1, 0, none⟩))] hE (by kernel_rfl) rfl (fun a hE => ?_)
  obtain ⟨r18, h19, hf⟩ := bind_some hf
  refine at_op (op_call rfl rfl rfl rfl hE rfl rfl rfl rfl (by kernel_rfl) (wire_take_bool.calls (g := g) h19 (hS.st.fore (L := [bx b1 94 (c_T_wire_Reader (x3) A4 c5)])) h6) (fun a v w hR hE => ?_)) rfl
  obtain ⟨D20, A22, c23, rfl, hS1, h24⟩ := hR
  have le25 := hS1.dle
  have hS := hS.callR hS1 rfl (.c .n)
  clear hS1
  refine segN 1 (j := 3) [(2, .bool (r18.1))] hE (by kernel_rfl) rfl (fun a hE => ?_)
  refine at_end rfl ?_
  refine wpIn_ret ?_
  obtain rfl := Option.some.inj hf
  repeat (with_reducible first | refine then_ret ?_ | refine block_ret ?_ | refine qx_ret ?_)
  refine ret_gen ([.bool (r18.1)]) hE (by rw [show Try.f30.results.toList = [.tmp 2] from rfl]; exact ⟨_, _, rfl, rfl, rfl⟩) ?_
  exact ⟨_, rfl, D20, A22, c23, rfl, hS, h24⟩

set_option maxRecDepth 100000 in
set_option maxHeartbeats 4000000 in
theorem wire_number.calls {K : Nat} {g w0 : World} {D0 : Snap} {x1 : (List Int)} {A2 : Option Addr} {c3 : Nat} {r : (Int × Int × Int)} (hf : wire_number.f K x1 = some r) (hS0 : St g w0 D0 []) (h4 : Sl (kdInt .u8) D0 A2 c3 (x1)) :
    CallsIn (Fw none) 0 Try.prog 63 (List.toArray [.slice A2 (List.length (x1)) c3]) w0 (fun e w' => ∃ v, e = .returned v ∧ ∃ (D1 : Snap), v = .tuple #[.int .i64 (r.1), .int .i64 (r.2.1), .int .i64 (r.2.2)] ∧ Stp g w0 D0 [] w' D1 []) := by
  unfold wire_number.f at hf
  have hS := Stp.refl hS0
  clear hS0
  refine calls_body (n := 39) Try.func63 rfl Try.ntmps63 rfl (fun a hE => ?_)
  have hE : Env a 39 [] [(0, .slice A2 (List.length (x1)) c3)] := hE
  refine wpIn_seq ?_
  refine region_at ?_
  refine segN 3 (j := 3) [(2, .int .i64 ((0 : Int))), (3, .int .i64 ((0 : Int))), (4, .int .i64 ((0 : Int)))] hE (by kernel_rfl) rfl (fun a hE => ?_)
  refine at_end rfl ?_
  refine wpIn_seq ?_
  refine region_at ?_
  refine segN 1 (j := 1) [(5, .int .i64 ((0 : Int)))] hE (by kernel_rfl) rfl (fun a hE => ?_)
  refine at_end rfl ?_
  refine wpIn_seq ?_
  refine wpIn_seq ?_
  refine region_at ?_
  refine segN 3 (j := 3) [(8, .slice A2 (List.length (x1)) c3), (9, .int .i64 (((List.length (x1) : Nat) : Int))), (10, .int .i64 ((0 : Int)))] hE (by kernel_rfl) rfl (fun a hE => ?_)
  refine at_end rfl ?_
  obtain ⟨s576, hf, hs577⟩ := bind_some hf
  refine block_loop (fun a w => ∃ (z573 : Unit), ∃ (D574 : Snap), Env a 39 [] [] ∧ Stp g w0 D0 [] w D574 [] ∧ Snap.le D0 D574 ∧ (Sum.inr z573) = s576) (fun k a w => ∃ (y523 : Int × Int), ∃ (D524 : Snap), Env a 39 [] [(5, .int .i64 (y523.1)), (8, .slice A2 (List.length (x1)) c3), (9, .int .i64 (((List.length (x1) : Nat) : Int))), (10, .int .i64 (y523.2))] ∧ Stp g w0 D0 [] w D524 [] ∧ Snap.le D0 D524 ∧ wire_number_l1.l K x1 k y523 = some s576) K ?_ ?_ ?_
  · exact ⟨((0 : Int), (0 : Int)), D0, hE.weak (by kernel_rfl), hS, Snap.le.refl _, hf⟩
  · clear hE hS hf
    rintro a w ⟨z573, D574, hE, hS, le575, rfl⟩
    have hf := hs577
    clear hs577
    refine wpIn_seq ?_
    refine region_at ?_
    refine segN 3 (j := 3) [(2, .int .i64 ((0 : Int))), (3, .int .i64 ((0 : Int))), (4, .int .i64 ((3 : Int)))] hE (by kernel_rfl) rfl (fun a hE => ?_)
    refine at_end rfl ?_
    refine wpIn_ret ?_
    obtain rfl := Option.some.inj hf
    repeat (with_reducible first | refine then_ret ?_ | refine block_ret ?_ | refine qx_ret ?_)
    refine ret_gen ([.int .i64 ((0 : Int)), .int .i64 ((0 : Int)), .int .i64 ((3 : Int))]) hE (by rw [show Try.f63.results.toList = [.tmp 2, .tmp 3, .tmp 4] from rfl]; exact ⟨_, _, rfl, rfl, ⟨_, _, rfl, rfl, ⟨_, _, rfl, rfl, rfl⟩⟩⟩) ?_
    exact ⟨_, rfl, D574, rfl, hS⟩
  · clear hE hS hf
    rintro k a w ⟨y523, D524, hE, hS, le525, hf⟩
    obtain ⟨k, rfl, hf⟩ := wire_number_l1.some _ hf
    refine ⟨k, rfl, ?_⟩
    unfold wire_number_l1.b at hf
    refine wpIn_seq ?_
    refine region_at ?_
    refine segN 1 (j := 1) [(11, .bool ((decide (y523.2 < ((List.length (x1) : Nat) : Int)))))] hE (by kernel_rfl) rfl (fun a hE => ?_)
    refine at_end rfl ?_
    refine wpIn_seq ?_
    refine cond_split hE (b := (decide (y523.2 < ((List.length (x1) : Nat) : Int)))) rfl (fun hb => ?_) (fun hb => ?_)
    · replace hf := cond_t hb hf
      clear hb
      refine wpIn_skip ?_
      refine wpIn_seq ?_
      refine wpIn_block ?_
      refine wpIn_seq ?_
      refine region_at ?_
      refine segN 1 (j := 1) [(12, .int .i64 (y523.2))] hE (by kernel_rfl) rfl (fun a hE => ?_)
      obtain ⟨x600, h601, hf⟩ := bind_some hf
      refine at_op (op_tk hE (g_index (K := (kdInt .u8)) (e := 5) (by_ := 1) (zl := 1) rfl rfl rfl rfl hE rfl rfl rfl (by kernel_rfl) rfl (h4.mono le525) h601 (fun a b602 o603 hE h604 => ?_))) rfl
      obtain ⟨cs605, C606, T607, fr608, hr609, hb610, hc611⟩ := h604
      obtain rfl := hr609
      refine at_op (op_tk hE (tk_loadX (off0 := o603) (off := 0) (c := [.int .u8 (x600)]) (.int .u8 (x600)) rfl rfl rfl rfl hE rfl hS rfl hb610 hc611 (by kernel_rfl) (by kernel_rfl) (kD hS dn_nil) (fun a hE => ?_))) rfl
      refine segN 2 (j := 5) [(6, .int .i64 (y523.2)), (7, .int .u8 (x600))] hE (by kernel_rfl) rfl (fun a hE => ?_)
      refine at_end rfl ?_
      refine wpIn_seq ?_
      obtain ⟨j620, hj621, hf⟩ := jn_elim hf
      refine seq_join (fun a w => ∃ (y617 : Bool), ∃ (D618 : Snap), Env a 39 [] [(5, .int .i64 (y523.1)), (6, .int .i64 (y523.2)), (7, .int .u8 (x600)), (8, .slice A2 (List.length (x1)) c3), (9, .int .i64 (((List.length (x1) : Nat) : Int))), (10, .int .i64 (y523.2)), (24, .bool (y617))] ∧ Stp g w0 D0 [] w D618 [] ∧ Snap.le D524 D618 ∧ j620 y617 = some s576) ?_ ?_
      · clear hj621
        refine region_at ?_
        refine segN 3 (j := 3) [(17, .bool ((decide (y523.2 = (0 : Int)))))] hE (by kernel_rfl) rfl (fun a hE => ?_)
        cases hb : (decide (y523.2 = (0 : Int)))
        · replace hf := cond_f hb hf
          have hE := hE.know (t := 17) (b := (decide (y523.2 = (0 : Int)))) (b' := false) rfl hb
          clear hb
          refine segN 7 (j := 10) [(24, .bool ((decide (y523.2 = (5 : Int)))))] hE (by kernel_rfl) rfl (fun a hE => ?_)
          refine at_end rfl ?_
          exact ⟨(decide (y523.2 = (5 : Int))), D524, hE.weak (by kernel_rfl), hS, Snap.le.refl _, hf⟩
        · replace hf := cond_t hb hf
          have hE := hE.know (t := 17) (b := (decide (y523.2 = (0 : Int)))) (b' := true) rfl hb
          clear hb
          refine segN 4 (j := 7) [(21, .bool ((decide (x600 = (128 : Int)))))] hE (by kernel_rfl) rfl (fun a hE => ?_)
          cases hb : (decide (x600 = (128 : Int)))
          · replace hf := cond_f hb hf
            have hE := hE.know (t := 21) (b := (decide (x600 = (128 : Int)))) (b' := false) rfl hb
            clear hb
            refine segN 3 (j := 10) [(24, .bool ((decide (y523.2 = (5 : Int)))))] hE (by kernel_rfl) rfl (fun a hE => ?_)
            refine at_end rfl ?_
            exact ⟨(decide (y523.2 = (5 : Int))), D524, hE.weak (by kernel_rfl), hS, Snap.le.refl _, hf⟩
          · replace hf := cond_t hb hf
            have hE := hE.know (t := 21) (b := (decide (x600 = (128 : Int)))) (b' := true) rfl hb
            clear hb
            refine segN 3 (j := 10) [(24, .bool true)] hE (by kernel_rfl) rfl (fun a hE => ?_)
            refine at_end rfl ?_
            exact ⟨true, D524, hE.weak (by kernel_rfl), hS, Snap.le.refl _, hf⟩
      · clear hE hS
        rintro a w ⟨y617, D618, hE, hS, le619, hf⟩
        replace hf := hj621 _ hf
        clear hj621
        refine cond_split hE (b := y617) rfl (fun hb => ?_) (fun hb => ?_)
        · replace hf := cond_t hb hf
          clear hb
          refine wpIn_seq ?_
          refine region_at ?_
          refine segN 3 (j := 3) [(2, .int .i64 ((0 : Int))), (3, .int .i64 ((0 : Int))), (4, .int .i64 ((2 : Int)))] hE (by kernel_rfl) rfl (fun a hE => ?_)
          refine at_end rfl ?_
          refine wpIn_ret ?_
          obtain rfl := Option.some.inj hf
          replace hf := hs577
          obtain rfl := Option.some.inj hf
          repeat (with_reducible first | refine then_ret ?_ | refine block_ret ?_ | refine qx_ret ?_)
          refine ret_gen ([.int .i64 ((0 : Int)), .int .i64 ((0 : Int)), .int .i64 ((2 : Int))]) hE (by rw [show Try.f63.results.toList = [.tmp 2, .tmp 3, .tmp 4] from rfl]; exact ⟨_, _, rfl, rfl, ⟨_, _, rfl, rfl, ⟨_, _, rfl, rfl, rfl⟩⟩⟩) ?_
          exact ⟨_, rfl, D618, rfl, hS⟩
        · replace hf := cond_f hb hf
          clear hb
          refine wpIn_skip ?_
          refine wpIn_seq ?_
          refine region_at ?_
          refine segN 7 (j := 7) [(5, .int .i64 ((bor .i64 (IntKind.wrap .i64 (y523.1 * 2 ^ 7)) (IntKind.wrap .i64 (Int.tmod x600 128)))))] hE (by kernel_rfl) rfl (fun a hE => ?_)
          refine at_end rfl ?_
          refine wpIn_seq ?_
          refine region_at ?_
          refine segN 2 (j := 2) [(32, .bool ((decide (x600 < (128 : Int)))))] hE (by kernel_rfl) rfl (fun a hE => ?_)
          refine at_end rfl ?_
          refine cond_split hE (b := (decide (x600 < (128 : Int)))) rfl (fun hb => ?_) (fun hb => ?_)
          · replace hf := cond_t hb hf
            clear hb
            refine wpIn_seq ?_
            refine wpIn_seq ?_
            refine region_at ?_
            refine segN 2 (j := 2) [(34, .bool ((decide ((2147483647 : Int) < (bor .i64 (IntKind.wrap .i64 (y523.1 * 2 ^ 7)) (IntKind.wrap .i64 (Int.tmod x600 128)))))))] hE (by kernel_rfl) rfl (fun a hE => ?_)
            refine at_end rfl ?_
            refine cond_split hE (b := (decide ((2147483647 : Int) < (bor .i64 (IntKind.wrap .i64 (y523.1 * 2 ^ 7)) (IntKind.wrap .i64 (Int.tmod x600 128)))))) rfl (fun hb => ?_) (fun hb => ?_)
            · replace hf := cond_t hb hf
              clear hb
              refine wpIn_seq ?_
              refine region_at ?_
              refine segN 3 (j := 3) [(2, .int .i64 ((0 : Int))), (3, .int .i64 ((0 : Int))), (4, .int .i64 ((2 : Int)))] hE (by kernel_rfl) rfl (fun a hE => ?_)
              refine at_end rfl ?_
              refine wpIn_ret ?_
              obtain rfl := Option.some.inj hf
              replace hf := hs577
              obtain rfl := Option.some.inj hf
              repeat (with_reducible first | refine then_ret ?_ | refine block_ret ?_ | refine qx_ret ?_)
              refine ret_gen ([.int .i64 ((0 : Int)), .int .i64 ((0 : Int)), .int .i64 ((2 : Int))]) hE (by rw [show Try.f63.results.toList = [.tmp 2, .tmp 3, .tmp 4] from rfl]; exact ⟨_, _, rfl, rfl, ⟨_, _, rfl, rfl, ⟨_, _, rfl, rfl, rfl⟩⟩⟩) ?_
              exact ⟨_, rfl, D618, rfl, hS⟩
            · replace hf := cond_f hb hf
              clear hb
              refine wpIn_skip ?_
              refine wpIn_seq ?_
              refine region_at ?_
              refine segN 6 (j := 6) [(2, .int .i64 ((bor .i64 (IntKind.wrap .i64 (y523.1 * 2 ^ 7)) (IntKind.wrap .i64 (Int.tmod x600 128))))), (3, .int .i64 ((IntKind.wrap .i64 (y523.2 + (1 : Int))))), (4, .int .i64 ((0 : Int)))] hE (by kernel_rfl) rfl (fun a hE => ?_)
              refine at_end rfl ?_
              refine wpIn_ret ?_
              obtain rfl := Option.some.inj hf
              replace hf := hs577
              obtain rfl := Option.some.inj hf
              repeat (with_reducible first | refine then_ret ?_ | refine block_ret ?_ | refine qx_ret ?_)
              refine ret_gen ([.int .i64 ((bor .i64 (IntKind.wrap .i64 (y523.1 * 2 ^ 7)) (IntKind.wrap .i64 (Int.tmod x600 128)))), .int .i64 ((IntKind.wrap .i64 (y523.2 + (1 : Int)))), .int .i64 ((0 : Int))]) hE (by rw [show Try.f63.results.toList = [.tmp 2, .tmp 3, .tmp 4] from rfl]; exact ⟨_, _, rfl, rfl, ⟨_, _, rfl, rfl, ⟨_, _, rfl, rfl, rfl⟩⟩⟩) ?_
              exact ⟨_, rfl, D618, rfl, hS⟩
          · replace hf := cond_f hb hf
            clear hb
            refine wpIn_skip ?_
            refine region_at ?_
            refine segN 2 (j := 2) [(10, .int .i64 ((IntKind.wrap .i64 (y523.2 + (1 : Int)))))] hE (by kernel_rfl) rfl (fun a hE => ?_)
            refine at_end rfl ?_
            exact ⟨((bor .i64 (IntKind.wrap .i64 (y523.1 * 2 ^ 7)) (IntKind.wrap .i64 (Int.tmod x600 128))), (IntKind.wrap .i64 (y523.2 + (1 : Int)))), D618, hE.weak (by kernel_rfl), hS, (Snap.le.trans le525 le619), hf⟩
    · replace hf := cond_f hb hf
      clear hb
      refine wpIn_exit ?_
      obtain rfl := Option.some.inj hf
      exact ⟨(), D524, hE.weak (by kernel_rfl), hS, le525, rfl⟩

set_option maxRecDepth 100000 in
set_option maxHeartbeats 4000000 in
theorem wire_take_int.calls {K : Nat} {g w0 : World} {D0 : Snap} {x3 : T_wire_Reader} {b1 : Nat} {A4 : Option Addr} {c5 : Nat} {r : (Int × T_wire_Reader)} (hf : wire_take_int.f K x3 = some r) (hS0 : St g w0 D0 [bx b1 94 (c_T_wire_Reader (x3) A4 c5)]) (h6 : Sl (kdInt .u8) D0 A4 c5 (x3.fB)) :
    CallsIn (Fw none) 0 Try.prog 62 (List.toArray [.pointer (some ⟨b1, 0, none⟩), .func (.func 63) #[] #[]]) w0 (fun e w' => ∃ v, e = .returned v ∧ ∃ (D1 : Snap) (A46 : Option Addr) (c47 : Nat), v = .int .i64 (r.1) ∧ Stp g w0 D0 [bx b1 94 (c_T_wire_Reader (x3) A4 c5)] w' D1 [bx b1 94 (c_T_wire_Reader ((T_wire_Reader.mk (r.2.fB) (r.2.fBad))) A46 c47)] ∧ Sl (kdInt .u8) D1 A46 c47 (r.2.fB)) := by
  unfold wire_take_int.f at hf
  have hS := Stp.refl hS0
  clear hS0
  refine calls_body (n := 39) Try.func62 rfl Try.ntmps62 rfl (fun a hE => ?_)
  have hE : Env a 39 [] [(0, .pointer (some ⟨b1, 0, none⟩)), (1, .func (.func 63) #[] #[])] := hE
  refine wpIn_seq ?_
  refine region_at ?_
  refine segN 1 (j := 1) [(4, .int .i64 ((0 : Int)))] hE (by kernel_rfl) rfl (fun a hE => ?_)
  refine at_end rfl ?_
  refine wpIn_seq ?_
  refine region_at ?_
  refine segN 1 (j := 1) [(5, .int .i64 ((0 : Int)))] hE (by kernel_rfl) rfl (fun a hE => ?_)
  refine at_end rfl ?_
  refine wpIn_seq ?_
  refine wpIn_seq ?_
  refine region_at ?_
  refine segN 1 (j := 1) [(9, .pointer (some ⟨b1, 0, none⟩))] hE (by kernel_rfl) rfl (fun a hE => ?_)
  obtain ⟨r54, h55, hf⟩ := bind_some hf
  refine at_op (op_call rfl rfl rfl rfl hE rfl rfl rfl rfl (by kernel_rfl) (wire_Reader_Bad.calls (g := g) h55 (hS.st.fore (L := [bx b1 94 (c_T_wire_Reader (x3) A4 c5)])) h6) (fun a v w hR hE => ?_)) rfl
  obtain ⟨D56, rfl, hS1⟩ := hR
  have le58 := hS1.dle
  have hS := hS.callR hS1 rfl (.c .n)
  clear hS1
  refine segN 1 (j := 3) [(11, .bool ((!decide (r54 = (0 : Int)))))] hE (by kernel_rfl) rfl (fun a hE => ?_)
  refine at_end rfl ?_
  refine cond_split hE (b := (!decide (r54 = (0 : Int)))) rfl (fun hb => ?_) (fun hb => ?_)
  · replace hf := cond_t hb hf
    clear hb
    refine wpIn_seq ?_
    refine region_at ?_
    refine segN 2 (j := 2) [(4, .int .i64 ((0 : Int)))] hE (by kernel_rfl) rfl (fun a hE => ?_)
    refine at_end rfl ?_
    refine wpIn_ret ?_
    obtain rfl := Option.some.inj hf
    repeat (with_reducible first | refine then_ret ?_ | refine block_ret ?_ | refine qx_ret ?_)
    refine ret_gen ([.int .i64 ((0 : Int))]) hE (by rw [show Try.f62.results.toList = [.tmp 4] from rfl]; exact ⟨_, _, rfl, rfl, rfl⟩) ?_
    exact ⟨_, rfl, D56, A4, c5, rfl, hS, (h6.mono le58)⟩
  · replace hf := cond_f hb hf
    clear hb
    refine wpIn_skip ?_
    refine wpIn_seq ?_
    refine region_at ?_
    refine segN 3 (j := 3) [(14, .func (.func 63) #[] #[]), (16, .pointer (some ⟨b1, 0, none⟩))] hE (by kernel_rfl) rfl (fun a hE => ?_)
    refine at_op (op_tk hE (g_fieldAddr (fo := 0) (ft := 32) 0 rfl rfl rfl rfl hE rfl rfl (by kernel_rfl) rfl (fun a hE => ?_))) rfl
    refine at_op (op_tk hE (tk_load 0 (.slice A4 (List.length (x3.fB)) c5) rfl rfl rfl rfl hE rfl hS rfl rfl (by kernel_rfl) (kL (j := 0) hS rfl List.not_mem_nil) (fun a hE => ?_))) rfl
    obtain ⟨r59, h60, hf⟩ := bind_some hf
    refine at_op (op_call rfl rfl rfl rfl hE rfl rfl rfl rfl (by kernel_rfl) (wire_number.calls (g := g) h60 (hS.st.fore (L := [])) (h6.mono le58)) (fun a v w hR hE => ?_)) rfl
    obtain ⟨D61, rfl, hS1⟩ := hR
    have le63 := hS1.dle
    have hS := hS.callR hS1 rfl .n
    clear hS1
    refine segN 7 (j := 13) [(6, .int .i64 (r59.1)), (7, .int .i64 (r59.2.1)), (8, .int .i64 (r59.2.2))] hE (by kernel_rfl) rfl (fun a hE => ?_)
    refine at_end rfl ?_
    refine wpIn_seq ?_
    refine wpIn_seq ?_
    refine region_at ?_
    refine segN 2 (j := 2) [(24, .bool ((!decide (r59.2.2 = (0 : Int)))))] hE (by kernel_rfl) rfl (fun a hE => ?_)
    refine at_end rfl ?_
    refine cond_split hE (b := (!decide (r59.2.2 = (0 : Int)))) rfl (fun hb => ?_) (fun hb => ?_)
    · replace hf := cond_t hb hf
      clear hb
      refine wpIn_seq ?_
      refine region_at ?_
      refine segN 2 (j := 2) [(25, .pointer (some ⟨b1, 0, none⟩)), (26, .int .i64 (r59.2.2))] hE (by kernel_rfl) rfl (fun a hE => ?_)
      obtain ⟨r72, h73, hf⟩ := bind_some hf
      refine at_op (op_call rfl rfl rfl rfl hE rfl rfl rfl rfl (by kernel_rfl) (wire_Reader_Fail.calls (g := g) h73 (hS.st.fore (L := [bx b1 94 (c_T_wire_Reader (x3) A4 c5)])) (h6.mono (Snap.le.trans le58 le63))) (fun a v w hR hE => ?_)) rfl
      obtain ⟨D74, A76, c77, rfl, hS1, h78⟩ := hR
      have le79 := hS1.dle
      have hS := hS.callR hS1 rfl (.c .n)
      clear hS1
      refine at_end rfl ?_
      refine wpIn_seq ?_
      refine region_at ?_
      refine segN 2 (j := 2) [(4, .int .i64 ((0 : Int)))] hE (by kernel_rfl) rfl (fun a hE => ?_)
      refine at_end rfl ?_
      refine wpIn_ret ?_
      obtain rfl := Option.some.inj hf
      repeat (with_reducible first | refine then_ret ?_ | refine block_ret ?_ | refine qx_ret ?_)
      refine ret_gen ([.int .i64 ((0 : Int))]) hE (by rw [show Try.f62.results.toList = [.tmp 4] from rfl]; exact ⟨_, _, rfl, rfl, rfl⟩) ?_
      exact ⟨_, rfl, D74, A76, c77, rfl, hS, h78⟩
    · replace hf := cond_f hb hf
      clear hb
      refine wpIn_skip ?_
      refine wpIn_seq ?_
      refine region_at ?_
      refine segN 3 (j := 3) [(29, .pointer (some ⟨b1, 0, none⟩)), (31, .pointer (some ⟨b1, 0, none⟩))] hE (by kernel_rfl) rfl (fun a hE => ?_)
      refine at_op (op_tk hE (g_fieldAddr (fo := 0) (ft := 32) 0 rfl rfl rfl rfl hE rfl rfl (by kernel_rfl) rfl (fun a hE => ?_))) rfl
      refine at_op (op_tk hE (tk_load 0 (.slice A4 (List.length (x3.fB)) c5) rfl rfl rfl rfl hE rfl hS rfl rfl (by kernel_rfl) (kL (j := 0) hS rfl List.not_mem_nil) (fun a hE => ?_))) rfl
      refine segN 1 (j := 6) [(34, .int .i64 (r59.2.1))] hE (by kernel_rfl) rfl (fun a hE => ?_)
      obtain ⟨l80, h81, hf⟩ := bind_some hf
      refine at_op (op_tk hE (g_slice (K := (kdInt .u8)) (e := 5) (by_ := 1) (zl := 1) rfl rfl rfl rfl hE rfl rfl (by kernel_rfl) ⟨_, rfl⟩ rfl (h6.mono (Snap.le.trans le58 le63)) h81 (fun a A82 c83 hE h84 => ?_))) rfl
      refine segN 1 (j := 8) [(36, .pointer (some ⟨b1, 0, none⟩))] hE (by kernel_rfl) rfl (fun a hE => ?_)
      refine at_op (op_tk hE (g_fieldAddr (fo := 0) (ft := 32) 0 rfl rfl rfl rfl hE rfl rfl (by kernel_rfl) rfl (fun a hE => ?_))) rfl
      obtain ⟨v85, hv86, hf⟩ := bind_some hf
      replace hv86 := Option.some.inj hv86
      refine at_op (op_store (v := .slice A82 (List.length (l80)) c83) (c_T_wire_Reader (v85) A82 c83) rfl rfl rfl rfl hE hS rfl rfl (by kernel_rfl) (by kernel_rfl) (by kernel_rfl) (by kernel_rfl) (by rw [← hv86]; kernel_rfl) (fun a w _ hE hS => ?_)) rfl
      have h87 : Sl (kdInt .u8) D61 A82 c83 (v85.fB) := by rw [← hv86]; exact h84
      refine at_end rfl ?_
      refine wpIn_seq ?_
      refine region_at ?_
      refine segN 2 (j := 2) [(4, .int .i64 (r59.1))] hE (by kernel_rfl) rfl (fun a hE => ?_)
      refine at_end rfl ?_
      refine wpIn_ret ?_
      obtain rfl := Option.some.inj hf
      repeat (with_reducible first | refine then_ret ?_ | refine block_ret ?_ | refine qx_ret ?_)
      refine ret_gen ([.int .i64 (r59.1)]) hE (by rw [show Try.f62.results.toList = [.tmp 4] from rfl]; exact ⟨_, _, rfl, rfl, rfl⟩) ?_
      exact ⟨_, rfl, D61, A82, c83, rfl, hS, h87⟩

set_option maxRecDepth 100000 in
set_option maxHeartbeats 4000000 in
theorem wire_Reader_Num.calls {K : Nat} {g w0 : World} {D0 : Snap} {x3 : T_wire_Reader} {b1 : Nat} {A4 : Option Addr} {c5 : Nat} {r : (Int × T_wire_Reader)} (hf : wire_Reader_Num.f K x3 = some r) (hS0 : St g w0 D0 [bx b1 94 (c_T_wire_Reader (x3) A4 c5)]) (h6 : Sl (kdInt .u8) D0 A4 c5 (x3.fB)) :
    CallsIn (Fw none) 0 Try.prog 31 (List.toArray [.pointer (some ⟨b1, 0, none⟩)]) w0 (fun e w' => ∃ v, e = .returned v ∧ ∃ (D1 : Snap) (A15 : Option Addr) (c16 : Nat), v = .int .i64 (r.1) ∧ Stp g w0 D0 [bx b1 94 (c_T_wire_Reader (x3) A4 c5)] w' D1 [bx b1 94 (c_T_wire_Reader ((T_wire_Reader.mk (r.2.fB) (r.2.fBad))) A15 c16)] ∧ Sl (kdInt .u8) D1 A15 c16 (r.2.fB)) := by
  unfold wire_Reader_Num.f at hf
  have hS := Stp.refl hS0
  clear hS0
  refine calls_body (n := 5) Try.func31 rfl Try.ntmps31 rfl (fun a hE => ?_)
  have hE : Env a 5 [] [(0, .pointer (some ⟨b1, 0, none⟩))] := hE
  refine wpIn_seq ?_
  refine region_at ?_
  refine segN 1 (j := 1) [(2, .int .i64 ((0 : Int)))] hE (by kernel_rfl) rfl (fun a hE => ?_)
  refine at_end rfl ?_
  refine wpIn_seq ?_
  refine region_at ?_
  refine segN 1 (j := 1) [(3, .pointer (some ⟨b1, 0, none⟩))] hE (by kernel_rfl) rfl (fun a hE => ?_)
  obtain ⟨r18, h19, hf⟩ := bind_some hf
  refine at_op (op_call rfl rfl rfl rfl hE rfl rfl rfl rfl (by kernel_rfl) (wire_take_int.calls (g := g) h19 (hS.st.fore (L := [bx b1 94 (c_T_wire_Reader (x3) A4 c5)])) h6) (fun a v w hR hE => ?_)) rfl
  obtain ⟨D20, A22, c23, rfl, hS1, h24⟩ := hR
  have le25 := hS1.dle
  have hS := hS.callR hS1 rfl (.c .n)
  clear hS1
  refine segN 1 (j := 3) [(2, .int .i64 (r18.1))] hE (by kernel_rfl) rfl (fun a hE => ?_)
  refine at_end rfl ?_
  refine wpIn_ret ?_
  obtain rfl := Option.some.inj hf
  repeat (with_reducible first | refine then_ret ?_ | refine block_ret ?_ | refine qx_ret ?_)
  refine ret_gen ([.int .i64 (r18.1)]) hE (by rw [show Try.f31.results.toList = [.tmp 2] from rfl]; exact ⟨_, _, rfl, rfl, rfl⟩) ?_
  exact ⟨_, rfl, D20, A22, c23, rfl, hS, h24⟩

set_option maxRecDepth 100000 in
set_option maxHeartbeats 4000000 in
theorem wire_Reader_Hash_1.calls {K : Nat} {g w0 : World} {D0 : Snap} {x1 : (List Int)} {A2 : Option Addr} {c3 : Nat} {r : ((Vector Int 32) × Int × Int)} (hf : wire_Reader_Hash_1.f K x1 = some r) (hS0 : St g w0 D0 []) (h4 : Sl (kdInt .u8) D0 A2 c3 (x1)) :
    CallsIn (Fw none) 0 Try.prog 65 (List.toArray [.slice A2 (List.length (x1)) c3]) w0 (fun e w' => ∃ v, e = .returned v ∧ ∃ (D1 : Snap), v = .tuple #[.agg (List.toArray (acells .u8 32 (r.1))), .int .i64 (r.2.1), .int .i64 (r.2.2)] ∧ Stp g w0 D0 [] w' D1 []) := by
  unfold wire_Reader_Hash_1.f at hf
  have hS := Stp.refl hS0
  clear hS0
  refine calls_body (n := 14) Try.func65 rfl Try.ntmps65 rfl (fun a hE => ?_)
  have hE : Env a 14 [] [(0, .slice A2 (List.length (x1)) c3)] := hE
  refine wpIn_seq ?_
  refine region_at ?_
  refine at_op (op_alloc (z := .agg (List.toArray (acells .u8 32 ((Vector.replicate 32 (0 : Int)))))) rfl rfl rfl rfl hE rfl hS (by kernel_rfl) (fun a b25 w _ hE hS => ?_)) rfl
  refine segN 2 (j := 3) [(3, .int .i64 ((0 : Int))), (4, .int .i64 ((0 : Int)))] hE (by kernel_rfl) rfl (fun a hE => ?_)
  refine at_end rfl ?_
  refine wpIn_seq ?_
  refine region_at ?_
  refine at_op (op_alloc (z := .agg (List.toArray (acells .u8 32 ((Vector.replicate 32 (0 : Int)))))) rfl rfl rfl rfl hE rfl hS (by kernel_rfl) (fun a b27 w _ hE hS => ?_)) rfl
  refine at_end rfl ?_
  refine wpIn_seq ?_
  refine wpIn_seq ?_
  refine region_at ?_
  refine segN 3 (j := 3) [(8, .bool ((decide (((List.length (x1) : Nat) : Int) < (32 : Int)))))] hE (by kernel_rfl) rfl (fun a hE => ?_)
  refine at_end rfl ?_
  refine cond_split hE (b := (decide (((List.length (x1) : Nat) : Int) < (32 : Int)))) rfl (fun hb => ?_) (fun hb => ?_)
  · replace hf := cond_t hb hf
    clear hb
    refine wpIn_seq ?_
    refine region_at ?_
    refine at_op (op_tk hE (tk_load 0 (.agg (List.toArray (acells .u8 32 ((Vector.replicate 32 (0 : Int)))))) rfl rfl rfl rfl hE rfl hS rfl rfl (by kernel_rfl) (kL (j := 0) hS rfl List.not_mem_nil) (fun a hE => ?_))) rfl
    have hS := hS.pk (.c 1 rfl (.c 0 rfl .n)) rfl
    refine at_op (op_store (v := .agg (List.toArray (acells .u8 32 ((Vector.replicate 32 (0 : Int)))))) (acells .u8 32 ((Vector.replicate 32 (0 : Int)))) rfl rfl rfl rfl hE hS rfl rfl (by kernel_rfl) (by kernel_rfl) (by kernel_rfl) (by kernel_rfl) (by kernel_rfl) (fun a w _ hE hS => ?_)) rfl
    refine segN 2 (j := 4) [(3, .int .i64 ((0 : Int))), (4, .int .i64 ((3 : Int)))] hE (by kernel_rfl) rfl (fun a hE => ?_)
    refine at_end rfl ?_
    refine wpIn_ret ?_
    obtain rfl := Option.some.inj hf
    repeat (with_reducible first | refine then_ret ?_ | refine block_ret ?_ | refine qx_ret ?_)
    refine ret_gen ([.agg (List.toArray (acells .u8 32 ((Vector.replicate 32 (0 : Int))))), .int .i64 ((0 : Int)), .int .i64 ((3 : Int))]) hE (by rw [show Try.f65.results.toList = [.cell 2 23, .tmp 3, .tmp 4] from rfl]; exact ⟨_, _, _, 0, _, _, rfl, rfl, hS.heapAt (j := 0) rfl, by kernel_rfl, ⟨_, _, rfl, rfl, ⟨_, _, rfl, rfl, rfl⟩⟩⟩) ?_
    have hS := hS.pk .n rfl
    exact ⟨_, rfl, D0, rfl, hS⟩
  · replace hf := cond_f hb hf
    clear hb
    refine wpIn_skip ?_
    refine wpIn_seq ?_
    refine region_at ?_
    refine segN 1 (j := 1) [(10, .slice A2 (List.length (x1)) c3)] hE (by kernel_rfl) rfl (fun a hE => ?_)
    obtain ⟨l29, h30, hf⟩ := bind_some hf
    refine at_op (op_tk hE (g_slice (K := (kdInt .u8)) (e := 5) (by_ := 1) (zl := 1) rfl rfl rfl rfl hE rfl rfl (by kernel_rfl) rfl ⟨_, rfl⟩ h4 h30 (fun a A31 c32 hE h33 => ?_))) rfl
    obtain ⟨h37, hf⟩ := chk_some hf
    refine at_op (op_tk hE (g_s2a (kk := .u8) (e := 5) (N := 32) rfl rfl rfl rfl hE rfl rfl (by kernel_rfl) rfl h33 h37 (fun a b34 o35 hE h36 => ?_))) rfl
    obtain ⟨cs38, C39, T40, fr41, hr42, hb43, hc44⟩ := h36
    obtain rfl := hr42
    refine at_op (op_tk hE (tk_loadX (off0 := o35) (off := 0) (c := acells .u8 32 ((vofL 32 (l29)))) (.agg (List.toArray (acells .u8 32 ((vofL 32 (l29)))))) rfl rfl rfl rfl hE rfl hS rfl hb43 hc44 (by kernel_rfl) (by kernel_rfl) (kD hS dn_nil) (fun a hE => ?_))) rfl
    have hS := hS.pk (.c 1 rfl (.c 0 rfl .n)) rfl
    refine at_op (op_store (v := .agg (List.toArray (acells .u8 32 ((vofL 32 (l29)))))) (acells .u8 32 ((vofL 32 (l29)))) rfl rfl rfl rfl hE hS rfl rfl (by kernel_rfl) (by kernel_rfl) (by kernel_rfl) (by kernel_rfl) (by kernel_rfl) (fun a w _ hE hS => ?_)) rfl
    refine segN 2 (j := 7) [(3, .int .i64 ((32 : Int))), (4, .int .i64 ((0 : Int)))] hE (by kernel_rfl) rfl (fun a hE => ?_)
    refine at_end rfl ?_
    refine wpIn_ret ?_
    obtain rfl := Option.some.inj hf
    repeat (with_reducible first | refine then_ret ?_ | refine block_ret ?_ | refine qx_ret ?_)
    refine ret_gen ([.agg (List.toArray (acells .u8 32 ((vofL 32 (l29))))), .int .i64 ((32 : Int)), .int .i64 ((0 : Int))]) hE (by rw [show Try.f65.results.toList = [.cell 2 23, .tmp 3, .tmp 4] from rfl]; exact ⟨_, _, _, 0, _, _, rfl, rfl, hS.heapAt (j := 0) rfl, by kernel_rfl, ⟨_, _, rfl, rfl, ⟨_, _, rfl, rfl, rfl⟩⟩⟩) ?_
    have hS := hS.pk .n rfl
    exact ⟨_, rfl, D0, rfl, hS⟩

set_option maxRecDepth 100000 in
set_option maxHeartbeats 4000000 in
theorem wire_take_api_Hash.calls {K : Nat} {g w0 : World} {D0 : Snap} {x3 : T_wire_Reader} {b1 : Nat} {A4 : Option Addr} {c5 : Nat} {r : ((Vector Int 32) × T_wire_Reader)} (hf : wire_take_api_Hash.f K x3 = some r) (hS0 : St g w0 D0 [bx b1 94 (c_T_wire_Reader (x3) A4 c5)]) (h6 : Sl (kdInt .u8) D0 A4 c5 (x3.fB)) :
    CallsIn (Fw none) 0 Try.prog 64 (List.toArray [.pointer (some ⟨b1, 0, none⟩), .func (.func 65) #[] #[]]) w0 (fun e w' => ∃ v, e = .returned v ∧ ∃ (D1 : Snap) (A52 : Option Addr) (c53 : Nat), v = .agg (List.toArray (acells .u8 32 (r.1))) ∧ Stp g w0 D0 [bx b1 94 (c_T_wire_Reader (x3) A4 c5)] w' D1 [bx b1 94 (c_T_wire_Reader ((T_wire_Reader.mk (r.2.fB) (r.2.fBad))) A52 c53)] ∧ Sl (kdInt .u8) D1 A52 c53 (r.2.fB)) := by
  unfold wire_take_api_Hash.f at hf
  have hS := Stp.refl hS0
  clear hS0
  refine calls_body (n := 39) Try.func64 rfl Try.ntmps64 rfl (fun a hE => ?_)
  have hE : Env a 39 [] [(0, .pointer (some ⟨b1, 0, none⟩)), (1, .func (.func 65) #[] #[])] := hE
  refine wpIn_seq ?_
  refine region_at ?_
  refine at_op (op_alloc (z := .agg (List.toArray (acells .u8 32 ((Vector.replicate 32 (0 : Int)))))) rfl rfl rfl rfl hE rfl hS (by kernel_rfl) (fun a b55 w _ hE hS => ?_)) rfl
  refine at_end rfl ?_
  refine wpIn_seq ?_
  refine region_at ?_
  refine at_op (op_alloc (z := .agg (List.toArray (acells .u8 32 ((Vector.replicate 32 (0 : Int)))))) rfl rfl rfl rfl hE rfl hS (by kernel_rfl) (fun a b57 w _ hE hS => ?_)) rfl
  refine at_end rfl ?_
  refine wpIn_seq ?_
  refine wpIn_seq ?_
  refine region_at ?_
  refine segN 1 (j := 1) [(9, .pointer (some ⟨b1, 0, none⟩))] hE (by kernel_rfl) rfl (fun a hE => ?_)
  have hS := hS.pk (.c 2 rfl (.c 0 rfl (.c 1 rfl .n))) rfl
  obtain ⟨r64, h65, hf⟩ := bind_some hf
  refine at_op (op_call rfl rfl rfl rfl hE rfl rfl rfl rfl (by kernel_rfl) (wire_Reader_Bad.calls (g := g) h65 (hS.st.fore (L := [bx b1 94 (c_T_wire_Reader (x3) A4 c5)])) h6) (fun a v w hR hE => ?_)) rfl
  obtain ⟨D66, rfl, hS1⟩ := hR
  have le68 := hS1.dle
  have hS := hS.callR hS1 rfl (.c .n)
  clear hS1
  refine segN 1 (j := 3) [(11, .bool ((!decide (r64 = (0 : Int)))))] hE (by kernel_rfl) rfl (fun a hE => ?_)
  refine at_end rfl ?_
  refine cond_split hE (b := (!decide (r64 = (0 : Int)))) rfl (fun hb => ?_) (fun hb => ?_)
  · replace hf := cond_t hb hf
    clear hb
    refine wpIn_seq ?_
    refine region_at ?_
    refine at_op (op_tk hE (tk_load 1 (.agg (List.toArray (acells .u8 32 ((Vector.replicate 32 (0 : Int)))))) rfl rfl rfl rfl hE rfl hS rfl rfl (by kernel_rfl) (kL (j := 1) hS rfl List.not_mem_nil) (fun a hE => ?_))) rfl
    have hS := hS.pk (.c 2 rfl (.c 0 rfl (.c 1 rfl .n))) rfl
    refine at_op (op_store (v := .agg (List.toArray (acells .u8 32 ((Vector.replicate 32 (0 : Int)))))) (acells .u8 32 ((Vector.replicate 32 (0 : Int)))) rfl rfl rfl rfl hE hS rfl rfl (by kernel_rfl) (by kernel_rfl) (by kernel_rfl) (by kernel_rfl) (by kernel_rfl) (fun a w _ hE hS => ?_)) rfl
    refine at_end rfl ?_
    refine wpIn_ret ?_
    obtain rfl := Option.some.inj hf
    repeat (with_reducible first | refine then_ret ?_ | refine block_ret ?_ | refine qx_ret ?_)
    refine ret_gen ([.agg (List.toArray (acells .u8 32 ((Vector.replicate 32 (0 : Int)))))]) hE (by rw [show Try.f64.results.toList = [.cell 4 23] from rfl]; exact ⟨_, _, _, 0, _, _, rfl, rfl, hS.heapAt (j := 0) rfl, by kernel_rfl, rfl⟩) ?_
    have hS := hS.pk (.c 1 rfl .n) rfl
    exact ⟨_, rfl, D66, A4, c5, rfl, hS, (h6.mono le68)⟩
  · replace hf := cond_f hb hf
    clear hb
    refine wpIn_skip ?_
    refine wpIn_seq ?_
    refine region_at ?_
    refine segN 3 (j := 3) [(14, .func (.func 65) #[] #[]), (16, .pointer (some ⟨b1, 0, none⟩))] hE (by kernel_rfl) rfl (fun a hE => ?_)
    refine at_op (op_tk hE (g_fieldAddr (fo := 0) (ft := 32) 0 rfl rfl rfl rfl hE rfl rfl (by kernel_rfl) rfl (fun a hE => ?_))) rfl
    refine at_op (op_tk hE (tk_load 0 (.slice A4 (List.length (x3.fB)) c5) rfl rfl rfl rfl hE rfl hS rfl rfl (by kernel_rfl) (kL (j := 0) hS rfl List.not_mem_nil) (fun a hE => ?_))) rfl
    obtain ⟨r69, h70, hf⟩ := bind_some hf
    refine at_op (op_call rfl rfl rfl rfl hE rfl rfl rfl rfl (by kernel_rfl) (wire_Reader_Hash_1.calls (g := g) h70 (hS.st.fore (L := [])) (h6.mono le68)) (fun a v w hR hE => ?_)) rfl
    obtain ⟨D71, rfl, hS1⟩ := hR
    have le73 := hS1.dle
    have hS := hS.callR hS1 rfl .n
    clear hS1
    refine segN 4 (j := 10) [(20, .agg (List.toArray (acells .u8 32 (r69.1)))), (21, .int .i64 (r69.2.1)), (22, .int .i64 (r69.2.2))] hE (by kernel_rfl) rfl (fun a hE => ?_)
    refine at_op (op_alloc (z := .agg (List.toArray (acells .u8 32 ((Vector.replicate 32 (0 : Int)))))) rfl rfl rfl rfl hE rfl hS (by kernel_rfl) (fun a b74 w _ hE hS => ?_)) rfl
    refine at_op (op_store (v := .agg (List.toArray (acells .u8 32 (r69.1)))) (acells .u8 32 (r69.1)) rfl rfl rfl rfl hE hS rfl rfl (by kernel_rfl) (by kernel_rfl) (by kernel_rfl) (by kernel_rfl) (by kernel_rfl) (fun a w _ hE hS => ?_)) rfl
    refine segN 2 (j := 14) [(7, .int .i64 (r69.2.1)), (8, .int .i64 (r69.2.2))] hE (by kernel_rfl) rfl (fun a hE => ?_)
    refine at_end rfl ?_
    refine wpIn_seq ?_
    refine wpIn_seq ?_
    refine region_at ?_
    refine segN 2 (j := 2) [(24, .bool ((!decide (r69.2.2 = (0 : Int)))))] hE (by kernel_rfl) rfl (fun a hE => ?_)
    refine at_end rfl ?_
    refine cond_split hE (b := (!decide (r69.2.2 = (0 : Int)))) rfl (fun hb => ?_) (fun hb => ?_)
    · replace hf := cond_t hb hf
      clear hb
      refine wpIn_seq ?_
      refine region_at ?_
      refine segN 2 (j := 2) [(25, .pointer (some ⟨b1, 0, none⟩)), (26, .int .i64 (r69.2.2))] hE (by kernel_rfl) rfl (fun a hE => ?_)
      have hS := hS.pk (.c 1 rfl (.c 0 rfl (.c 2 rfl (.c 3 rfl .n)))) rfl
      obtain ⟨r84, h85, hf⟩ := bind_some hf
      refine at_op (op_call rfl rfl rfl rfl hE rfl rfl rfl rfl (by kernel_rfl) (wire_Reader_Fail.calls (g := g) h85 (hS.st.fore (L := [bx b1 94 (c_T_wire_Reader (x3) A4 c5)])) (h6.mono (Snap.le.trans le68 le73))) (fun a v w hR hE => ?_)) rfl
      obtain ⟨D86, A88, c89, rfl, hS1, h90⟩ := hR
      have le91 := hS1.dle
      have hS := hS.callR hS1 rfl (.c .n)
      clear hS1
      refine at_end rfl ?_
      refine wpIn_seq ?_
      refine region_at ?_
      refine at_op (op_tk hE (tk_load 2 (.agg (List.toArray (acells .u8 32 ((Vector.replicate 32 (0 : Int)))))) rfl rfl rfl rfl hE rfl hS rfl rfl (by kernel_rfl) (kL (j := 2) hS rfl List.not_mem_nil) (fun a hE => ?_))) rfl
      have hS := hS.pk (.c 3 rfl (.c 0 rfl (.c 1 rfl (.c 2 rfl .n)))) rfl
      refine at_op (op_store (v := .agg (List.toArray (acells .u8 32 ((Vector.replicate 32 (0 : Int)))))) (acells .u8 32 ((Vector.replicate 32 (0 : Int)))) rfl rfl rfl rfl hE hS rfl rfl (by kernel_rfl) (by kernel_rfl) (by kernel_rfl) (by kernel_rfl) (by kernel_rfl) (fun a w _ hE hS => ?_)) rfl
      refine at_end rfl ?_
      refine wpIn_ret ?_
      obtain rfl := Option.some.inj hf
      repeat (with_reducible first | refine then_ret ?_ | refine block_ret ?_ | refine qx_ret ?_)
      refine ret_gen ([.agg (List.toArray (acells .u8 32 ((Vector.replicate 32 (0 : Int)))))]) hE (by rw [show Try.f64.results.toList = [.cell 4 23] from rfl]; exact ⟨_, _, _, 0, _, _, rfl, rfl, hS.heapAt (j := 0) rfl, by kernel_rfl, rfl⟩) ?_
      have hS := hS.pk (.c 1 rfl .n) rfl
      exact ⟨_, rfl, D86, A88, c89, rfl, hS, h90⟩
    · replace hf := cond_f hb hf
      clear hb
      refine wpIn_skip ?_
      refine wpIn_seq ?_
      refine region_at ?_
      refine segN 3 (j := 3) [(29, .pointer (some ⟨b1, 0, none⟩)), (31, .pointer (some ⟨b1, 0, none⟩))] hE (by kernel_rfl) rfl (fun a hE => ?_)
      refine at_op (op_tk hE (g_fieldAddr (fo := 0) (ft := 32) 0 rfl rfl rfl rfl hE rfl rfl (by kernel_rfl) rfl (fun a hE => ?_))) rfl
      refine at_op (op_tk hE (tk_load 1 (.slice A4 (List.length (x3.fB)) c5) rfl rfl rfl rfl hE rfl hS rfl rfl (by kernel_rfl) (kL (j := 1) hS rfl List.not_mem_nil) (fun a hE => ?_))) rfl
      refine segN 1 (j := 6) [(34, .int .i64 (r69.2.1))] hE (by kernel_rfl) rfl (fun a hE => ?_)
      obtain ⟨l92, h93, hf⟩ := bind_some hf
      refine at_op (op_tk hE (g_slice (K := (kdInt .u8)) (e := 5) (by_ := 1) (zl := 1) rfl rfl rfl rfl hE rfl rfl (by kernel_rfl) ⟨_, rfl⟩ rfl (h6.mono (Snap.le.trans le68 le73)) h93 (fun a A94 c95 hE h96 => ?_))) rfl
      refine segN 1 (j := 8) [(36, .pointer (some ⟨b1, 0, none⟩))] hE (by kernel_rfl) rfl (fun a hE => ?_)
      refine at_op (op_tk hE (g_fieldAddr (fo := 0) (ft := 32) 0 rfl rfl rfl rfl hE rfl rfl (by kernel_rfl) rfl (fun a hE => ?_))) rfl
      have hS := hS.pk (.c 1 rfl (.c 0 rfl (.c 2 rfl (.c 3 rfl .n)))) rfl
      obtain ⟨v97, hv98, hf⟩ := bind_some hf
      replace hv98 := Option.some.inj hv98
      refine at_op (op_store (v := .slice A94 (List.length (l92)) c95) (c_T_wire_Reader (v97) A94 c95) rfl rfl rfl rfl hE hS rfl rfl (by kernel_rfl) (by kernel_rfl) (by kernel_rfl) (by kernel_rfl) (by rw [← hv98]; kernel_rfl) (fun a w _ hE hS => ?_)) rfl
      have h99 : Sl (kdInt .u8) D71 A94 c95 (v97.fB) := by rw [← hv98]; exact h96
      refine at_end rfl ?_
      refine wpIn_seq ?_
      refine region_at ?_
      refine at_op (op_tk hE (tk_load 1 (.agg (List.toArray (acells .u8 32 (r69.1)))) rfl rfl rfl rfl hE rfl hS rfl rfl (by kernel_rfl) (kL (j := 1) hS rfl List.not_mem_nil) (fun a hE => ?_))) rfl
      have hS := hS.pk (.c 3 rfl (.c 0 rfl (.c 1 rfl (.c 2 rfl .n)))) rfl
      refine at_op (op_store (v := .agg (List.toArray (acells .u8 32 (r69.1)))) (acells .u8 32 (r69.1)) rfl rfl rfl rfl hE hS rfl rfl (by kernel_rfl) (by kernel_rfl) (by kernel_rfl) (by kernel_rfl) (by kernel_rfl) (fun a w _ hE hS => ?_)) rfl
      refine at_end rfl ?_
      refine wpIn_ret ?_
      obtain rfl := Option.some.inj hf
      repeat (with_reducible first | refine then_ret ?_ | refine block_ret ?_ | refine qx_ret ?_)
      refine ret_gen ([.agg (List.toArray (acells .u8 32 (r69.1)))]) hE (by rw [show Try.f64.results.toList = [.cell 4 23] from rfl]; exact ⟨_, _, _, 0, _, _, rfl, rfl, hS.heapAt (j := 0) rfl, by kernel_rfl, rfl⟩) ?_
      have hS := hS.pk (.c 1 rfl .n) rfl
      exact ⟨_, rfl, D71, A94, c95, rfl, hS, h99⟩

set_option maxRecDepth 100000 in
set_option maxHeartbeats 4000000 in
theorem wire_Reader_Hash.calls {K : Nat} {g w0 : World} {D0 : Snap} {x3 : T_wire_Reader} {b1 : Nat} {A4 : Option Addr} {c5 : Nat} {r : ((Vector Int 32) × T_wire_Reader)} (hf : wire_Reader_Hash.f K x3 = some r) (hS0 : St g w0 D0 [bx b1 94 (c_T_wire_Reader (x3) A4 c5)]) (h6 : Sl (kdInt .u8) D0 A4 c5 (x3.fB)) :
    CallsIn (Fw none) 0 Try.prog 33 (List.toArray [.pointer (some ⟨b1, 0, none⟩)]) w0 (fun e w' => ∃ v, e = .returned v ∧ ∃ (D1 : Snap) (A17 : Option Addr) (c18 : Nat), v = .agg (List.toArray (acells .u8 32 (r.1))) ∧ Stp g w0 D0 [bx b1 94 (c_T_wire_Reader (x3) A4 c5)] w' D1 [bx b1 94 (c_T_wire_Reader ((T_wire_Reader.mk (r.2.fB) (r.2.fBad))) A17 c18)] ∧ Sl (kdInt .u8) D1 A17 c18 (r.2.fB)) := by
  unfold wire_Reader_Hash.f at hf
  have hS := Stp.refl hS0
  clear hS0
  refine calls_body (n := 5) Try.func33 rfl Try.ntmps33 rfl (fun a hE => ?_)
  have hE : Env a 5 [] [(0, .pointer (some ⟨b1, 0, none⟩))] := hE
  refine wpIn_seq ?_
  refine region_at ?_
  refine at_op (op_alloc (z := .agg (List.toArray (acells .u8 32 ((Vector.replicate 32 (0 : Int)))))) rfl rfl rfl rfl hE rfl hS (by kernel_rfl) (fun a b20 w _ hE hS => ?_)) rfl
  refine at_end rfl ?_
  refine wpIn_seq ?_
  refine region_at ?_
  refine segN 1 (j := 1) [(3, .pointer (some ⟨b1, 0, none⟩))] hE (by kernel_rfl) rfl (fun a hE => ?_)
  have hS := hS.pk (.c 1 rfl (.c 0 rfl .n)) rfl
  obtain ⟨r22, h23, hf⟩ := bind_some hf
  refine at_op (op_call rfl rfl rfl rfl hE rfl rfl rfl rfl (by kernel_rfl) (wire_take_api_Hash.calls (g := g) h23 (hS.st.fore (L := [bx b1 94 (c_T_wire_Reader (x3) A4 c5)])) h6) (fun a v w hR hE => ?_)) rfl
  obtain ⟨D24, A26, c27, rfl, hS1, h28⟩ := hR
  have le29 := hS1.dle
  have hS := hS.callR hS1 rfl (.c .n)
  clear hS1
  have hS := hS.pk (.c 1 rfl (.c 0 rfl .n)) rfl
  refine at_op (op_store (v := .agg (List.toArray (acells .u8 32 (r22.1)))) (acells .u8 32 (r22.1)) rfl rfl rfl rfl hE hS rfl rfl (by kernel_rfl) (by kernel_rfl) (by kernel_rfl) (by kernel_rfl) (by kernel_rfl) (fun a w _ hE hS => ?_)) rfl
  refine at_end rfl ?_
  refine wpIn_ret ?_
  obtain rfl := Option.some.inj hf
  repeat (with_reducible first | refine then_ret ?_ | refine block_ret ?_ | refine qx_ret ?_)
  refine ret_gen ([.agg (List.toArray (acells .u8 32 (r22.1)))]) hE (by rw [show Try.f33.results.toList = [.cell 2 23] from rfl]; exact ⟨_, _, _, 0, _, _, rfl, rfl, hS.heapAt (j := 0) rfl, by kernel_rfl, rfl⟩) ?_
  have hS := hS.pk (.c 1 rfl .n) rfl
  exact ⟨_, rfl, D24, A26, c27, rfl, hS, h28⟩

set_option maxRecDepth 100000 in
set_option maxHeartbeats 4000000 in
theorem bundle_Get_1.calls {K : Nat} {g w0 : World} {D0 : Snap} {x5 : Int} {x6 : T_wire_Reader} {b1 : Nat} {b2 : Nat} {A7 : Option Addr} {c8 : Nat} {r : (T_api_Sig × T_wire_Reader)} (hf : bundle_Get_1.f K x5 x6 = some r) (hS0 : St g w0 D0 [bx b1 65 ([.pointer (some ⟨b2, 0, none⟩)]), bx b2 94 (c_T_wire_Reader (x6) A7 c8)]) (h9 : Sl (kdInt .u8) D0 A7 c8 (x6.fB)) :
    CallsIn (Fw none) 0 Try.prog 35 (List.toArray [.int .i64 (x5), .pointer (some ⟨b1, 0, none⟩)]) w0 (fun e w' => ∃ v, e = .returned v ∧ ∃ (D1 : Snap) (A48 : Option Addr) (c49 : Nat), v = .agg (List.toArray (c_T_api_Sig ((T_api_Sig.mk (r.1.fWit) (r.1.fTag))))) ∧ Stp g w0 D0 [bx b1 65 ([.pointer (some ⟨b2, 0, none⟩)]), bx b2 94 (c_T_wire_Reader (x6) A7 c8)] w' D1 [bx b1 65 ([.pointer (some ⟨b2, 0, none⟩)]), bx b2 94 (c_T_wire_Reader ((T_wire_Reader.mk (r.2.fB) (r.2.fBad))) A48 c49)] ∧ Sl (kdInt .u8) D1 A48 c49 (r.2.fB)) := by
  unfold bundle_Get_1.f at hf
  have hS := Stp.refl hS0
  clear hS0
  refine calls_body (n := 9) Try.func35 rfl Try.ntmps35 rfl (fun a hE => ?_)
  have hE : Env a 9 [] [(0, .int .i64 (x5)), (1, .pointer (some ⟨b1, 0, none⟩))] := hE
  refine wpIn_seq ?_
  refine region_at ?_
  refine at_op (op_alloc (z := .agg (List.toArray (c_T_api_Sig ((T_api_Sig.mk ((0 : Int)) ((Vector.replicate 32 (0 : Int)))))))) rfl rfl rfl rfl hE rfl hS (by kernel_rfl) (fun a b51 w _ hE hS => ?_)) rfl
  refine at_end rfl ?_
  refine wpIn_seq ?_
  refine region_draw (fun j => Keeps (mfOf [(1, [b2]), (3, [b2]), (5, [b51])] j)) (by kernel_rfl) ?_
  have hS := hS.drew
  first | generalize w.drew = w at hS ⊢ | generalize w0.drew = w at hS ⊢
  refine tN (T := [(1, [b2]), (3, [b2]), (5, [b51])]) [3] 0 1 (fuel := 5) (by kernel_rfl) hE (tk_load 1 (.pointer (some ⟨b2, 0, none⟩)) rfl rfl rfl rfl hE rfl hS rfl rfl (by kernel_rfl) (kL (j := 1) hS rfl (show b1 ∉ [b2] from (nm_cons (hS.ne (i := 1) (j := 2) (by decide) rfl rfl) List.not_mem_nil))) (fun a hE => ?_))
  refine tN (T := [(1, [b2]), (3, [b2]), (5, [b51])]) [1] 2 5 (fuel := 4) (by kernel_rfl) hE (tk_load 1 (.pointer (some ⟨b2, 0, none⟩)) rfl rfl rfl rfl hE rfl hS rfl rfl (by kernel_rfl) (kL (j := 1) hS rfl (show b1 ∉ [b2] from (nm_cons (hS.ne (i := 1) (j := 2) (by decide) rfl rfl) List.not_mem_nil))) (fun a hE => ?_))
  have hS := hS.pk (.c 2 rfl (.c 0 rfl (.c 1 rfl .n))) rfl
  obtain ⟨r71, h72, hf⟩ := bind_some hf
  refine oG 1 7 (fuel := 3) (by kernel_rfl) (op_call rfl rfl rfl rfl hE rfl rfl rfl rfl (by kernel_rfl) (wire_Reader_Num.calls (g := g) h72 (hS.st.fore (L := [bx b2 94 (c_T_wire_Reader (x6) A7 c8)])) h9) (fun a v w hR hE => ?_))
  obtain ⟨D73, A75, c76, rfl, hS1, h77⟩ := hR
  refine ⟨(hS1.keeps.sub (M' := [b2]) ⟨.inl (List.Mem.head _), trivial⟩).mono (fun _ h => h), ?_⟩
  have le78 := hS1.dle
  have hS := hS.callR hS1 rfl (.c .n)
  clear hS1
  obtain ⟨r79, h80, hf⟩ := bind_some hf
  refine oG 3 15 (fuel := 2) (by kernel_rfl) (op_call rfl rfl rfl rfl hE rfl rfl rfl rfl (by kernel_rfl) (wire_Reader_Hash.calls (g := g) h80 (hS.st.fore (L := [bx b2 94 (c_T_wire_Reader (r71.2) A75 c76)])) h77) (fun a v w hR hE => ?_))
  obtain ⟨D81, A83, c84, rfl, hS1, h85⟩ := hR
  refine ⟨(hS1.keeps.sub (M' := [b2]) ⟨.inl (List.Mem.head _), trivial⟩).mono (fun _ h => h), ?_⟩
  have le86 := hS1.dle
  have hS := hS.callR hS1 rfl (.c .n)
  clear hS1
  refine tW 4 31 (fuel := 1) (by kernel_rfl) hE (fun M => tk_build (c_T_api_Sig ((T_api_Sig.mk (r71.1) (r79.1)))) rfl rfl rfl rfl hE rfl rfl (by kernel_rfl) (fun a hE => ?_))
  have hS := hS.pk (.c 1 rfl (.c 0 rfl (.c 2 rfl .n))) rfl
  obtain ⟨v87, hv88, hf⟩ := bind_some hf
  replace hv88 := Option.some.inj hv88
  refine oG 5 63 (fuel := 0) (by kernel_rfl) (op_store (v := .agg (List.toArray (c_T_api_Sig ((T_api_Sig.mk (r71.1) (r79.1)))))) (c_T_api_Sig (v87)) rfl rfl rfl rfl hE hS rfl rfl (by kernel_rfl) (by kernel_rfl) (by kernel_rfl) (by kernel_rfl) (by rw [← hv88]; kernel_rfl) (fun a w hkp hE hS => ⟨hkp.mono (fun _ h => h), ?_⟩))
  clear hkp
  refine doneG (by kernel_rfl) ?_
  refine wpIn_ret ?_
  obtain rfl := Option.some.inj hf
  repeat (with_reducible first | refine then_ret ?_ | refine block_ret ?_ | refine qx_ret ?_)
  refine ret_gen ([.agg (List.toArray (c_T_api_Sig (v87)))]) hE (by rw [show Try.f35.results.toList = [.cell 3 43] from rfl]; exact ⟨_, _, _, 0, _, _, rfl, rfl, hS.heapAt (j := 0) rfl, by kernel_rfl, rfl⟩) ?_
  have hS := hS.pk (.c 2 rfl (.c 1 rfl .n)) rfl
  exact ⟨_, rfl, D81, A83, c84, rfl, hS, h85⟩

set_option maxRecDepth 100000 in
set_option maxHeartbeats 4000000 in
theorem bundle_read_api_Sig.calls {K : Nat} {g w0 : World} {D0 : Snap} {x5 : Int} {x6 : Int} {x7 : T_wire_Reader} {b1 : Nat} {b2 : Nat} {A8 : Option Addr} {c9 : Nat} {r : ((List T_api_Sig) × T_wire_Reader)} (hf : bundle_read_api_Sig.f K x5 x6 x7 = some r) (hS0 : St g w0 D0 [bx b1 94 (c_T_wire_Reader (x7) A8 c9), bx b2 65 ([.pointer (some ⟨b1, 0, none⟩)])]) (h10 : Sl (kdInt .u8) D0 A8 c9 (x7.fB)) :
    CallsIn (Fw none) 0 Try.prog 34 (List.toArray [.pointer (some ⟨b1, 0, none⟩), .int .i64 (x5), .int .i64 (x6), .func (.func 35) #[] #[.pointer (some ⟨b2, 0, none⟩)]]) w0 (fun e w' => ∃ v, e = .returned v ∧ ∃ (D1 : Snap) (A565 : Option Addr) (c566 : Nat) (q567 : Blk) (A570 : Option Addr) (c571 : Nat), v = .slice A565 (List.length (r.1)) c566 ∧ Stp g w0 D0 [bx b1 94 (c_T_wire_Reader (x7) A8 c9), bx b2 65 ([.pointer (some ⟨b1, 0, none⟩)])] w' D1 [bx b1 94 (c_T_wire_Reader ((T_wire_Reader.mk (r.2.fB) (r.2.fBad))) A570 c571), bx b2 65 ([.pointer (some ⟨b1, 0, none⟩)]), q567] ∧ OwnD kd_T_api_Sig 43 D1 A565 c566 (r.1) q567 ∧ Sl (kdInt .u8) D1 A570 c571 (r.2.fB)) := by
  unfold bundle_read_api_Sig.f at hf
  have hS := Stp.refl hS0
  clear hS0
  refine calls_body (n := 31) Try.func34 rfl Try.ntmps34 rfl (fun a hE => ?_)
  have hE : Env a 31 [] [(0, .pointer (some ⟨b1, 0, none⟩)), (1, .int .i64 (x5)), (2, .int .i64 (x6)), (3, .func (.func 35) #[] #[.pointer (some ⟨b2, 0, none⟩)])] := hE
  refine wpIn_seq ?_
  refine region_at ?_
  refine segN 1 (j := 1) [(8, .slice none 0 0)] hE (by kernel_rfl) rfl (fun a hE => ?_)
  refine at_end rfl ?_
  obtain ⟨j1117, hj1118, hf⟩ := jn_elim hf
  refine seq_join (fun a w => ∃ (y581 : T_wire_Reader), ∃ (A584 : Option Addr), ∃ (c585 : Nat), ∃ (D582 : Snap), Env a 31 [] [(0, .pointer (some ⟨b1, 0, none⟩)), (1, .int .i64 (x5)), (3, .func (.func 35) #[] #[.pointer (some ⟨b2, 0, none⟩)])] ∧ Stp g w0 D0 [bx b1 94 (c_T_wire_Reader (x7) A8 c9), bx b2 65 ([.pointer (some ⟨b1, 0, none⟩)])] w D582 [bx b1 94 (c_T_wire_Reader (y581) A584 c585), bx b2 65 ([.pointer (some ⟨b1, 0, none⟩)])] ∧ Snap.le D0 D582 ∧ Sl (kdInt .u8) D582 A584 c585 (y581.fB) ∧ j1117 y581 = some r) ?_ ?_
  · clear hj1118
    refine wpIn_seq ?_
    refine region_at ?_
    refine segN 3 (j := 3) [(13, .bool ((decide (x6 < x5))))] hE (by kernel_rfl) rfl (fun a hE => ?_)
    refine at_end rfl ?_
    refine cond_split hE (b := (decide (x6 < x5))) rfl (fun hb => ?_) (fun hb => ?_)
    · replace hf := cond_t hb hf
      clear hb
      refine region_at ?_
      refine segN 1 (j := 1) [(14, .pointer (some ⟨b1, 0, none⟩))] hE (by kernel_rfl) rfl (fun a hE => ?_)
      obtain ⟨r1119, h1120, hf⟩ := bind_some hf
      refine at_op (op_call rfl rfl rfl rfl hE rfl rfl rfl rfl (by kernel_rfl) (wire_Reader_Fail.calls (g := g) h1120 (hS.st.fore (L := [bx b1 94 (c_T_wire_Reader (x7) A8 c9)])) h10) (fun a v w hR hE => ?_)) rfl
      obtain ⟨D1121, A1123, c1124, rfl, hS1, h1125⟩ := hR
      have le1126 := hS1.dle
      have hS := hS.callR hS1 rfl (.c .n)
      clear hS1
      refine at_end rfl ?_
      exact ⟨r1119, A1123, c1124, D1121, hE.weak (by kernel_rfl), hS, le1126, h1125, hf⟩
    · replace hf := cond_f hb hf
      clear hb
      refine wpIn_skip ?_
      exact ⟨x7, A8, c9, D0, hE.weak (by kernel_rfl), hS, Snap.le.refl _, h10, hf⟩
  · clear hE hS
    rintro a w ⟨y581, A584, c585, D582, hE, hS, le583, h586, hf⟩
    replace hf := hj1118 _ hf
    clear hj1118
    refine wpIn_seq ?_
    refine region_at ?_
    refine segN 1 (j := 1) [(9, .slice none 0 0)] hE (by kernel_rfl) rfl (fun a hE => ?_)
    refine at_end rfl ?_
    refine wpIn_seq ?_
    refine wpIn_seq ?_
    refine region_at ?_
    refine segN 2 (j := 2) [(16, .int .i64 (x5)), (17, .int .i64 ((0 : Int)))] hE (by kernel_rfl) rfl (fun a hE => ?_)
    refine at_end rfl ?_
    obtain ⟨s1046, hf, hs1047⟩ := bind_some hf
    have hS := hS.nils
    have hS := hS.pk (.c 1 rfl (.c 2 rfl (.c 0 rfl .n))) rfl
    refine block_loop (fun a w => ∃ (z1035 : (List T_api_Sig) × T_wire_Reader), ∃ (A1038 : Option Addr), ∃ (c1039 : Nat), ∃ (q1040 : Blk), ∃ (A1043 : Option Addr), ∃ (c1044 : Nat), ∃ (D1036 : Snap), Env a 31 [] [(9, .slice A1038 (List.length (z1035.1)) c1039)] ∧ Stp g w0 D0 [bx b1 94 (c_T_wire_Reader (x7) A8 c9), bx b2 65 ([.pointer (some ⟨b1, 0, none⟩)])] w D1036 [bx b1 94 (c_T_wire_Reader (z1035.2) A1043 c1044), bx b2 65 ([.pointer (some ⟨b1, 0, none⟩)]), q1040] ∧ Snap.le D582 D1036 ∧ OwnD kd_T_api_Sig 43 D1036 A1038 c1039 (z1035.1) q1040 ∧ Sl (kdInt .u8) D1036 A1043 c1044 (z1035.2.fB) ∧ z1035 = s1046) (fun k a w => ∃ (y945 : (List T_api_Sig) × Int × T_wire_Reader), ∃ (A948 : Option Addr), ∃ (c949 : Nat), ∃ (q950 : Blk), ∃ (A953 : Option Addr), ∃ (c954 : Nat), ∃ (D946 : Snap), Env a 31 [] [(0, .pointer (some ⟨b1, 0, none⟩)), (3, .func (.func 35) #[] #[.pointer (some ⟨b2, 0, none⟩)]), (9, .slice A948 (List.length (y945.1)) c949), (16, .int .i64 (x5)), (17, .int .i64 (y945.2.1))] ∧ Stp g w0 D0 [bx b1 94 (c_T_wire_Reader (x7) A8 c9), bx b2 65 ([.pointer (some ⟨b1, 0, none⟩)])] w D946 [bx b1 94 (c_T_wire_Reader (y945.2.2) A953 c954), bx b2 65 ([.pointer (some ⟨b1, 0, none⟩)]), q950] ∧ Snap.le D582 D946 ∧ OwnD kd_T_api_Sig 43 D946 A948 c949 (y945.1) q950 ∧ Sl (kdInt .u8) D946 A953 c954 (y945.2.2.fB) ∧ bundle_read_api_Sig_l1.l K x5 k y945 = some s1046) K ?_ ?_ ?_
    · exact ⟨(([] : List T_api_Sig), (0 : Int), y581), none, 0, none, A584, c585, D582, hE.weak (by kernel_rfl), hS, Snap.le.refl _, (OwnD.nil kd_T_api_Sig 43 D582), h586, hf⟩
    · clear hE hS hf
      rintro a w ⟨z1035, A1038, c1039, q1040, A1043, c1044, D1036, hE, hS, le1037, h1041, h1045, rfl⟩
      have hf := hs1047
      clear hs1047
      refine wpIn_seq ?_
      refine region_at ?_
      refine segN 2 (j := 2) [(8, .slice A1038 (List.length (z1035.1)) c1039)] hE (by kernel_rfl) rfl (fun a hE => ?_)
      refine at_end rfl ?_
      refine wpIn_ret ?_
      obtain rfl := Option.some.inj hf
      repeat (with_reducible first | refine then_ret ?_ | refine block_ret ?_ | refine qx_ret ?_)
      refine ret_gen ([.slice A1038 (List.length (z1035.1)) c1039]) hE (by rw [show Try.f34.results.toList = [.tmp 8] from rfl]; exact ⟨_, _, rfl, rfl, rfl⟩) ?_
      exact ⟨_, rfl, D1036, A1038, c1039, q1040, A1043, c1044, rfl, hS, h1041, h1045⟩
    · clear hE hS hf
      rintro k a w ⟨y945, A948, c949, q950, A953, c954, D946, hE, hS, le947, h951, h955, hf⟩
      obtain ⟨k, rfl, hf⟩ := bundle_read_api_Sig_l1.some _ hf
      refine ⟨k, rfl, ?_⟩
      unfold bundle_read_api_Sig_l1.b at hf
      refine wpIn_seq ?_
      refine region_at ?_
      refine segN 1 (j := 1) [(18, .bool ((decide (y945.2.1 < x5))))] hE (by kernel_rfl) rfl (fun a hE => ?_)
      refine at_end rfl ?_
      refine wpIn_seq ?_
      refine cond_split hE (b := (decide (y945.2.1 < x5))) rfl (fun hb => ?_) (fun hb => ?_)
      · replace hf := cond_t hb hf
        clear hb
        refine wpIn_skip ?_
        refine wpIn_seq ?_
        refine wpIn_block ?_
        refine wpIn_seq ?_
        refine region_at ?_
        refine segN 2 (j := 2) [(10, .int .i64 (y945.2.1))] hE (by kernel_rfl) rfl (fun a hE => ?_)
        refine at_end rfl ?_
        refine wpIn_seq ?_
        refine wpIn_seq ?_
        refine region_at ?_
        refine segN 1 (j := 1) [(20, .pointer (some ⟨b1, 0, none⟩))] hE (by kernel_rfl) rfl (fun a hE => ?_)
        obtain ⟨r1087, h1088, hf⟩ := bind_some hf
        refine at_op (op_call rfl rfl rfl rfl hE rfl rfl rfl rfl (by kernel_rfl) (wire_Reader_Bad.calls (g := g) h1088 (hS.st.fore (L := [bx b1 94 (c_T_wire_Reader (y945.2.2) A953 c954)])) h955) (fun a v w hR hE => ?_)) rfl
        obtain ⟨D1089, rfl, hS1⟩ := hR
        have le1091 := hS1.dle
        have hS := hS.callR hS1 rfl (.c .n)
        clear hS1
        refine segN 1 (j := 3) [(22, .bool ((!decide (r1087 = (0 : Int)))))] hE (by kernel_rfl) rfl (fun a hE => ?_)
        refine at_end rfl ?_
        refine cond_split hE (b := (!decide (r1087 = (0 : Int)))) rfl (fun hb => ?_) (fun hb => ?_)
        · replace hf := cond_t hb hf
          clear hb
          refine wpIn_exit ?_
          obtain rfl := Option.some.inj hf
          exact ⟨(y945.1, y945.2.2), A948, c949, q950, A953, c954, D1089, hE.weak (by kernel_rfl), hS, (Snap.le.trans le947 le1091), (h951.mono le1091), (h955.mono le1091), rfl⟩
        · replace hf := cond_f hb hf
          clear hb
          refine wpIn_skip ?_
          refine region_at ?_
          refine segN 3 (j := 3) [(23, .slice A948 (List.length (y945.1)) c949), (24, .func (.func 35) #[] #[.pointer (some ⟨b2, 0, none⟩)]), (25, .int .i64 (y945.2.1))] hE (by kernel_rfl) rfl (fun a hE => ?_)
          have hS := hS.pk (.c 1 rfl (.c 0 rfl (.c 2 rfl .n))) rfl
          obtain ⟨r1092, h1093, hf⟩ := bind_some hf
          refine at_op (op_call rfl rfl rfl rfl hE rfl rfl rfl rfl (by kernel_rfl) (bundle_Get_1.calls (g := g) h1093 (hS.st.fore (L := [bx b2 65 ([.pointer (some ⟨b1, 0, none⟩)]), bx b1 94 (c_T_wire_Reader (y945.2.2) A953 c954)])) (h955.mono le1091)) (fun a v w hR hE => ?_)) rfl
          obtain ⟨D1094, A1096, c1097, rfl, hS1, h1098⟩ := hR
          have le1099 := hS1.dle
          have hS := hS.callR hS1 rfl (.c (.c .n))
          clear hS1
          refine at_op (op_buildSlice (K := kd_T_api_Sig) (e := 43) (cs := (c_T_api_Sig (r1092.1)) ++ []) ([r1092.1] : List T_api_Sig) rfl rfl rfl rfl hE rfl hS rfl (by kernel_rfl) rfl rfl (by exact (show RL kd_T_api_Sig D1094 ([r1092.1] : List T_api_Sig) ((c_T_api_Sig (r1092.1)) ++ []) from ⟨_, _, rfl, (kd_T_api_Sig_mk (D := D1094) (x := r1092.1) rfl rfl), rfl⟩)) (fun a A1100 q1101 w _ hE h1102 hS => ?_)) rfl
          obtain ⟨D1104, q1107, le1105, hS, h1108, h1106⟩ := hS.lent h1102
          have hS := hS.pk (.c 3 rfl (.c 0 rfl (.c 1 rfl (.c 2 rfl .n)))) rfl
          obtain ⟨l1109, h1110, hf⟩ := bind_some hf
          refine at_op (g_append (K := kd_T_api_Sig) (e := 43) (bytes := 40) (l := y945.1) (m := ([r1092.1] : List T_api_Sig)) rfl rfl rfl rfl hE rfl hS rfl rfl (by kernel_rfl) rfl rfl (h951.mono (Snap.le.trans (Snap.le.trans le1091 le1099) le1105)) h1106 h1110 (fun a A1111 c1112 q1113 w _ hE h1114 hS => ?_)) rfl
          refine segN 1 (j := 7) [(9, .slice A1111 (List.length (l1109)) c1112)] hE (by kernel_rfl) rfl (fun a hE => ?_)
          refine at_end rfl ?_
          refine region_at ?_
          refine segN 2 (j := 2) [(17, .int .i64 ((IntKind.wrap .i64 (y945.2.1 + (1 : Int)))))] hE (by kernel_rfl) rfl (fun a hE => ?_)
          refine at_end rfl ?_
          have hS := hS.pk (.c 3 rfl (.c 2 rfl (.c 0 rfl .n))) rfl
          exact ⟨(l1109, (IntKind.wrap .i64 (y945.2.1 + (1 : Int))), r1092.2), A1111, c1112, q1113, A1096, c1097, D1104, hE.weak (by kernel_rfl), hS, (Snap.le.trans (Snap.le.trans (Snap.le.trans le947 le1091) le1099) le1105), h1114, (h1098.mono le1105), hf⟩
      · replace hf := cond_f hb hf
        clear hb
        refine wpIn_exit ?_
        obtain rfl := Option.some.inj hf
        exact ⟨(y945.1, y945.2.2), A948, c949, q950, A953, c954, D946, hE.weak (by kernel_rfl), hS, le947, h951, h955, rfl⟩

set_option maxRecDepth 100000 in
set_option maxHeartbeats 4000000 in
theorem rec_steps.calls {K : Nat} {g w0 : World} {D0 : Snap} {x3 : T_wire_Reader} {b1 : Nat} {A4 : Option Addr} {c5 : Nat} {r : ((List T_api_Step) × T_wire_Reader)} (hf : rec_steps.f K x3 = some r) (hS0 : St g w0 D0 [bx b1 94 (c_T_wire_Reader (x3) A4 c5)]) (h6 : Sl (kdInt .u8) D0 A4 c5 (x3.fB)) :
    CallsIn (Fw none) 0 Try.prog 67 (List.toArray [.pointer (some ⟨b1, 0, none⟩)]) w0 (fun e w' => ∃ v, e = .returned v ∧ ∃ (D1 : Snap) (A665 : Option Addr) (c666 : Nat) (q667 : Blk) (A670 : Option Addr) (c671 : Nat), v = .slice A665 (List.length (r.1)) c666 ∧ Stp g w0 D0 [bx b1 94 (c_T_wire_Reader (x3) A4 c5)] w' D1 [bx b1 94 (c_T_wire_Reader ((T_wire_Reader.mk (r.2.fB) (r.2.fBad))) A670 c671), q667] ∧ OwnD kd_T_api_Step 104 D1 A665 c666 (r.1) q667 ∧ Sl (kdInt .u8) D1 A670 c671 (r.2.fB)) := by
  unfold rec_steps.f at hf
  have hS := Stp.refl hS0
  clear hS0
  refine calls_body (n := 27) Try.func67 rfl Try.ntmps67 rfl (fun a hE => ?_)
  have hE : Env a 27 [] [(0, .pointer (some ⟨b1, 0, none⟩))] := hE
  refine wpIn_seq ?_
  refine region_at ?_
  refine segN 1 (j := 1) [(2, .slice none 0 0)] hE (by kernel_rfl) rfl (fun a hE => ?_)
  refine at_end rfl ?_
  refine wpIn_seq ?_
  refine region_at ?_
  refine segN 1 (j := 1) [(5, .pointer (some ⟨b1, 0, none⟩))] hE (by kernel_rfl) rfl (fun a hE => ?_)
  obtain ⟨r673, h674, hf⟩ := bind_some hf
  refine at_op (op_call rfl rfl rfl rfl hE rfl rfl rfl rfl (by kernel_rfl) (wire_Reader_Num.calls (g := g) h674 (hS.st.fore (L := [bx b1 94 (c_T_wire_Reader (x3) A4 c5)])) h6) (fun a v w hR hE => ?_)) rfl
  obtain ⟨D675, A677, c678, rfl, hS1, h679⟩ := hR
  have le680 := hS1.dle
  have hS := hS.callR hS1 rfl (.c .n)
  clear hS1
  refine segN 1 (j := 3) [(3, .int .i64 (r673.1))] hE (by kernel_rfl) rfl (fun a hE => ?_)
  refine at_end rfl ?_
  obtain ⟨j1321, hj1322, hf⟩ := jn_elim hf
  refine seq_join (fun a w => ∃ (y689 : T_wire_Reader), ∃ (A692 : Option Addr), ∃ (c693 : Nat), ∃ (D690 : Snap), Env a 27 [] [(0, .pointer (some ⟨b1, 0, none⟩)), (3, .int .i64 (r673.1))] ∧ Stp g w0 D0 [bx b1 94 (c_T_wire_Reader (x3) A4 c5)] w D690 [bx b1 94 (c_T_wire_Reader (y689) A692 c693)] ∧ Snap.le D675 D690 ∧ Sl (kdInt .u8) D690 A692 c693 (y689.fB) ∧ j1321 y689 = some r) ?_ ?_
  · clear hj1322
    refine wpIn_seq ?_
    refine region_at ?_
    refine segN 2 (j := 2) [(8, .bool ((decide ((6 : Int) < r673.1))))] hE (by kernel_rfl) rfl (fun a hE => ?_)
    refine at_end rfl ?_
    refine cond_split hE (b := (decide ((6 : Int) < r673.1))) rfl (fun hb => ?_) (fun hb => ?_)
    · replace hf := cond_t hb hf
      clear hb
      refine region_at ?_
      refine segN 1 (j := 1) [(9, .pointer (some ⟨b1, 0, none⟩))] hE (by kernel_rfl) rfl (fun a hE => ?_)
      obtain ⟨r1323, h1324, hf⟩ := bind_some hf
      refine at_op (op_call rfl rfl rfl rfl hE rfl rfl rfl rfl (by kernel_rfl) (wire_Reader_Fail.calls (g := g) h1324 (hS.st.fore (L := [bx b1 94 (c_T_wire_Reader (r673.2) A677 c678)])) h679) (fun a v w hR hE => ?_)) rfl
      obtain ⟨D1325, A1327, c1328, rfl, hS1, h1329⟩ := hR
      have le1330 := hS1.dle
      have hS := hS.callR hS1 rfl (.c .n)
      clear hS1
      refine at_end rfl ?_
      exact ⟨r1323, A1327, c1328, D1325, hE.weak (by kernel_rfl), hS, le1330, h1329, hf⟩
    · replace hf := cond_f hb hf
      clear hb
      refine wpIn_skip ?_
      exact ⟨r673.2, A677, c678, D675, hE.weak (by kernel_rfl), hS, Snap.le.refl _, h679, hf⟩
  · clear hE hS
    rintro a w ⟨y689, A692, c693, D690, hE, hS, le691, h694, hf⟩
    replace hf := hj1322 _ hf
    clear hj1322
    refine wpIn_seq ?_
    refine region_at ?_
    refine segN 1 (j := 1) [(4, .slice none 0 0)] hE (by kernel_rfl) rfl (fun a hE => ?_)
    refine at_end rfl ?_
    refine wpIn_seq ?_
    refine wpIn_seq ?_
    refine region_at ?_
    refine segN 2 (j := 2) [(11, .int .i64 (r673.1)), (12, .int .i64 ((0 : Int)))] hE (by kernel_rfl) rfl (fun a hE => ?_)
    refine at_end rfl ?_
    obtain ⟨s1234, hf, hs1235⟩ := bind_some hf
    have hS := hS.nils
    have hS := hS.pk (.c 1 rfl (.c 0 rfl .n)) rfl
    refine block_loop (fun a w => ∃ (z1223 : (List T_api_Step) × T_wire_Reader), ∃ (A1226 : Option Addr), ∃ (c1227 : Nat), ∃ (q1228 : Blk), ∃ (A1231 : Option Addr), ∃ (c1232 : Nat), ∃ (D1224 : Snap), Env a 27 [] [(4, .slice A1226 (List.length (z1223.1)) c1227)] ∧ Stp g w0 D0 [bx b1 94 (c_T_wire_Reader (x3) A4 c5)] w D1224 [bx b1 94 (c_T_wire_Reader (z1223.2) A1231 c1232), q1228] ∧ Snap.le D690 D1224 ∧ OwnD kd_T_api_Step 104 D1224 A1226 c1227 (z1223.1) q1228 ∧ Sl (kdInt .u8) D1224 A1231 c1232 (z1223.2.fB) ∧ z1223 = s1234) (fun k a w => ∃ (y1117 : (List T_api_Step) × Int × T_wire_Reader), ∃ (A1120 : Option Addr), ∃ (c1121 : Nat), ∃ (q1122 : Blk), ∃ (A1125 : Option Addr), ∃ (c1126 : Nat), ∃ (D1118 : Snap), Env a 27 [] [(0, .pointer (some ⟨b1, 0, none⟩)), (4, .slice A1120 (List.length (y1117.1)) c1121), (11, .int .i64 (r673.1)), (12, .int .i64 (y1117.2.1))] ∧ Stp g w0 D0 [bx b1 94 (c_T_wire_Reader (x3) A4 c5)] w D1118 [bx b1 94 (c_T_wire_Reader (y1117.2.2) A1125 c1126), q1122] ∧ Snap.le D690 D1118 ∧ OwnD kd_T_api_Step 104 D1118 A1120 c1121 (y1117.1) q1122 ∧ Sl (kdInt .u8) D1118 A1125 c1126 (y1117.2.2.fB) ∧ rec_steps_l1.l K r673 k y1117 = some s1234) K ?_ ?_ ?_
    · exact ⟨(([] : List T_api_Step), (0 : Int), y689), none, 0, none, A692, c693, D690, hE.weak (by kernel_rfl), hS, Snap.le.refl _, (OwnD.nil kd_T_api_Step 104 D690), h694, hf⟩
    · clear hE hS hf
      rintro a w ⟨z1223, A1226, c1227, q1228, A1231, c1232, D1224, hE, hS, le1225, h1229, h1233, rfl⟩
      have hf := hs1235
      clear hs1235
      refine wpIn_seq ?_
      refine region_at ?_
      refine segN 2 (j := 2) [(2, .slice A1226 (List.length (z1223.1)) c1227)] hE (by kernel_rfl) rfl (fun a hE => ?_)
      refine at_end rfl ?_
      refine wpIn_ret ?_
      obtain rfl := Option.some.inj hf
      repeat (with_reducible first | refine then_ret ?_ | refine block_ret ?_ | refine qx_ret ?_)
      refine ret_gen ([.slice A1226 (List.length (z1223.1)) c1227]) hE (by rw [show Try.f67.results.toList = [.tmp 2] from rfl]; exact ⟨_, _, rfl, rfl, rfl⟩) ?_
      exact ⟨_, rfl, D1224, A1226, c1227, q1228, A1231, c1232, rfl, hS, h1229, h1233⟩
    · clear hE hS hf
      rintro k a w ⟨y1117, A1120, c1121, q1122, A1125, c1126, D1118, hE, hS, le1119, h1123, h1127, hf⟩
      obtain ⟨k, rfl, hf⟩ := rec_steps_l1.some _ hf
      refine ⟨k, rfl, ?_⟩
      unfold rec_steps_l1.b at hf
      refine wpIn_seq ?_
      refine region_at ?_
      refine segN 1 (j := 1) [(13, .bool ((decide (y1117.2.1 < r673.1))))] hE (by kernel_rfl) rfl (fun a hE => ?_)
      refine at_end rfl ?_
      refine wpIn_seq ?_
      refine cond_split hE (b := (decide (y1117.2.1 < r673.1))) rfl (fun hb => ?_) (fun hb => ?_)
      · replace hf := cond_t hb hf
        clear hb
        refine wpIn_skip ?_
        refine wpIn_seq ?_
        refine wpIn_block ?_
        refine wpIn_seq ?_
        refine wpIn_seq ?_
        refine region_at ?_
        refine segN 1 (j := 1) [(14, .pointer (some ⟨b1, 0, none⟩))] hE (by kernel_rfl) rfl (fun a hE => ?_)
        obtain ⟨r1283, h1284, hf⟩ := bind_some hf
        refine at_op (op_call rfl rfl rfl rfl hE rfl rfl rfl rfl (by kernel_rfl) (wire_Reader_Bad.calls (g := g) h1284 (hS.st.fore (L := [bx b1 94 (c_T_wire_Reader (y1117.2.2) A1125 c1126)])) h1127) (fun a v w hR hE => ?_)) rfl
        obtain ⟨D1285, rfl, hS1⟩ := hR
        have le1287 := hS1.dle
        have hS := hS.callR hS1 rfl (.c .n)
        clear hS1
        refine segN 1 (j := 3) [(16, .bool ((!decide (r1283 = (0 : Int)))))] hE (by kernel_rfl) rfl (fun a hE => ?_)
        refine at_end rfl ?_
        refine cond_split hE (b := (!decide (r1283 = (0 : Int)))) rfl (fun hb => ?_) (fun hb => ?_)
        · replace hf := cond_t hb hf
          clear hb
          refine wpIn_exit ?_
          obtain rfl := Option.some.inj hf
          exact ⟨(y1117.1, y1117.2.2), A1120, c1121, q1122, A1125, c1126, D1285, hE.weak (by kernel_rfl), hS, (Snap.le.trans le1119 le1287), (h1123.mono le1287), (h1127.mono le1287), rfl⟩
        · replace hf := cond_f hb hf
          clear hb
          refine wpIn_skip ?_
          refine region_at ?_
          refine segN 2 (j := 2) [(17, .slice A1120 (List.length (y1117.1)) c1121), (18, .pointer (some ⟨b1, 0, none⟩))] hE (by kernel_rfl) rfl (fun a hE => ?_)
          obtain ⟨r1288, h1289, hf⟩ := bind_some hf
          refine at_op (op_call rfl rfl rfl rfl hE rfl rfl rfl rfl (by kernel_rfl) (wire_Reader_Num.calls (g := g) h1289 (hS.st.fore (L := [bx b1 94 (c_T_wire_Reader (y1117.2.2) A1125 c1126)])) (h1127.mono le1287)) (fun a v w hR hE => ?_)) rfl
          obtain ⟨D1290, A1292, c1293, rfl, hS1, h1294⟩ := hR
          have le1295 := hS1.dle
          have hS := hS.callR hS1 rfl (.c .n)
          clear hS1
          refine segN 1 (j := 4) [(20, .pointer (some ⟨b1, 0, none⟩))] hE (by kernel_rfl) rfl (fun a hE => ?_)
          obtain ⟨r1296, h1297, hf⟩ := bind_some hf
          refine at_op (op_call rfl rfl rfl rfl hE rfl rfl rfl rfl (by kernel_rfl) (wire_Reader_Num.calls (g := g) h1297 (hS.st.fore (L := [bx b1 94 (c_T_wire_Reader (r1288.2) A1292 c1293)])) h1294) (fun a v w hR hE => ?_)) rfl
          obtain ⟨D1298, A1300, c1301, rfl, hS1, h1302⟩ := hR
          have le1303 := hS1.dle
          have hS := hS.callR hS1 rfl (.c .n)
          clear hS1
          refine at_op (op_tk hE (tk_build (c_T_api_Step ((T_api_Step.mk (r1288.1) (r1296.1)))) rfl rfl rfl rfl hE rfl rfl (by kernel_rfl) (fun a hE => ?_))) rfl
          refine at_op (op_buildSlice (K := kd_T_api_Step) (e := 104) (cs := (c_T_api_Step ((T_api_Step.mk (r1288.1) (r1296.1)))) ++ []) ([(T_api_Step.mk (r1288.1) (r1296.1))] : List T_api_Step) rfl rfl rfl rfl hE rfl hS rfl (by kernel_rfl) rfl rfl (by exact (show RL kd_T_api_Step D1298 ([(T_api_Step.mk (r1288.1) (r1296.1))] : List T_api_Step) ((c_T_api_Step ((T_api_Step.mk (r1288.1) (r1296.1)))) ++ []) from ⟨_, _, rfl, (kd_T_api_Step_mk (D := D1298) (x := (T_api_Step.mk (r1288.1) (r1296.1))) rfl rfl), rfl⟩)) (fun a A1304 q1305 w _ hE h1306 hS => ?_)) rfl
          obtain ⟨D1308, q1311, le1309, hS, h1312, h1310⟩ := hS.lent h1306
          have hS := hS.pk (.c 2 rfl (.c 0 rfl (.c 1 rfl .n))) rfl
          obtain ⟨l1313, h1314, hf⟩ := bind_some hf
          refine at_op (g_append (K := kd_T_api_Step) (e := 104) (bytes := 16) (l := y1117.1) (m := ([(T_api_Step.mk (r1288.1) (r1296.1))] : List T_api_Step)) rfl rfl rfl rfl hE rfl hS rfl rfl (by kernel_rfl) rfl rfl (h1123.mono (Snap.le.trans (Snap.le.trans (Snap.le.trans le1287 le1295) le1303) le1309)) h1310 h1314 (fun a A1315 c1316 q1317 w _ hE h1318 hS => ?_)) rfl
          refine segN 1 (j := 9) [(4, .slice A1315 (List.length (l1313)) c1316)] hE (by kernel_rfl) rfl (fun a hE => ?_)
          refine at_end rfl ?_
          refine region_at ?_
          refine segN 2 (j := 2) [(12, .int .i64 ((IntKind.wrap .i64 (y1117.2.1 + (1 : Int)))))] hE (by kernel_rfl) rfl (fun a hE => ?_)
          refine at_end rfl ?_
          have hS := hS.pk (.c 2 rfl (.c 0 rfl .n)) rfl
          exact ⟨(l1313, (IntKind.wrap .i64 (y1117.2.1 + (1 : Int))), r1296.2), A1315, c1316, q1317, A1300, c1301, D1308, hE.weak (by kernel_rfl), hS, (Snap.le.trans (Snap.le.trans (Snap.le.trans (Snap.le.trans le1119 le1287) le1295) le1303) le1309), h1318, (h1302.mono le1309), hf⟩
      · replace hf := cond_f hb hf
        clear hb
        refine wpIn_exit ?_
        obtain rfl := Option.some.inj hf
        exact ⟨(y1117.1, y1117.2.2), A1120, c1121, q1122, A1125, c1126, D1118, hE.weak (by kernel_rfl), hS, le1119, h1123, h1127, rfl⟩

set_option maxRecDepth 100000 in
set_option maxHeartbeats 4000000 in
theorem wire_Reader_Bytes_1.calls {K : Nat} {g w0 : World} {D0 : Snap} {x3 : (List Int)} {x7 : Int} {b1 : Nat} {A4 : Option Addr} {c5 : Nat} {r : ((List Int) × Int × Int)} (hf : wire_Reader_Bytes_1.f K x3 x7 = some r) (hS0 : St g w0 D0 [bx b1 3 ([.int .i64 (x7)])]) (h6 : Sl (kdInt .u8) D0 A4 c5 (x3)) :
    CallsIn (Fw none) 0 Try.prog 79 (List.toArray [.slice A4 (List.length (x3)) c5, .pointer (some ⟨b1, 0, none⟩)]) w0 (fun e w' => ∃ v, e = .returned v ∧ ∃ (D1 : Snap) (A28 : Option Addr) (c29 : Nat) (q30 : Blk), v = .tuple #[.slice A28 (List.length (r.1)) c29, .int .i64 (r.2.1), .int .i64 (r.2.2)] ∧ Stp g w0 D0 [bx b1 3 ([.int .i64 (x7)])] w' D1 [bx b1 3 ([.int .i64 (x7)]), q30] ∧ OwnD (kdInt .u8) 5 D1 A28 c29 (r.1) q30) := by
  unfold wire_Reader_Bytes_1.f at hf
  have hS := Stp.refl hS0
  clear hS0
  refine calls_body (n := 40) Try.func79 rfl Try.ntmps79 rfl (fun a hE => ?_)
  have hE : Env a 40 [] [(0, .slice A4 (List.length (x3)) c5), (1, .pointer (some ⟨b1, 0, none⟩))] := hE
  refine wpIn_seq ?_
  refine region_at ?_
  refine segN 3 (j := 3) [(3, .slice none 0 0), (4, .int .i64 ((0 : Int))), (5, .int .i64 ((0 : Int)))] hE (by kernel_rfl) rfl (fun a hE => ?_)
  refine at_end rfl ?_
  refine wpIn_seq ?_
  refine region_at ?_
  refine segN 1 (j := 1) [(10, .slice A4 (List.length (x3)) c5)] hE (by kernel_rfl) rfl (fun a hE => ?_)
  obtain ⟨r33, h34, hf⟩ := bind_some hf
  refine at_op (op_call rfl rfl rfl rfl hE rfl rfl rfl rfl (by kernel_rfl) (wire_number.calls (g := g) h34 (hS.st.fore (L := [])) h6) (fun a v w hR hE => ?_)) rfl
  obtain ⟨D35, rfl, hS1⟩ := hR
  have le37 := hS1.dle
  have hS := hS.callR hS1 rfl .n
  clear hS1
  refine segN 7 (j := 9) [(6, .int .i64 (r33.1)), (7, .int .i64 (r33.2.1)), (8, .int .i64 (r33.2.2))] hE (by kernel_rfl) rfl (fun a hE => ?_)
  refine at_end rfl ?_
  refine wpIn_seq ?_
  refine wpIn_block ?_
  refine wpIn_seq ?_
  refine region_at ?_
  refine segN 3 (j := 3) [(15, .bool ((!decide (r33.2.2 = (0 : Int)))))] hE (by kernel_rfl) rfl (fun a hE => ?_)
  refine at_end rfl ?_
  refine cond_split hE (b := (!decide (r33.2.2 = (0 : Int)))) rfl (fun hb => ?_) (fun hb => ?_)
  · replace hf := cond_t hb hf
    clear hb
    refine wpIn_seq ?_
    refine region_at ?_
    refine segN 4 (j := 4) [(3, .slice none 0 0), (4, .int .i64 ((0 : Int))), (5, .int .i64 (r33.2.2))] hE (by kernel_rfl) rfl (fun a hE => ?_)
    refine at_end rfl ?_
    refine wpIn_ret ?_
    have hS := hS.nils
    obtain rfl := Option.some.inj hf
    repeat (with_reducible first | refine then_ret ?_ | refine block_ret ?_ | refine qx_ret ?_)
    refine ret_gen ([.slice none 0 0, .int .i64 ((0 : Int)), .int .i64 (r33.2.2)]) hE (by rw [show Try.f79.results.toList = [.tmp 3, .tmp 4, .tmp 5] from rfl]; exact ⟨_, _, rfl, rfl, ⟨_, _, rfl, rfl, ⟨_, _, rfl, rfl, rfl⟩⟩⟩) ?_
    have hS := hS.pk (.c 1 rfl (.c 0 rfl .n)) rfl
    exact ⟨_, rfl, D35, none, 0, none, rfl, hS, (OwnD.nil (kdInt .u8) 5 D35)⟩
  · replace hf := cond_f hb hf
    clear hb
    refine wpIn_seq ?_
    refine region_at ?_
    refine segN 1 (j := 1) [(20, .int .i64 (r33.1))] hE (by kernel_rfl) rfl (fun a hE => ?_)
    refine at_op (op_tk hE (tk_load 0 (.int .i64 (x7)) rfl rfl rfl rfl hE rfl hS rfl rfl (by kernel_rfl) (kL (j := 0) hS rfl List.not_mem_nil) (fun a hE => ?_))) rfl
    refine segN 2 (j := 4) [(19, .bool ((decide (x7 < r33.1))))] hE (by kernel_rfl) rfl (fun a hE => ?_)
    refine at_end rfl ?_
    refine cond_split hE (b := (decide (x7 < r33.1))) rfl (fun hb => ?_) (fun hb => ?_)
    · replace hf := cond_t hb hf
      clear hb
      refine wpIn_seq ?_
      refine region_at ?_
      refine segN 3 (j := 3) [(3, .slice none 0 0), (4, .int .i64 ((0 : Int))), (5, .int .i64 ((4 : Int)))] hE (by kernel_rfl) rfl (fun a hE => ?_)
      refine at_end rfl ?_
      refine wpIn_ret ?_
      have hS := hS.nils
      obtain rfl := Option.some.inj hf
      repeat (with_reducible first | refine then_ret ?_ | refine block_ret ?_ | refine qx_ret ?_)
      refine ret_gen ([.slice none 0 0, .int .i64 ((0 : Int)), .int .i64 ((4 : Int))]) hE (by rw [show Try.f79.results.toList = [.tmp 3, .tmp 4, .tmp 5] from rfl]; exact ⟨_, _, rfl, rfl, ⟨_, _, rfl, rfl, ⟨_, _, rfl, rfl, rfl⟩⟩⟩) ?_
      have hS := hS.pk (.c 1 rfl (.c 0 rfl .n)) rfl
      exact ⟨_, rfl, D35, none, 0, none, rfl, hS, (OwnD.nil (kdInt .u8) 5 D35)⟩
    · replace hf := cond_f hb hf
      clear hb
      refine wpIn_seq ?_
      refine region_at ?_
      refine segN 7 (j := 7) [(23, .bool ((decide ((IntKind.wrap .i64 (((List.length (x3) : Nat) : Int) - r33.2.1)) < r33.1))))] hE (by kernel_rfl) rfl (fun a hE => ?_)
      refine at_end rfl ?_
      refine cond_split hE (b := (decide ((IntKind.wrap .i64 (((List.length (x3) : Nat) : Int) - r33.2.1)) < r33.1))) rfl (fun hb => ?_) (fun hb => ?_)
      · replace hf := cond_t hb hf
        clear hb
        refine wpIn_seq ?_
        refine region_at ?_
        refine segN 3 (j := 3) [(3, .slice none 0 0), (4, .int .i64 ((0 : Int))), (5, .int .i64 ((3 : Int)))] hE (by kernel_rfl) rfl (fun a hE => ?_)
        refine at_end rfl ?_
        refine wpIn_ret ?_
        have hS := hS.nils
        obtain rfl := Option.some.inj hf
        repeat (with_reducible first | refine then_ret ?_ | refine block_ret ?_ | refine qx_ret ?_)
        refine ret_gen ([.slice none 0 0, .int .i64 ((0 : Int)), .int .i64 ((3 : Int))]) hE (by rw [show Try.f79.results.toList = [.tmp 3, .tmp 4, .tmp 5] from rfl]; exact ⟨_, _, rfl, rfl, ⟨_, _, rfl, rfl, ⟨_, _, rfl, rfl, rfl⟩⟩⟩) ?_
        have hS := hS.pk (.c 1 rfl (.c 0 rfl .n)) rfl
        exact ⟨_, rfl, D35, none, 0, none, rfl, hS, (OwnD.nil (kdInt .u8) 5 D35)⟩
      · replace hf := cond_f hb hf
        clear hb
        refine wpIn_skip ?_
        refine wpIn_seq ?_
        refine region_at ?_
        refine segN 5 (j := 5) [(30, .slice A4 (List.length (x3)) c5), (31, .int .i64 (r33.2.1)), (34, .int .i64 ((IntKind.wrap .i64 (r33.2.1 + r33.1))))] hE (by kernel_rfl) rfl (fun a hE => ?_)
        obtain ⟨l41, h42, hf⟩ := bind_some hf
        refine at_op (op_tk hE (g_slice (K := (kdInt .u8)) (e := 5) (by_ := 1) (zl := 1) rfl rfl rfl rfl hE rfl rfl (by kernel_rfl) ⟨_, rfl⟩ ⟨_, rfl⟩ (h6.mono le37) h42 (fun a A43 c44 hE h45 => ?_))) rfl
        obtain ⟨r46, h47, hf⟩ := bind_some hf
        refine at_op (op_call rfl rfl rfl rfl hE rfl rfl rfl rfl (by kernel_rfl) (slices_Clone_byte_byte.calls (g := g) h47 (hS.st.fore (L := [])) h45) (fun a v w hR hE => ?_)) rfl
        obtain ⟨D48, A50, c51, q52, rfl, hS1, h53⟩ := hR
        have le55 := hS1.dle
        have hS := hS.callR hS1 rfl (.c .n)
        clear hS1
        refine segN 6 (j := 13) [(3, .slice A50 (List.length (r46)) c51), (4, .int .i64 ((IntKind.wrap .i64 (r33.2.1 + r33.1)))), (5, .int .i64 ((0 : Int)))] hE (by kernel_rfl) rfl (fun a hE => ?_)
        refine at_end rfl ?_
        refine wpIn_ret ?_
        obtain rfl := Option.some.inj hf
        repeat (with_reducible first | refine then_ret ?_ | refine block_ret ?_ | refine qx_ret ?_)
        refine ret_gen ([.slice A50 (List.length (r46)) c51, .int .i64 ((IntKind.wrap .i64 (r33.2.1 + r33.1))), .int .i64 ((0 : Int))]) hE (by rw [show Try.f79.results.toList = [.tmp 3, .tmp 4, .tmp 5] from rfl]; exact ⟨_, _, rfl, rfl, ⟨_, _, rfl, rfl, ⟨_, _, rfl, rfl, rfl⟩⟩⟩) ?_
        have hS := hS.pk (.c 1 rfl (.c 0 rfl .n)) rfl
        exact ⟨_, rfl, D48, A50, c51, q52, rfl, hS, h53⟩

set_option maxRecDepth 100000 in
set_option maxHeartbeats 4000000 in
theorem wire_take_byte.calls {K : Nat} {g w0 : World} {D0 : Snap} {x5 : T_wire_Reader} {x9 : Int} {b1 : Nat} {b2 : Nat} {A6 : Option Addr} {c7 : Nat} {r : ((List Int) × T_wire_Reader)} (hf : wire_take_byte.f K x5 x9 = some r) (hS0 : St g w0 D0 [bx b1 94 (c_T_wire_Reader (x5) A6 c7), bx b2 3 ([.int .i64 (x9)])]) (h8 : Sl (kdInt .u8) D0 A6 c7 (x5.fB)) :
    CallsIn (Fw none) 0 Try.prog 78 (List.toArray [.pointer (some ⟨b1, 0, none⟩), .func (.func 79) #[] #[.pointer (some ⟨b2, 0, none⟩)]]) w0 (fun e w' => ∃ v, e = .returned v ∧ ∃ (D1 : Snap) (A54 : Option Addr) (c55 : Nat) (q56 : Blk) (A59 : Option Addr) (c60 : Nat), v = .slice A54 (List.length (r.1)) c55 ∧ Stp g w0 D0 [bx b1 94 (c_T_wire_Reader (x5) A6 c7), bx b2 3 ([.int .i64 (x9)])] w' D1 [bx b1 94 (c_T_wire_Reader ((T_wire_Reader.mk (r.2.fB) (r.2.fBad))) A59 c60), bx b2 3 ([.int .i64 (x9)]), q56] ∧ OwnD (kdInt .u8) 5 D1 A54 c55 (r.1) q56 ∧ Sl (kdInt .u8) D1 A59 c60 (r.2.fB)) := by
  unfold wire_take_byte.f at hf
  have hS := Stp.refl hS0
  clear hS0
  refine calls_body (n := 39) Try.func78 rfl Try.ntmps78 rfl (fun a hE => ?_)
  have hE : Env a 39 [] [(0, .pointer (some ⟨b1, 0, none⟩)), (1, .func (.func 79) #[] #[.pointer (some ⟨b2, 0, none⟩)])] := hE
  refine wpIn_seq ?_
  refine region_at ?_
  refine segN 1 (j := 1) [(4, .slice none 0 0)] hE (by kernel_rfl) rfl (fun a hE => ?_)
  refine at_end rfl ?_
  refine wpIn_seq ?_
  refine region_at ?_
  refine segN 1 (j := 1) [(5, .slice none 0 0)] hE (by kernel_rfl) rfl (fun a hE => ?_)
  refine at_end rfl ?_
  refine wpIn_seq ?_
  refine wpIn_seq ?_
  refine region_at ?_
  refine segN 1 (j := 1) [(9, .pointer (some ⟨b1, 0, none⟩))] hE (by kernel_rfl) rfl (fun a hE => ?_)
  obtain ⟨r67, h68, hf⟩ := bind_some hf
  refine at_op (op_call rfl rfl rfl rfl hE rfl rfl rfl rfl (by kernel_rfl) (wire_Reader_Bad.calls (g := g) h68 (hS.st.fore (L := [bx b1 94 (c_T_wire_Reader (x5) A6 c7)])) h8) (fun a v w hR hE => ?_)) rfl
  obtain ⟨D69, rfl, hS1⟩ := hR
  have le71 := hS1.dle
  have hS := hS.callR hS1 rfl (.c .n)
  clear hS1
  refine segN 1 (j := 3) [(11, .bool ((!decide (r67 = (0 : Int)))))] hE (by kernel_rfl) rfl (fun a hE => ?_)
  refine at_end rfl ?_
  refine cond_split hE (b := (!decide (r67 = (0 : Int)))) rfl (fun hb => ?_) (fun hb => ?_)
  · replace hf := cond_t hb hf
    clear hb
    refine wpIn_seq ?_
    refine region_at ?_
    refine segN 2 (j := 2) [(4, .slice none 0 0)] hE (by kernel_rfl) rfl (fun a hE => ?_)
    refine at_end rfl ?_
    refine wpIn_ret ?_
    have hS := hS.nils
    obtain rfl := Option.some.inj hf
    repeat (with_reducible first | refine then_ret ?_ | refine block_ret ?_ | refine qx_ret ?_)
    refine ret_gen ([.slice none 0 0]) hE (by rw [show Try.f78.results.toList = [.tmp 4] from rfl]; exact ⟨_, _, rfl, rfl, rfl⟩) ?_
    have hS := hS.pk (.c 1 rfl (.c 2 rfl (.c 0 rfl .n))) rfl
    exact ⟨_, rfl, D69, none, 0, none, A6, c7, rfl, hS, (OwnD.nil (kdInt .u8) 5 D69), (h8.mono le71)⟩
  · replace hf := cond_f hb hf
    clear hb
    refine wpIn_skip ?_
    refine wpIn_seq ?_
    refine region_at ?_
    refine segN 3 (j := 3) [(14, .func (.func 79) #[] #[.pointer (some ⟨b2, 0, none⟩)]), (16, .pointer (some ⟨b1, 0, none⟩))] hE (by kernel_rfl) rfl (fun a hE => ?_)
    refine at_op (op_tk hE (g_fieldAddr (fo := 0) (ft := 32) 0 rfl rfl rfl rfl hE rfl rfl (by kernel_rfl) rfl (fun a hE => ?_))) rfl
    refine at_op (op_tk hE (tk_load 0 (.slice A6 (List.length (x5.fB)) c7) rfl rfl rfl rfl hE rfl hS rfl rfl (by kernel_rfl) (kL (j := 0) hS rfl List.not_mem_nil) (fun a hE => ?_))) rfl
    have hS := hS.pk (.c 1 rfl (.c 0 rfl .n)) rfl
    obtain ⟨r73, h74, hf⟩ := bind_some hf
    refine at_op (op_call rfl rfl rfl rfl hE rfl rfl rfl rfl (by kernel_rfl) (wire_Reader_Bytes_1.calls (g := g) h74 (hS.st.fore (L := [bx b2 3 ([.int .i64 (x9)])])) (h8.mono le71)) (fun a v w hR hE => ?_)) rfl
    obtain ⟨D75, A77, c78, q79, rfl, hS1, h80⟩ := hR
    have le82 := hS1.dle
    have hS := hS.callR hS1 rfl (.c (.c .n))
    clear hS1
    refine segN 7 (j := 13) [(6, .slice A77 (List.length (r73.1)) c78), (7, .int .i64 (r73.2.1)), (8, .int .i64 (r73.2.2))] hE (by kernel_rfl) rfl (fun a hE => ?_)
    refine at_end rfl ?_
    refine wpIn_seq ?_
    refine wpIn_seq ?_
    refine region_at ?_
    refine segN 2 (j := 2) [(24, .bool ((!decide (r73.2.2 = (0 : Int)))))] hE (by kernel_rfl) rfl (fun a hE => ?_)
    refine at_end rfl ?_
    refine cond_split hE (b := (!decide (r73.2.2 = (0 : Int)))) rfl (fun hb => ?_) (fun hb => ?_)
    · replace hf := cond_t hb hf
      clear hb
      refine wpIn_seq ?_
      refine region_at ?_
      refine segN 2 (j := 2) [(25, .pointer (some ⟨b1, 0, none⟩)), (26, .int .i64 (r73.2.2))] hE (by kernel_rfl) rfl (fun a hE => ?_)
      have hS := hS.pk (.c 2 rfl (.c 0 rfl (.c 1 rfl .n))) rfl
      obtain ⟨r91, h92, hf⟩ := bind_some hf
      refine at_op (op_call rfl rfl rfl rfl hE rfl rfl rfl rfl (by kernel_rfl) (wire_Reader_Fail.calls (g := g) h92 (hS.st.fore (L := [bx b1 94 (c_T_wire_Reader (x5) A6 c7)])) (h8.mono (Snap.le.trans le71 le82))) (fun a v w hR hE => ?_)) rfl
      obtain ⟨D93, A95, c96, rfl, hS1, h97⟩ := hR
      have le98 := hS1.dle
      have hS := hS.callR hS1 rfl (.c .n)
      clear hS1
      refine at_end rfl ?_
      refine wpIn_seq ?_
      refine region_at ?_
      refine segN 2 (j := 2) [(4, .slice none 0 0)] hE (by kernel_rfl) rfl (fun a hE => ?_)
      refine at_end rfl ?_
      refine wpIn_ret ?_
      have hS := hS.nils
      obtain rfl := Option.some.inj hf
      repeat (with_reducible first | refine then_ret ?_ | refine block_ret ?_ | refine qx_ret ?_)
      refine ret_gen ([.slice none 0 0]) hE (by rw [show Try.f78.results.toList = [.tmp 4] from rfl]; exact ⟨_, _, rfl, rfl, rfl⟩) ?_
      have hS := hS.pk (.c 1 rfl (.c 2 rfl (.c 0 rfl .n))) rfl
      exact ⟨_, rfl, D93, none, 0, none, A95, c96, rfl, hS, (OwnD.nil (kdInt .u8) 5 D93), h97⟩
    · replace hf := cond_f hb hf
      clear hb
      refine wpIn_skip ?_
      refine wpIn_seq ?_
      refine region_at ?_
      refine segN 3 (j := 3) [(29, .pointer (some ⟨b1, 0, none⟩)), (31, .pointer (some ⟨b1, 0, none⟩))] hE (by kernel_rfl) rfl (fun a hE => ?_)
      refine at_op (op_tk hE (g_fieldAddr (fo := 0) (ft := 32) 0 rfl rfl rfl rfl hE rfl rfl (by kernel_rfl) rfl (fun a hE => ?_))) rfl
      refine at_op (op_tk hE (tk_load 2 (.slice A6 (List.length (x5.fB)) c7) rfl rfl rfl rfl hE rfl hS rfl rfl (by kernel_rfl) (kL (j := 2) hS rfl List.not_mem_nil) (fun a hE => ?_))) rfl
      refine segN 1 (j := 6) [(34, .int .i64 (r73.2.1))] hE (by kernel_rfl) rfl (fun a hE => ?_)
      obtain ⟨l100, h101, hf⟩ := bind_some hf
      refine at_op (op_tk hE (g_slice (K := (kdInt .u8)) (e := 5) (by_ := 1) (zl := 1) rfl rfl rfl rfl hE rfl rfl (by kernel_rfl) ⟨_, rfl⟩ rfl (h8.mono (Snap.le.trans le71 le82)) h101 (fun a A102 c103 hE h104 => ?_))) rfl
      refine segN 1 (j := 8) [(36, .pointer (some ⟨b1, 0, none⟩))] hE (by kernel_rfl) rfl (fun a hE => ?_)
      refine at_op (op_tk hE (g_fieldAddr (fo := 0) (ft := 32) 0 rfl rfl rfl rfl hE rfl rfl (by kernel_rfl) rfl (fun a hE => ?_))) rfl
      have hS := hS.pk (.c 2 rfl (.c 0 rfl (.c 1 rfl .n))) rfl
      obtain ⟨v105, hv106, hf⟩ := bind_some hf
      replace hv106 := Option.some.inj hv106
      refine at_op (op_store (v := .slice A102 (List.length (l100)) c103) (c_T_wire_Reader (v105) A102 c103) rfl rfl rfl rfl hE hS rfl rfl (by kernel_rfl) (by kernel_rfl) (by kernel_rfl) (by kernel_rfl) (by rw [← hv106]; kernel_rfl) (fun a w _ hE hS => ?_)) rfl
      have h107 : Sl (kdInt .u8) D75 A102 c103 (v105.fB) := by rw [← hv106]; exact h104
      refine at_end rfl ?_
      refine wpIn_seq ?_
      refine region_at ?_
      refine segN 2 (j := 2) [(4, .slice A77 (List.length (r73.1)) c78)] hE (by kernel_rfl) rfl (fun a hE => ?_)
      refine at_end rfl ?_
      refine wpIn_ret ?_
      obtain rfl := Option.some.inj hf
      repeat (with_reducible first | refine then_ret ?_ | refine block_ret ?_ | refine qx_ret ?_)
      refine ret_gen ([.slice A77 (List.length (r73.1)) c78]) hE (by rw [show Try.f78.results.toList = [.tmp 4] from rfl]; exact ⟨_, _, rfl, rfl, rfl⟩) ?_
      exact ⟨_, rfl, D75, A77, c78, q79, A102, c103, rfl, hS, h80, h107⟩

set_option maxRecDepth 100000 in
set_option maxHeartbeats 4000000 in
theorem wire_Reader_Bytes.calls {K : Nat} {g w0 : World} {D0 : Snap} {x3 : Int} {x4 : T_wire_Reader} {b1 : Nat} {A5 : Option Addr} {c6 : Nat} {r : ((List Int) × T_wire_Reader)} (hf : wire_Reader_Bytes.f K x3 x4 = some r) (hS0 : St g w0 D0 [bx b1 94 (c_T_wire_Reader (x4) A5 c6)]) (h7 : Sl (kdInt .u8) D0 A5 c6 (x4.fB)) :
    CallsIn (Fw none) 0 Try.prog 68 (List.toArray [.pointer (some ⟨b1, 0, none⟩), .int .i64 (x3)]) w0 (fun e w' => ∃ v, e = .returned v ∧ ∃ (D1 : Snap) (A23 : Option Addr) (c24 : Nat) (q25 : Blk) (A28 : Option Addr) (c29 : Nat), v = .slice A23 (List.length (r.1)) c24 ∧ Stp g w0 D0 [bx b1 94 (c_T_wire_Reader (x4) A5 c6)] w' D1 [bx b1 94 (c_T_wire_Reader ((T_wire_Reader.mk (r.2.fB) (r.2.fBad))) A28 c29), q25] ∧ OwnD (kdInt .u8) 5 D1 A23 c24 (r.1) q25 ∧ Sl (kdInt .u8) D1 A28 c29 (r.2.fB)) := by
  unfold wire_Reader_Bytes.f at hf
  have hS := Stp.refl hS0
  clear hS0
  refine calls_body (n := 8) Try.func68 rfl Try.ntmps68 rfl (fun a hE => ?_)
  have hE : Env a 8 [] [(0, .pointer (some ⟨b1, 0, none⟩)), (1, .int .i64 (x3))] := hE
  refine wpIn_seq ?_
  refine region_at ?_
  refine at_op (op_box rfl rfl rfl rfl hE rfl hS rfl (fun a b31 w _ hE hS => ?_)) rfl
  refine segN 1 (j := 2) [(4, .slice none 0 0)] hE (by kernel_rfl) rfl (fun a hE => ?_)
  refine at_end rfl ?_
  refine wpIn_seq ?_
  refine region_at ?_
  refine segN 2 (j := 2) [(5, .pointer (some ⟨b1, 0, none⟩)), (6, .func (.func 79) #[] #[.pointer (some ⟨b31, 0, none⟩)])] hE (by kernel_rfl) rfl (fun a hE => ?_)
  have hS := hS.pk (.c 1 rfl (.c 0 rfl .n)) rfl
  obtain ⟨r33, h34, hf⟩ := bind_some hf
  refine at_op (op_call rfl rfl rfl rfl hE rfl rfl rfl rfl (by kernel_rfl) (wire_take_byte.calls (g := g) h34 (hS.st.fore (L := [bx b1 94 (c_T_wire_Reader (x4) A5 c6), bx b31 3 ([.int .i64 (x3)])])) h7) (fun a v w hR hE => ?_)) rfl
  obtain ⟨D35, A37, c38, q39, A42, c43, rfl, hS1, h40, h44⟩ := hR
  have le45 := hS1.dle
  have hS := hS.callR hS1 rfl (.c (.c (.c .n)))
  clear hS1
  refine segN 1 (j := 4) [(4, .slice A37 (List.length (r33.1)) c38)] hE (by kernel_rfl) rfl (fun a hE => ?_)
  refine at_end rfl ?_
  refine wpIn_ret ?_
  obtain rfl := Option.some.inj hf
  repeat (with_reducible first | refine then_ret ?_ | refine block_ret ?_ | refine qx_ret ?_)
  refine ret_gen ([.slice A37 (List.length (r33.1)) c38]) hE (by rw [show Try.f68.results.toList = [.tmp 4] from rfl]; exact ⟨_, _, rfl, rfl, rfl⟩) ?_
  have hS := hS.pk (.c 0 rfl (.c 2 rfl .n)) rfl
  exact ⟨_, rfl, D35, A37, c38, q39, A42, c43, rfl, hS, h40, h44⟩

set_option maxRecDepth 100000 in
set_option maxHeartbeats 4000000 in
theorem rec_Read.calls {K : Nat} {g w0 : World} {D0 : Snap} {x3 : T_wire_Reader} {b1 : Nat} {A4 : Option Addr} {c5 : Nat} {r : (T_api_Rec × T_wire_Reader)} (hf : rec_Read.f K x3 = some r) (hS0 : St g w0 D0 [bx b1 94 (c_T_wire_Reader (x3) A4 c5)]) (h6 : Sl (kdInt .u8) D0 A4 c5 (x3.fB)) :
    CallsIn (Fw none) 0 Try.prog 38 (List.toArray [.pointer (some ⟨b1, 0, none⟩)]) w0 (fun e w' => ∃ v, e = .returned v ∧ ∃ (D1 : Snap) (A586 : Option Addr) (c587 : Nat) (A589 : Option Addr) (c590 : Nat) (A592 : Option Addr) (c593 : Nat), v = .agg (List.toArray (c_T_api_Rec ((T_api_Rec.mk (r.1.fKind) (r.1.fSaga) (r.1.fSeq) (r.1.fStep) (r.1.fTry) (r.1.fBack) (r.1.fGood) (r.1.fEnd) (r.1.fPart) (r.1.fEpoch) (r.1.fTag) (r.1.fSteps) (r.1.fData) (r.1.fSalt) (r.1.fGone) (r.1.fCom))) A586 c587 A589 c590)) ∧ Stp g w0 D0 [bx b1 94 (c_T_wire_Reader (x3) A4 c5)] w' D1 [bx b1 94 (c_T_wire_Reader ((T_wire_Reader.mk (r.2.fB) (r.2.fBad))) A592 c593)] ∧ Sl kd_T_api_Step D1 A586 c587 (r.1.fSteps) ∧ Sl (kdInt .u8) D1 A589 c590 (r.1.fData) ∧ Sl (kdInt .u8) D1 A592 c593 (r.2.fB)) := by
  unfold rec_Read.f at hf
  have hS := Stp.refl hS0
  clear hS0
  refine calls_body (n := 96) Try.func38 rfl Try.ntmps38 rfl (fun a hE => ?_)
  have hE : Env a 96 [] [(0, .pointer (some ⟨b1, 0, none⟩))] := hE
  refine wpIn_seq ?_
  refine region_at ?_
  refine at_op (op_alloc (z := .agg (List.toArray (c_T_api_Rec (z_T_api_Rec) none 0 none 0))) rfl rfl rfl rfl hE rfl hS (by kernel_rfl) (fun a b595 w _ hE hS => ?_)) rfl
  refine at_end rfl ?_
  refine wpIn_seq ?_
  refine region_at ?_
  refine segN 1 (j := 1) [(4, .pointer (some ⟨b1, 0, none⟩))] hE (by kernel_rfl) rfl (fun a hE => ?_)
  have hS := hS.pk (.c 1 rfl (.c 0 rfl .n)) rfl
  obtain ⟨r597, h598, hf⟩ := bind_some hf
  refine at_op (op_call rfl rfl rfl rfl hE rfl rfl rfl rfl (by kernel_rfl) (wire_Reader_Num.calls (g := g) h598 (hS.st.fore (L := [bx b1 94 (c_T_wire_Reader (x3) A4 c5)])) h6) (fun a v w hR hE => ?_)) rfl
  obtain ⟨D599, A601, c602, rfl, hS1, h603⟩ := hR
  have le604 := hS1.dle
  have hS := hS.callR hS1 rfl (.c .n)
  clear hS1
  refine at_op (op_tk hE (tk_build (c_T_api_Rec ({ z_T_api_Rec with fKind := r597.1 }) none 0 none 0) rfl rfl rfl rfl hE rfl rfl (by kernel_rfl) (fun a hE => ?_))) rfl
  refine at_op (op_alloc (z := .agg (List.toArray (c_T_api_Rec (z_T_api_Rec) none 0 none 0))) rfl rfl rfl rfl hE rfl hS (by kernel_rfl) (fun a b605 w _ hE hS => ?_)) rfl
  obtain ⟨v607, hv608, hf⟩ := bind_some hf
  replace hv608 := Option.some.inj hv608
  refine at_op (op_store (v := .agg (List.toArray (c_T_api_Rec ({ z_T_api_Rec with fKind := r597.1 }) none 0 none 0))) (c_T_api_Rec (v607) none 0 none 0) rfl rfl rfl rfl hE hS rfl rfl (by kernel_rfl) (by kernel_rfl) (by kernel_rfl) (by kernel_rfl) (by rw [← hv608]; kernel_rfl) (fun a w _ hE hS => ?_)) rfl
  have h609 : Sl kd_T_api_Step D599 none 0 (v607.fSteps) := by rw [← hv608]; exact (Sl.nil kd_T_api_Step D599)
  have h610 : Sl (kdInt .u8) D599 none 0 (v607.fData) := by rw [← hv608]; exact (Sl.nil (kdInt .u8) D599)
  refine at_end rfl ?_
  obtain ⟨j914, hj915, hf⟩ := jn_elim hf
  refine seq_join (fun a w => ∃ (y854 : T_wire_Reader × Int × Int × Int × Int × Int × Bool × Bool × Int × Int × Int × (Vector Int 32) × (List T_api_Step) × (List Int) × (Vector Int 32) × Bool × (Vector Int 32)), ∃ (A857 : Option Addr), ∃ (c858 : Nat), ∃ (A860 : Option Addr), ∃ (c861 : Nat), ∃ (A863 : Option Addr), ∃ (c864 : Nat), ∃ (D855 : Snap), Env a 96 [] [(0, .pointer (some ⟨b1, 0, none⟩)), (2, .pointer (some ⟨b595, 0, none⟩)), (3, .pointer (some ⟨b605, 0, none⟩))] ∧ Stp g w0 D0 [bx b1 94 (c_T_wire_Reader (x3) A4 c5)] w D855 [bx b1 94 (c_T_wire_Reader (y854.1) A857 c858), bx b595 47 (c_T_api_Rec (z_T_api_Rec) none 0 none 0), bx b605 47 (c_T_api_Rec ((T_api_Rec.mk (y854.2.1) (y854.2.2.1) (y854.2.2.2.1) (y854.2.2.2.2.1) (y854.2.2.2.2.2.1) (y854.2.2.2.2.2.2.1) (y854.2.2.2.2.2.2.2.1) (y854.2.2.2.2.2.2.2.2.1) (y854.2.2.2.2.2.2.2.2.2.1) (y854.2.2.2.2.2.2.2.2.2.2.1) (y854.2.2.2.2.2.2.2.2.2.2.2.1) (y854.2.2.2.2.2.2.2.2.2.2.2.2.1) (y854.2.2.2.2.2.2.2.2.2.2.2.2.2.1) (y854.2.2.2.2.2.2.2.2.2.2.2.2.2.2.1) (y854.2.2.2.2.2.2.2.2.2.2.2.2.2.2.2.1) (y854.2.2.2.2.2.2.2.2.2.2.2.2.2.2.2.2))) A860 c861 A863 c864)] ∧ Snap.le D599 D855 ∧ Sl (kdInt .u8) D855 A857 c858 (y854.1.fB) ∧ Sl kd_T_api_Step D855 A860 c861 (y854.2.2.2.2.2.2.2.2.2.2.2.2.1) ∧ Sl (kdInt .u8) D855 A863 c864 (y854.2.2.2.2.2.2.2.2.2.2.2.2.2.1) ∧ j914 y854 = some r) ?_ ?_
  · clear hj915
    refine wpIn_seq ?_
    refine region_at ?_
    refine at_op (op_tk hE (g_fieldAddr (fo := 0) (ft := 3) 0 rfl rfl rfl rfl hE rfl rfl (by kernel_rfl) rfl (fun a hE => ?_))) rfl
    refine at_op (op_tk hE (tk_load 0 (.int .i64 (v607.fKind)) rfl rfl rfl rfl hE rfl hS rfl rfl (by kernel_rfl) (kL (j := 0) hS rfl List.not_mem_nil) (fun a hE => ?_))) rfl
    refine at_end rfl ?_
    refine wpIn_block ?_
    refine wpIn_seq ?_
    refine region_at ?_
    refine segN 2 (j := 2) [(11, .bool ((decide (v607.fKind = (1 : Int)))))] hE (by kernel_rfl) rfl (fun a hE => ?_)
    refine at_end rfl ?_
    refine cond_split hE (b := (decide (v607.fKind = (1 : Int)))) rfl (fun hb => ?_) (fun hb => ?_)
    · replace hf := cond_t hb hf
      clear hb
      refine wpIn_seq ?_
      refine region_at ?_
      refine segN 1 (j := 1) [(13, .pointer (some ⟨b1, 0, none⟩))] hE (by kernel_rfl) rfl (fun a hE => ?_)
      have hS := hS.pk (.c 1 rfl (.c 0 rfl (.c 2 rfl .n))) rfl
      obtain ⟨r916, h917, hf⟩ := bind_some hf
      refine at_op (op_call rfl rfl rfl rfl hE rfl rfl rfl rfl (by kernel_rfl) (wire_Reader_Num.calls (g := g) h917 (hS.st.fore (L := [bx b1 94 (c_T_wire_Reader (r597.2) A601 c602)])) h603) (fun a v w hR hE => ?_)) rfl
      obtain ⟨D918, A920, c921, rfl, hS1, h922⟩ := hR
      have le923 := hS1.dle
      have hS := hS.callR hS1 rfl (.c .n)
      clear hS1
      refine segN 1 (j := 3) [(15, .pointer (some ⟨b1, 0, none⟩))] hE (by kernel_rfl) rfl (fun a hE => ?_)
      obtain ⟨r924, h925, hf⟩ := bind_some hf
      refine at_op (op_call rfl rfl rfl rfl hE rfl rfl rfl rfl (by kernel_rfl) (rec_steps.calls (g := g) h925 (hS.st.fore (L := [bx b1 94 (c_T_wire_Reader (r916.2) A920 c921)])) h922) (fun a v w hR hE => ?_)) rfl
      obtain ⟨D926, A928, c929, q930, A933, c934, rfl, hS1, h931, h935⟩ := hR
      have le936 := hS1.dle
      have hS := hS.callR hS1 rfl (.c (.c .n))
      clear hS1
      refine at_op (op_tk hE (g_fieldAddr (fo := 1) (ft := 3) 1 rfl rfl rfl rfl hE rfl rfl (by kernel_rfl) rfl (fun a hE => ?_))) rfl
      have hS := hS.pk (.c 2 rfl (.c 0 rfl (.c 1 rfl (.c 3 rfl .n)))) rfl
      obtain ⟨v937, hv938, hf⟩ := bind_some hf
      replace hv938 := Option.some.inj hv938
      refine at_op (op_store (v := .int .i64 (r916.1)) (c_T_api_Rec (v937) none 0 none 0) rfl rfl rfl rfl hE hS rfl rfl (by kernel_rfl) (by kernel_rfl) (by kernel_rfl) (by kernel_rfl) (by rw [← hv938]; kernel_rfl) (fun a w _ hE hS => ?_)) rfl
      have h939 : Sl kd_T_api_Step D599 none 0 (v937.fSteps) := by rw [← hv938]; exact h609
      have h940 : Sl (kdInt .u8) D599 none 0 (v937.fData) := by rw [← hv938]; exact h610
      refine at_op (op_tk hE (g_fieldAddr (fo := 42) (ft := 45) 42 rfl rfl rfl rfl hE rfl rfl (by kernel_rfl) rfl (fun a hE => ?_))) rfl
      refine at_op (op_store (v := .slice A928 (List.length (r924.1)) c929) (c_T_api_Rec ({ v937 with fSteps := r924.1 }) A928 c929 none 0) rfl rfl rfl rfl hE hS rfl rfl (by kernel_rfl) (by kernel_rfl) (by kernel_rfl) (by kernel_rfl) (by kernel_rfl) (fun a w _ hE hS => ?_)) rfl
      refine at_end rfl ?_
      refine wpIn_seq ?_
      refine region_at ?_
      refine segN 1 (j := 1) [(19, .pointer (some ⟨b1, 0, none⟩))] hE (by kernel_rfl) rfl (fun a hE => ?_)
      have hS := hS.pk (.c 1 rfl (.c 0 rfl (.c 2 rfl (.c 3 rfl .n)))) rfl
      obtain ⟨r941, h942, hf⟩ := bind_some hf
      refine at_op (op_call rfl rfl rfl rfl hE rfl rfl rfl rfl (by kernel_rfl) (wire_Reader_Flag.calls (g := g) h942 (hS.st.fore (L := [bx b1 94 (c_T_wire_Reader (r924.2) A933 c934)])) h935) (fun a v w hR hE => ?_)) rfl
      obtain ⟨D943, A945, c946, rfl, hS1, h947⟩ := hR
      have le948 := hS1.dle
      have hS := hS.callR hS1 rfl (.c .n)
      clear hS1
      refine at_op (op_tk hE (g_fieldAddr (fo := 76) (ft := 4) 76 rfl rfl rfl rfl hE rfl rfl (by kernel_rfl) rfl (fun a hE => ?_))) rfl
      have hS := hS.pk (.c 1 rfl (.c 0 rfl (.c 2 rfl (.c 3 rfl .n)))) rfl
      refine at_op (op_store (v := .bool (r941.1)) (c_T_api_Rec ({ v937 with fSteps := r924.1, fGone := r941.1 }) A928 c929 none 0) rfl rfl rfl rfl hE hS rfl rfl (by kernel_rfl) (by kernel_rfl) (by kernel_rfl) (by kernel_rfl) (by kernel_rfl) (fun a w _ hE hS => ?_)) rfl
      refine at_end rfl ?_
      refine wpIn_seq ?_
      refine region_at ?_
      refine at_op (op_tk hE (g_fieldAddr (fo := 76) (ft := 4) 76 rfl rfl rfl rfl hE rfl rfl (by kernel_rfl) rfl (fun a hE => ?_))) rfl
      refine at_op (op_tk hE (tk_load 0 (.bool (r941.1)) rfl rfl rfl rfl hE rfl hS rfl rfl (by kernel_rfl) (kL (j := 0) hS rfl List.not_mem_nil) (fun a hE => ?_))) rfl
      refine at_end rfl ?_
      refine cond_split hE (b := r941.1) rfl (fun hb => ?_) (fun hb => ?_)
      · replace hf := cond_t hb hf
        clear hb
        refine region_at ?_
        refine segN 1 (j := 1) [(24, .pointer (some ⟨b1, 0, none⟩))] hE (by kernel_rfl) rfl (fun a hE => ?_)
        have hS := hS.pk (.c 1 rfl (.c 0 rfl (.c 2 rfl (.c 3 rfl .n)))) rfl
        obtain ⟨r949, h950, hf⟩ := bind_some hf
        refine at_op (op_call rfl rfl rfl rfl hE rfl rfl rfl rfl (by kernel_rfl) (wire_Reader_Hash.calls (g := g) h950 (hS.st.fore (L := [bx b1 94 (c_T_wire_Reader (r941.2) A945 c946)])) h947) (fun a v w hR hE => ?_)) rfl
        obtain ⟨D951, A953, c954, rfl, hS1, h955⟩ := hR
        have le956 := hS1.dle
        have hS := hS.callR hS1 rfl (.c .n)
        clear hS1
        refine at_op (op_tk hE (g_fieldAddr (fo := 77) (ft := 23) 77 rfl rfl rfl rfl hE rfl rfl (by kernel_rfl) rfl (fun a hE => ?_))) rfl
        have hS := hS.pk (.c 1 rfl (.c 0 rfl (.c 2 rfl (.c 3 rfl .n)))) rfl
        refine at_op (op_store (v := .agg (List.toArray (acells .u8 32 (r949.1)))) (c_T_api_Rec ({ v937 with fSteps := r924.1, fGone := r941.1, fCom := r949.1 }) A928 c929 none 0) rfl rfl rfl rfl hE hS rfl rfl (by kernel_rfl) (by kernel_rfl) (by kernel_rfl) (by kernel_rfl) (by kernel_rfl) (fun a w _ hE hS => ?_)) rfl
        refine at_end rfl ?_
        have hS := hS.pk (.c 2 rfl (.c 0 rfl (.c 1 rfl (.c 3 rfl .n)))) rfl
        obtain ⟨D957, q960, le958, hS, h961, h959⟩ := hS.lent (h931.mono (Snap.le.trans le948 le956))
        have hS := hS.pk (.c 2 rfl (.c 3 rfl (.c 1 rfl .n))) rfl
        exact ⟨(r949.2, v937.fKind, v937.fSaga, v937.fSeq, v937.fStep, v937.fTry, v937.fBack, v937.fGood, v937.fEnd, v937.fPart, v937.fEpoch, v937.fTag, r924.1, v937.fData, v937.fSalt, r941.1, r949.1), A953, c954, A928, c929, none, 0, D957, hE.weak (by kernel_rfl), hS, (Snap.le.trans (Snap.le.trans (Snap.le.trans (Snap.le.trans le923 le936) le948) le956) le958), (h955.mono le958), h959, (h940.mono (Snap.le.trans (Snap.le.trans (Snap.le.trans (Snap.le.trans le923 le936) le948) le956) le958)), hf⟩
      · replace hf := cond_f hb hf
        clear hb
        refine region_at ?_
        refine segN 1 (j := 1) [(27, .pointer (some ⟨b1, 0, none⟩))] hE (by kernel_rfl) rfl (fun a hE => ?_)
        have hS := hS.pk (.c 1 rfl (.c 0 rfl (.c 2 rfl (.c 3 rfl .n)))) rfl
        obtain ⟨r962, h963, hf⟩ := bind_some hf
        refine at_op (op_call rfl rfl rfl rfl hE rfl rfl rfl rfl (by kernel_rfl) (wire_Reader_Hash.calls (g := g) h963 (hS.st.fore (L := [bx b1 94 (c_T_wire_Reader (r941.2) A945 c946)])) h947) (fun a v w hR hE => ?_)) rfl
        obtain ⟨D964, A966, c967, rfl, hS1, h968⟩ := hR
        have le969 := hS1.dle
        have hS := hS.callR hS1 rfl (.c .n)
        clear hS1
        refine segN 1 (j := 3) [(29, .pointer (some ⟨b1, 0, none⟩))] hE (by kernel_rfl) rfl (fun a hE => ?_)
        obtain ⟨r970, h971, hf⟩ := bind_some hf
        refine at_op (op_call rfl rfl rfl rfl hE rfl rfl rfl rfl (by kernel_rfl) (wire_Reader_Bytes.calls (g := g) h971 (hS.st.fore (L := [bx b1 94 (c_T_wire_Reader (r962.2) A966 c967)])) h968) (fun a v w hR hE => ?_)) rfl
        obtain ⟨D972, A974, c975, q976, A979, c980, rfl, hS1, h977, h981⟩ := hR
        have le982 := hS1.dle
        have hS := hS.callR hS1 rfl (.c (.c .n))
        clear hS1
        refine at_op (op_tk hE (g_fieldAddr (fo := 44) (ft := 23) 44 rfl rfl rfl rfl hE rfl rfl (by kernel_rfl) rfl (fun a hE => ?_))) rfl
        have hS := hS.pk (.c 2 rfl (.c 0 rfl (.c 1 rfl (.c 3 rfl (.c 4 rfl .n))))) rfl
        refine at_op (op_store (v := .agg (List.toArray (acells .u8 32 (r962.1)))) (c_T_api_Rec ({ v937 with fSteps := r924.1, fSalt := r962.1, fGone := r941.1 }) A928 c929 none 0) rfl rfl rfl rfl hE hS rfl rfl (by kernel_rfl) (by kernel_rfl) (by kernel_rfl) (by kernel_rfl) (by kernel_rfl) (fun a w _ hE hS => ?_)) rfl
        refine at_op (op_tk hE (g_fieldAddr (fo := 43) (ft := 32) 43 rfl rfl rfl rfl hE rfl rfl (by kernel_rfl) rfl (fun a hE => ?_))) rfl
        refine at_op (op_store (v := .slice A974 (List.length (r970.1)) c975) (c_T_api_Rec ({ v937 with fSteps := r924.1, fData := r970.1, fSalt := r962.1, fGone := r941.1 }) A928 c929 A974 c975) rfl rfl rfl rfl hE hS rfl rfl (by kernel_rfl) (by kernel_rfl) (by kernel_rfl) (by kernel_rfl) (by kernel_rfl) (fun a w _ hE hS => ?_)) rfl
        refine at_end rfl ?_
        have hS := hS.pk (.c 3 rfl (.c 0 rfl (.c 1 rfl (.c 2 rfl (.c 4 rfl .n))))) rfl
        obtain ⟨D983, q986, le984, hS, h987, h985⟩ := hS.lent (h931.mono (Snap.le.trans (Snap.le.trans le948 le969) le982))
        have hS := hS.pk (.c 3 rfl (.c 0 rfl (.c 1 rfl (.c 2 rfl (.c 4 rfl .n))))) rfl
        obtain ⟨D988, q991, le989, hS, h992, h990⟩ := hS.lent (h977.mono le984)
        have hS := hS.pk (.c 3 rfl (.c 4 rfl (.c 2 rfl .n))) rfl
        exact ⟨(r970.2, v937.fKind, v937.fSaga, v937.fSeq, v937.fStep, v937.fTry, v937.fBack, v937.fGood, v937.fEnd, v937.fPart, v937.fEpoch, v937.fTag, r924.1, r970.1, r962.1, r941.1, v937.fCom), A979, c980, A928, c929, A974, c975, D988, hE.weak (by kernel_rfl), hS, (Snap.le.trans (Snap.le.trans (Snap.le.trans (Snap.le.trans (Snap.le.trans (Snap.le.trans le923 le936) le948) le969) le982) le984) le989), (h981.mono (Snap.le.trans le984 le989)), (h985.mono le989), h990, hf⟩
    · replace hf := cond_f hb hf
      clear hb
      obtain ⟨j1172, hj1173, hf⟩ := jn_elim hf
      refine seq_join (fun a w => ∃ (y993 : Bool), ∃ (D994 : Snap), Env a 96 [] [(0, .pointer (some ⟨b1, 0, none⟩)), (2, .pointer (some ⟨b595, 0, none⟩)), (3, .pointer (some ⟨b605, 0, none⟩)), (8, .int .i64 (v607.fKind)), (33, .bool (y993))] ∧ Stp g w0 D0 [bx b1 94 (c_T_wire_Reader (x3) A4 c5)] w D994 [bx b1 94 (c_T_wire_Reader (r597.2) A601 c602), bx b595 47 (c_T_api_Rec (z_T_api_Rec) none 0 none 0), bx b605 47 (c_T_api_Rec (v607) none 0 none 0)] ∧ Snap.le D599 D994 ∧ j1172 y993 = some r) ?_ ?_
      · clear hj1173
        refine wpIn_seq ?_
        refine region_at ?_
        refine segN 2 (j := 2) [(33, .bool ((decide (v607.fKind = (2 : Int)))))] hE (by kernel_rfl) rfl (fun a hE => ?_)
        refine at_end rfl ?_
        refine cond_split hE (b := (decide (v607.fKind = (2 : Int)))) rfl (fun hb => ?_) (fun hb => ?_)
        · replace hf := cond_t hb hf
          clear hb
          refine wpIn_skip ?_
          have hS := hS.pk (.c 1 rfl (.c 2 rfl (.c 0 rfl .n))) rfl
          exact ⟨(decide (v607.fKind = (2 : Int))), D599, hE.weak (by kernel_rfl), hS, Snap.le.refl _, hf⟩
        · replace hf := cond_f hb hf
          clear hb
          refine wpIn_seq ?_
          refine region_at ?_
          refine segN 2 (j := 2) [(33, .bool ((decide (v607.fKind = (4 : Int)))))] hE (by kernel_rfl) rfl (fun a hE => ?_)
          refine at_end rfl ?_
          refine cond_split hE (b := (decide (v607.fKind = (4 : Int)))) rfl (fun hb => ?_) (fun hb => ?_)
          · replace hf := cond_t hb hf
            clear hb
            refine wpIn_skip ?_
            have hS := hS.pk (.c 1 rfl (.c 2 rfl (.c 0 rfl .n))) rfl
            exact ⟨(decide (v607.fKind = (4 : Int))), D599, hE.weak (by kernel_rfl), hS, Snap.le.refl _, hf⟩
          · replace hf := cond_f hb hf
            clear hb
            refine region_at ?_
            refine segN 2 (j := 2) [(33, .bool ((decide (v607.fKind = (3 : Int)))))] hE (by kernel_rfl) rfl (fun a hE => ?_)
            refine at_end rfl ?_
            have hS := hS.pk (.c 1 rfl (.c 2 rfl (.c 0 rfl .n))) rfl
            exact ⟨(decide (v607.fKind = (3 : Int))), D599, hE.weak (by kernel_rfl), hS, Snap.le.refl _, hf⟩
      · clear hE hS
        rintro a w ⟨y993, D994, hE, hS, le995, hf⟩
        replace hf := hj1173 _ hf
        clear hj1173
        refine cond_split hE (b := y993) rfl (fun hb => ?_) (fun hb => ?_)
        · replace hf := cond_t hb hf
          clear hb
          refine wpIn_seq ?_
          refine region_at ?_
          refine segN 1 (j := 1) [(37, .pointer (some ⟨b1, 0, none⟩))] hE (by kernel_rfl) rfl (fun a hE => ?_)
          obtain ⟨r996, h997, hf⟩ := bind_some hf
          refine at_op (op_call rfl rfl rfl rfl hE rfl rfl rfl rfl (by kernel_rfl) (wire_Reader_Num.calls (g := g) h997 (hS.st.fore (L := [bx b1 94 (c_T_wire_Reader (r597.2) A601 c602)])) (h603.mono le995)) (fun a v w hR hE => ?_)) rfl
          obtain ⟨D998, A1000, c1001, rfl, hS1, h1002⟩ := hR
          have le1003 := hS1.dle
          have hS := hS.callR hS1 rfl (.c .n)
          clear hS1
          refine segN 1 (j := 3) [(39, .pointer (some ⟨b1, 0, none⟩))] hE (by kernel_rfl) rfl (fun a hE => ?_)
          obtain ⟨r1004, h1005, hf⟩ := bind_some hf
          refine at_op (op_call rfl rfl rfl rfl hE rfl rfl rfl rfl (by kernel_rfl) (wire_Reader_Num.calls (g := g) h1005 (hS.st.fore (L := [bx b1 94 (c_T_wire_Reader (r996.2) A1000 c1001)])) h1002) (fun a v w hR hE => ?_)) rfl
          obtain ⟨D1006, A1008, c1009, rfl, hS1, h1010⟩ := hR
          have le1011 := hS1.dle
          have hS := hS.callR hS1 rfl (.c .n)
          clear hS1
          refine segN 1 (j := 5) [(41, .pointer (some ⟨b1, 0, none⟩))] hE (by kernel_rfl) rfl (fun a hE => ?_)
          obtain ⟨r1012, h1013, hf⟩ := bind_some hf
          refine at_op (op_call rfl rfl rfl rfl hE rfl rfl rfl rfl (by kernel_rfl) (wire_Reader_Num.calls (g := g) h1013 (hS.st.fore (L := [bx b1 94 (c_T_wire_Reader (r1004.2) A1008 c1009)])) h1010) (fun a v w hR hE => ?_)) rfl
          obtain ⟨D1014, A1016, c1017, rfl, hS1, h1018⟩ := hR
          have le1019 := hS1.dle
          have hS := hS.callR hS1 rfl (.c .n)
          clear hS1
          refine segN 1 (j := 7) [(43, .pointer (some ⟨b1, 0, none⟩))] hE (by kernel_rfl) rfl (fun a hE => ?_)
          obtain ⟨r1020, h1021, hf⟩ := bind_some hf
          refine at_op (op_call rfl rfl rfl rfl hE rfl rfl rfl rfl (by kernel_rfl) (wire_Reader_Num.calls (g := g) h1021 (hS.st.fore (L := [bx b1 94 (c_T_wire_Reader (r1012.2) A1016 c1017)])) h1018) (fun a v w hR hE => ?_)) rfl
          obtain ⟨D1022, A1024, c1025, rfl, hS1, h1026⟩ := hR
          have le1027 := hS1.dle
          have hS := hS.callR hS1 rfl (.c .n)
          clear hS1
          refine segN 1 (j := 9) [(45, .pointer (some ⟨b1, 0, none⟩))] hE (by kernel_rfl) rfl (fun a hE => ?_)
          obtain ⟨r1028, h1029, hf⟩ := bind_some hf
          refine at_op (op_call rfl rfl rfl rfl hE rfl rfl rfl rfl (by kernel_rfl) (wire_Reader_Flag.calls (g := g) h1029 (hS.st.fore (L := [bx b1 94 (c_T_wire_Reader (r1020.2) A1024 c1025)])) h1026) (fun a v w hR hE => ?_)) rfl
          obtain ⟨D1030, A1032, c1033, rfl, hS1, h1034⟩ := hR
          have le1035 := hS1.dle
          have hS := hS.callR hS1 rfl (.c .n)
          clear hS1
          refine at_op (op_tk hE (g_fieldAddr (fo := 1) (ft := 3) 1 rfl rfl rfl rfl hE rfl rfl (by kernel_rfl) rfl (fun a hE => ?_))) rfl
          have hS := hS.pk (.c 2 rfl (.c 0 rfl (.c 1 rfl .n))) rfl
          obtain ⟨v1036, hv1037, hf⟩ := bind_some hf
          replace hv1037 := Option.some.inj hv1037
          refine at_op (op_store (v := .int .i64 (r996.1)) (c_T_api_Rec (v1036) none 0 none 0) rfl rfl rfl rfl hE hS rfl rfl (by kernel_rfl) (by kernel_rfl) (by kernel_rfl) (by kernel_rfl) (by rw [← hv1037]; kernel_rfl) (fun a w _ hE hS => ?_)) rfl
          have h1038 : Sl kd_T_api_Step D599 none 0 (v1036.fSteps) := by rw [← hv1037]; exact h609
          have h1039 : Sl (kdInt .u8) D599 none 0 (v1036.fData) := by rw [← hv1037]; exact h610
          refine at_op (op_tk hE (g_fieldAddr (fo := 2) (ft := 3) 2 rfl rfl rfl rfl hE rfl rfl (by kernel_rfl) rfl (fun a hE => ?_))) rfl
          obtain ⟨v1040, hv1041, hf⟩ := bind_some hf
          replace hv1041 := Option.some.inj hv1041
          refine at_op (op_store (v := .int .i64 (r1004.1)) (c_T_api_Rec (v1040) none 0 none 0) rfl rfl rfl rfl hE hS rfl rfl (by kernel_rfl) (by kernel_rfl) (by kernel_rfl) (by kernel_rfl) (by rw [← hv1041]; kernel_rfl) (fun a w _ hE hS => ?_)) rfl
          have h1042 : Sl kd_T_api_Step D599 none 0 (v1040.fSteps) := by rw [← hv1041]; exact h1038
          have h1043 : Sl (kdInt .u8) D599 none 0 (v1040.fData) := by rw [← hv1041]; exact h1039
          refine at_op (op_tk hE (g_fieldAddr (fo := 3) (ft := 3) 3 rfl rfl rfl rfl hE rfl rfl (by kernel_rfl) rfl (fun a hE => ?_))) rfl
          obtain ⟨v1044, hv1045, hf⟩ := bind_some hf
          replace hv1045 := Option.some.inj hv1045
          refine at_op (op_store (v := .int .i64 (r1012.1)) (c_T_api_Rec (v1044) none 0 none 0) rfl rfl rfl rfl hE hS rfl rfl (by kernel_rfl) (by kernel_rfl) (by kernel_rfl) (by kernel_rfl) (by rw [← hv1045]; kernel_rfl) (fun a w _ hE hS => ?_)) rfl
          have h1046 : Sl kd_T_api_Step D599 none 0 (v1044.fSteps) := by rw [← hv1045]; exact h1042
          have h1047 : Sl (kdInt .u8) D599 none 0 (v1044.fData) := by rw [← hv1045]; exact h1043
          refine at_op (op_tk hE (g_fieldAddr (fo := 4) (ft := 3) 4 rfl rfl rfl rfl hE rfl rfl (by kernel_rfl) rfl (fun a hE => ?_))) rfl
          obtain ⟨v1048, hv1049, hf⟩ := bind_some hf
          replace hv1049 := Option.some.inj hv1049
          refine at_op (op_store (v := .int .i64 (r1020.1)) (c_T_api_Rec (v1048) none 0 none 0) rfl rfl rfl rfl hE hS rfl rfl (by kernel_rfl) (by kernel_rfl) (by kernel_rfl) (by kernel_rfl) (by rw [← hv1049]; kernel_rfl) (fun a w _ hE hS => ?_)) rfl
          have h1050 : Sl kd_T_api_Step D599 none 0 (v1048.fSteps) := by rw [← hv1049]; exact h1046
          have h1051 : Sl (kdInt .u8) D599 none 0 (v1048.fData) := by rw [← hv1049]; exact h1047
          refine at_op (op_tk hE (g_fieldAddr (fo := 5) (ft := 4) 5 rfl rfl rfl rfl hE rfl rfl (by kernel_rfl) rfl (fun a hE => ?_))) rfl
          obtain ⟨v1052, hv1053, hf⟩ := bind_some hf
          replace hv1053 := Option.some.inj hv1053
          refine at_op (op_store (v := .bool (r1028.1)) (c_T_api_Rec (v1052) none 0 none 0) rfl rfl rfl rfl hE hS rfl rfl (by kernel_rfl) (by kernel_rfl) (by kernel_rfl) (by kernel_rfl) (by rw [← hv1053]; kernel_rfl) (fun a w _ hE hS => ?_)) rfl
          have h1054 : Sl kd_T_api_Step D599 none 0 (v1052.fSteps) := by rw [← hv1053]; exact h1050
          have h1055 : Sl (kdInt .u8) D599 none 0 (v1052.fData) := by rw [← hv1053]; exact h1051
          refine at_end rfl ?_
          refine wpIn_seq ?_
          refine region_at ?_
          refine at_op (op_tk hE (g_fieldAddr (fo := 0) (ft := 3) 0 rfl rfl rfl rfl hE rfl rfl (by kernel_rfl) rfl (fun a hE => ?_))) rfl
          refine at_op (op_tk hE (tk_load 0 (.int .i64 (v1052.fKind)) rfl rfl rfl rfl hE rfl hS rfl rfl (by kernel_rfl) (kL (j := 0) hS rfl List.not_mem_nil) (fun a hE => ?_))) rfl
          refine segN 1 (j := 3) [(54, .bool ((decide (v1052.fKind = (3 : Int)))))] hE (by kernel_rfl) rfl (fun a hE => ?_)
          refine at_end rfl ?_
          refine cond_split hE (b := (decide (v1052.fKind = (3 : Int)))) rfl (fun hb => ?_) (fun hb => ?_)
          · replace hf := cond_t hb hf
            clear hb
            refine region_at ?_
            refine segN 1 (j := 1) [(55, .pointer (some ⟨b1, 0, none⟩))] hE (by kernel_rfl) rfl (fun a hE => ?_)
            have hS := hS.pk (.c 1 rfl (.c 0 rfl (.c 2 rfl .n))) rfl
            obtain ⟨r1056, h1057, hf⟩ := bind_some hf
            refine at_op (op_call rfl rfl rfl rfl hE rfl rfl rfl rfl (by kernel_rfl) (wire_Reader_Flag.calls (g := g) h1057 (hS.st.fore (L := [bx b1 94 (c_T_wire_Reader (r1028.2) A1032 c1033)])) h1034) (fun a v w hR hE => ?_)) rfl
            obtain ⟨D1058, A1060, c1061, rfl, hS1, h1062⟩ := hR
            have le1063 := hS1.dle
            have hS := hS.callR hS1 rfl (.c .n)
            clear hS1
            refine segN 1 (j := 3) [(57, .pointer (some ⟨b1, 0, none⟩))] hE (by kernel_rfl) rfl (fun a hE => ?_)
            obtain ⟨r1064, h1065, hf⟩ := bind_some hf
            refine at_op (op_call rfl rfl rfl rfl hE rfl rfl rfl rfl (by kernel_rfl) (wire_Reader_Num.calls (g := g) h1065 (hS.st.fore (L := [bx b1 94 (c_T_wire_Reader (r1056.2) A1060 c1061)])) h1062) (fun a v w hR hE => ?_)) rfl
            obtain ⟨D1066, A1068, c1069, rfl, hS1, h1070⟩ := hR
            have le1071 := hS1.dle
            have hS := hS.callR hS1 rfl (.c .n)
            clear hS1
            refine segN 1 (j := 5) [(59, .pointer (some ⟨b1, 0, none⟩))] hE (by kernel_rfl) rfl (fun a hE => ?_)
            obtain ⟨r1072, h1073, hf⟩ := bind_some hf
            refine at_op (op_call rfl rfl rfl rfl hE rfl rfl rfl rfl (by kernel_rfl) (wire_Reader_Num.calls (g := g) h1073 (hS.st.fore (L := [bx b1 94 (c_T_wire_Reader (r1064.2) A1068 c1069)])) h1070) (fun a v w hR hE => ?_)) rfl
            obtain ⟨D1074, A1076, c1077, rfl, hS1, h1078⟩ := hR
            have le1079 := hS1.dle
            have hS := hS.callR hS1 rfl (.c .n)
            clear hS1
            refine segN 1 (j := 7) [(61, .pointer (some ⟨b1, 0, none⟩))] hE (by kernel_rfl) rfl (fun a hE => ?_)
            obtain ⟨r1080, h1081, hf⟩ := bind_some hf
            refine at_op (op_call rfl rfl rfl rfl hE rfl rfl rfl rfl (by kernel_rfl) (wire_Reader_Hash.calls (g := g) h1081 (hS.st.fore (L := [bx b1 94 (c_T_wire_Reader (r1072.2) A1076 c1077)])) h1078) (fun a v w hR hE => ?_)) rfl
            obtain ⟨D1082, A1084, c1085, rfl, hS1, h1086⟩ := hR
            have le1087 := hS1.dle
            have hS := hS.callR hS1 rfl (.c .n)
            clear hS1
            refine at_op (op_tk hE (g_fieldAddr (fo := 6) (ft := 4) 6 rfl rfl rfl rfl hE rfl rfl (by kernel_rfl) rfl (fun a hE => ?_))) rfl
            have hS := hS.pk (.c 1 rfl (.c 0 rfl (.c 2 rfl .n))) rfl
            obtain ⟨v1088, hv1089, hf⟩ := bind_some hf
            replace hv1089 := Option.some.inj hv1089
            refine at_op (op_store (v := .bool (r1056.1)) (c_T_api_Rec (v1088) none 0 none 0) rfl rfl rfl rfl hE hS rfl rfl (by kernel_rfl) (by kernel_rfl) (by kernel_rfl) (by kernel_rfl) (by rw [← hv1089]; kernel_rfl) (fun a w _ hE hS => ?_)) rfl
            have h1090 : Sl kd_T_api_Step D599 none 0 (v1088.fSteps) := by rw [← hv1089]; exact h1054
            have h1091 : Sl (kdInt .u8) D599 none 0 (v1088.fData) := by rw [← hv1089]; exact h1055
            refine at_op (op_tk hE (g_fieldAddr (fo := 8) (ft := 3) 8 rfl rfl rfl rfl hE rfl rfl (by kernel_rfl) rfl (fun a hE => ?_))) rfl
            obtain ⟨v1092, hv1093, hf⟩ := bind_some hf
            replace hv1093 := Option.some.inj hv1093
            refine at_op (op_store (v := .int .i64 (r1064.1)) (c_T_api_Rec (v1092) none 0 none 0) rfl rfl rfl rfl hE hS rfl rfl (by kernel_rfl) (by kernel_rfl) (by kernel_rfl) (by kernel_rfl) (by rw [← hv1093]; kernel_rfl) (fun a w _ hE hS => ?_)) rfl
            have h1094 : Sl kd_T_api_Step D599 none 0 (v1092.fSteps) := by rw [← hv1093]; exact h1090
            have h1095 : Sl (kdInt .u8) D599 none 0 (v1092.fData) := by rw [← hv1093]; exact h1091
            refine at_op (op_tk hE (g_fieldAddr (fo := 9) (ft := 3) 9 rfl rfl rfl rfl hE rfl rfl (by kernel_rfl) rfl (fun a hE => ?_))) rfl
            obtain ⟨v1096, hv1097, hf⟩ := bind_some hf
            replace hv1097 := Option.some.inj hv1097
            refine at_op (op_store (v := .int .i64 (r1072.1)) (c_T_api_Rec (v1096) none 0 none 0) rfl rfl rfl rfl hE hS rfl rfl (by kernel_rfl) (by kernel_rfl) (by kernel_rfl) (by kernel_rfl) (by rw [← hv1097]; kernel_rfl) (fun a w _ hE hS => ?_)) rfl
            have h1098 : Sl kd_T_api_Step D599 none 0 (v1096.fSteps) := by rw [← hv1097]; exact h1094
            have h1099 : Sl (kdInt .u8) D599 none 0 (v1096.fData) := by rw [← hv1097]; exact h1095
            refine at_op (op_tk hE (g_fieldAddr (fo := 10) (ft := 23) 10 rfl rfl rfl rfl hE rfl rfl (by kernel_rfl) rfl (fun a hE => ?_))) rfl
            obtain ⟨v1100, hv1101, hf⟩ := bind_some hf
            replace hv1101 := Option.some.inj hv1101
            refine at_op (op_store (v := .agg (List.toArray (acells .u8 32 (r1080.1)))) (c_T_api_Rec (v1100) none 0 none 0) rfl rfl rfl rfl hE hS rfl rfl (by kernel_rfl) (by kernel_rfl) (by kernel_rfl) (by kernel_rfl) (by rw [← hv1101]; kernel_rfl) (fun a w _ hE hS => ?_)) rfl
            have h1102 : Sl kd_T_api_Step D599 none 0 (v1100.fSteps) := by rw [← hv1101]; exact h1098
            have h1103 : Sl (kdInt .u8) D599 none 0 (v1100.fData) := by rw [← hv1101]; exact h1099
            refine at_end rfl ?_
            have hS := hS.pk (.c 1 rfl (.c 2 rfl (.c 0 rfl .n))) rfl
            exact ⟨(r1080.2, v1100.fKind, v1100.fSaga, v1100.fSeq, v1100.fStep, v1100.fTry, v1100.fBack, v1100.fGood, v1100.fEnd, v1100.fPart, v1100.fEpoch, v1100.fTag, v1100.fSteps, v1100.fData, v1100.fSalt, v1100.fGone, v1100.fCom), A1084, c1085, none, 0, none, 0, D1082, hE.weak (by kernel_rfl), hS, (Snap.le.trans (Snap.le.trans (Snap.le.trans (Snap.le.trans (Snap.le.trans (Snap.le.trans (Snap.le.trans (Snap.le.trans (Snap.le.trans le995 le1003) le1011) le1019) le1027) le1035) le1063) le1071) le1079) le1087), h1086, (h1102.mono (Snap.le.trans (Snap.le.trans (Snap.le.trans (Snap.le.trans (Snap.le.trans (Snap.le.trans (Snap.le.trans (Snap.le.trans (Snap.le.trans le995 le1003) le1011) le1019) le1027) le1035) le1063) le1071) le1079) le1087)), (h1103.mono (Snap.le.trans (Snap.le.trans (Snap.le.trans (Snap.le.trans (Snap.le.trans (Snap.le.trans (Snap.le.trans (Snap.le.trans (Snap.le.trans le995 le1003) le1011) le1019) le1027) le1035) le1063) le1071) le1079) le1087)), hf⟩
          · replace hf := cond_f hb hf
            clear hb
            refine wpIn_skip ?_
            have hS := hS.pk (.c 1 rfl (.c 2 rfl (.c 0 rfl .n))) rfl
            exact ⟨(r1028.2, v1052.fKind, v1052.fSaga, v1052.fSeq, v1052.fStep, v1052.fTry, v1052.fBack, v1052.fGood, v1052.fEnd, v1052.fPart, v1052.fEpoch, v1052.fTag, v1052.fSteps, v1052.fData, v1052.fSalt, v1052.fGone, v1052.fCom), A1032, c1033, none, 0, none, 0, D1030, hE.weak (by kernel_rfl), hS, (Snap.le.trans (Snap.le.trans (Snap.le.trans (Snap.le.trans (Snap.le.trans le995 le1003) le1011) le1019) le1027) le1035), h1034, (h1054.mono (Snap.le.trans (Snap.le.trans (Snap.le.trans (Snap.le.trans (Snap.le.trans le995 le1003) le1011) le1019) le1027) le1035)), (h1055.mono (Snap.le.trans (Snap.le.trans (Snap.le.trans (Snap.le.trans (Snap.le.trans le995 le1003) le1011) le1019) le1027) le1035)), hf⟩
        · replace hf := cond_f hb hf
          clear hb
          refine wpIn_seq ?_
          refine region_at ?_
          refine segN 2 (j := 2) [(67, .bool ((decide (v607.fKind = (5 : Int)))))] hE (by kernel_rfl) rfl (fun a hE => ?_)
          refine at_end rfl ?_
          refine cond_split hE (b := (decide (v607.fKind = (5 : Int)))) rfl (fun hb => ?_) (fun hb => ?_)
          · replace hf := cond_t hb hf
            clear hb
            refine region_at ?_
            refine segN 1 (j := 1) [(69, .pointer (some ⟨b1, 0, none⟩))] hE (by kernel_rfl) rfl (fun a hE => ?_)
            obtain ⟨r1104, h1105, hf⟩ := bind_some hf
            refine at_op (op_call rfl rfl rfl rfl hE rfl rfl rfl rfl (by kernel_rfl) (wire_Reader_Num.calls (g := g) h1105 (hS.st.fore (L := [bx b1 94 (c_T_wire_Reader (r597.2) A601 c602)])) (h603.mono le995)) (fun a v w hR hE => ?_)) rfl
            obtain ⟨D1106, A1108, c1109, rfl, hS1, h1110⟩ := hR
            have le1111 := hS1.dle
            have hS := hS.callR hS1 rfl (.c .n)
            clear hS1
            refine segN 1 (j := 3) [(71, .pointer (some ⟨b1, 0, none⟩))] hE (by kernel_rfl) rfl (fun a hE => ?_)
            obtain ⟨r1112, h1113, hf⟩ := bind_some hf
            refine at_op (op_call rfl rfl rfl rfl hE rfl rfl rfl rfl (by kernel_rfl) (wire_Reader_Num.calls (g := g) h1113 (hS.st.fore (L := [bx b1 94 (c_T_wire_Reader (r1104.2) A1108 c1109)])) h1110) (fun a v w hR hE => ?_)) rfl
            obtain ⟨D1114, A1116, c1117, rfl, hS1, h1118⟩ := hR
            have le1119 := hS1.dle
            have hS := hS.callR hS1 rfl (.c .n)
            clear hS1
            refine segN 1 (j := 5) [(73, .pointer (some ⟨b1, 0, none⟩))] hE (by kernel_rfl) rfl (fun a hE => ?_)
            obtain ⟨r1120, h1121, hf⟩ := bind_some hf
            refine at_op (op_call rfl rfl rfl rfl hE rfl rfl rfl rfl (by kernel_rfl) (wire_Reader_Num.calls (g := g) h1121 (hS.st.fore (L := [bx b1 94 (c_T_wire_Reader (r1112.2) A1116 c1117)])) h1118) (fun a v w hR hE => ?_)) rfl
            obtain ⟨D1122, A1124, c1125, rfl, hS1, h1126⟩ := hR
            have le1127 := hS1.dle
            have hS := hS.callR hS1 rfl (.c .n)
            clear hS1
            refine at_op (op_tk hE (g_fieldAddr (fo := 1) (ft := 3) 1 rfl rfl rfl rfl hE rfl rfl (by kernel_rfl) rfl (fun a hE => ?_))) rfl
            have hS := hS.pk (.c 2 rfl (.c 0 rfl (.c 1 rfl .n))) rfl
            obtain ⟨v1128, hv1129, hf⟩ := bind_some hf
            replace hv1129 := Option.some.inj hv1129
            refine at_op (op_store (v := .int .i64 (r1104.1)) (c_T_api_Rec (v1128) none 0 none 0) rfl rfl rfl rfl hE hS rfl rfl (by kernel_rfl) (by kernel_rfl) (by kernel_rfl) (by kernel_rfl) (by rw [← hv1129]; kernel_rfl) (fun a w _ hE hS => ?_)) rfl
            have h1130 : Sl kd_T_api_Step D599 none 0 (v1128.fSteps) := by rw [← hv1129]; exact h609
            have h1131 : Sl (kdInt .u8) D599 none 0 (v1128.fData) := by rw [← hv1129]; exact h610
            refine at_op (op_tk hE (g_fieldAddr (fo := 2) (ft := 3) 2 rfl rfl rfl rfl hE rfl rfl (by kernel_rfl) rfl (fun a hE => ?_))) rfl
            obtain ⟨v1132, hv1133, hf⟩ := bind_some hf
            replace hv1133 := Option.some.inj hv1133
            refine at_op (op_store (v := .int .i64 (r1112.1)) (c_T_api_Rec (v1132) none 0 none 0) rfl rfl rfl rfl hE hS rfl rfl (by kernel_rfl) (by kernel_rfl) (by kernel_rfl) (by kernel_rfl) (by rw [← hv1133]; kernel_rfl) (fun a w _ hE hS => ?_)) rfl
            have h1134 : Sl kd_T_api_Step D599 none 0 (v1132.fSteps) := by rw [← hv1133]; exact h1130
            have h1135 : Sl (kdInt .u8) D599 none 0 (v1132.fData) := by rw [← hv1133]; exact h1131
            refine at_op (op_tk hE (g_fieldAddr (fo := 7) (ft := 3) 7 rfl rfl rfl rfl hE rfl rfl (by kernel_rfl) rfl (fun a hE => ?_))) rfl
            obtain ⟨v1136, hv1137, hf⟩ := bind_some hf
            replace hv1137 := Option.some.inj hv1137
            refine at_op (op_store (v := .int .i64 (r1120.1)) (c_T_api_Rec (v1136) none 0 none 0) rfl rfl rfl rfl hE hS rfl rfl (by kernel_rfl) (by kernel_rfl) (by kernel_rfl) (by kernel_rfl) (by rw [← hv1137]; kernel_rfl) (fun a w _ hE hS => ?_)) rfl
            have h1138 : Sl kd_T_api_Step D599 none 0 (v1136.fSteps) := by rw [← hv1137]; exact h1134
            have h1139 : Sl (kdInt .u8) D599 none 0 (v1136.fData) := by rw [← hv1137]; exact h1135
            refine at_end rfl ?_
            have hS := hS.pk (.c 1 rfl (.c 2 rfl (.c 0 rfl .n))) rfl
            exact ⟨(r1120.2, v1136.fKind, v1136.fSaga, v1136.fSeq, v1136.fStep, v1136.fTry, v1136.fBack, v1136.fGood, v1136.fEnd, v1136.fPart, v1136.fEpoch, v1136.fTag, v1136.fSteps, v1136.fData, v1136.fSalt, v1136.fGone, v1136.fCom), A1124, c1125, none, 0, none, 0, D1122, hE.weak (by kernel_rfl), hS, (Snap.le.trans (Snap.le.trans (Snap.le.trans le995 le1111) le1119) le1127), h1126, (h1138.mono (Snap.le.trans (Snap.le.trans (Snap.le.trans le995 le1111) le1119) le1127)), (h1139.mono (Snap.le.trans (Snap.le.trans (Snap.le.trans le995 le1111) le1119) le1127)), hf⟩
          · replace hf := cond_f hb hf
            clear hb
            refine wpIn_seq ?_
            refine region_at ?_
            refine segN 2 (j := 2) [(78, .bool ((decide (v607.fKind = (6 : Int)))))] hE (by kernel_rfl) rfl (fun a hE => ?_)
            refine at_end rfl ?_
            refine cond_split hE (b := (decide (v607.fKind = (6 : Int)))) rfl (fun hb => ?_) (fun hb => ?_)
            · replace hf := cond_t hb hf
              clear hb
              refine region_at ?_
              refine segN 1 (j := 1) [(80, .pointer (some ⟨b1, 0, none⟩))] hE (by kernel_rfl) rfl (fun a hE => ?_)
              obtain ⟨r1140, h1141, hf⟩ := bind_some hf
              refine at_op (op_call rfl rfl rfl rfl hE rfl rfl rfl rfl (by kernel_rfl) (wire_Reader_Num.calls (g := g) h1141 (hS.st.fore (L := [bx b1 94 (c_T_wire_Reader (r597.2) A601 c602)])) (h603.mono le995)) (fun a v w hR hE => ?_)) rfl
              obtain ⟨D1142, A1144, c1145, rfl, hS1, h1146⟩ := hR
              have le1147 := hS1.dle
              have hS := hS.callR hS1 rfl (.c .n)
              clear hS1
              refine segN 1 (j := 3) [(82, .pointer (some ⟨b1, 0, none⟩))] hE (by kernel_rfl) rfl (fun a hE => ?_)
              obtain ⟨r1148, h1149, hf⟩ := bind_some hf
              refine at_op (op_call rfl rfl rfl rfl hE rfl rfl rfl rfl (by kernel_rfl) (wire_Reader_Num.calls (g := g) h1149 (hS.st.fore (L := [bx b1 94 (c_T_wire_Reader (r1140.2) A1144 c1145)])) h1146) (fun a v w hR hE => ?_)) rfl
              obtain ⟨D1150, A1152, c1153, rfl, hS1, h1154⟩ := hR
              have le1155 := hS1.dle
              have hS := hS.callR hS1 rfl (.c .n)
              clear hS1
              refine at_op (op_tk hE (g_fieldAddr (fo := 8) (ft := 3) 8 rfl rfl rfl rfl hE rfl rfl (by kernel_rfl) rfl (fun a hE => ?_))) rfl
              have hS := hS.pk (.c 2 rfl (.c 0 rfl (.c 1 rfl .n))) rfl
              obtain ⟨v1156, hv1157, hf⟩ := bind_some hf
              replace hv1157 := Option.some.inj hv1157
              refine at_op (op_store (v := .int .i64 (r1140.1)) (c_T_api_Rec (v1156) none 0 none 0) rfl rfl rfl rfl hE hS rfl rfl (by kernel_rfl) (by kernel_rfl) (by kernel_rfl) (by kernel_rfl) (by rw [← hv1157]; kernel_rfl) (fun a w _ hE hS => ?_)) rfl
              have h1158 : Sl kd_T_api_Step D599 none 0 (v1156.fSteps) := by rw [← hv1157]; exact h609
              have h1159 : Sl (kdInt .u8) D599 none 0 (v1156.fData) := by rw [← hv1157]; exact h610
              refine at_op (op_tk hE (g_fieldAddr (fo := 9) (ft := 3) 9 rfl rfl rfl rfl hE rfl rfl (by kernel_rfl) rfl (fun a hE => ?_))) rfl
              obtain ⟨v1160, hv1161, hf⟩ := bind_some hf
              replace hv1161 := Option.some.inj hv1161
              refine at_op (op_store (v := .int .i64 (r1148.1)) (c_T_api_Rec (v1160) none 0 none 0) rfl rfl rfl rfl hE hS rfl rfl (by kernel_rfl) (by kernel_rfl) (by kernel_rfl) (by kernel_rfl) (by rw [← hv1161]; kernel_rfl) (fun a w _ hE hS => ?_)) rfl
              have h1162 : Sl kd_T_api_Step D599 none 0 (v1160.fSteps) := by rw [← hv1161]; exact h1158
              have h1163 : Sl (kdInt .u8) D599 none 0 (v1160.fData) := by rw [← hv1161]; exact h1159
              refine at_end rfl ?_
              have hS := hS.pk (.c 1 rfl (.c 2 rfl (.c 0 rfl .n))) rfl
              exact ⟨(r1148.2, v1160.fKind, v1160.fSaga, v1160.fSeq, v1160.fStep, v1160.fTry, v1160.fBack, v1160.fGood, v1160.fEnd, v1160.fPart, v1160.fEpoch, v1160.fTag, v1160.fSteps, v1160.fData, v1160.fSalt, v1160.fGone, v1160.fCom), A1152, c1153, none, 0, none, 0, D1150, hE.weak (by kernel_rfl), hS, (Snap.le.trans (Snap.le.trans le995 le1147) le1155), h1154, (h1162.mono (Snap.le.trans (Snap.le.trans le995 le1147) le1155)), (h1163.mono (Snap.le.trans (Snap.le.trans le995 le1147) le1155)), hf⟩
            · replace hf := cond_f hb hf
              clear hb
              refine region_at ?_
              refine segN 1 (j := 1) [(9, .pointer (some ⟨b1, 0, none⟩))] hE (by kernel_rfl) rfl (fun a hE => ?_)
              obtain ⟨r1164, h1165, hf⟩ := bind_some hf
              refine at_op (op_call rfl rfl rfl rfl hE rfl rfl rfl rfl (by kernel_rfl) (wire_Reader_Fail.calls (g := g) h1165 (hS.st.fore (L := [bx b1 94 (c_T_wire_Reader (r597.2) A601 c602)])) (h603.mono le995)) (fun a v w hR hE => ?_)) rfl
              obtain ⟨D1166, A1168, c1169, rfl, hS1, h1170⟩ := hR
              have le1171 := hS1.dle
              have hS := hS.callR hS1 rfl (.c .n)
              clear hS1
              refine at_end rfl ?_
              exact ⟨(r1164, v607.fKind, v607.fSaga, v607.fSeq, v607.fStep, v607.fTry, v607.fBack, v607.fGood, v607.fEnd, v607.fPart, v607.fEpoch, v607.fTag, v607.fSteps, v607.fData, v607.fSalt, v607.fGone, v607.fCom), A1168, c1169, none, 0, none, 0, D1166, hE.weak (by kernel_rfl), hS, (Snap.le.trans le995 le1171), h1170, (h609.mono (Snap.le.trans le995 le1171)), (h610.mono (Snap.le.trans le995 le1171)), hf⟩
  · clear hE hS
    rintro a w ⟨y854, A857, c858, A860, c861, A863, c864, D855, hE, hS, le856, h859, h862, h865, hf⟩
    replace hf := hj915 _ hf
    clear hj915
    obtain ⟨j899, hj900, hf⟩ := jn_elim hf
    refine seq_join (fun a w => ∃ (y879 : T_wire_Reader), ∃ (A882 : Option Addr), ∃ (c883 : Nat), ∃ (D880 : Snap), Env a 96 [] [(0, .pointer (some ⟨b1, 0, none⟩)), (2, .pointer (some ⟨b595, 0, none⟩)), (3, .pointer (some ⟨b605, 0, none⟩))] ∧ Stp g w0 D0 [bx b1 94 (c_T_wire_Reader (x3) A4 c5)] w D880 [bx b1 94 (c_T_wire_Reader (y879) A882 c883), bx b595 47 (c_T_api_Rec (z_T_api_Rec) none 0 none 0), bx b605 47 (c_T_api_Rec ((T_api_Rec.mk (y854.2.1) (y854.2.2.1) (y854.2.2.2.1) (y854.2.2.2.2.1) (y854.2.2.2.2.2.1) (y854.2.2.2.2.2.2.1) (y854.2.2.2.2.2.2.2.1) (y854.2.2.2.2.2.2.2.2.1) (y854.2.2.2.2.2.2.2.2.2.1) (y854.2.2.2.2.2.2.2.2.2.2.1) (y854.2.2.2.2.2.2.2.2.2.2.2.1) (y854.2.2.2.2.2.2.2.2.2.2.2.2.1) (y854.2.2.2.2.2.2.2.2.2.2.2.2.2.1) (y854.2.2.2.2.2.2.2.2.2.2.2.2.2.2.1) (y854.2.2.2.2.2.2.2.2.2.2.2.2.2.2.2.1) (y854.2.2.2.2.2.2.2.2.2.2.2.2.2.2.2.2))) A860 c861 A863 c864)] ∧ Snap.le D855 D880 ∧ Sl (kdInt .u8) D880 A882 c883 (y879.fB) ∧ j899 y879 = some r) ?_ ?_
    · clear hj900
      refine wpIn_seq ?_
      refine region_at ?_
      refine at_op (op_tk hE (tk_load 2 (.agg (List.toArray (c_T_api_Rec ((T_api_Rec.mk (y854.2.1) (y854.2.2.1) (y854.2.2.2.1) (y854.2.2.2.2.1) (y854.2.2.2.2.2.1) (y854.2.2.2.2.2.2.1) (y854.2.2.2.2.2.2.2.1) (y854.2.2.2.2.2.2.2.2.1) (y854.2.2.2.2.2.2.2.2.2.1) (y854.2.2.2.2.2.2.2.2.2.2.1) (y854.2.2.2.2.2.2.2.2.2.2.2.1) (y854.2.2.2.2.2.2.2.2.2.2.2.2.1) (y854.2.2.2.2.2.2.2.2.2.2.2.2.2.1) (y854.2.2.2.2.2.2.2.2.2.2.2.2.2.2.1) (y854.2.2.2.2.2.2.2.2.2.2.2.2.2.2.2.1) (y854.2.2.2.2.2.2.2.2.2.2.2.2.2.2.2.2))) A860 c861 A863 c864))) rfl rfl rfl rfl hE rfl hS rfl rfl (by kernel_rfl) (kL (j := 2) hS rfl List.not_mem_nil) (fun a hE => ?_))) rfl
      obtain ⟨r901, h902, hf⟩ := bind_some hf
      refine at_op (op_call rfl rfl rfl rfl hE rfl rfl rfl rfl (by kernel_rfl) (rec_Right.calls (g := g) h902 (hS.st.fore (L := [])) h862 h865) (fun a v w hR hE => ?_)) rfl
      obtain ⟨D903, rfl, hS1⟩ := hR
      have le905 := hS1.dle
      have hS := hS.callR hS1 rfl .n
      clear hS1
      refine segN 1 (j := 3) [(88, .bool ((!r901)))] hE (by kernel_rfl) rfl (fun a hE => ?_)
      refine at_end rfl ?_
      refine cond_split hE (b := (!r901)) rfl (fun hb => ?_) (fun hb => ?_)
      · replace hf := cond_t hb hf
        clear hb
        refine region_at ?_
        refine segN 1 (j := 1) [(89, .pointer (some ⟨b1, 0, none⟩))] hE (by kernel_rfl) rfl (fun a hE => ?_)
        obtain ⟨r906, h907, hf⟩ := bind_some hf
        refine at_op (op_call rfl rfl rfl rfl hE rfl rfl rfl rfl (by kernel_rfl) (wire_Reader_Fail.calls (g := g) h907 (hS.st.fore (L := [bx b1 94 (c_T_wire_Reader (y854.1) A857 c858)])) (h859.mono le905)) (fun a v w hR hE => ?_)) rfl
        obtain ⟨D908, A910, c911, rfl, hS1, h912⟩ := hR
        have le913 := hS1.dle
        have hS := hS.callR hS1 rfl (.c .n)
        clear hS1
        refine at_end rfl ?_
        exact ⟨r906, A910, c911, D908, hE.weak (by kernel_rfl), hS, (Snap.le.trans le905 le913), h912, hf⟩
      · replace hf := cond_f hb hf
        clear hb
        refine wpIn_skip ?_
        exact ⟨y854.1, A857, c858, D903, hE.weak (by kernel_rfl), hS, le905, (h859.mono le905), hf⟩
    · clear hE hS
      rintro a w ⟨y879, A882, c883, D880, hE, hS, le881, h884, hf⟩
      replace hf := hj900 _ hf
      clear hj900
      refine wpIn_seq ?_
      refine wpIn_seq ?_
      refine region_at ?_
      refine segN 1 (j := 1) [(91, .pointer (some ⟨b1, 0, none⟩))] hE (by kernel_rfl) rfl (fun a hE => ?_)
      obtain ⟨r890, h891, hf⟩ := bind_some hf
      refine at_op (op_call rfl rfl rfl rfl hE rfl rfl rfl rfl (by kernel_rfl) (wire_Reader_Bad.calls (g := g) h891 (hS.st.fore (L := [bx b1 94 (c_T_wire_Reader (y879) A882 c883)])) h884) (fun a v w hR hE => ?_)) rfl
      obtain ⟨D892, rfl, hS1⟩ := hR
      have le894 := hS1.dle
      have hS := hS.callR hS1 rfl (.c .n)
      clear hS1
      refine segN 1 (j := 3) [(93, .bool ((!decide (r890 = (0 : Int)))))] hE (by kernel_rfl) rfl (fun a hE => ?_)
      refine at_end rfl ?_
      refine cond_split hE (b := (!decide (r890 = (0 : Int)))) rfl (fun hb => ?_) (fun hb => ?_)
      · replace hf := cond_t hb hf
        clear hb
        refine wpIn_seq ?_
        refine region_at ?_
        refine at_op (op_tk hE (tk_build (c_T_api_Rec (z_T_api_Rec) none 0 none 0) rfl rfl rfl rfl hE rfl rfl (by kernel_rfl) (fun a hE => ?_))) rfl
        have hS := hS.pk (.c 1 rfl (.c 0 rfl (.c 2 rfl .n))) rfl
        refine at_op (op_store (v := .agg (List.toArray (c_T_api_Rec (z_T_api_Rec) none 0 none 0))) (c_T_api_Rec (z_T_api_Rec) none 0 none 0) rfl rfl rfl rfl hE hS rfl rfl (by kernel_rfl) (by kernel_rfl) (by kernel_rfl) (by kernel_rfl) (by kernel_rfl) (fun a w _ hE hS => ?_)) rfl
        refine at_end rfl ?_
        refine wpIn_ret ?_
        obtain rfl := Option.some.inj hf
        repeat (with_reducible first | refine then_ret ?_ | refine block_ret ?_ | refine qx_ret ?_)
        refine ret_gen ([.agg (List.toArray (c_T_api_Rec (z_T_api_Rec) none 0 none 0))]) hE (by rw [show Try.f38.results.toList = [.cell 2 47] from rfl]; exact ⟨_, _, _, 0, _, _, rfl, rfl, hS.heapAt (j := 0) rfl, by kernel_rfl, rfl⟩) ?_
        have hS := hS.pk (.c 1 rfl .n) rfl
        exact ⟨_, rfl, D892, none, 0, none, 0, A882, c883, rfl, hS, (Sl.nil kd_T_api_Step D892), (Sl.nil (kdInt .u8) D892), (h884.mono le894)⟩
      · replace hf := cond_f hb hf
        clear hb
        refine wpIn_skip ?_
        refine wpIn_seq ?_
        refine region_at ?_
        refine at_op (op_tk hE (tk_load 2 (.agg (List.toArray (c_T_api_Rec ((T_api_Rec.mk (y854.2.1) (y854.2.2.1) (y854.2.2.2.1) (y854.2.2.2.2.1) (y854.2.2.2.2.2.1) (y854.2.2.2.2.2.2.1) (y854.2.2.2.2.2.2.2.1) (y854.2.2.2.2.2.2.2.2.1) (y854.2.2.2.2.2.2.2.2.2.1) (y854.2.2.2.2.2.2.2.2.2.2.1) (y854.2.2.2.2.2.2.2.2.2.2.2.1) (y854.2.2.2.2.2.2.2.2.2.2.2.2.1) (y854.2.2.2.2.2.2.2.2.2.2.2.2.2.1) (y854.2.2.2.2.2.2.2.2.2.2.2.2.2.2.1) (y854.2.2.2.2.2.2.2.2.2.2.2.2.2.2.2.1) (y854.2.2.2.2.2.2.2.2.2.2.2.2.2.2.2.2))) A860 c861 A863 c864))) rfl rfl rfl rfl hE rfl hS rfl rfl (by kernel_rfl) (kL (j := 2) hS rfl List.not_mem_nil) (fun a hE => ?_))) rfl
        have hS := hS.pk (.c 1 rfl (.c 0 rfl (.c 2 rfl .n))) rfl
        obtain ⟨v895, hv896, hf⟩ := bind_some hf
        replace hv896 := Option.some.inj hv896
        refine at_op (op_store (v := .agg (List.toArray (c_T_api_Rec ((T_api_Rec.mk (y854.2.1) (y854.2.2.1) (y854.2.2.2.1) (y854.2.2.2.2.1) (y854.2.2.2.2.2.1) (y854.2.2.2.2.2.2.1) (y854.2.2.2.2.2.2.2.1) (y854.2.2.2.2.2.2.2.2.1) (y854.2.2.2.2.2.2.2.2.2.1) (y854.2.2.2.2.2.2.2.2.2.2.1) (y854.2.2.2.2.2.2.2.2.2.2.2.1) (y854.2.2.2.2.2.2.2.2.2.2.2.2.1) (y854.2.2.2.2.2.2.2.2.2.2.2.2.2.1) (y854.2.2.2.2.2.2.2.2.2.2.2.2.2.2.1) (y854.2.2.2.2.2.2.2.2.2.2.2.2.2.2.2.1) (y854.2.2.2.2.2.2.2.2.2.2.2.2.2.2.2.2))) A860 c861 A863 c864))) (c_T_api_Rec (v895) A860 c861 A863 c864) rfl rfl rfl rfl hE hS rfl rfl (by kernel_rfl) (by kernel_rfl) (by kernel_rfl) (by kernel_rfl) (by rw [← hv896]; kernel_rfl) (fun a w _ hE hS => ?_)) rfl
        have h897 : Sl kd_T_api_Step D855 A860 c861 (v895.fSteps) := by rw [← hv896]; exact h862
        have h898 : Sl (kdInt .u8) D855 A863 c864 (v895.fData) := by rw [← hv896]; exact h865
        refine at_end rfl ?_
        refine wpIn_ret ?_
        obtain rfl := Option.some.inj hf
        repeat (with_reducible first | refine then_ret ?_ | refine block_ret ?_ | refine qx_ret ?_)
        refine ret_gen ([.agg (List.toArray (c_T_api_Rec (v895) A860 c861 A863 c864))]) hE (by rw [show Try.f38.results.toList = [.cell 2 47] from rfl]; exact ⟨_, _, _, 0, _, _, rfl, rfl, hS.heapAt (j := 0) rfl, by kernel_rfl, rfl⟩) ?_
        have hS := hS.pk (.c 1 rfl .n) rfl
        exact ⟨_, rfl, D892, A860, c861, A863, c864, A882, c883, rfl, hS, (h897.mono (Snap.le.trans le881 le894)), (h898.mono (Snap.le.trans le881 le894)), (h884.mono le894)⟩

set_option maxRecDepth 100000 in
set_option maxHeartbeats 4000000 in
theorem bundle_Get_2.calls {K : Nat} {g w0 : World} {D0 : Snap} {x5 : Int} {x6 : T_wire_Reader} {b1 : Nat} {b2 : Nat} {A7 : Option Addr} {c8 : Nat} {r : (T_api_Item × T_wire_Reader)} (hf : bundle_Get_2.f K x5 x6 = some r) (hS0 : St g w0 D0 [bx b1 65 ([.pointer (some ⟨b2, 0, none⟩)]), bx b2 94 (c_T_wire_Reader (x6) A7 c8)]) (h9 : Sl (kdInt .u8) D0 A7 c8 (x6.fB)) :
    CallsIn (Fw none) 0 Try.prog 37 (List.toArray [.int .i64 (x5), .pointer (some ⟨b1, 0, none⟩)]) w0 (fun e w' => ∃ v, e = .returned v ∧ ∃ (D1 : Snap) (A31 : Option Addr) (c32 : Nat) (A34 : Option Addr) (c35 : Nat) (A37 : Option Addr) (c38 : Nat) (A40 : Option Addr) (c41 : Nat), v = .agg (List.toArray (c_T_api_Item ((T_api_Item.mk (r.1.fAt) ((T_api_Rec.mk (r.1.fRec.fKind) (r.1.fRec.fSaga) (r.1.fRec.fSeq) (r.1.fRec.fStep) (r.1.fRec.fTry) (r.1.fRec.fBack) (r.1.fRec.fGood) (r.1.fRec.fEnd) (r.1.fRec.fPart) (r.1.fRec.fEpoch) (r.1.fRec.fTag) (r.1.fRec.fSteps) (r.1.fRec.fData) (r.1.fRec.fSalt) (r.1.fRec.fGone) (r.1.fRec.fCom))) (r.1.fPath))) A31 c32 A34 c35 A37 c38)) ∧ Stp g w0 D0 [bx b1 65 ([.pointer (some ⟨b2, 0, none⟩)]), bx b2 94 (c_T_wire_Reader (x6) A7 c8)] w' D1 [bx b1 65 ([.pointer (some ⟨b2, 0, none⟩)]), bx b2 94 (c_T_wire_Reader ((T_wire_Reader.mk (r.2.fB) (r.2.fBad))) A40 c41)] ∧ Sl kd_T_api_Step D1 A31 c32 (r.1.fRec.fSteps) ∧ Sl (kdInt .u8) D1 A34 c35 (r.1.fRec.fData) ∧ Sl (kdArr .u8 32) D1 A37 c38 (r.1.fPath) ∧ Sl (kdInt .u8) D1 A40 c41 (r.2.fB)) := by
  unfold bundle_Get_2.f at hf
  have hS := Stp.refl hS0
  clear hS0
  refine calls_body (n := 8) Try.func37 rfl Try.ntmps37 rfl (fun a hE => ?_)
  have hE : Env a 8 [] [(0, .int .i64 (x5)), (1, .pointer (some ⟨b1, 0, none⟩))] := hE
  refine wpIn_seq ?_
  refine region_at ?_
  refine at_op (op_alloc (z := .agg (List.toArray (c_T_api_Item (z_T_api_Item) none 0 none 0 none 0))) rfl rfl rfl rfl hE rfl hS (by kernel_rfl) (fun a b43 w _ hE hS => ?_)) rfl
  refine at_end rfl ?_
  refine wpIn_seq ?_
  refine region_at ?_
  refine segN 1 (j := 1) [(4, .int .i64 (x5))] hE (by kernel_rfl) rfl (fun a hE => ?_)
  refine at_op (op_tk hE (tk_load 1 (.pointer (some ⟨b2, 0, none⟩)) rfl rfl rfl rfl hE rfl hS rfl rfl (by kernel_rfl) (kL (j := 1) hS rfl List.not_mem_nil) (fun a hE => ?_))) rfl
  have hS := hS.pk (.c 2 rfl (.c 0 rfl (.c 1 rfl .n))) rfl
  obtain ⟨r45, h46, hf⟩ := bind_some hf
  refine at_op (op_call rfl rfl rfl rfl hE rfl rfl rfl rfl (by kernel_rfl) (rec_Read.calls (g := g) h46 (hS.st.fore (L := [bx b2 94 (c_T_wire_Reader (x6) A7 c8)])) h9) (fun a v w hR hE => ?_)) rfl
  obtain ⟨D47, A49, c50, A52, c53, A55, c56, rfl, hS1, h51, h54, h57⟩ := hR
  have le58 := hS1.dle
  have hS := hS.callR hS1 rfl (.c .n)
  clear hS1
  refine at_op (op_tk hE (tk_build (c_T_api_Item ((T_api_Item.mk (x5) (r45.1) (([] : List (Vector Int 32))))) A49 c50 A52 c53 none 0) rfl rfl rfl rfl hE rfl rfl (by kernel_rfl) (fun a hE => ?_))) rfl
  have hS := hS.pk (.c 1 rfl (.c 0 rfl (.c 2 rfl .n))) rfl
  obtain ⟨v59, hv60, hf⟩ := bind_some hf
  replace hv60 := Option.some.inj hv60
  refine at_op (op_store (v := .agg (List.toArray (c_T_api_Item ((T_api_Item.mk (x5) (r45.1) (([] : List (Vector Int 32))))) A49 c50 A52 c53 none 0))) (c_T_api_Item (v59) A49 c50 A52 c53 none 0) rfl rfl rfl rfl hE hS rfl rfl (by kernel_rfl) (by kernel_rfl) (by kernel_rfl) (by kernel_rfl) (by rw [← hv60]; kernel_rfl) (fun a w _ hE hS => ?_)) rfl
  have h61 : Sl kd_T_api_Step D47 A49 c50 (v59.fRec.fSteps) := by rw [← hv60]; exact h51
  have h62 : Sl (kdInt .u8) D47 A52 c53 (v59.fRec.fData) := by rw [← hv60]; exact h54
  have h63 : Sl (kdArr .u8 32) D47 none 0 (v59.fPath) := by rw [← hv60]; exact (Sl.nil (kdArr .u8 32) D47)
  refine at_end rfl ?_
  refine wpIn_ret ?_
  obtain rfl := Option.some.inj hf
  repeat (with_reducible first | refine then_ret ?_ | refine block_ret ?_ | refine qx_ret ?_)
  refine ret_gen ([.agg (List.toArray (c_T_api_Item (v59) A49 c50 A52 c53 none 0))]) hE (by rw [show Try.f37.results.toList = [.cell 3 50] from rfl]; exact ⟨_, _, _, 0, _, _, rfl, rfl, hS.heapAt (j := 0) rfl, by kernel_rfl, rfl⟩) ?_
  have hS := hS.pk (.c 2 rfl (.c 1 rfl .n)) rfl
  exact ⟨_, rfl, D47, A49, c50, A52, c53, none, 0, A55, c56, rfl, hS, h61, h62, h63, h57⟩

set_option maxRecDepth 100000 in
set_option maxHeartbeats 4000000 in
theorem bundle_read_api_Item.calls {K : Nat} {g w0 : World} {D0 : Snap} {x5 : Int} {x6 : Int} {x7 : T_wire_Reader} {b1 : Nat} {b2 : Nat} {A8 : Option Addr} {c9 : Nat} {r : ((List T_api_Item) × T_wire_Reader)} (hf : bundle_read_api_Item.f K x5 x6 x7 = some r) (hS0 : St g w0 D0 [bx b1 94 (c_T_wire_Reader (x7) A8 c9), bx b2 65 ([.pointer (some ⟨b1, 0, none⟩)])]) (h10 : Sl (kdInt .u8) D0 A8 c9 (x7.fB)) :
    CallsIn (Fw none) 0 Try.prog 36 (List.toArray [.pointer (some ⟨b1, 0, none⟩), .int .i64 (x5), .int .i64 (x6), .func (.func 37) #[] #[.pointer (some ⟨b2, 0, none⟩)]]) w0 (fun e w' => ∃ v, e = .returned v ∧ ∃ (D1 : Snap) (A673 : Option Addr) (c674 : Nat) (q675 : Blk) (A678 : Option Addr) (c679 : Nat), v = .slice A673 (List.length (r.1)) c674 ∧ Stp g w0 D0 [bx b1 94 (c_T_wire_Reader (x7) A8 c9), bx b2 65 ([.pointer (some ⟨b1, 0, none⟩)])] w' D1 [bx b1 94 (c_T_wire_Reader ((T_wire_Reader.mk (r.2.fB) (r.2.fBad))) A678 c679), bx b2 65 ([.pointer (some ⟨b1, 0, none⟩)]), q675] ∧ OwnD kd_T_api_Item 50 D1 A673 c674 (r.1) q675 ∧ Sl (kdInt .u8) D1 A678 c679 (r.2.fB)) := by
  unfold bundle_read_api_Item.f at hf
  have hS := Stp.refl hS0
  clear hS0
  refine calls_body (n := 31) Try.func36 rfl Try.ntmps36 rfl (fun a hE => ?_)
  have hE : Env a 31 [] [(0, .pointer (some ⟨b1, 0, none⟩)), (1, .int .i64 (x5)), (2, .int .i64 (x6)), (3, .func (.func 37) #[] #[.pointer (some ⟨b2, 0, none⟩)])] := hE
  refine wpIn_seq ?_
  refine region_at ?_
  refine segN 1 (j := 1) [(8, .slice none 0 0)] hE (by kernel_rfl) rfl (fun a hE => ?_)
  refine at_end rfl ?_
  obtain ⟨j1333, hj1334, hf⟩ := jn_elim hf
  refine seq_join (fun a w => ∃ (y689 : T_wire_Reader), ∃ (A692 : Option Addr), ∃ (c693 : Nat), ∃ (D690 : Snap), Env a 31 [] [(0, .pointer (some ⟨b1, 0, none⟩)), (1, .int .i64 (x5)), (3, .func (.func 37) #[] #[.pointer (some ⟨b2, 0, none⟩)])] ∧ Stp g w0 D0 [bx b1 94 (c_T_wire_Reader (x7) A8 c9), bx b2 65 ([.pointer (some ⟨b1, 0, none⟩)])] w D690 [bx b1 94 (c_T_wire_Reader (y689) A692 c693), bx b2 65 ([.pointer (some ⟨b1, 0, none⟩)])] ∧ Snap.le D0 D690 ∧ Sl (kdInt .u8) D690 A692 c693 (y689.fB) ∧ j1333 y689 = some r) ?_ ?_
  · clear hj1334
    refine wpIn_seq ?_
    refine region_at ?_
    refine segN 3 (j := 3) [(13, .bool ((decide (x6 < x5))))] hE (by kernel_rfl) rfl (fun a hE => ?_)
    refine at_end rfl ?_
    refine cond_split hE (b := (decide (x6 < x5))) rfl (fun hb => ?_) (fun hb => ?_)
    · replace hf := cond_t hb hf
      clear hb
      refine region_at ?_
      refine segN 1 (j := 1) [(14, .pointer (some ⟨b1, 0, none⟩))] hE (by kernel_rfl) rfl (fun a hE => ?_)
      obtain ⟨r1335, h1336, hf⟩ := bind_some hf
      refine at_op (op_call rfl rfl rfl rfl hE rfl rfl rfl rfl (by kernel_rfl) (wire_Reader_Fail.calls (g := g) h1336 (hS.st.fore (L := [bx b1 94 (c_T_wire_Reader (x7) A8 c9)])) h10) (fun a v w hR hE => ?_)) rfl
      obtain ⟨D1337, A1339, c1340, rfl, hS1, h1341⟩ := hR
      have le1342 := hS1.dle
      have hS := hS.callR hS1 rfl (.c .n)
      clear hS1
      refine at_end rfl ?_
      exact ⟨r1335, A1339, c1340, D1337, hE.weak (by kernel_rfl), hS, le1342, h1341, hf⟩
    · replace hf := cond_f hb hf
      clear hb
      refine wpIn_skip ?_
      exact ⟨x7, A8, c9, D0, hE.weak (by kernel_rfl), hS, Snap.le.refl _, h10, hf⟩
  · clear hE hS
    rintro a w ⟨y689, A692, c693, D690, hE, hS, le691, h694, hf⟩
    replace hf := hj1334 _ hf
    clear hj1334
    refine wpIn_seq ?_
    refine region_at ?_
    refine segN 1 (j := 1) [(9, .slice none 0 0)] hE (by kernel_rfl) rfl (fun a hE => ?_)
    refine at_end rfl ?_
    refine wpIn_seq ?_
    refine wpIn_seq ?_
    refine region_at ?_
    refine segN 2 (j := 2) [(16, .int .i64 (x5)), (17, .int .i64 ((0 : Int)))] hE (by kernel_rfl) rfl (fun a hE => ?_)
    refine at_end rfl ?_
    obtain ⟨s1244, hf, hs1245⟩ := bind_some hf
    have hS := hS.nils
    have hS := hS.pk (.c 1 rfl (.c 2 rfl (.c 0 rfl .n))) rfl
    refine block_loop (fun a w => ∃ (z1233 : (List T_api_Item) × T_wire_Reader), ∃ (A1236 : Option Addr), ∃ (c1237 : Nat), ∃ (q1238 : Blk), ∃ (A1241 : Option Addr), ∃ (c1242 : Nat), ∃ (D1234 : Snap), Env a 31 [] [(9, .slice A1236 (List.length (z1233.1)) c1237)] ∧ Stp g w0 D0 [bx b1 94 (c_T_wire_Reader (x7) A8 c9), bx b2 65 ([.pointer (some ⟨b1, 0, none⟩)])] w D1234 [bx b1 94 (c_T_wire_Reader (z1233.2) A1241 c1242), bx b2 65 ([.pointer (some ⟨b1, 0, none⟩)]), q1238] ∧ Snap.le D690 D1234 ∧ OwnD kd_T_api_Item 50 D1234 A1236 c1237 (z1233.1) q1238 ∧ Sl (kdInt .u8) D1234 A1241 c1242 (z1233.2.fB) ∧ z1233 = s1244) (fun k a w => ∃ (y1125 : (List T_api_Item) × Int × T_wire_Reader), ∃ (A1128 : Option Addr), ∃ (c1129 : Nat), ∃ (q1130 : Blk), ∃ (A1133 : Option Addr), ∃ (c1134 : Nat), ∃ (D1126 : Snap), Env a 31 [] [(0, .pointer (some ⟨b1, 0, none⟩)), (3, .func (.func 37) #[] #[.pointer (some ⟨b2, 0, none⟩)]), (9, .slice A1128 (List.length (y1125.1)) c1129), (16, .int .i64 (x5)), (17, .int .i64 (y1125.2.1))] ∧ Stp g w0 D0 [bx b1 94 (c_T_wire_Reader (x7) A8 c9), bx b2 65 ([.pointer (some ⟨b1, 0, none⟩)])] w D1126 [bx b1 94 (c_T_wire_Reader (y1125.2.2) A1133 c1134), bx b2 65 ([.pointer (some ⟨b1, 0, none⟩)]), q1130] ∧ Snap.le D690 D1126 ∧ OwnD kd_T_api_Item 50 D1126 A1128 c1129 (y1125.1) q1130 ∧ Sl (kdInt .u8) D1126 A1133 c1134 (y1125.2.2.fB) ∧ bundle_read_api_Item_l1.l K x5 k y1125 = some s1244) K ?_ ?_ ?_
    · exact ⟨(([] : List T_api_Item), (0 : Int), y689), none, 0, none, A692, c693, D690, hE.weak (by kernel_rfl), hS, Snap.le.refl _, (OwnD.nil kd_T_api_Item 50 D690), h694, hf⟩
    · clear hE hS hf
      rintro a w ⟨z1233, A1236, c1237, q1238, A1241, c1242, D1234, hE, hS, le1235, h1239, h1243, rfl⟩
      have hf := hs1245
      clear hs1245
      refine wpIn_seq ?_
      refine region_at ?_
      refine segN 2 (j := 2) [(8, .slice A1236 (List.length (z1233.1)) c1237)] hE (by kernel_rfl) rfl (fun a hE => ?_)
      refine at_end rfl ?_
      refine wpIn_ret ?_
      obtain rfl := Option.some.inj hf
      repeat (with_reducible first | refine then_ret ?_ | refine block_ret ?_ | refine qx_ret ?_)
      refine ret_gen ([.slice A1236 (List.length (z1233.1)) c1237]) hE (by rw [show Try.f36.results.toList = [.tmp 8] from rfl]; exact ⟨_, _, rfl, rfl, rfl⟩) ?_
      exact ⟨_, rfl, D1234, A1236, c1237, q1238, A1241, c1242, rfl, hS, h1239, h1243⟩
    · clear hE hS hf
      rintro k a w ⟨y1125, A1128, c1129, q1130, A1133, c1134, D1126, hE, hS, le1127, h1131, h1135, hf⟩
      obtain ⟨k, rfl, hf⟩ := bundle_read_api_Item_l1.some _ hf
      refine ⟨k, rfl, ?_⟩
      unfold bundle_read_api_Item_l1.b at hf
      refine wpIn_seq ?_
      refine region_at ?_
      refine segN 1 (j := 1) [(18, .bool ((decide (y1125.2.1 < x5))))] hE (by kernel_rfl) rfl (fun a hE => ?_)
      refine at_end rfl ?_
      refine wpIn_seq ?_
      refine cond_split hE (b := (decide (y1125.2.1 < x5))) rfl (fun hb => ?_) (fun hb => ?_)
      · replace hf := cond_t hb hf
        clear hb
        refine wpIn_skip ?_
        refine wpIn_seq ?_
        refine wpIn_block ?_
        refine wpIn_seq ?_
        refine region_at ?_
        refine segN 2 (j := 2) [(10, .int .i64 (y1125.2.1))] hE (by kernel_rfl) rfl (fun a hE => ?_)
        refine at_end rfl ?_
        refine wpIn_seq ?_
        refine wpIn_seq ?_
        refine region_at ?_
        refine segN 1 (j := 1) [(20, .pointer (some ⟨b1, 0, none⟩))] hE (by kernel_rfl) rfl (fun a hE => ?_)
        obtain ⟨r1294, h1295, hf⟩ := bind_some hf
        refine at_op (op_call rfl rfl rfl rfl hE rfl rfl rfl rfl (by kernel_rfl) (wire_Reader_Bad.calls (g := g) h1295 (hS.st.fore (L := [bx b1 94 (c_T_wire_Reader (y1125.2.2) A1133 c1134)])) h1135) (fun a v w hR hE => ?_)) rfl
        obtain ⟨D1296, rfl, hS1⟩ := hR
        have le1298 := hS1.dle
        have hS := hS.callR hS1 rfl (.c .n)
        clear hS1
        refine segN 1 (j := 3) [(22, .bool ((!decide (r1294 = (0 : Int)))))] hE (by kernel_rfl) rfl (fun a hE => ?_)
        refine at_end rfl ?_
        refine cond_split hE (b := (!decide (r1294 = (0 : Int)))) rfl (fun hb => ?_) (fun hb => ?_)
        · replace hf := cond_t hb hf
          clear hb
          refine wpIn_exit ?_
          obtain rfl := Option.some.inj hf
          exact ⟨(y1125.1, y1125.2.2), A1128, c1129, q1130, A1133, c1134, D1296, hE.weak (by kernel_rfl), hS, (Snap.le.trans le1127 le1298), (h1131.mono le1298), (h1135.mono le1298), rfl⟩
        · replace hf := cond_f hb hf
          clear hb
          refine wpIn_skip ?_
          refine region_at ?_
          refine segN 3 (j := 3) [(23, .slice A1128 (List.length (y1125.1)) c1129), (24, .func (.func 37) #[] #[.pointer (some ⟨b2, 0, none⟩)]), (25, .int .i64 (y1125.2.1))] hE (by kernel_rfl) rfl (fun a hE => ?_)
          have hS := hS.pk (.c 1 rfl (.c 0 rfl (.c 2 rfl .n))) rfl
          obtain ⟨r1299, h1300, hf⟩ := bind_some hf
          refine at_op (op_call rfl rfl rfl rfl hE rfl rfl rfl rfl (by kernel_rfl) (bundle_Get_2.calls (g := g) h1300 (hS.st.fore (L := [bx b2 65 ([.pointer (some ⟨b1, 0, none⟩)]), bx b1 94 (c_T_wire_Reader (y1125.2.2) A1133 c1134)])) (h1135.mono le1298)) (fun a v w hR hE => ?_)) rfl
          obtain ⟨D1301, A1303, c1304, A1306, c1307, A1309, c1310, A1312, c1313, rfl, hS1, h1305, h1308, h1311, h1314⟩ := hR
          have le1315 := hS1.dle
          have hS := hS.callR hS1 rfl (.c (.c .n))
          clear hS1
          refine at_op (op_buildSlice (K := kd_T_api_Item) (e := 50) (cs := (c_T_api_Item (r1299.1) A1303 c1304 A1306 c1307 A1309 c1310) ++ []) ([r1299.1] : List T_api_Item) rfl rfl rfl rfl hE rfl hS rfl (by kernel_rfl) rfl rfl (by exact (show RL kd_T_api_Item D1301 ([r1299.1] : List T_api_Item) ((c_T_api_Item (r1299.1) A1303 c1304 A1306 c1307 A1309 c1310) ++ []) from ⟨_, _, rfl, (kd_T_api_Item_mk (D := D1301) (x := r1299.1) rfl (kd_T_api_Rec_mk (D := D1301) (x := r1299.1.fRec) rfl rfl rfl rfl rfl rfl rfl rfl rfl rfl rfl (kslice h1305) (kslice h1308) rfl rfl rfl) (kslice h1311)), rfl⟩)) (fun a A1316 q1317 w _ hE h1318 hS => ?_)) rfl
          obtain ⟨D1320, q1323, le1321, hS, h1324, h1322⟩ := hS.lent h1318
          have hS := hS.pk (.c 3 rfl (.c 0 rfl (.c 1 rfl (.c 2 rfl .n)))) rfl
          obtain ⟨l1325, h1326, hf⟩ := bind_some hf
          refine at_op (g_append (K := kd_T_api_Item) (e := 50) (bytes := 256) (l := y1125.1) (m := ([r1299.1] : List T_api_Item)) rfl rfl rfl rfl hE rfl hS rfl rfl (by kernel_rfl) rfl rfl (h1131.mono (Snap.le.trans (Snap.le.trans le1298 le1315) le1321)) h1322 h1326 (fun a A1327 c1328 q1329 w _ hE h1330 hS => ?_)) rfl
          refine segN 1 (j := 7) [(9, .slice A1327 (List.length (l1325)) c1328)] hE (by kernel_rfl) rfl (fun a hE => ?_)
          refine at_end rfl ?_
          refine region_at ?_
          refine segN 2 (j := 2) [(17, .int .i64 ((IntKind.wrap .i64 (y1125.2.1 + (1 : Int)))))] hE (by kernel_rfl) rfl (fun a hE => ?_)
          refine at_end rfl ?_
          have hS := hS.pk (.c 3 rfl (.c 2 rfl (.c 0 rfl .n))) rfl
          exact ⟨(l1325, (IntKind.wrap .i64 (y1125.2.1 + (1 : Int))), r1299.2), A1327, c1328, q1329, A1312, c1313, D1320, hE.weak (by kernel_rfl), hS, (Snap.le.trans (Snap.le.trans (Snap.le.trans le1127 le1298) le1315) le1321), h1330, (h1314.mono le1321), hf⟩
      · replace hf := cond_f hb hf
        clear hb
        refine wpIn_exit ?_
        obtain rfl := Option.some.inj hf
        exact ⟨(y1125.1, y1125.2.2), A1128, c1129, q1130, A1133, c1134, D1126, hE.weak (by kernel_rfl), hS, le1127, h1131, h1135, rfl⟩

set_option maxRecDepth 100000 in
set_option maxHeartbeats 4000000 in
theorem bundle_Get_3_1.calls {K : Nat} {g w0 : World} {D0 : Snap} {x5 : Int} {x6 : T_wire_Reader} {b1 : Nat} {b2 : Nat} {A7 : Option Addr} {c8 : Nat} {r : ((Vector Int 32) × T_wire_Reader)} (hf : bundle_Get_3_1.f K x5 x6 = some r) (hS0 : St g w0 D0 [bx b1 65 ([.pointer (some ⟨b2, 0, none⟩)]), bx b2 94 (c_T_wire_Reader (x6) A7 c8)]) (h9 : Sl (kdInt .u8) D0 A7 c8 (x6.fB)) :
    CallsIn (Fw none) 0 Try.prog 41 (List.toArray [.int .i64 (x5), .pointer (some ⟨b1, 0, none⟩)]) w0 (fun e w' => ∃ v, e = .returned v ∧ ∃ (D1 : Snap) (A20 : Option Addr) (c21 : Nat), v = .agg (List.toArray (acells .u8 32 (r.1))) ∧ Stp g w0 D0 [bx b1 65 ([.pointer (some ⟨b2, 0, none⟩)]), bx b2 94 (c_T_wire_Reader (x6) A7 c8)] w' D1 [bx b1 65 ([.pointer (some ⟨b2, 0, none⟩)]), bx b2 94 (c_T_wire_Reader ((T_wire_Reader.mk (r.2.fB) (r.2.fBad))) A20 c21)] ∧ Sl (kdInt .u8) D1 A20 c21 (r.2.fB)) := by
  unfold bundle_Get_3_1.f at hf
  have hS := Stp.refl hS0
  clear hS0
  refine calls_body (n := 6) Try.func41 rfl Try.ntmps41 rfl (fun a hE => ?_)
  have hE : Env a 6 [] [(0, .int .i64 (x5)), (1, .pointer (some ⟨b1, 0, none⟩))] := hE
  refine wpIn_seq ?_
  refine region_at ?_
  refine at_op (op_alloc (z := .agg (List.toArray (acells .u8 32 ((Vector.replicate 32 (0 : Int)))))) rfl rfl rfl rfl hE rfl hS (by kernel_rfl) (fun a b23 w _ hE hS => ?_)) rfl
  refine at_end rfl ?_
  refine wpIn_seq ?_
  refine region_at ?_
  refine at_op (op_tk hE (tk_load 1 (.pointer (some ⟨b2, 0, none⟩)) rfl rfl rfl rfl hE rfl hS rfl rfl (by kernel_rfl) (kL (j := 1) hS rfl List.not_mem_nil) (fun a hE => ?_))) rfl
  have hS := hS.pk (.c 2 rfl (.c 0 rfl (.c 1 rfl .n))) rfl
  obtain ⟨r25, h26, hf⟩ := bind_some hf
  refine at_op (op_call rfl rfl rfl rfl hE rfl rfl rfl rfl (by kernel_rfl) (wire_Reader_Hash.calls (g := g) h26 (hS.st.fore (L := [bx b2 94 (c_T_wire_Reader (x6) A7 c8)])) h9) (fun a v w hR hE => ?_)) rfl
  obtain ⟨D27, A29, c30, rfl, hS1, h31⟩ := hR
  have le32 := hS1.dle
  have hS := hS.callR hS1 rfl (.c .n)
  clear hS1
  have hS := hS.pk (.c 1 rfl (.c 0 rfl (.c 2 rfl .n))) rfl
  refine at_op (op_store (v := .agg (List.toArray (acells .u8 32 (r25.1)))) (acells .u8 32 (r25.1)) rfl rfl rfl rfl hE hS rfl rfl (by kernel_rfl) (by kernel_rfl) (by kernel_rfl) (by kernel_rfl) (by kernel_rfl) (fun a w _ hE hS => ?_)) rfl
  refine at_end rfl ?_
  refine wpIn_ret ?_
  obtain rfl := Option.some.inj hf
  repeat (with_reducible first | refine then_ret ?_ | refine block_ret ?_ | refine qx_ret ?_)
  refine ret_gen ([.agg (List.toArray (acells .u8 32 (r25.1)))]) hE (by rw [show Try.f41.results.toList = [.cell 3 23] from rfl]; exact ⟨_, _, _, 0, _, _, rfl, rfl, hS.heapAt (j := 0) rfl, by kernel_rfl, rfl⟩) ?_
  have hS := hS.pk (.c 2 rfl (.c 1 rfl .n)) rfl
  exact ⟨_, rfl, D27, A29, c30, rfl, hS, h31⟩

set_option maxRecDepth 100000 in
set_option maxHeartbeats 4000000 in
theorem bundle_read_api_Hash.calls {K : Nat} {g w0 : World} {D0 : Snap} {x5 : Int} {x6 : Int} {x7 : T_wire_Reader} {b1 : Nat} {b2 : Nat} {A8 : Option Addr} {c9 : Nat} {r : ((List (Vector Int 32)) × T_wire_Reader)} (hf : bundle_read_api_Hash.f K x5 x6 x7 = some r) (hS0 : St g w0 D0 [bx b1 94 (c_T_wire_Reader (x7) A8 c9), bx b2 65 ([.pointer (some ⟨b1, 0, none⟩)])]) (h10 : Sl (kdInt .u8) D0 A8 c9 (x7.fB)) :
    CallsIn (Fw none) 0 Try.prog 40 (List.toArray [.pointer (some ⟨b1, 0, none⟩), .int .i64 (x5), .int .i64 (x6), .func (.func 41) #[] #[.pointer (some ⟨b2, 0, none⟩)]]) w0 (fun e w' => ∃ v, e = .returned v ∧ ∃ (D1 : Snap) (A565 : Option Addr) (c566 : Nat) (q567 : Blk) (A570 : Option Addr) (c571 : Nat), v = .slice A565 (List.length (r.1)) c566 ∧ Stp g w0 D0 [bx b1 94 (c_T_wire_Reader (x7) A8 c9), bx b2 65 ([.pointer (some ⟨b1, 0, none⟩)])] w' D1 [bx b1 94 (c_T_wire_Reader ((T_wire_Reader.mk (r.2.fB) (r.2.fBad))) A570 c571), bx b2 65 ([.pointer (some ⟨b1, 0, none⟩)]), q567] ∧ OwnD (kdArr .u8 32) 23 D1 A565 c566 (r.1) q567 ∧ Sl (kdInt .u8) D1 A570 c571 (r.2.fB)) := by
  unfold bundle_read_api_Hash.f at hf
  have hS := Stp.refl hS0
  clear hS0
  refine calls_body (n := 31) Try.func40 rfl Try.ntmps40 rfl (fun a hE => ?_)
  have hE : Env a 31 [] [(0, .pointer (some ⟨b1, 0, none⟩)), (1, .int .i64 (x5)), (2, .int .i64 (x6)), (3, .func (.func 41) #[] #[.pointer (some ⟨b2, 0, none⟩)])] := hE
  refine wpIn_seq ?_
  refine region_at ?_
  refine segN 1 (j := 1) [(8, .slice none 0 0)] hE (by kernel_rfl) rfl (fun a hE => ?_)
  refine at_end rfl ?_
  obtain ⟨j1117, hj1118, hf⟩ := jn_elim hf
  refine seq_join (fun a w => ∃ (y581 : T_wire_Reader), ∃ (A584 : Option Addr), ∃ (c585 : Nat), ∃ (D582 : Snap), Env a 31 [] [(0, .pointer (some ⟨b1, 0, none⟩)), (1, .int .i64 (x5)), (3, .func (.func 41) #[] #[.pointer (some ⟨b2, 0, none⟩)])] ∧ Stp g w0 D0 [bx b1 94 (c_T_wire_Reader (x7) A8 c9), bx b2 65 ([.pointer (some ⟨b1, 0, none⟩)])] w D582 [bx b1 94 (c_T_wire_Reader (y581) A584 c585), bx b2 65 ([.pointer (some ⟨b1, 0, none⟩)])] ∧ Snap.le D0 D582 ∧ Sl (kdInt .u8) D582 A584 c585 (y581.fB) ∧ j1117 y581 = some r) ?_ ?_
  · clear hj1118
    refine wpIn_seq ?_
    refine region_at ?_
    refine segN 3 (j := 3) [(13, .bool ((decide (x6 < x5))))] hE (by kernel_rfl) rfl (fun a hE => ?_)
    refine at_end rfl ?_
    refine cond_split hE (b := (decide (x6 < x5))) rfl (fun hb => ?_) (fun hb => ?_)
    · replace hf := cond_t hb hf
      clear hb
      refine region_at ?_
      refine segN 1 (j := 1) [(14, .pointer (some ⟨b1, 0, none⟩))] hE (by kernel_rfl) rfl (fun a hE => ?_)
      obtain ⟨r1119, h1120, hf⟩ := bind_some hf
      refine at_op (op_call rfl rfl rfl rfl hE rfl rfl rfl rfl (by kernel_rfl) (wire_Reader_Fail.calls (g := g) h1120 (hS.st.fore (L := [bx b1 94 (c_T_wire_Reader (x7) A8 c9)])) h10) (fun a v w hR hE => ?_)) rfl
      obtain ⟨D1121, A1123, c1124, rfl, hS1, h1125⟩ := hR
      have le1126 := hS1.dle
      have hS := hS.callR hS1 rfl (.c .n)
      clear hS1
      refine at_end rfl ?_
      exact ⟨r1119, A1123, c1124, D1121, hE.weak (by kernel_rfl), hS, le1126, h1125, hf⟩
    · replace hf := cond_f hb hf
      clear hb
      refine wpIn_skip ?_
      exact ⟨x7, A8, c9, D0, hE.weak (by kernel_rfl), hS, Snap.le.refl _, h10, hf⟩
  · clear hE hS
    rintro a w ⟨y581, A584, c585, D582, hE, hS, le583, h586, hf⟩
    replace hf := hj1118 _ hf
    clear hj1118
    refine wpIn_seq ?_
    refine region_at ?_
    refine segN 1 (j := 1) [(9, .slice none 0 0)] hE (by kernel_rfl) rfl (fun a hE => ?_)
    refine at_end rfl ?_
    refine wpIn_seq ?_
    refine wpIn_seq ?_
    refine region_at ?_
    refine segN 2 (j := 2) [(16, .int .i64 (x5)), (17, .int .i64 ((0 : Int)))] hE (by kernel_rfl) rfl (fun a hE => ?_)
    refine at_end rfl ?_
    obtain ⟨s1046, hf, hs1047⟩ := bind_some hf
    have hS := hS.nils
    have hS := hS.pk (.c 1 rfl (.c 2 rfl (.c 0 rfl .n))) rfl
    refine block_loop (fun a w => ∃ (z1035 : (List (Vector Int 32)) × T_wire_Reader), ∃ (A1038 : Option Addr), ∃ (c1039 : Nat), ∃ (q1040 : Blk), ∃ (A1043 : Option Addr), ∃ (c1044 : Nat), ∃ (D1036 : Snap), Env a 31 [] [(9, .slice A1038 (List.length (z1035.1)) c1039)] ∧ Stp g w0 D0 [bx b1 94 (c_T_wire_Reader (x7) A8 c9), bx b2 65 ([.pointer (some ⟨b1, 0, none⟩)])] w D1036 [bx b1 94 (c_T_wire_Reader (z1035.2) A1043 c1044), bx b2 65 ([.pointer (some ⟨b1, 0, none⟩)]), q1040] ∧ Snap.le D582 D1036 ∧ OwnD (kdArr .u8 32) 23 D1036 A1038 c1039 (z1035.1) q1040 ∧ Sl (kdInt .u8) D1036 A1043 c1044 (z1035.2.fB) ∧ z1035 = s1046) (fun k a w => ∃ (y945 : (List (Vector Int 32)) × Int × T_wire_Reader), ∃ (A948 : Option Addr), ∃ (c949 : Nat), ∃ (q950 : Blk), ∃ (A953 : Option Addr), ∃ (c954 : Nat), ∃ (D946 : Snap), Env a 31 [] [(0, .pointer (some ⟨b1, 0, none⟩)), (3, .func (.func 41) #[] #[.pointer (some ⟨b2, 0, none⟩)]), (9, .slice A948 (List.length (y945.1)) c949), (16, .int .i64 (x5)), (17, .int .i64 (y945.2.1))] ∧ Stp g w0 D0 [bx b1 94 (c_T_wire_Reader (x7) A8 c9), bx b2 65 ([.pointer (some ⟨b1, 0, none⟩)])] w D946 [bx b1 94 (c_T_wire_Reader (y945.2.2) A953 c954), bx b2 65 ([.pointer (some ⟨b1, 0, none⟩)]), q950] ∧ Snap.le D582 D946 ∧ OwnD (kdArr .u8 32) 23 D946 A948 c949 (y945.1) q950 ∧ Sl (kdInt .u8) D946 A953 c954 (y945.2.2.fB) ∧ bundle_read_api_Hash_l1.l K x5 k y945 = some s1046) K ?_ ?_ ?_
    · exact ⟨(([] : List (Vector Int 32)), (0 : Int), y581), none, 0, none, A584, c585, D582, hE.weak (by kernel_rfl), hS, Snap.le.refl _, (OwnD.nil (kdArr .u8 32) 23 D582), h586, hf⟩
    · clear hE hS hf
      rintro a w ⟨z1035, A1038, c1039, q1040, A1043, c1044, D1036, hE, hS, le1037, h1041, h1045, rfl⟩
      have hf := hs1047
      clear hs1047
      refine wpIn_seq ?_
      refine region_at ?_
      refine segN 2 (j := 2) [(8, .slice A1038 (List.length (z1035.1)) c1039)] hE (by kernel_rfl) rfl (fun a hE => ?_)
      refine at_end rfl ?_
      refine wpIn_ret ?_
      obtain rfl := Option.some.inj hf
      repeat (with_reducible first | refine then_ret ?_ | refine block_ret ?_ | refine qx_ret ?_)
      refine ret_gen ([.slice A1038 (List.length (z1035.1)) c1039]) hE (by rw [show Try.f40.results.toList = [.tmp 8] from rfl]; exact ⟨_, _, rfl, rfl, rfl⟩) ?_
      exact ⟨_, rfl, D1036, A1038, c1039, q1040, A1043, c1044, rfl, hS, h1041, h1045⟩
    · clear hE hS hf
      rintro k a w ⟨y945, A948, c949, q950, A953, c954, D946, hE, hS, le947, h951, h955, hf⟩
      obtain ⟨k, rfl, hf⟩ := bundle_read_api_Hash_l1.some _ hf
      refine ⟨k, rfl, ?_⟩
      unfold bundle_read_api_Hash_l1.b at hf
      refine wpIn_seq ?_
      refine region_at ?_
      refine segN 1 (j := 1) [(18, .bool ((decide (y945.2.1 < x5))))] hE (by kernel_rfl) rfl (fun a hE => ?_)
      refine at_end rfl ?_
      refine wpIn_seq ?_
      refine cond_split hE (b := (decide (y945.2.1 < x5))) rfl (fun hb => ?_) (fun hb => ?_)
      · replace hf := cond_t hb hf
        clear hb
        refine wpIn_skip ?_
        refine wpIn_seq ?_
        refine wpIn_block ?_
        refine wpIn_seq ?_
        refine region_at ?_
        refine segN 2 (j := 2) [(10, .int .i64 (y945.2.1))] hE (by kernel_rfl) rfl (fun a hE => ?_)
        refine at_end rfl ?_
        refine wpIn_seq ?_
        refine wpIn_seq ?_
        refine region_at ?_
        refine segN 1 (j := 1) [(20, .pointer (some ⟨b1, 0, none⟩))] hE (by kernel_rfl) rfl (fun a hE => ?_)
        obtain ⟨r1087, h1088, hf⟩ := bind_some hf
        refine at_op (op_call rfl rfl rfl rfl hE rfl rfl rfl rfl (by kernel_rfl) (wire_Reader_Bad.calls (g := g) h1088 (hS.st.fore (L := [bx b1 94 (c_T_wire_Reader (y945.2.2) A953 c954)])) h955) (fun a v w hR hE => ?_)) rfl
        obtain ⟨D1089, rfl, hS1⟩ := hR
        have le1091 := hS1.dle
        have hS := hS.callR hS1 rfl (.c .n)
        clear hS1
        refine segN 1 (j := 3) [(22, .bool ((!decide (r1087 = (0 : Int)))))] hE (by kernel_rfl) rfl (fun a hE => ?_)
        refine at_end rfl ?_
        refine cond_split hE (b := (!decide (r1087 = (0 : Int)))) rfl (fun hb => ?_) (fun hb => ?_)
        · replace hf := cond_t hb hf
          clear hb
          refine wpIn_exit ?_
          obtain rfl := Option.some.inj hf
          exact ⟨(y945.1, y945.2.2), A948, c949, q950, A953, c954, D1089, hE.weak (by kernel_rfl), hS, (Snap.le.trans le947 le1091), (h951.mono le1091), (h955.mono le1091), rfl⟩
        · replace hf := cond_f hb hf
          clear hb
          refine wpIn_skip ?_
          refine region_at ?_
          refine segN 3 (j := 3) [(23, .slice A948 (List.length (y945.1)) c949), (24, .func (.func 41) #[] #[.pointer (some ⟨b2, 0, none⟩)]), (25, .int .i64 (y945.2.1))] hE (by kernel_rfl) rfl (fun a hE => ?_)
          have hS := hS.pk (.c 1 rfl (.c 0 rfl (.c 2 rfl .n))) rfl
          obtain ⟨r1092, h1093, hf⟩ := bind_some hf
          refine at_op (op_call rfl rfl rfl rfl hE rfl rfl rfl rfl (by kernel_rfl) (bundle_Get_3_1.calls (g := g) h1093 (hS.st.fore (L := [bx b2 65 ([.pointer (some ⟨b1, 0, none⟩)]), bx b1 94 (c_T_wire_Reader (y945.2.2) A953 c954)])) (h955.mono le1091)) (fun a v w hR hE => ?_)) rfl
          obtain ⟨D1094, A1096, c1097, rfl, hS1, h1098⟩ := hR
          have le1099 := hS1.dle
          have hS := hS.callR hS1 rfl (.c (.c .n))
          clear hS1
          refine at_op (op_buildSlice (K := (kdArr .u8 32)) (e := 23) (cs := acells .u8 32 (r1092.1) ++ []) ([r1092.1] : List (Vector Int 32)) rfl rfl rfl rfl hE rfl hS rfl (by kernel_rfl) rfl rfl (by exact (show RL (kdArr .u8 32) D1094 ([r1092.1] : List (Vector Int 32)) (acells .u8 32 (r1092.1) ++ []) from ⟨_, _, rfl, rfl, rfl⟩)) (fun a A1100 q1101 w _ hE h1102 hS => ?_)) rfl
          obtain ⟨D1104, q1107, le1105, hS, h1108, h1106⟩ := hS.lent h1102
          have hS := hS.pk (.c 3 rfl (.c 0 rfl (.c 1 rfl (.c 2 rfl .n)))) rfl
          obtain ⟨l1109, h1110, hf⟩ := bind_some hf
          refine at_op (g_append (K := (kdArr .u8 32)) (e := 23) (bytes := 32) (l := y945.1) (m := ([r1092.1] : List (Vector Int 32))) rfl rfl rfl rfl hE rfl hS rfl rfl (by kernel_rfl) rfl rfl (h951.mono (Snap.le.trans (Snap.le.trans le1091 le1099) le1105)) h1106 h1110 (fun a A1111 c1112 q1113 w _ hE h1114 hS => ?_)) rfl
          refine segN 1 (j := 7) [(9, .slice A1111 (List.length (l1109)) c1112)] hE (by kernel_rfl) rfl (fun a hE => ?_)
          refine at_end rfl ?_
          refine region_at ?_
          refine segN 2 (j := 2) [(17, .int .i64 ((IntKind.wrap .i64 (y945.2.1 + (1 : Int)))))] hE (by kernel_rfl) rfl (fun a hE => ?_)
          refine at_end rfl ?_
          have hS := hS.pk (.c 3 rfl (.c 2 rfl (.c 0 rfl .n))) rfl
          exact ⟨(l1109, (IntKind.wrap .i64 (y945.2.1 + (1 : Int))), r1092.2), A1111, c1112, q1113, A1096, c1097, D1104, hE.weak (by kernel_rfl), hS, (Snap.le.trans (Snap.le.trans (Snap.le.trans le947 le1091) le1099) le1105), h1114, (h1098.mono le1105), hf⟩
      · replace hf := cond_f hb hf
        clear hb
        refine wpIn_exit ?_
        obtain rfl := Option.some.inj hf
        exact ⟨(y945.1, y945.2.2), A948, c949, q950, A953, c954, D946, hE.weak (by kernel_rfl), hS, le947, h951, h955, rfl⟩

set_option maxRecDepth 100000 in
set_option maxHeartbeats 4000000 in
theorem bundle_Get_3.calls {K : Nat} {g w0 : World} {D0 : Snap} {x5 : Int} {x6 : T_wire_Reader} {b1 : Nat} {b2 : Nat} {A7 : Option Addr} {c8 : Nat} {r : (T_api_Item × T_wire_Reader)} (hf : bundle_Get_3.f K x5 x6 = some r) (hS0 : St g w0 D0 [bx b1 65 ([.pointer (some ⟨b2, 0, none⟩)]), bx b2 94 (c_T_wire_Reader (x6) A7 c8)]) (h9 : Sl (kdInt .u8) D0 A7 c8 (x6.fB)) :
    CallsIn (Fw none) 0 Try.prog 39 (List.toArray [.int .i64 (x5), .pointer (some ⟨b1, 0, none⟩)]) w0 (fun e w' => ∃ v, e = .returned v ∧ ∃ (D1 : Snap) (A389 : Option Addr) (c390 : Nat) (A392 : Option Addr) (c393 : Nat) (A395 : Option Addr) (c396 : Nat) (A398 : Option Addr) (c399 : Nat), v = .agg (List.toArray (c_T_api_Item ((T_api_Item.mk (r.1.fAt) ((T_api_Rec.mk (r.1.fRec.fKind) (r.1.fRec.fSaga) (r.1.fRec.fSeq) (r.1.fRec.fStep) (r.1.fRec.fTry) (r.1.fRec.fBack) (r.1.fRec.fGood) (r.1.fRec.fEnd) (r.1.fRec.fPart) (r.1.fRec.fEpoch) (r.1.fRec.fTag) (r.1.fRec.fSteps) (r.1.fRec.fData) (r.1.fRec.fSalt) (r.1.fRec.fGone) (r.1.fRec.fCom))) (r.1.fPath))) A389 c390 A392 c393 A395 c396)) ∧ Stp g w0 D0 [bx b1 65 ([.pointer (some ⟨b2, 0, none⟩)]), bx b2 94 (c_T_wire_Reader (x6) A7 c8)] w' D1 [bx b1 65 ([.pointer (some ⟨b2, 0, none⟩)]), bx b2 94 (c_T_wire_Reader ((T_wire_Reader.mk (r.2.fB) (r.2.fBad))) A398 c399)] ∧ Sl kd_T_api_Step D1 A389 c390 (r.1.fRec.fSteps) ∧ Sl (kdInt .u8) D1 A392 c393 (r.1.fRec.fData) ∧ Sl (kdArr .u8 32) D1 A395 c396 (r.1.fPath) ∧ Sl (kdInt .u8) D1 A398 c399 (r.2.fB)) := by
  unfold bundle_Get_3.f at hf
  have hS := Stp.refl hS0
  clear hS0
  refine calls_body (n := 17) Try.func39 rfl Try.ntmps39 rfl (fun a hE => ?_)
  have hE : Env a 17 [] [(0, .int .i64 (x5)), (1, .pointer (some ⟨b1, 0, none⟩))] := hE
  refine wpIn_seq ?_
  refine region_at ?_
  refine at_op (op_alloc (z := .agg (List.toArray (c_T_api_Item (z_T_api_Item) none 0 none 0 none 0))) rfl rfl rfl rfl hE rfl hS (by kernel_rfl) (fun a b401 w _ hE hS => ?_)) rfl
  refine at_end rfl ?_
  obtain ⟨j625, hj626, hf⟩ := jn_elim hf
  refine seq_join (fun a w => ∃ (y561 : T_api_Item × T_wire_Reader), ∃ (A564 : Option Addr), ∃ (c565 : Nat), ∃ (A567 : Option Addr), ∃ (c568 : Nat), ∃ (A570 : Option Addr), ∃ (c571 : Nat), ∃ (A573 : Option Addr), ∃ (c574 : Nat), ∃ (b577 : Nat), ∃ (D562 : Snap), Env a 17 [] [(1, .pointer (some ⟨b1, 0, none⟩)), (3, .pointer (some ⟨b401, 0, none⟩)), (4, .pointer (some ⟨b577, 0, none⟩))] ∧ Stp g w0 D0 [bx b1 65 ([.pointer (some ⟨b2, 0, none⟩)]), bx b2 94 (c_T_wire_Reader (x6) A7 c8)] w D562 [bx b577 50 (c_T_api_Item (y561.1) A564 c565 A567 c568 A570 c571), bx b1 65 ([.pointer (some ⟨b2, 0, none⟩)]), bx b2 94 (c_T_wire_Reader (y561.2) A573 c574), bx b401 50 (c_T_api_Item (z_T_api_Item) none 0 none 0 none 0)] ∧ Snap.le D0 D562 ∧ Sl kd_T_api_Step D562 A564 c565 (y561.1.fRec.fSteps) ∧ Sl (kdInt .u8) D562 A567 c568 (y561.1.fRec.fData) ∧ Sl (kdArr .u8 32) D562 A570 c571 (y561.1.fPath) ∧ Sl (kdInt .u8) D562 A573 c574 (y561.2.fB) ∧ j625 y561 = some r) ?_ ?_
  · clear hj626
    refine region_draw (fun j => RP (plOf [] [b1] j)) (by kernel_rfl) ?_
    have hS := hS.drew
    first | generalize w.drew = w at hS ⊢ | generalize w0.drew = w at hS ⊢
    refine tP 0 1 (fuel := 6) (by kernel_rfl) hE (tk_load 1 (.pointer (some ⟨b2, 0, none⟩)) rfl rfl rfl rfl hE rfl hS rfl rfl (by kernel_rfl) (fun _ h => h.at_ (List.Mem.head _)) (fun a hE => ?_))
    refine tP 2 5 (fuel := 5) (by kernel_rfl) hE (tk_load 1 (.pointer (some ⟨b2, 0, none⟩)) rfl rfl rfl rfl hE rfl hS rfl rfl (by kernel_rfl) (fun _ h => h.at_ (List.Mem.head _)) (fun a hE => ?_))
    refine twoB (i := 1) (j := 5) (fuel := 4) (m1 := 7) (m2 := 37) (by kernel_rfl) (by kernel_rfl) (by kernel_rfl) ?_ ?_
    · have hp_b1 := hS.heapAt (j := 1) rfl
      have hS := hS.pk (.c 2 rfl (.c 0 rfl (.c 1 rfl .n))) rfl
      obtain ⟨r706, h707, hf⟩ := bind_some hf
      refine (op_call rfl rfl rfl rfl hE rfl rfl rfl rfl (by kernel_rfl) (wire_Reader_Num.calls (g := g) h707 (hS.st.fore (L := [bx b2 94 (c_T_wire_Reader (x6) A7 c8)])) h9) (fun a v w hR hE => ?_))
      obtain ⟨D708, A710, c711, rfl, hS1, h712⟩ := hR
      have le713 := hS1.dle
      have hS := hS.callR hS1 rfl (.c .n)
      clear hS1
      refine ⟨show RP [b1] _ _ from ⟨(hS.heapAt (j := 2) rfl).trans hp_b1.symm, trivial⟩, ?_⟩
      clear hp_b1
      refine twoB (i := 3) (j := 5) (fuel := 3) (m1 := 15) (m2 := 39) (by kernel_rfl) (by kernel_rfl) (by kernel_rfl) ?_ ?_
      · have hp_b1 := hS.heapAt (j := 2) rfl
        obtain ⟨r714, h715, hf⟩ := bind_some hf
        refine (op_call rfl rfl rfl rfl hE rfl rfl rfl rfl (by kernel_rfl) (rec_Read.calls (g := g) h715 (hS.st.fore (L := [bx b2 94 (c_T_wire_Reader (r706.2) A710 c711)])) h712) (fun a v w hR hE => ?_))
        obtain ⟨D716, A718, c719, A721, c722, A724, c725, rfl, hS1, h720, h723, h726⟩ := hR
        have le727 := hS1.dle
        have hS := hS.callR hS1 rfl (.c .n)
        clear hS1
        refine ⟨show RP [b1] _ _ from ⟨(hS.heapAt (j := 2) rfl).trans hp_b1.symm, trivial⟩, ?_⟩
        clear hp_b1
        refine tW 4 31 (fuel := 2) (by kernel_rfl) hE (fun M => tk_build (c_T_api_Item ((T_api_Item.mk (r706.1) (r714.1) (([] : List (Vector Int 32))))) A718 c719 A721 c722 none 0) rfl rfl rfl rfl hE rfl rfl (by kernel_rfl) (fun a hE => ?_))
        have hp_b1 := hS.heapAt (j := 2) rfl
        refine oG 5 63 (fuel := 1) (by kernel_rfl) (op_alloc (z := .agg (List.toArray (c_T_api_Item (z_T_api_Item) none 0 none 0 none 0))) rfl rfl rfl rfl hE rfl hS (by kernel_rfl) (fun a b728 w _ hE hS => ?_))
        refine ⟨show RP [b1] _ _ from ⟨(hS.heapAt (j := 3) rfl).trans hp_b1.symm, trivial⟩, ?_⟩
        clear hp_b1
        have hp_b1 := hS.heapAt (j := 3) rfl
        obtain ⟨v730, hv731, hf⟩ := bind_some hf
        replace hv731 := Option.some.inj hv731
        refine oG 6 127 (fuel := 0) (by kernel_rfl) (op_store (v := .agg (List.toArray (c_T_api_Item ((T_api_Item.mk (r706.1) (r714.1) (([] : List (Vector Int 32))))) A718 c719 A721 c722 none 0))) (c_T_api_Item (v730) A718 c719 A721 c722 none 0) rfl rfl rfl rfl hE hS rfl rfl (by kernel_rfl) (by kernel_rfl) (by kernel_rfl) (by kernel_rfl) (by rw [← hv731]; kernel_rfl) (fun a w _ hE hS => ?_))
        have h732 : Sl kd_T_api_Step D716 A718 c719 (v730.fRec.fSteps) := by rw [← hv731]; exact h720
        have h733 : Sl (kdInt .u8) D716 A721 c722 (v730.fRec.fData) := by rw [← hv731]; exact h723
        have h734 : Sl (kdArr .u8 32) D716 none 0 (v730.fPath) := by rw [← hv731]; exact (Sl.nil (kdArr .u8 32) D716)
        refine ⟨show RP [b1] _ _ from ⟨(hS.heapAt (j := 3) rfl).trans hp_b1.symm, trivial⟩, ?_⟩
        clear hp_b1
        refine doneG (by kernel_rfl) ?_
        have hS := hS.pk (.c 0 rfl (.c 3 rfl (.c 1 rfl (.c 2 rfl .n)))) rfl
        exact ⟨(v730, r714.2), A718, c719, A721, c722, none, 0, A724, c725, b728, D716, hE.weak (by kernel_rfl), hS, (Snap.le.trans le713 le727), h732, h733, h734, h726, hf⟩
      · have hp_b1 := hS.heapAt (j := 2) rfl
        refine (op_alloc (z := .agg (List.toArray (c_T_api_Item (z_T_api_Item) none 0 none 0 none 0))) rfl rfl rfl rfl hE rfl hS (by kernel_rfl) (fun a b735 w _ hE hS => ?_))
        refine ⟨show RP [b1] _ _ from ⟨(hS.heapAt (j := 3) rfl).trans hp_b1.symm, trivial⟩, ?_⟩
        clear hp_b1
        have hp_b1 := hS.heapAt (j := 3) rfl
        have hS := hS.pk (.c 1 rfl (.c 0 rfl (.c 2 rfl (.c 3 rfl .n)))) rfl
        obtain ⟨r737, h738, hf⟩ := bind_some hf
        refine oG 3 47 (fuel := 2) (by kernel_rfl) (op_call rfl rfl rfl rfl hE rfl rfl rfl rfl (by kernel_rfl) (rec_Read.calls (g := g) h738 (hS.st.fore (L := [bx b2 94 (c_T_wire_Reader (r706.2) A710 c711)])) h712) (fun a v w hR hE => ?_))
        obtain ⟨D739, A741, c742, A744, c745, A747, c748, rfl, hS1, h743, h746, h749⟩ := hR
        have le750 := hS1.dle
        have hS := hS.callR hS1 rfl (.c .n)
        clear hS1
        refine ⟨show RP [b1] _ _ from ⟨(hS.heapAt (j := 3) rfl).trans hp_b1.symm, trivial⟩, ?_⟩
        clear hp_b1
        refine tW 4 63 (fuel := 1) (by kernel_rfl) hE (fun M => tk_build (c_T_api_Item ((T_api_Item.mk (r706.1) (r737.1) (([] : List (Vector Int 32))))) A741 c742 A744 c745 none 0) rfl rfl rfl rfl hE rfl rfl (by kernel_rfl) (fun a hE => ?_))
        have hp_b1 := hS.heapAt (j := 3) rfl
        have hS := hS.pk (.c 1 rfl (.c 0 rfl (.c 2 rfl (.c 3 rfl .n)))) rfl
        obtain ⟨v751, hv752, hf⟩ := bind_some hf
        replace hv752 := Option.some.inj hv752
        refine oG 6 127 (fuel := 0) (by kernel_rfl) (op_store (v := .agg (List.toArray (c_T_api_Item ((T_api_Item.mk (r706.1) (r737.1) (([] : List (Vector Int 32))))) A741 c742 A744 c745 none 0))) (c_T_api_Item (v751) A741 c742 A744 c745 none 0) rfl rfl rfl rfl hE hS rfl rfl (by kernel_rfl) (by kernel_rfl) (by kernel_rfl) (by kernel_rfl) (by rw [← hv752]; kernel_rfl) (fun a w _ hE hS => ?_))
        have h753 : Sl kd_T_api_Step D739 A741 c742 (v751.fRec.fSteps) := by rw [← hv752]; exact h743
        have h754 : Sl (kdInt .u8) D739 A744 c745 (v751.fRec.fData) := by rw [← hv752]; exact h746
        have h755 : Sl (kdArr .u8 32) D739 none 0 (v751.fPath) := by rw [← hv752]; exact (Sl.nil (kdArr .u8 32) D739)
        refine ⟨show RP [b1] _ _ from ⟨(hS.heapAt (j := 3) rfl).trans hp_b1.symm, trivial⟩, ?_⟩
        clear hp_b1
        refine doneG (by kernel_rfl) ?_
        have hS := hS.pk (.c 0 rfl (.c 3 rfl (.c 1 rfl (.c 2 rfl .n)))) rfl
        exact ⟨(v751, r737.2), A741, c742, A744, c745, none, 0, A747, c748, b735, D739, hE.weak (by kernel_rfl), hS, (Snap.le.trans le713 le750), h753, h754, h755, h749, hf⟩
    · have hp_b1 := hS.heapAt (j := 1) rfl
      refine (op_alloc (z := .agg (List.toArray (c_T_api_Item (z_T_api_Item) none 0 none 0 none 0))) rfl rfl rfl rfl hE rfl hS (by kernel_rfl) (fun a b756 w _ hE hS => ?_))
      refine ⟨show RP [b1] _ _ from ⟨(hS.heapAt (j := 2) rfl).trans hp_b1.symm, trivial⟩, ?_⟩
      clear hp_b1
      have hp_b1 := hS.heapAt (j := 2) rfl
      have hS := hS.pk (.c 3 rfl (.c 0 rfl (.c 1 rfl (.c 2 rfl .n)))) rfl
      obtain ⟨r758, h759, hf⟩ := bind_some hf
      refine oG 1 39 (fuel := 3) (by kernel_rfl) (op_call rfl rfl rfl rfl hE rfl rfl rfl rfl (by kernel_rfl) (wire_Reader_Num.calls (g := g) h759 (hS.st.fore (L := [bx b2 94 (c_T_wire_Reader (x6) A7 c8)])) h9) (fun a v w hR hE => ?_))
      obtain ⟨D760, A762, c763, rfl, hS1, h764⟩ := hR
      have le765 := hS1.dle
      have hS := hS.callR hS1 rfl (.c .n)
      clear hS1
      refine ⟨show RP [b1] _ _ from ⟨(hS.heapAt (j := 3) rfl).trans hp_b1.symm, trivial⟩, ?_⟩
      clear hp_b1
      have hp_b1 := hS.heapAt (j := 3) rfl
      obtain ⟨r766, h767, hf⟩ := bind_some hf
      refine oG 3 47 (fuel := 2) (by kernel_rfl) (op_call rfl rfl rfl rfl hE rfl rfl rfl rfl (by kernel_rfl) (rec_Read.calls (g := g) h767 (hS.st.fore (L := [bx b2 94 (c_T_wire_Reader (r758.2) A762 c763)])) h764) (fun a v w hR hE => ?_))
      obtain ⟨D768, A770, c771, A773, c774, A776, c777, rfl, hS1, h772, h775, h778⟩ := hR
      have le779 := hS1.dle
      have hS := hS.callR hS1 rfl (.c .n)
      clear hS1
      refine ⟨show RP [b1] _ _ from ⟨(hS.heapAt (j := 3) rfl).trans hp_b1.symm, trivial⟩, ?_⟩
      clear hp_b1
      refine tW 4 63 (fuel := 1) (by kernel_rfl) hE (fun M => tk_build (c_T_api_Item ((T_api_Item.mk (r758.1) (r766.1) (([] : List (Vector Int 32))))) A770 c771 A773 c774 none 0) rfl rfl rfl rfl hE rfl rfl (by kernel_rfl) (fun a hE => ?_))
      have hp_b1 := hS.heapAt (j := 3) rfl
      have hS := hS.pk (.c 1 rfl (.c 0 rfl (.c 2 rfl (.c 3 rfl .n)))) rfl
      obtain ⟨v780, hv781, hf⟩ := bind_some hf
      replace hv781 := Option.some.inj hv781
      refine oG 6 127 (fuel := 0) (by kernel_rfl) (op_store (v := .agg (List.toArray (c_T_api_Item ((T_api_Item.mk (r758.1) (r766.1) (([] : List (Vector Int 32))))) A770 c771 A773 c774 none 0))) (c_T_api_Item (v780) A770 c771 A773 c774 none 0) rfl rfl rfl rfl hE hS rfl rfl (by kernel_rfl) (by kernel_rfl) (by kernel_rfl) (by kernel_rfl) (by rw [← hv781]; kernel_rfl) (fun a w _ hE hS => ?_))
      have h782 : Sl kd_T_api_Step D768 A770 c771 (v780.fRec.fSteps) := by rw [← hv781]; exact h772
      have h783 : Sl (kdInt .u8) D768 A773 c774 (v780.fRec.fData) := by rw [← hv781]; exact h775
      have h784 : Sl (kdArr .u8 32) D768 none 0 (v780.fPath) := by rw [← hv781]; exact (Sl.nil (kdArr .u8 32) D768)
      refine ⟨show RP [b1] _ _ from ⟨(hS.heapAt (j := 3) rfl).trans hp_b1.symm, trivial⟩, ?_⟩
      clear hp_b1
      refine doneG (by kernel_rfl) ?_
      have hS := hS.pk (.c 0 rfl (.c 3 rfl (.c 1 rfl (.c 2 rfl .n)))) rfl
      exact ⟨(v780, r766.2), A770, c771, A773, c774, none, 0, A776, c777, b756, D768, hE.weak (by kernel_rfl), hS, (Snap.le.trans le765 le779), h782, h783, h784, h778, hf⟩
  · clear hE hS
    rintro a w ⟨y561, A564, c565, A567, c568, A570, c571, A573, c574, b577, D562, hE, hS, le563, h566, h569, h572, h575, hf⟩
    replace hf := hj626 _ hf
    clear hj626
    refine wpIn_seq ?_
    refine region_draw (fun j => Keeps (mfOf [(2, [b2]), (4, [b2]), (6, [b577])] j)) (by kernel_rfl) ?_
    have hS := hS.drew
    first | generalize w.drew = w at hS ⊢ | generalize w0.drew = w at hS ⊢
    refine tW 3 8 (fuel := 6) (by kernel_rfl) hE (fun M => tk_pure (.func (.func 41) #[] #[.pointer (some ⟨b1, 0, none⟩)]) hE rfl rfl rfl rfl (fun _ _ _ e => by cases e) (by kernel_rfl) (fun a hE => ?_))
    refine tN (T := [(2, [b2]), (4, [b2]), (6, [b577])]) [2] 0 9 (fuel := 5) (by kernel_rfl) hE (tk_load 1 (.pointer (some ⟨b2, 0, none⟩)) rfl rfl rfl rfl hE rfl hS rfl rfl (by kernel_rfl) (kL (j := 1) hS rfl (show b1 ∉ [b2] from (nm_cons (hS.ne (i := 1) (j := 2) (by decide) rfl rfl) List.not_mem_nil))) (fun a hE => ?_))
    refine tN (T := [(2, [b2]), (4, [b2]), (6, [b577])]) [4] 1 11 (fuel := 4) (by kernel_rfl) hE (tk_load 1 (.pointer (some ⟨b2, 0, none⟩)) rfl rfl rfl rfl hE rfl hS rfl rfl (by kernel_rfl) (kL (j := 1) hS rfl (show b1 ∉ [b2] from (nm_cons (hS.ne (i := 1) (j := 2) (by decide) rfl rfl) List.not_mem_nil))) (fun a hE => ?_))
    have hS := hS.pk (.c 2 rfl (.c 0 rfl (.c 1 rfl (.c 3 rfl .n)))) rfl
    obtain ⟨r599, h600, hf⟩ := bind_some hf
    refine oG 2 15 (fuel := 3) (by kernel_rfl) (op_call rfl rfl rfl rfl hE rfl rfl rfl rfl (by kernel_rfl) (wire_Reader_Num.calls (g := g) h600 (hS.st.fore (L := [bx b2 94 (c_T_wire_Reader (y561.2) A573 c574)])) h575) (fun a v w hR hE => ?_))
    obtain ⟨D601, A603, c604, rfl, hS1, h605⟩ := hR
    refine ⟨(hS1.keeps.sub (M' := [b2]) ⟨.inl (List.Mem.head _), trivial⟩).mono (fun _ h => h), ?_⟩
    have le606 := hS1.dle
    have hS := hS.callR hS1 rfl (.c .n)
    clear hS1
    have hS := hS.pk (.c 0 rfl (.c 2 rfl (.c 1 rfl (.c 3 rfl .n)))) rfl
    obtain ⟨r607, h608, hf⟩ := bind_some hf
    refine oG 4 31 (fuel := 2) (by kernel_rfl) (op_call rfl rfl rfl rfl hE rfl rfl rfl rfl (by kernel_rfl) (bundle_read_api_Hash.calls (g := g) h608 (hS.st.fore (L := [bx b2 94 (c_T_wire_Reader (r599.2) A603 c604), bx b1 65 ([.pointer (some ⟨b2, 0, none⟩)])])) h605) (fun a v w hR hE => ?_))
    obtain ⟨D609, A611, c612, q613, A616, c617, rfl, hS1, h614, h618⟩ := hR
    refine ⟨(hS1.keeps.sub (M' := [b2]) ⟨.inl (List.Mem.head _), .inr ((hS1.heapAt (j := 1) rfl).trans (hS.heapAt (j := 1) rfl).symm), trivial⟩).mono (fun _ h => h), ?_⟩
    have le619 := hS1.dle
    have hS := hS.callR hS1 rfl (.c (.c (.c .n)))
    clear hS1
    refine tW 5 63 (fuel := 1) (by kernel_rfl) hE (fun M => g_fieldAddr (fo := 110) (ft := 48) 110 rfl rfl rfl rfl hE rfl rfl (by kernel_rfl) rfl (fun a hE => ?_))
    have hS := hS.pk (.c 3 rfl (.c 0 rfl (.c 1 rfl (.c 2 rfl (.c 4 rfl .n))))) rfl
    refine oG 6 127 (fuel := 0) (by kernel_rfl) (op_store (v := .slice A611 (List.length (r607.1)) c612) (c_T_api_Item ({ y561.1 with fPath := r607.1 }) A564 c565 A567 c568 A611 c612) rfl rfl rfl rfl hE hS rfl rfl (by kernel_rfl) (by kernel_rfl) (by kernel_rfl) (by kernel_rfl) (by kernel_rfl) (fun a w hkp hE hS => ⟨hkp.mono (fun _ h => h), ?_⟩))
    clear hkp
    refine doneG (by kernel_rfl) ?_
    refine wpIn_seq ?_
    refine region_at ?_
    refine at_op (op_tk hE (tk_load 0 (.agg (List.toArray (c_T_api_Item ({ y561.1 with fPath := r607.1 }) A564 c565 A567 c568 A611 c612))) rfl rfl rfl rfl hE rfl hS rfl rfl (by kernel_rfl) (kL (j := 0) hS rfl List.not_mem_nil) (fun a hE => ?_))) rfl
    have hS := hS.pk (.c 4 rfl (.c 0 rfl (.c 1 rfl (.c 2 rfl (.c 3 rfl .n))))) rfl
    refine at_op (op_store (v := .agg (List.toArray (c_T_api_Item ({ y561.1 with fPath := r607.1 }) A564 c565 A567 c568 A611 c612))) (c_T_api_Item ({ y561.1 with fPath := r607.1 }) A564 c565 A567 c568 A611 c612) rfl rfl rfl rfl hE hS rfl rfl (by kernel_rfl) (by kernel_rfl) (by kernel_rfl) (by kernel_rfl) (by kernel_rfl) (fun a w _ hE hS => ?_)) rfl
    refine at_end rfl ?_
    refine wpIn_ret ?_
    have hS := hS.pk (.c 4 rfl (.c 0 rfl (.c 1 rfl (.c 2 rfl (.c 3 rfl .n))))) rfl
    obtain ⟨D620, q623, le621, hS, h624, h622⟩ := hS.lent h614
    obtain rfl := Option.some.inj hf
    repeat (with_reducible first | refine then_ret ?_ | refine block_ret ?_ | refine qx_ret ?_)
    refine ret_gen ([.agg (List.toArray (c_T_api_Item ({ y561.1 with fPath := r607.1 }) A564 c565 A567 c568 A611 c612))]) hE (by rw [show Try.f39.results.toList = [.cell 3 50] from rfl]; exact ⟨_, _, _, 0, _, _, rfl, rfl, hS.heapAt (j := 1) rfl, by kernel_rfl, rfl⟩) ?_
    have hS := hS.pk (.c 4 rfl (.c 3 rfl .n)) rfl
    exact ⟨_, rfl, D620, A564, c565, A567, c568, A611, c612, A616, c617, rfl, hS, (h566.mono (Snap.le.trans (Snap.le.trans le606 le619) le621)), (h569.mono (Snap.le.trans (Snap.le.trans le606 le619) le621)), h622, (h618.mono le621)⟩

set_option maxRecDepth 100000 in
set_option maxHeartbeats 4000000 in
theorem bundle_read_api_Item_v2.calls {K : Nat} {g w0 : World} {D0 : Snap} {x5 : Int} {x6 : Int} {x7 : T_wire_Reader} {b1 : Nat} {b2 : Nat} {A8 : Option Addr} {c9 : Nat} {r : ((List T_api_Item) × T_wire_Reader)} (hf : bundle_read_api_Item_v2.f K x5 x6 x7 = some r) (hS0 : St g w0 D0 [bx b1 94 (c_T_wire_Reader (x7) A8 c9), bx b2 65 ([.pointer (some ⟨b1, 0, none⟩)])]) (h10 : Sl (kdInt .u8) D0 A8 c9 (x7.fB)) :
    CallsIn (Fw none) 0 Try.prog 36 (List.toArray [.pointer (some ⟨b1, 0, none⟩), .int .i64 (x5), .int .i64 (x6), .func (.func 39) #[] #[.pointer (some ⟨b2, 0, none⟩)]]) w0 (fun e w' => ∃ v, e = .returned v ∧ ∃ (D1 : Snap) (A673 : Option Addr) (c674 : Nat) (q675 : Blk) (A678 : Option Addr) (c679 : Nat), v = .slice A673 (List.length (r.1)) c674 ∧ Stp g w0 D0 [bx b1 94 (c_T_wire_Reader (x7) A8 c9), bx b2 65 ([.pointer (some ⟨b1, 0, none⟩)])] w' D1 [bx b1 94 (c_T_wire_Reader ((T_wire_Reader.mk (r.2.fB) (r.2.fBad))) A678 c679), bx b2 65 ([.pointer (some ⟨b1, 0, none⟩)]), q675] ∧ OwnD kd_T_api_Item 50 D1 A673 c674 (r.1) q675 ∧ Sl (kdInt .u8) D1 A678 c679 (r.2.fB)) := by
  unfold bundle_read_api_Item_v2.f at hf
  have hS := Stp.refl hS0
  clear hS0
  refine calls_body (n := 31) Try.func36 rfl Try.ntmps36 rfl (fun a hE => ?_)
  have hE : Env a 31 [] [(0, .pointer (some ⟨b1, 0, none⟩)), (1, .int .i64 (x5)), (2, .int .i64 (x6)), (3, .func (.func 39) #[] #[.pointer (some ⟨b2, 0, none⟩)])] := hE
  refine wpIn_seq ?_
  refine region_at ?_
  refine segN 1 (j := 1) [(8, .slice none 0 0)] hE (by kernel_rfl) rfl (fun a hE => ?_)
  refine at_end rfl ?_
  obtain ⟨j1333, hj1334, hf⟩ := jn_elim hf
  refine seq_join (fun a w => ∃ (y689 : T_wire_Reader), ∃ (A692 : Option Addr), ∃ (c693 : Nat), ∃ (D690 : Snap), Env a 31 [] [(0, .pointer (some ⟨b1, 0, none⟩)), (1, .int .i64 (x5)), (3, .func (.func 39) #[] #[.pointer (some ⟨b2, 0, none⟩)])] ∧ Stp g w0 D0 [bx b1 94 (c_T_wire_Reader (x7) A8 c9), bx b2 65 ([.pointer (some ⟨b1, 0, none⟩)])] w D690 [bx b1 94 (c_T_wire_Reader (y689) A692 c693), bx b2 65 ([.pointer (some ⟨b1, 0, none⟩)])] ∧ Snap.le D0 D690 ∧ Sl (kdInt .u8) D690 A692 c693 (y689.fB) ∧ j1333 y689 = some r) ?_ ?_
  · clear hj1334
    refine wpIn_seq ?_
    refine region_at ?_
    refine segN 3 (j := 3) [(13, .bool ((decide (x6 < x5))))] hE (by kernel_rfl) rfl (fun a hE => ?_)
    refine at_end rfl ?_
    refine cond_split hE (b := (decide (x6 < x5))) rfl (fun hb => ?_) (fun hb => ?_)
    · replace hf := cond_t hb hf
      clear hb
      refine region_at ?_
      refine segN 1 (j := 1) [(14, .pointer (some ⟨b1, 0, none⟩))] hE (by kernel_rfl) rfl (fun a hE => ?_)
      obtain ⟨r1335, h1336, hf⟩ := bind_some hf
      refine at_op (op_call rfl rfl rfl rfl hE rfl rfl rfl rfl (by kernel_rfl) (wire_Reader_Fail.calls (g := g) h1336 (hS.st.fore (L := [bx b1 94 (c_T_wire_Reader (x7) A8 c9)])) h10) (fun a v w hR hE => ?_)) rfl
      obtain ⟨D1337, A1339, c1340, rfl, hS1, h1341⟩ := hR
      have le1342 := hS1.dle
      have hS := hS.callR hS1 rfl (.c .n)
      clear hS1
      refine at_end rfl ?_
      exact ⟨r1335, A1339, c1340, D1337, hE.weak (by kernel_rfl), hS, le1342, h1341, hf⟩
    · replace hf := cond_f hb hf
      clear hb
      refine wpIn_skip ?_
      exact ⟨x7, A8, c9, D0, hE.weak (by kernel_rfl), hS, Snap.le.refl _, h10, hf⟩
  · clear hE hS
    rintro a w ⟨y689, A692, c693, D690, hE, hS, le691, h694, hf⟩
    replace hf := hj1334 _ hf
    clear hj1334
    refine wpIn_seq ?_
    refine region_at ?_
    refine segN 1 (j := 1) [(9, .slice none 0 0)] hE (by kernel_rfl) rfl (fun a hE => ?_)
    refine at_end rfl ?_
    refine wpIn_seq ?_
    refine wpIn_seq ?_
    refine region_at ?_
    refine segN 2 (j := 2) [(16, .int .i64 (x5)), (17, .int .i64 ((0 : Int)))] hE (by kernel_rfl) rfl (fun a hE => ?_)
    refine at_end rfl ?_
    obtain ⟨s1244, hf, hs1245⟩ := bind_some hf
    have hS := hS.nils
    have hS := hS.pk (.c 1 rfl (.c 2 rfl (.c 0 rfl .n))) rfl
    refine block_loop (fun a w => ∃ (z1233 : (List T_api_Item) × T_wire_Reader), ∃ (A1236 : Option Addr), ∃ (c1237 : Nat), ∃ (q1238 : Blk), ∃ (A1241 : Option Addr), ∃ (c1242 : Nat), ∃ (D1234 : Snap), Env a 31 [] [(9, .slice A1236 (List.length (z1233.1)) c1237)] ∧ Stp g w0 D0 [bx b1 94 (c_T_wire_Reader (x7) A8 c9), bx b2 65 ([.pointer (some ⟨b1, 0, none⟩)])] w D1234 [bx b1 94 (c_T_wire_Reader (z1233.2) A1241 c1242), bx b2 65 ([.pointer (some ⟨b1, 0, none⟩)]), q1238] ∧ Snap.le D690 D1234 ∧ OwnD kd_T_api_Item 50 D1234 A1236 c1237 (z1233.1) q1238 ∧ Sl (kdInt .u8) D1234 A1241 c1242 (z1233.2.fB) ∧ z1233 = s1244) (fun k a w => ∃ (y1125 : (List T_api_Item) × Int × T_wire_Reader), ∃ (A1128 : Option Addr), ∃ (c1129 : Nat), ∃ (q1130 : Blk), ∃ (A1133 : Option Addr), ∃ (c1134 : Nat), ∃ (D1126 : Snap), Env a 31 [] [(0, .pointer (some ⟨b1, 0, none⟩)), (3, .func (.func 39) #[] #[.pointer (some ⟨b2, 0, none⟩)]), (9, .slice A1128 (List.length (y1125.1)) c1129), (16, .int .i64 (x5)), (17, .int .i64 (y1125.2.1))] ∧ Stp g w0 D0 [bx b1 94 (c_T_wire_Reader (x7) A8 c9), bx b2 65 ([.pointer (some ⟨b1, 0, none⟩)])] w D1126 [bx b1 94 (c_T_wire_Reader (y1125.2.2) A1133 c1134), bx b2 65 ([.pointer (some ⟨b1, 0, none⟩)]), q1130] ∧ Snap.le D690 D1126 ∧ OwnD kd_T_api_Item 50 D1126 A1128 c1129 (y1125.1) q1130 ∧ Sl (kdInt .u8) D1126 A1133 c1134 (y1125.2.2.fB) ∧ bundle_read_api_Item_v2_l1.l K x5 k y1125 = some s1244) K ?_ ?_ ?_
    · exact ⟨(([] : List T_api_Item), (0 : Int), y689), none, 0, none, A692, c693, D690, hE.weak (by kernel_rfl), hS, Snap.le.refl _, (OwnD.nil kd_T_api_Item 50 D690), h694, hf⟩
    · clear hE hS hf
      rintro a w ⟨z1233, A1236, c1237, q1238, A1241, c1242, D1234, hE, hS, le1235, h1239, h1243, rfl⟩
      have hf := hs1245
      clear hs1245
      refine wpIn_seq ?_
      refine region_at ?_
      refine segN 2 (j := 2) [(8, .slice A1236 (List.length (z1233.1)) c1237)] hE (by kernel_rfl) rfl (fun a hE => ?_)
      refine at_end rfl ?_
      refine wpIn_ret ?_
      obtain rfl := Option.some.inj hf
      repeat (with_reducible first | refine then_ret ?_ | refine block_ret ?_ | refine qx_ret ?_)
      refine ret_gen ([.slice A1236 (List.length (z1233.1)) c1237]) hE (by rw [show Try.f36.results.toList = [.tmp 8] from rfl]; exact ⟨_, _, rfl, rfl, rfl⟩) ?_
      exact ⟨_, rfl, D1234, A1236, c1237, q1238, A1241, c1242, rfl, hS, h1239, h1243⟩
    · clear hE hS hf
      rintro k a w ⟨y1125, A1128, c1129, q1130, A1133, c1134, D1126, hE, hS, le1127, h1131, h1135, hf⟩
      obtain ⟨k, rfl, hf⟩ := bundle_read_api_Item_v2_l1.some _ hf
      refine ⟨k, rfl, ?_⟩
      unfold bundle_read_api_Item_v2_l1.b at hf
      refine wpIn_seq ?_
      refine region_at ?_
      refine segN 1 (j := 1) [(18, .bool ((decide (y1125.2.1 < x5))))] hE (by kernel_rfl) rfl (fun a hE => ?_)
      refine at_end rfl ?_
      refine wpIn_seq ?_
      refine cond_split hE (b := (decide (y1125.2.1 < x5))) rfl (fun hb => ?_) (fun hb => ?_)
      · replace hf := cond_t hb hf
        clear hb
        refine wpIn_skip ?_
        refine wpIn_seq ?_
        refine wpIn_block ?_
        refine wpIn_seq ?_
        refine region_at ?_
        refine segN 2 (j := 2) [(10, .int .i64 (y1125.2.1))] hE (by kernel_rfl) rfl (fun a hE => ?_)
        refine at_end rfl ?_
        refine wpIn_seq ?_
        refine wpIn_seq ?_
        refine region_at ?_
        refine segN 1 (j := 1) [(20, .pointer (some ⟨b1, 0, none⟩))] hE (by kernel_rfl) rfl (fun a hE => ?_)
        obtain ⟨r1294, h1295, hf⟩ := bind_some hf
        refine at_op (op_call rfl rfl rfl rfl hE rfl rfl rfl rfl (by kernel_rfl) (wire_Reader_Bad.calls (g := g) h1295 (hS.st.fore (L := [bx b1 94 (c_T_wire_Reader (y1125.2.2) A1133 c1134)])) h1135) (fun a v w hR hE => ?_)) rfl
        obtain ⟨D1296, rfl, hS1⟩ := hR
        have le1298 := hS1.dle
        have hS := hS.callR hS1 rfl (.c .n)
        clear hS1
        refine segN 1 (j := 3) [(22, .bool ((!decide (r1294 = (0 : Int)))))] hE (by kernel_rfl) rfl (fun a hE => ?_)
        refine at_end rfl ?_
        refine cond_split hE (b := (!decide (r1294 = (0 : Int)))) rfl (fun hb => ?_) (fun hb => ?_)
        · replace hf := cond_t hb hf
          clear hb
          refine wpIn_exit ?_
          obtain rfl := Option.some.inj hf
          exact ⟨(y1125.1, y1125.2.2), A1128, c1129, q1130, A1133, c1134, D1296, hE.weak (by kernel_rfl), hS, (Snap.le.trans le1127 le1298), (h1131.mono le1298), (h1135.mono le1298), rfl⟩
        · replace hf := cond_f hb hf
          clear hb
          refine wpIn_skip ?_
          refine region_at ?_
          refine segN 3 (j := 3) [(23, .slice A1128 (List.length (y1125.1)) c1129), (24, .func (.func 39) #[] #[.pointer (some ⟨b2, 0, none⟩)]), (25, .int .i64 (y1125.2.1))] hE (by kernel_rfl) rfl (fun a hE => ?_)
          have hS := hS.pk (.c 1 rfl (.c 0 rfl (.c 2 rfl .n))) rfl
          obtain ⟨r1299, h1300, hf⟩ := bind_some hf
          refine at_op (op_call rfl rfl rfl rfl hE rfl rfl rfl rfl (by kernel_rfl) (bundle_Get_3.calls (g := g) h1300 (hS.st.fore (L := [bx b2 65 ([.pointer (some ⟨b1, 0, none⟩)]), bx b1 94 (c_T_wire_Reader (y1125.2.2) A1133 c1134)])) (h1135.mono le1298)) (fun a v w hR hE => ?_)) rfl
          obtain ⟨D1301, A1303, c1304, A1306, c1307, A1309, c1310, A1312, c1313, rfl, hS1, h1305, h1308, h1311, h1314⟩ := hR
          have le1315 := hS1.dle
          have hS := hS.callR hS1 rfl (.c (.c .n))
          clear hS1
          refine at_op (op_buildSlice (K := kd_T_api_Item) (e := 50) (cs := (c_T_api_Item (r1299.1) A1303 c1304 A1306 c1307 A1309 c1310) ++ []) ([r1299.1] : List T_api_Item) rfl rfl rfl rfl hE rfl hS rfl (by kernel_rfl) rfl rfl (by exact (show RL kd_T_api_Item D1301 ([r1299.1] : List T_api_Item) ((c_T_api_Item (r1299.1) A1303 c1304 A1306 c1307 A1309 c1310) ++ []) from ⟨_, _, rfl, (kd_T_api_Item_mk (D := D1301) (x := r1299.1) rfl (kd_T_api_Rec_mk (D := D1301) (x := r1299.1.fRec) rfl rfl rfl rfl rfl rfl rfl rfl rfl rfl rfl (kslice h1305) (kslice h1308) rfl rfl rfl) (kslice h1311)), rfl⟩)) (fun a A1316 q1317 w _ hE h1318 hS => ?_)) rfl
          obtain ⟨D1320, q1323, le1321, hS, h1324, h1322⟩ := hS.lent h1318
          have hS := hS.pk (.c 3 rfl (.c 0 rfl (.c 1 rfl (.c 2 rfl .n)))) rfl
          obtain ⟨l1325, h1326, hf⟩ := bind_some hf
          refine at_op (g_append (K := kd_T_api_Item) (e := 50) (bytes := 256) (l := y1125.1) (m := ([r1299.1] : List T_api_Item)) rfl rfl rfl rfl hE rfl hS rfl rfl (by kernel_rfl) rfl rfl (h1131.mono (Snap.le.trans (Snap.le.trans le1298 le1315) le1321)) h1322 h1326 (fun a A1327 c1328 q1329 w _ hE h1330 hS => ?_)) rfl
          refine segN 1 (j := 7) [(9, .slice A1327 (List.length (l1325)) c1328)] hE (by kernel_rfl) rfl (fun a hE => ?_)
          refine at_end rfl ?_
          refine region_at ?_
          refine segN 2 (j := 2) [(17, .int .i64 ((IntKind.wrap .i64 (y1125.2.1 + (1 : Int)))))] hE (by kernel_rfl) rfl (fun a hE => ?_)
          refine at_end rfl ?_
          have hS := hS.pk (.c 3 rfl (.c 2 rfl (.c 0 rfl .n))) rfl
          exact ⟨(l1325, (IntKind.wrap .i64 (y1125.2.1 + (1 : Int))), r1299.2), A1327, c1328, q1329, A1312, c1313, D1320, hE.weak (by kernel_rfl), hS, (Snap.le.trans (Snap.le.trans (Snap.le.trans le1127 le1298) le1315) le1321), h1330, (h1314.mono le1321), hf⟩
      · replace hf := cond_f hb hf
        clear hb
        refine wpIn_exit ?_
        obtain rfl := Option.some.inj hf
        exact ⟨(y1125.1, y1125.2.2), A1128, c1129, q1130, A1133, c1134, D1126, hE.weak (by kernel_rfl), hS, le1127, h1131, h1135, rfl⟩

set_option maxRecDepth 100000 in
set_option maxHeartbeats 4000000 in
theorem wire_Reader_Done.calls {K : Nat} {g w0 : World} {D0 : Snap} {x3 : T_wire_Reader} {b1 : Nat} {A4 : Option Addr} {c5 : Nat} {r : (Int)} (hf : wire_Reader_Done.f K x3 = some r) (hS0 : St g w0 D0 [bx b1 94 (c_T_wire_Reader (x3) A4 c5)]) (h6 : Sl (kdInt .u8) D0 A4 c5 (x3.fB)) :
    CallsIn (Fw none) 0 Try.prog 42 (List.toArray [.pointer (some ⟨b1, 0, none⟩)]) w0 (fun e w' => ∃ v, e = .returned v ∧ ∃ (D1 : Snap), v = .int .i64 (r) ∧ Stp g w0 D0 [bx b1 94 (c_T_wire_Reader (x3) A4 c5)] w' D1 [bx b1 94 (c_T_wire_Reader (x3) A4 c5)]) := by
  unfold wire_Reader_Done.f at hf
  have hS := Stp.refl hS0
  clear hS0
  refine calls_body (n := 15) Try.func42 rfl Try.ntmps42 rfl (fun a hE => ?_)
  have hE : Env a 15 [] [(0, .pointer (some ⟨b1, 0, none⟩))] := hE
  refine wpIn_seq ?_
  refine region_at ?_
  refine segN 1 (j := 1) [(2, .int .i64 ((0 : Int)))] hE (by kernel_rfl) rfl (fun a hE => ?_)
  refine at_end rfl ?_
  refine wpIn_seq ?_
  refine wpIn_seq ?_
  refine region_at ?_
  refine segN 1 (j := 1) [(4, .pointer (some ⟨b1, 0, none⟩))] hE (by kernel_rfl) rfl (fun a hE => ?_)
  obtain ⟨r22, h23, hf⟩ := bind_some hf
  refine at_op (op_call rfl rfl rfl rfl hE rfl rfl rfl rfl (by kernel_rfl) (wire_Reader_Bad.calls (g := g) h23 (hS.st.fore (L := [bx b1 94 (c_T_wire_Reader (x3) A4 c5)])) h6) (fun a v w hR hE => ?_)) rfl
  obtain ⟨D24, rfl, hS1⟩ := hR
  have le26 := hS1.dle
  have hS := hS.callR hS1 rfl (.c .n)
  clear hS1
  refine segN 1 (j := 3) [(3, .int .i64 (r22))] hE (by kernel_rfl) rfl (fun a hE => ?_)
  refine at_end rfl ?_
  refine wpIn_seq ?_
  refine region_at ?_
  refine segN 2 (j := 2) [(7, .bool ((!decide (r22 = (0 : Int)))))] hE (by kernel_rfl) rfl (fun a hE => ?_)
  refine at_end rfl ?_
  refine cond_split hE (b := (!decide (r22 = (0 : Int)))) rfl (fun hb => ?_) (fun hb => ?_)
  · replace hf := cond_t hb hf
    clear hb
    refine wpIn_seq ?_
    refine region_at ?_
    refine segN 2 (j := 2) [(2, .int .i64 (r22))] hE (by kernel_rfl) rfl (fun a hE => ?_)
    refine at_end rfl ?_
    refine wpIn_ret ?_
    obtain rfl := Option.some.inj hf
    repeat (with_reducible first | refine then_ret ?_ | refine block_ret ?_ | refine qx_ret ?_)
    refine ret_gen ([.int .i64 (r22)]) hE (by rw [show Try.f42.results.toList = [.tmp 2] from rfl]; exact ⟨_, _, rfl, rfl, rfl⟩) ?_
    exact ⟨_, rfl, D24, rfl, hS⟩
  · replace hf := cond_f hb hf
    clear hb
    refine wpIn_skip ?_
    refine wpIn_seq ?_
    refine wpIn_seq ?_
    refine region_at ?_
    refine segN 2 (j := 2) [(10, .pointer (some ⟨b1, 0, none⟩))] hE (by kernel_rfl) rfl (fun a hE => ?_)
    refine at_op (op_tk hE (g_fieldAddr (fo := 0) (ft := 32) 0 rfl rfl rfl rfl hE rfl rfl (by kernel_rfl) rfl (fun a hE => ?_))) rfl
    refine at_op (op_tk hE (tk_load 0 (.slice A4 (List.length (x3.fB)) c5) rfl rfl rfl rfl hE rfl hS rfl rfl (by kernel_rfl) (kL (j := 0) hS rfl List.not_mem_nil) (fun a hE => ?_))) rfl
    refine segN 2 (j := 6) [(14, .bool ((decide ((0 : Int) < ((List.length (x3.fB) : Nat) : Int)))))] hE (by kernel_rfl) rfl (fun a hE => ?_)
    refine at_end rfl ?_
    refine cond_split hE (b := (decide ((0 : Int) < ((List.length (x3.fB) : Nat) : Int)))) rfl (fun hb => ?_) (fun hb => ?_)
    · replace hf := cond_t hb hf
      clear hb
      refine wpIn_seq ?_
      refine region_at ?_
      refine segN 1 (j := 1) [(2, .int .i64 ((2 : Int)))] hE (by kernel_rfl) rfl (fun a hE => ?_)
      refine at_end rfl ?_
      refine wpIn_ret ?_
      obtain rfl := Option.some.inj hf
      repeat (with_reducible first | refine then_ret ?_ | refine block_ret ?_ | refine qx_ret ?_)
      refine ret_gen ([.int .i64 ((2 : Int))]) hE (by rw [show Try.f42.results.toList = [.tmp 2] from rfl]; exact ⟨_, _, rfl, rfl, rfl⟩) ?_
      exact ⟨_, rfl, D24, rfl, hS⟩
    · replace hf := cond_f hb hf
      clear hb
      refine wpIn_skip ?_
      refine wpIn_seq ?_
      refine region_at ?_
      refine segN 1 (j := 1) [(2, .int .i64 ((0 : Int)))] hE (by kernel_rfl) rfl (fun a hE => ?_)
      refine at_end rfl ?_
      refine wpIn_ret ?_
      obtain rfl := Option.some.inj hf
      repeat (with_reducible first | refine then_ret ?_ | refine block_ret ?_ | refine qx_ret ?_)
      refine ret_gen ([.int .i64 ((0 : Int))]) hE (by rw [show Try.f42.results.toList = [.tmp 2] from rfl]; exact ⟨_, _, rfl, rfl, rfl⟩) ?_
      exact ⟨_, rfl, D24, rfl, hS⟩

end Go.Proofs.Ytnnhkfmknlfpbaa
