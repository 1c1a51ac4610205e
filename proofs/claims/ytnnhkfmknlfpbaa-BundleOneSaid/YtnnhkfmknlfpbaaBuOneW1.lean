/-
  Proved, text by text: a call of a function of the cut comes to what its plain function computes.
  Conditions: those that each theorem names.
-/
import Derived.Test.YtnnhkfmknlfpbaaProg
import Derived.Test.YtnnhkfmknlfpbaaBuOneW0
set_option linter.unusedVariables false
namespace Go.Proofs.Ytnnhkfmknlfpbaa
open Go Go.Sep

set_option maxRecDepth 100000 in
set_option maxHeartbeats 4000000 in
theorem rec_begin.calls {K : Nat} {g w0 : World} {D0 : Snap} {x1 : T_api_Rec} {A2 : Option Addr} {c3 : Nat} {A5 : Option Addr} {c6 : Nat} {r : ((List Int))} (hf : rec_begin.f K x1 = some r) (hS0 : St g w0 D0 []) (h4 : Sl kd_T_api_Step D0 A2 c3 (x1.fSteps)) (h7 : Sl (kdInt .u8) D0 A5 c6 (x1.fData)) :
    CallsIn (Fw none) 0 Try.prog 81 (List.toArray [.agg (List.toArray (c_T_api_Rec (x1) A2 c3 A5 c6))]) w0 (fun e w' => ∃ v, e = .returned v ∧ ∃ (D1 : Snap) (A659 : Option Addr) (c660 : Nat) (q661 : Blk), v = .slice A659 (List.length (r)) c660 ∧ Stp g w0 D0 [] w' D1 [q661] ∧ OwnD (kdInt .u8) 5 D1 A659 c660 (r) q661) := by
  unfold rec_begin.f at hf
  have hS := Stp.refl hS0
  clear hS0
  refine calls_body (n := 30) Try.func81 rfl Try.ntmps81 rfl (fun a hE => ?_)
  have hE : Env a 30 [] [(0, .agg (List.toArray (c_T_api_Rec (x1) A2 c3 A5 c6)))] := hE
  refine wpIn_seq ?_
  refine region_at ?_
  refine at_op (op_box rfl rfl rfl rfl hE rfl hS rfl (fun a b664 w _ hE hS => ?_)) rfl
  refine segN 1 (j := 2) [(2, .slice none 0 0)] hE (by kernel_rfl) rfl (fun a hE => ?_)
  refine at_end rfl ?_
  refine wpIn_seq ?_
  refine region_at ?_
  refine at_op (op_tk hE (g_fieldAddr (fo := 1) (ft := 3) 1 rfl rfl rfl rfl hE rfl rfl (by kernel_rfl) rfl (fun a hE => ?_))) rfl
  refine at_op (op_tk hE (tk_load 0 (.int .i64 (x1.fSaga)) rfl rfl rfl rfl hE rfl hS rfl rfl (by kernel_rfl) (kL (j := 0) hS rfl List.not_mem_nil) (fun a hE => ?_))) rfl
  refine at_op (op_tk hE (g_fieldAddr (fo := 42) (ft := 45) 42 rfl rfl rfl rfl hE rfl rfl (by kernel_rfl) rfl (fun a hE => ?_))) rfl
  refine at_op (op_tk hE (tk_load 0 (.slice A2 (List.length (x1.fSteps)) c3) rfl rfl rfl rfl hE rfl hS rfl rfl (by kernel_rfl) (kL (j := 0) hS rfl List.not_mem_nil) (fun a hE => ?_))) rfl
  refine segN 1 (j := 5) [(10, .int .i64 (((List.length (x1.fSteps) : Nat) : Int)))] hE (by kernel_rfl) rfl (fun a hE => ?_)
  refine at_op (op_buildSlice (K := (kdInt .i64)) (e := 3) (cs := [.int .i64 (x1.fSaga)] ++ ([.int .i64 (((List.length (x1.fSteps) : Nat) : Int))] ++ [])) ([x1.fSaga, ((List.length (x1.fSteps) : Nat) : Int)] : List Int) rfl rfl rfl rfl hE rfl hS rfl (by kernel_rfl) rfl rfl (by exact (show RL (kdInt .i64) D0 ([x1.fSaga, ((List.length (x1.fSteps) : Nat) : Int)] : List Int) ([.int .i64 (x1.fSaga)] ++ ([.int .i64 (((List.length (x1.fSteps) : Nat) : Int))] ++ [])) from ⟨_, _, rfl, rfl, ⟨_, _, rfl, rfl, rfl⟩⟩)) (fun a A666 q667 w _ hE h668 hS => ?_)) rfl
  obtain ⟨D670, q673, le671, hS, h674, h672⟩ := hS.lent h668
  obtain ⟨r675, h676, hf⟩ := bind_some hf
  refine at_op (op_call rfl rfl rfl rfl hE rfl rfl rfl rfl (by kernel_rfl) (rec_numbers.calls (g := g) h676 (hS.st.fore (L := [])) h672) (fun a v w hR hE => ?_)) rfl
  obtain ⟨D677, A679, c680, q681, rfl, hS1, h682⟩ := hR
  have le684 := hS1.dle
  have hS := hS.callR hS1 rfl (.c .n)
  clear hS1
  refine segN 1 (j := 8) [(3, .slice A679 (List.length (r675)) c680)] hE (by kernel_rfl) rfl (fun a hE => ?_)
  refine at_end rfl ?_
  refine wpIn_seq ?_
  refine wpIn_seq ?_
  refine region_at ?_
  refine at_op (op_tk hE (g_fieldAddr (fo := 42) (ft := 45) 42 rfl rfl rfl rfl hE rfl rfl (by kernel_rfl) rfl (fun a hE => ?_))) rfl
  refine at_op (op_tk hE (tk_load 2 (.slice A2 (List.length (x1.fSteps)) c3) rfl rfl rfl rfl hE rfl hS rfl rfl (by kernel_rfl) (kL (j := 2) hS rfl List.not_mem_nil) (fun a hE => ?_))) rfl
  refine segN 2 (j := 4) [(15, .int .i64 (((List.length (x1.fSteps) : Nat) : Int))), (16, .int .i64 ((0 : Int)))] hE (by kernel_rfl) rfl (fun a hE => ?_)
  refine at_end rfl ?_
  obtain ⟨s1223, hf, hs1224⟩ := bind_some hf
  have hS := hS.pk (.c 0 rfl .n) rfl
  refine block_loop (fun a w => ∃ (z1215 : (List Int)), ∃ (A1218 : Option Addr), ∃ (c1219 : Nat), ∃ (q1220 : Blk), ∃ (D1216 : Snap), Env a 30 [] [(3, .slice A1218 (List.length (z1215)) c1219)] ∧ Stp g w0 D0 [] w D1216 [q1220] ∧ Snap.le D677 D1216 ∧ OwnD (kdInt .u8) 5 D1216 A1218 c1219 (z1215) q1220 ∧ z1215 = s1223) (fun k a w => ∃ (y1109 : (List Int) × Int), ∃ (A1112 : Option Addr), ∃ (c1113 : Nat), ∃ (q1114 : Blk), ∃ (D1110 : Snap), Env a 30 [] [(3, .slice A1112 (List.length (y1109.1)) c1113), (14, .slice A2 (List.length (x1.fSteps)) c3), (15, .int .i64 (((List.length (x1.fSteps) : Nat) : Int))), (16, .int .i64 (y1109.2))] ∧ Stp g w0 D0 [] w D1110 [q1114] ∧ Snap.le D677 D1110 ∧ OwnD (kdInt .u8) 5 D1110 A1112 c1113 (y1109.1) q1114 ∧ rec_begin_l1.l K x1 k y1109 = some s1223) K ?_ ?_ ?_
  · exact ⟨(r675, (0 : Int)), A679, c680, q681, D677, hE.weak (by kernel_rfl), hS, Snap.le.refl _, h682, hf⟩
  · clear hE hS hf
    rintro a w ⟨z1215, A1218, c1219, q1220, D1216, hE, hS, le1217, h1221, rfl⟩
    have hf := hs1224
    clear hs1224
    refine wpIn_seq ?_
    refine region_at ?_
    refine segN 2 (j := 2) [(2, .slice A1218 (List.length (z1215)) c1219)] hE (by kernel_rfl) rfl (fun a hE => ?_)
    refine at_end rfl ?_
    refine wpIn_ret ?_
    obtain rfl := Option.some.inj hf
    repeat (with_reducible first | refine then_ret ?_ | refine block_ret ?_ | refine qx_ret ?_)
    refine ret_gen ([.slice A1218 (List.length (z1215)) c1219]) hE (by rw [show Try.f81.results.toList = [.tmp 2] from rfl]; exact ⟨_, _, rfl, rfl, rfl⟩) ?_
    exact ⟨_, rfl, D1216, A1218, c1219, q1220, rfl, hS, h1221⟩
  · clear hE hS hf
    rintro k a w ⟨y1109, A1112, c1113, q1114, D1110, hE, hS, le1111, h1115, hf⟩
    obtain ⟨k, rfl, hf⟩ := rec_begin_l1.some _ hf
    refine ⟨k, rfl, ?_⟩
    unfold rec_begin_l1.b at hf
    refine wpIn_seq ?_
    refine region_at ?_
    refine segN 1 (j := 1) [(17, .bool ((decide (y1109.2 < ((List.length (x1.fSteps) : Nat) : Int)))))] hE (by kernel_rfl) rfl (fun a hE => ?_)
    refine at_end rfl ?_
    refine wpIn_seq ?_
    refine cond_split hE (b := (decide (y1109.2 < ((List.length (x1.fSteps) : Nat) : Int)))) rfl (fun hb => ?_) (fun hb => ?_)
    · replace hf := cond_t hb hf
      clear hb
      refine wpIn_skip ?_
      refine wpIn_seq ?_
      refine wpIn_block ?_
      refine wpIn_seq ?_
      refine region_at ?_
      obtain ⟨x1270, h1271, hf⟩ := bind_some hf
      refine at_op (op_tk hE (g_index (K := kd_T_api_Step) (e := 104) (by_ := 16) (zl := 2) rfl rfl rfl rfl hE rfl rfl rfl (by kernel_rfl) rfl (h4.mono (Snap.le.trans (Snap.le.trans le671 le684) le1111)) h1271 (fun a b1272 o1273 hE h1274 => ?_))) rfl
      obtain ⟨cs1275, C1276, T1277, fr1278, hr1279, hb1280, hc1281⟩ := h1274
      obtain ⟨rfl⟩ := kd_T_api_Step_el hr1279
      refine at_op (op_tk hE (tk_loadX (off0 := o1273) (off := 0) (c := c_T_api_Step (x1270)) (.agg (List.toArray (c_T_api_Step (x1270)))) rfl rfl rfl rfl hE rfl hS rfl hb1280 hc1281 (by kernel_rfl) (by kernel_rfl) (kD hS dn_nil) (fun a hE => ?_))) rfl
      refine at_op (op_alloc (z := .agg (List.toArray (c_T_api_Step ((T_api_Step.mk ((0 : Int)) ((0 : Int))))))) rfl rfl rfl rfl hE rfl hS (by kernel_rfl) (fun a b1282 w _ hE hS => ?_)) rfl
      refine at_op (op_store (v := .agg (List.toArray (c_T_api_Step (x1270)))) (c_T_api_Step (x1270)) rfl rfl rfl rfl hE hS rfl rfl (by kernel_rfl) (by kernel_rfl) (by kernel_rfl) (by kernel_rfl) (by kernel_rfl) (fun a w _ hE hS => ?_)) rfl
      refine at_end rfl ?_
      refine region_at ?_
      refine segN 1 (j := 1) [(20, .slice A1112 (List.length (y1109.1)) c1113)] hE (by kernel_rfl) rfl (fun a hE => ?_)
      refine at_op (op_tk hE (g_fieldAddr (fo := 0) (ft := 3) 0 rfl rfl rfl rfl hE rfl rfl (by kernel_rfl) rfl (fun a hE => ?_))) rfl
      refine at_op (op_tk hE (tk_load 0 (.int .i64 (x1270.fPart)) rfl rfl rfl rfl hE rfl hS rfl rfl (by kernel_rfl) (kL (j := 0) hS rfl List.not_mem_nil) (fun a hE => ?_))) rfl
      refine at_op (op_tk hE (g_fieldAddr (fo := 1) (ft := 3) 1 rfl rfl rfl rfl hE rfl rfl (by kernel_rfl) rfl (fun a hE => ?_))) rfl
      refine at_op (op_tk hE (tk_load 0 (.int .i64 (x1270.fKind)) rfl rfl rfl rfl hE rfl hS rfl rfl (by kernel_rfl) (kL (j := 0) hS rfl List.not_mem_nil) (fun a hE => ?_))) rfl
      refine at_op (op_buildSlice (K := (kdInt .i64)) (e := 3) (cs := [.int .i64 (x1270.fPart)] ++ ([.int .i64 (x1270.fKind)] ++ [])) ([x1270.fPart, x1270.fKind] : List Int) rfl rfl rfl rfl hE rfl hS rfl (by kernel_rfl) rfl rfl (by exact (show RL (kdInt .i64) D1110 ([x1270.fPart, x1270.fKind] : List Int) ([.int .i64 (x1270.fPart)] ++ ([.int .i64 (x1270.fKind)] ++ [])) from ⟨_, _, rfl, rfl, ⟨_, _, rfl, rfl, rfl⟩⟩)) (fun a A1284 q1285 w _ hE h1286 hS => ?_)) rfl
      obtain ⟨D1288, q1291, le1289, hS, h1292, h1290⟩ := hS.lent h1286
      obtain ⟨r1293, h1294, hf⟩ := bind_some hf
      refine at_op (op_call rfl rfl rfl rfl hE rfl rfl rfl rfl (by kernel_rfl) (rec_numbers.calls (g := g) h1294 (hS.st.fore (L := [])) h1290) (fun a v w hR hE => ?_)) rfl
      obtain ⟨D1295, A1297, c1298, q1299, rfl, hS1, h1300⟩ := hR
      have le1302 := hS1.dle
      have hS := hS.callR hS1 rfl (.c .n)
      clear hS1
      obtain ⟨D1303, q1306, le1304, hS, h1307, h1305⟩ := hS.lent h1300
      have hS := hS.pk (.c 3 rfl (.c 0 rfl (.c 1 rfl (.c 2 rfl .n)))) rfl
      obtain ⟨l1308, h1309, hf⟩ := bind_some hf
      refine at_op (g_append (K := (kdInt .u8)) (e := 5) (bytes := 1) (l := y1109.1) (m := r1293) rfl rfl rfl rfl hE rfl hS rfl rfl (by kernel_rfl) rfl rfl (h1115.mono (Snap.le.trans (Snap.le.trans le1289 le1302) le1304)) h1305 h1309 (fun a A1310 c1311 q1312 w _ hE h1313 hS => ?_)) rfl
      refine segN 1 (j := 9) [(3, .slice A1310 (List.length (l1308)) c1311)] hE (by kernel_rfl) rfl (fun a hE => ?_)
      refine at_end rfl ?_
      refine region_at ?_
      refine segN 2 (j := 2) [(16, .int .i64 ((IntKind.wrap .i64 (y1109.2 + (1 : Int)))))] hE (by kernel_rfl) rfl (fun a hE => ?_)
      refine at_end rfl ?_
      have hS := hS.pk (.c 0 rfl .n) rfl
      exact ⟨(l1308, (IntKind.wrap .i64 (y1109.2 + (1 : Int)))), A1310, c1311, q1312, D1303, hE.weak (by kernel_rfl), hS, (Snap.le.trans (Snap.le.trans (Snap.le.trans le1111 le1289) le1302) le1304), h1313, hf⟩
    · replace hf := cond_f hb hf
      clear hb
      refine wpIn_exit ?_
      obtain rfl := Option.some.inj hf
      exact ⟨y1109.1, A1112, c1113, q1114, D1110, hE.weak (by kernel_rfl), hS, le1111, h1115, rfl⟩

set_option maxRecDepth 100000 in
set_option maxHeartbeats 4000000 in
theorem rec_call.calls {K : Nat} {g w0 : World} {D0 : Snap} {x1 : T_api_Rec} {A2 : Option Addr} {c3 : Nat} {A5 : Option Addr} {c6 : Nat} {r : ((List Int))} (hf : rec_call.f K x1 = some r) (hS0 : St g w0 D0 []) (h4 : Sl kd_T_api_Step D0 A2 c3 (x1.fSteps)) (h7 : Sl (kdInt .u8) D0 A5 c6 (x1.fData)) :
    CallsIn (Fw none) 0 Try.prog 82 (List.toArray [.agg (List.toArray (c_T_api_Rec (x1) A2 c3 A5 c6))]) w0 (fun e w' => ∃ v, e = .returned v ∧ ∃ (D1 : Snap) (A126 : Option Addr) (c127 : Nat) (q128 : Blk), v = .slice A126 (List.length (r)) c127 ∧ Stp g w0 D0 [] w' D1 [q128] ∧ OwnD (kdInt .u8) 5 D1 A126 c127 (r) q128) := by
  unfold rec_call.f at hf
  have hS := Stp.refl hS0
  clear hS0
  refine calls_body (n := 18) Try.func82 rfl Try.ntmps82 rfl (fun a hE => ?_)
  have hE : Env a 18 [] [(0, .agg (List.toArray (c_T_api_Rec (x1) A2 c3 A5 c6)))] := hE
  refine wpIn_seq ?_
  refine region_at ?_
  refine at_op (op_box rfl rfl rfl rfl hE rfl hS rfl (fun a b131 w _ hE hS => ?_)) rfl
  refine segN 1 (j := 2) [(2, .slice none 0 0)] hE (by kernel_rfl) rfl (fun a hE => ?_)
  refine at_end rfl ?_
  refine wpIn_seq ?_
  refine region_draw (fun j => Keeps (mfOf [] j)) (by kernel_rfl) ?_
  have hS := hS.drew
  first | generalize w.drew = w at hS ⊢ | generalize w0.drew = w at hS ⊢
  refine tW 0 1 (fuel := 15) (by kernel_rfl) hE (fun M => g_fieldAddr (fo := 1) (ft := 3) 1 rfl rfl rfl rfl hE rfl rfl (by kernel_rfl) rfl (fun a hE => ?_))
  refine tT 1 3 (fuel := 14) (by kernel_rfl) hE (tk_load 0 (.int .i64 (x1.fSaga)) rfl rfl rfl rfl hE rfl hS rfl rfl (by kernel_rfl) (kL (j := 0) hS rfl List.not_mem_nil) (fun a hE => ?_))
  refine tW 2 7 (fuel := 13) (by kernel_rfl) hE (fun M => g_fieldAddr (fo := 2) (ft := 3) 2 rfl rfl rfl rfl hE rfl rfl (by kernel_rfl) rfl (fun a hE => ?_))
  refine tT 3 15 (fuel := 12) (by kernel_rfl) hE (tk_load 0 (.int .i64 (x1.fSeq)) rfl rfl rfl rfl hE rfl hS rfl rfl (by kernel_rfl) (kL (j := 0) hS rfl List.not_mem_nil) (fun a hE => ?_))
  refine tW 4 31 (fuel := 11) (by kernel_rfl) hE (fun M => g_fieldAddr (fo := 3) (ft := 3) 3 rfl rfl rfl rfl hE rfl rfl (by kernel_rfl) rfl (fun a hE => ?_))
  refine tT 5 63 (fuel := 10) (by kernel_rfl) hE (tk_load 0 (.int .i64 (x1.fStep)) rfl rfl rfl rfl hE rfl hS rfl rfl (by kernel_rfl) (kL (j := 0) hS rfl List.not_mem_nil) (fun a hE => ?_))
  refine tW 6 127 (fuel := 9) (by kernel_rfl) hE (fun M => g_fieldAddr (fo := 4) (ft := 3) 4 rfl rfl rfl rfl hE rfl rfl (by kernel_rfl) rfl (fun a hE => ?_))
  refine tT 7 255 (fuel := 8) (by kernel_rfl) hE (tk_load 0 (.int .i64 (x1.fTry)) rfl rfl rfl rfl hE rfl hS rfl rfl (by kernel_rfl) (kL (j := 0) hS rfl List.not_mem_nil) (fun a hE => ?_))
  refine tW 10 1279 (fuel := 7) (by kernel_rfl) hE (fun M => g_fieldAddr (fo := 5) (ft := 4) 5 rfl rfl rfl rfl hE rfl rfl (by kernel_rfl) rfl (fun a hE => ?_))
  refine tT 11 3327 (fuel := 6) (by kernel_rfl) hE (tk_load 0 (.bool (x1.fBack)) rfl rfl rfl rfl hE rfl hS rfl rfl (by kernel_rfl) (kL (j := 0) hS rfl List.not_mem_nil) (fun a hE => ?_))
  refine oG 8 3583 (fuel := 5) (by kernel_rfl) (op_buildSlice (K := (kdInt .i64)) (e := 3) (cs := [.int .i64 (x1.fSaga)] ++ ([.int .i64 (x1.fSeq)] ++ ([.int .i64 (x1.fStep)] ++ ([.int .i64 (x1.fTry)] ++ [])))) ([x1.fSaga, x1.fSeq, x1.fStep, x1.fTry] : List Int) rfl rfl rfl rfl hE rfl hS rfl (by kernel_rfl) rfl rfl (by exact (show RL (kdInt .i64) D0 ([x1.fSaga, x1.fSeq, x1.fStep, x1.fTry] : List Int) ([.int .i64 (x1.fSaga)] ++ ([.int .i64 (x1.fSeq)] ++ ([.int .i64 (x1.fStep)] ++ ([.int .i64 (x1.fTry)] ++ [])))) from ⟨_, _, rfl, rfl, ⟨_, _, rfl, rfl, ⟨_, _, rfl, rfl, ⟨_, _, rfl, rfl, rfl⟩⟩⟩⟩)) (fun a A191 q192 w hkp hE h193 hS => ⟨hkp.mono (fun _ h => absurd h List.not_mem_nil), ?_⟩))
  clear hkp
  obtain ⟨D195, q198, le196, hS, h199, h197⟩ := hS.lent h193
  obtain ⟨r200, h201, hf⟩ := bind_some hf
  refine oG 9 4095 (fuel := 4) (by kernel_rfl) (op_call rfl rfl rfl rfl hE rfl rfl rfl rfl (by kernel_rfl) (rec_numbers.calls (g := g) h201 (hS.st.fore (L := [])) h197) (fun a v w hR hE => ?_))
  obtain ⟨D202, A204, c205, q206, rfl, hS1, h207⟩ := hR
  refine ⟨(hS1.keeps.sub (M' := []) trivial).mono (fun _ h => h), ?_⟩
  have le209 := hS1.dle
  have hS := hS.callR hS1 rfl (.c .n)
  clear hS1
  obtain ⟨r210, h211, hf⟩ := bind_some hf
  refine oG 12 8191 (fuel := 3) (by kernel_rfl) (op_call rfl rfl rfl rfl hE rfl rfl rfl rfl (by kernel_rfl) (wire_Flag.calls (g := g) h211 (hS.st.fore (L := [])) ) (fun a v w hR hE => ?_))
  obtain ⟨D212, A214, c215, q216, rfl, hS1, h217⟩ := hR
  refine ⟨(hS1.keeps.sub (M' := []) trivial).mono (fun _ h => h), ?_⟩
  have le219 := hS1.dle
  have hS := hS.callR hS1 rfl (.c .n)
  clear hS1
  have hS := hS.pk (.c 1 rfl (.c 0 rfl (.c 2 rfl (.c 3 rfl .n)))) rfl
  obtain ⟨D220, q223, le221, hS, h224, h222⟩ := hS.lent (h207.mono le219)
  have hS := hS.pk (.c 1 rfl (.c 0 rfl (.c 2 rfl (.c 3 rfl .n)))) rfl
  obtain ⟨D225, q228, le226, hS, h229, h227⟩ := hS.lent (h217.mono le221)
  refine oG 13 16383 (fuel := 2) (by kernel_rfl) (op_buildSlice (K := (kdSlice (kdInt .u8))) (e := 32) (cs := [.slice A204 (List.length (r200)) c205] ++ ([.slice A214 (List.length (r210)) c215] ++ [])) ([r200, r210] : List (List Int)) rfl rfl rfl rfl hE rfl hS rfl (by kernel_rfl) rfl rfl (by exact (show RL (kdSlice (kdInt .u8)) D225 ([r200, r210] : List (List Int)) ([.slice A204 (List.length (r200)) c205] ++ ([.slice A214 (List.length (r210)) c215] ++ [])) from ⟨_, _, rfl, (kslice (h222.mono le226)), ⟨_, _, rfl, (kslice h227), rfl⟩⟩)) (fun a A230 q231 w hkp hE h232 hS => ⟨hkp.mono (fun _ h => absurd h List.not_mem_nil), ?_⟩))
  clear hkp
  obtain ⟨D234, q237, le235, hS, h238, h236⟩ := hS.lent h232
  obtain ⟨r239, h240, hf⟩ := bind_some hf
  refine oG 14 32767 (fuel := 1) (by kernel_rfl) (op_call rfl rfl rfl rfl hE rfl rfl rfl rfl (by kernel_rfl) (wire_All.calls (g := g) h240 (hS.st.fore (L := [])) h236) (fun a v w hR hE => ?_))
  obtain ⟨D241, A243, c244, q245, rfl, hS1, h246⟩ := hR
  refine ⟨(hS1.keeps.sub (M' := []) trivial).mono (fun _ h => h), ?_⟩
  have le248 := hS1.dle
  have hS := hS.callR hS1 rfl (.c .n)
  clear hS1
  refine tW 15 65535 (fuel := 0) (by kernel_rfl) hE (fun M => tk_pure (.slice A243 (List.length (r239)) c244) hE rfl rfl rfl rfl (fun _ _ _ e => by cases e) (by kernel_rfl) (fun a hE => ?_))
  refine doneG (by kernel_rfl) ?_
  refine wpIn_ret ?_
  obtain rfl := Option.some.inj hf
  repeat (with_reducible first | refine then_ret ?_ | refine block_ret ?_ | refine qx_ret ?_)
  refine ret_gen ([.slice A243 (List.length (r239)) c244]) hE (by rw [show Try.f82.results.toList = [.tmp 2] from rfl]; exact ⟨_, _, rfl, rfl, rfl⟩) ?_
  have hS := hS.pk (.c 0 rfl .n) rfl
  exact ⟨_, rfl, D241, A243, c244, q245, rfl, hS, h246⟩

set_option maxRecDepth 100000 in
set_option maxHeartbeats 4000000 in
theorem rec_forms_1.calls {K : Nat} {g w0 : World} {D0 : Snap} {x1 : T_api_Rec} {A2 : Option Addr} {c3 : Nat} {A5 : Option Addr} {c6 : Nat} {r : ((List Int))} (hf : rec_forms_1.f K x1 = some r) (hS0 : St g w0 D0 []) (h4 : Sl kd_T_api_Step D0 A2 c3 (x1.fSteps)) (h7 : Sl (kdInt .u8) D0 A5 c6 (x1.fData)) :
    CallsIn (Fw none) 0 Try.prog 83 (List.toArray [.agg (List.toArray (c_T_api_Rec (x1) A2 c3 A5 c6))]) w0 (fun e w' => ∃ v, e = .returned v ∧ ∃ (D1 : Snap) (A1026 : Option Addr) (c1027 : Nat) (q1028 : Blk), v = .slice A1026 (List.length (r)) c1027 ∧ Stp g w0 D0 [] w' D1 [q1028] ∧ OwnD (kdInt .u8) 5 D1 A1026 c1027 (r) q1028) := by
  unfold rec_forms_1.f at hf
  have hS := Stp.refl hS0
  clear hS0
  refine calls_body (n := 19) Try.func83 rfl Try.ntmps83 rfl (fun a hE => ?_)
  have hE : Env a 19 [] [(0, .agg (List.toArray (c_T_api_Rec (x1) A2 c3 A5 c6)))] := hE
  refine wpIn_seq ?_
  refine region_at ?_
  refine at_op (op_box rfl rfl rfl rfl hE rfl hS rfl (fun a b1031 w _ hE hS => ?_)) rfl
  refine segN 1 (j := 2) [(2, .slice none 0 0)] hE (by kernel_rfl) rfl (fun a hE => ?_)
  refine at_end rfl ?_
  refine wpIn_seq ?_
  refine region_draw (fun j => Keeps (mfOf [] j)) (by kernel_rfl) ?_
  have hS := hS.drew
  first | generalize w.drew = w at hS ⊢ | generalize w0.drew = w at hS ⊢
  refine tT 0 1 (fuel := 16) (by kernel_rfl) hE (tk_load 0 (.agg (List.toArray (c_T_api_Rec (x1) A2 c3 A5 c6))) rfl rfl rfl rfl hE rfl hS rfl rfl (by kernel_rfl) (kL (j := 0) hS rfl List.not_mem_nil) (fun a hE => ?_))
  refine tW 2 5 (fuel := 15) (by kernel_rfl) hE (fun M => g_fieldAddr (fo := 6) (ft := 4) 6 rfl rfl rfl rfl hE rfl rfl (by kernel_rfl) rfl (fun a hE => ?_))
  refine tT 3 13 (fuel := 14) (by kernel_rfl) hE (tk_load 0 (.bool (x1.fGood)) rfl rfl rfl rfl hE rfl hS rfl rfl (by kernel_rfl) (kL (j := 0) hS rfl List.not_mem_nil) (fun a hE => ?_))
  refine tW 5 45 (fuel := 13) (by kernel_rfl) hE (fun M => g_fieldAddr (fo := 8) (ft := 3) 8 rfl rfl rfl rfl hE rfl rfl (by kernel_rfl) rfl (fun a hE => ?_))
  refine tT 6 109 (fuel := 12) (by kernel_rfl) hE (tk_load 0 (.int .i64 (x1.fPart)) rfl rfl rfl rfl hE rfl hS rfl rfl (by kernel_rfl) (kL (j := 0) hS rfl List.not_mem_nil) (fun a hE => ?_))
  refine tW 7 237 (fuel := 11) (by kernel_rfl) hE (fun M => g_fieldAddr (fo := 9) (ft := 3) 9 rfl rfl rfl rfl hE rfl rfl (by kernel_rfl) rfl (fun a hE => ?_))
  refine tT 8 493 (fuel := 10) (by kernel_rfl) hE (tk_load 0 (.int .i64 (x1.fEpoch)) rfl rfl rfl rfl hE rfl hS rfl rfl (by kernel_rfl) (kL (j := 0) hS rfl List.not_mem_nil) (fun a hE => ?_))
  refine tW 11 2541 (fuel := 9) (by kernel_rfl) hE (fun M => g_fieldAddr (fo := 10) (ft := 23) 10 rfl rfl rfl rfl hE rfl rfl (by kernel_rfl) rfl (fun a hE => ?_))
  refine tT 12 6637 (fuel := 8) (by kernel_rfl) hE (tk_load 0 (.agg (List.toArray (acells .u8 32 (x1.fTag)))) rfl rfl rfl rfl hE rfl hS rfl rfl (by kernel_rfl) (kL (j := 0) hS rfl List.not_mem_nil) (fun a hE => ?_))
  refine twoB (i := 1) (j := 9) (fuel := 7) (m1 := 6639) (m2 := 7149) (by kernel_rfl) (by kernel_rfl) (by kernel_rfl) ?_ ?_
  · obtain ⟨r1795, h1796, hf⟩ := bind_some hf
    refine (op_call rfl rfl rfl rfl hE rfl rfl rfl rfl (by kernel_rfl) (rec_call.calls (g := g) h1796 (hS.st.fore (L := [])) h4 h7) (fun a v w hR hE => ?_))
    obtain ⟨D1797, A1799, c1800, q1801, rfl, hS1, h1802⟩ := hR
    refine ⟨(hS1.keeps.sub (M' := []) trivial).mono (fun _ h => h), ?_⟩
    have le1804 := hS1.dle
    have hS := hS.callR hS1 rfl (.c .n)
    clear hS1
    refine twoB (i := 4) (j := 9) (fuel := 6) (m1 := 6655) (m2 := 7151) (by kernel_rfl) (by kernel_rfl) (by kernel_rfl) ?_ ?_
    · obtain ⟨r1805, h1806, hf⟩ := bind_some hf
      refine (op_call rfl rfl rfl rfl hE rfl rfl rfl rfl (by kernel_rfl) (wire_Flag.calls (g := g) h1806 (hS.st.fore (L := [])) ) (fun a v w hR hE => ?_))
      obtain ⟨D1807, A1809, c1810, q1811, rfl, hS1, h1812⟩ := hR
      refine ⟨(hS1.keeps.sub (M' := []) trivial).mono (fun _ h => h), ?_⟩
      have le1814 := hS1.dle
      have hS := hS.callR hS1 rfl (.c .n)
      clear hS1
      refine oG 9 7167 (fuel := 5) (by kernel_rfl) (op_buildSlice (K := (kdInt .i64)) (e := 3) (cs := [.int .i64 (x1.fPart)] ++ ([.int .i64 (x1.fEpoch)] ++ [])) ([x1.fPart, x1.fEpoch] : List Int) rfl rfl rfl rfl hE rfl hS rfl (by kernel_rfl) rfl rfl (by exact (show RL (kdInt .i64) D1807 ([x1.fPart, x1.fEpoch] : List Int) ([.int .i64 (x1.fPart)] ++ ([.int .i64 (x1.fEpoch)] ++ [])) from ⟨_, _, rfl, rfl, ⟨_, _, rfl, rfl, rfl⟩⟩)) (fun a A1815 q1816 w hkp hE h1817 hS => ⟨hkp.mono (fun _ h => absurd h List.not_mem_nil), ?_⟩))
      clear hkp
      obtain ⟨D1819, q1822, le1820, hS, h1823, h1821⟩ := hS.lent h1817
      obtain ⟨r1824, h1825, hf⟩ := bind_some hf
      refine oG 10 8191 (fuel := 4) (by kernel_rfl) (op_call rfl rfl rfl rfl hE rfl rfl rfl rfl (by kernel_rfl) (rec_numbers.calls (g := g) h1825 (hS.st.fore (L := [])) h1821) (fun a v w hR hE => ?_))
      obtain ⟨D1826, A1828, c1829, q1830, rfl, hS1, h1831⟩ := hR
      refine ⟨(hS1.keeps.sub (M' := []) trivial).mono (fun _ h => h), ?_⟩
      have le1833 := hS1.dle
      have hS := hS.callR hS1 rfl (.c .n)
      clear hS1
      obtain ⟨r1834, h1835, hf⟩ := bind_some hf
      refine oG 13 16383 (fuel := 3) (by kernel_rfl) (op_call rfl rfl rfl rfl hE rfl rfl rfl rfl (by kernel_rfl) (wire_Hash.calls (g := g) h1835 (hS.st.fore (L := [])) ) (fun a v w hR hE => ?_))
      obtain ⟨D1836, A1838, c1839, q1840, rfl, hS1, h1841⟩ := hR
      refine ⟨(hS1.keeps.sub (M' := []) trivial).mono (fun _ h => h), ?_⟩
      have le1843 := hS1.dle
      have hS := hS.callR hS1 rfl (.c .n)
      clear hS1
      have hS := hS.pk (.c 4 rfl (.c 0 rfl (.c 1 rfl (.c 2 rfl (.c 3 rfl (.c 5 rfl .n)))))) rfl
      obtain ⟨D1844, q1847, le1845, hS, h1848, h1846⟩ := hS.lent (h1802.mono (Snap.le.trans (Snap.le.trans (Snap.le.trans le1814 le1820) le1833) le1843))
      have hS := hS.pk (.c 4 rfl (.c 0 rfl (.c 1 rfl (.c 2 rfl (.c 3 rfl (.c 5 rfl .n)))))) rfl
      obtain ⟨D1849, q1852, le1850, hS, h1853, h1851⟩ := hS.lent (h1812.mono (Snap.le.trans (Snap.le.trans (Snap.le.trans le1820 le1833) le1843) le1845))
      have hS := hS.pk (.c 3 rfl (.c 0 rfl (.c 1 rfl (.c 2 rfl (.c 4 rfl (.c 5 rfl .n)))))) rfl
      obtain ⟨D1854, q1857, le1855, hS, h1858, h1856⟩ := hS.lent (h1831.mono (Snap.le.trans (Snap.le.trans le1843 le1845) le1850))
      have hS := hS.pk (.c 3 rfl (.c 0 rfl (.c 1 rfl (.c 2 rfl (.c 4 rfl (.c 5 rfl .n)))))) rfl
      obtain ⟨D1859, q1862, le1860, hS, h1863, h1861⟩ := hS.lent (h1841.mono (Snap.le.trans (Snap.le.trans le1845 le1850) le1855))
      refine oG 14 32767 (fuel := 2) (by kernel_rfl) (op_buildSlice (K := (kdSlice (kdInt .u8))) (e := 32) (cs := [.slice A1799 (List.length (r1795)) c1800] ++ ([.slice A1809 (List.length (r1805)) c1810] ++ ([.slice A1828 (List.length (r1824)) c1829] ++ ([.slice A1838 (List.length (r1834)) c1839] ++ [])))) ([r1795, r1805, r1824, r1834] : List (List Int)) rfl rfl rfl rfl hE rfl hS rfl (by kernel_rfl) rfl rfl (by exact (show RL (kdSlice (kdInt .u8)) D1859 ([r1795, r1805, r1824, r1834] : List (List Int)) ([.slice A1799 (List.length (r1795)) c1800] ++ ([.slice A1809 (List.length (r1805)) c1810] ++ ([.slice A1828 (List.length (r1824)) c1829] ++ ([.slice A1838 (List.length (r1834)) c1839] ++ [])))) from ⟨_, _, rfl, (kslice (h1846.mono (Snap.le.trans (Snap.le.trans le1850 le1855) le1860))), ⟨_, _, rfl, (kslice (h1851.mono (Snap.le.trans le1855 le1860))), ⟨_, _, rfl, (kslice (h1856.mono le1860)), ⟨_, _, rfl, (kslice h1861), rfl⟩⟩⟩⟩)) (fun a A1864 q1865 w hkp hE h1866 hS => ⟨hkp.mono (fun _ h => absurd h List.not_mem_nil), ?_⟩))
      clear hkp
      obtain ⟨D1868, q1871, le1869, hS, h1872, h1870⟩ := hS.lent h1866
      obtain ⟨r1873, h1874, hf⟩ := bind_some hf
      refine oG 15 65535 (fuel := 1) (by kernel_rfl) (op_call rfl rfl rfl rfl hE rfl rfl rfl rfl (by kernel_rfl) (wire_All.calls (g := g) h1874 (hS.st.fore (L := [])) h1870) (fun a v w hR hE => ?_))
      obtain ⟨D1875, A1877, c1878, q1879, rfl, hS1, h1880⟩ := hR
      refine ⟨(hS1.keeps.sub (M' := []) trivial).mono (fun _ h => h), ?_⟩
      have le1882 := hS1.dle
      have hS := hS.callR hS1 rfl (.c .n)
      clear hS1
      refine tW 16 131071 (fuel := 0) (by kernel_rfl) hE (fun M => tk_pure (.slice A1877 (List.length (r1873)) c1878) hE rfl rfl rfl rfl (fun _ _ _ e => by cases e) (by kernel_rfl) (fun a hE => ?_))
      refine doneG (by kernel_rfl) ?_
      refine wpIn_ret ?_
      obtain rfl := Option.some.inj hf
      repeat (with_reducible first | refine then_ret ?_ | refine block_ret ?_ | refine qx_ret ?_)
      refine ret_gen ([.slice A1877 (List.length (r1873)) c1878]) hE (by rw [show Try.f83.results.toList = [.tmp 2] from rfl]; exact ⟨_, _, rfl, rfl, rfl⟩) ?_
      have hS := hS.pk (.c 0 rfl .n) rfl
      exact ⟨_, rfl, D1875, A1877, c1878, q1879, rfl, hS, h1880⟩
    · refine (op_buildSlice (K := (kdInt .i64)) (e := 3) (cs := [.int .i64 (x1.fPart)] ++ ([.int .i64 (x1.fEpoch)] ++ [])) ([x1.fPart, x1.fEpoch] : List Int) rfl rfl rfl rfl hE rfl hS rfl (by kernel_rfl) rfl rfl (by exact (show RL (kdInt .i64) D1797 ([x1.fPart, x1.fEpoch] : List Int) ([.int .i64 (x1.fPart)] ++ ([.int .i64 (x1.fEpoch)] ++ [])) from ⟨_, _, rfl, rfl, ⟨_, _, rfl, rfl, rfl⟩⟩)) (fun a A1883 q1884 w hkp hE h1885 hS => ⟨hkp.mono (fun _ h => absurd h List.not_mem_nil), ?_⟩))
      clear hkp
      obtain ⟨r1887, h1888, hf⟩ := bind_some hf
      refine oG 4 7167 (fuel := 5) (by kernel_rfl) (op_call rfl rfl rfl rfl hE rfl rfl rfl rfl (by kernel_rfl) (wire_Flag.calls (g := g) h1888 (hS.st.fore (L := [])) ) (fun a v w hR hE => ?_))
      obtain ⟨D1889, A1891, c1892, q1893, rfl, hS1, h1894⟩ := hR
      refine ⟨(hS1.keeps.sub (M' := []) trivial).mono (fun _ h => h), ?_⟩
      have le1896 := hS1.dle
      have hS := hS.callR hS1 rfl (.c .n)
      clear hS1
      have hS := hS.pk (.c 1 rfl (.c 0 rfl (.c 2 rfl (.c 3 rfl .n)))) rfl
      obtain ⟨D1897, q1900, le1898, hS, h1901, h1899⟩ := hS.lent (h1885.mono le1896)
      obtain ⟨r1902, h1903, hf⟩ := bind_some hf
      refine oG 10 8191 (fuel := 4) (by kernel_rfl) (op_call rfl rfl rfl rfl hE rfl rfl rfl rfl (by kernel_rfl) (rec_numbers.calls (g := g) h1903 (hS.st.fore (L := [])) h1899) (fun a v w hR hE => ?_))
      obtain ⟨D1904, A1906, c1907, q1908, rfl, hS1, h1909⟩ := hR
      refine ⟨(hS1.keeps.sub (M' := []) trivial).mono (fun _ h => h), ?_⟩
      have le1911 := hS1.dle
      have hS := hS.callR hS1 rfl (.c .n)
      clear hS1
      obtain ⟨r1912, h1913, hf⟩ := bind_some hf
      refine oG 13 16383 (fuel := 3) (by kernel_rfl) (op_call rfl rfl rfl rfl hE rfl rfl rfl rfl (by kernel_rfl) (wire_Hash.calls (g := g) h1913 (hS.st.fore (L := [])) ) (fun a v w hR hE => ?_))
      obtain ⟨D1914, A1916, c1917, q1918, rfl, hS1, h1919⟩ := hR
      refine ⟨(hS1.keeps.sub (M' := []) trivial).mono (fun _ h => h), ?_⟩
      have le1921 := hS1.dle
      have hS := hS.callR hS1 rfl (.c .n)
      clear hS1
      have hS := hS.pk (.c 4 rfl (.c 0 rfl (.c 1 rfl (.c 2 rfl (.c 3 rfl (.c 5 rfl .n)))))) rfl
      obtain ⟨D1922, q1925, le1923, hS, h1926, h1924⟩ := hS.lent (h1802.mono (Snap.le.trans (Snap.le.trans (Snap.le.trans le1896 le1898) le1911) le1921))
      have hS := hS.pk (.c 4 rfl (.c 0 rfl (.c 1 rfl (.c 2 rfl (.c 3 rfl (.c 5 rfl .n)))))) rfl
      obtain ⟨D1927, q1930, le1928, hS, h1931, h1929⟩ := hS.lent (h1894.mono (Snap.le.trans (Snap.le.trans (Snap.le.trans le1898 le1911) le1921) le1923))
      have hS := hS.pk (.c 3 rfl (.c 0 rfl (.c 1 rfl (.c 2 rfl (.c 4 rfl (.c 5 rfl .n)))))) rfl
      obtain ⟨D1932, q1935, le1933, hS, h1936, h1934⟩ := hS.lent (h1909.mono (Snap.le.trans (Snap.le.trans le1921 le1923) le1928))
      have hS := hS.pk (.c 3 rfl (.c 0 rfl (.c 1 rfl (.c 2 rfl (.c 4 rfl (.c 5 rfl .n)))))) rfl
      obtain ⟨D1937, q1940, le1938, hS, h1941, h1939⟩ := hS.lent (h1919.mono (Snap.le.trans (Snap.le.trans le1923 le1928) le1933))
      refine oG 14 32767 (fuel := 2) (by kernel_rfl) (op_buildSlice (K := (kdSlice (kdInt .u8))) (e := 32) (cs := [.slice A1799 (List.length (r1795)) c1800] ++ ([.slice A1891 (List.length (r1887)) c1892] ++ ([.slice A1906 (List.length (r1902)) c1907] ++ ([.slice A1916 (List.length (r1912)) c1917] ++ [])))) ([r1795, r1887, r1902, r1912] : List (List Int)) rfl rfl rfl rfl hE rfl hS rfl (by kernel_rfl) rfl rfl (by exact (show RL (kdSlice (kdInt .u8)) D1937 ([r1795, r1887, r1902, r1912] : List (List Int)) ([.slice A1799 (List.length (r1795)) c1800] ++ ([.slice A1891 (List.length (r1887)) c1892] ++ ([.slice A1906 (List.length (r1902)) c1907] ++ ([.slice A1916 (List.length (r1912)) c1917] ++ [])))) from ⟨_, _, rfl, (kslice (h1924.mono (Snap.le.trans (Snap.le.trans le1928 le1933) le1938))), ⟨_, _, rfl, (kslice (h1929.mono (Snap.le.trans le1933 le1938))), ⟨_, _, rfl, (kslice (h1934.mono le1938)), ⟨_, _, rfl, (kslice h1939), rfl⟩⟩⟩⟩)) (fun a A1942 q1943 w hkp hE h1944 hS => ⟨hkp.mono (fun _ h => absurd h List.not_mem_nil), ?_⟩))
      clear hkp
      obtain ⟨D1946, q1949, le1947, hS, h1950, h1948⟩ := hS.lent h1944
      obtain ⟨r1951, h1952, hf⟩ := bind_some hf
      refine oG 15 65535 (fuel := 1) (by kernel_rfl) (op_call rfl rfl rfl rfl hE rfl rfl rfl rfl (by kernel_rfl) (wire_All.calls (g := g) h1952 (hS.st.fore (L := [])) h1948) (fun a v w hR hE => ?_))
      obtain ⟨D1953, A1955, c1956, q1957, rfl, hS1, h1958⟩ := hR
      refine ⟨(hS1.keeps.sub (M' := []) trivial).mono (fun _ h => h), ?_⟩
      have le1960 := hS1.dle
      have hS := hS.callR hS1 rfl (.c .n)
      clear hS1
      refine tW 16 131071 (fuel := 0) (by kernel_rfl) hE (fun M => tk_pure (.slice A1955 (List.length (r1951)) c1956) hE rfl rfl rfl rfl (fun _ _ _ e => by cases e) (by kernel_rfl) (fun a hE => ?_))
      refine doneG (by kernel_rfl) ?_
      refine wpIn_ret ?_
      obtain rfl := Option.some.inj hf
      repeat (with_reducible first | refine then_ret ?_ | refine block_ret ?_ | refine qx_ret ?_)
      refine ret_gen ([.slice A1955 (List.length (r1951)) c1956]) hE (by rw [show Try.f83.results.toList = [.tmp 2] from rfl]; exact ⟨_, _, rfl, rfl, rfl⟩) ?_
      have hS := hS.pk (.c 0 rfl .n) rfl
      exact ⟨_, rfl, D1953, A1955, c1956, q1957, rfl, hS, h1958⟩
  · refine (op_buildSlice (K := (kdInt .i64)) (e := 3) (cs := [.int .i64 (x1.fPart)] ++ ([.int .i64 (x1.fEpoch)] ++ [])) ([x1.fPart, x1.fEpoch] : List Int) rfl rfl rfl rfl hE rfl hS rfl (by kernel_rfl) rfl rfl (by exact (show RL (kdInt .i64) D0 ([x1.fPart, x1.fEpoch] : List Int) ([.int .i64 (x1.fPart)] ++ ([.int .i64 (x1.fEpoch)] ++ [])) from ⟨_, _, rfl, rfl, ⟨_, _, rfl, rfl, rfl⟩⟩)) (fun a A1961 q1962 w hkp hE h1963 hS => ⟨hkp.mono (fun _ h => absurd h List.not_mem_nil), ?_⟩))
    clear hkp
    obtain ⟨r1965, h1966, hf⟩ := bind_some hf
    refine oG 1 7151 (fuel := 6) (by kernel_rfl) (op_call rfl rfl rfl rfl hE rfl rfl rfl rfl (by kernel_rfl) (rec_call.calls (g := g) h1966 (hS.st.fore (L := [])) h4 h7) (fun a v w hR hE => ?_))
    obtain ⟨D1967, A1969, c1970, q1971, rfl, hS1, h1972⟩ := hR
    refine ⟨(hS1.keeps.sub (M' := []) trivial).mono (fun _ h => h), ?_⟩
    have le1974 := hS1.dle
    have hS := hS.callR hS1 rfl (.c .n)
    clear hS1
    obtain ⟨r1975, h1976, hf⟩ := bind_some hf
    refine oG 4 7167 (fuel := 5) (by kernel_rfl) (op_call rfl rfl rfl rfl hE rfl rfl rfl rfl (by kernel_rfl) (wire_Flag.calls (g := g) h1976 (hS.st.fore (L := [])) ) (fun a v w hR hE => ?_))
    obtain ⟨D1977, A1979, c1980, q1981, rfl, hS1, h1982⟩ := hR
    refine ⟨(hS1.keeps.sub (M' := []) trivial).mono (fun _ h => h), ?_⟩
    have le1984 := hS1.dle
    have hS := hS.callR hS1 rfl (.c .n)
    clear hS1
    have hS := hS.pk (.c 2 rfl (.c 0 rfl (.c 1 rfl (.c 3 rfl .n)))) rfl
    obtain ⟨D1985, q1988, le1986, hS, h1989, h1987⟩ := hS.lent (h1963.mono (Snap.le.trans le1974 le1984))
    obtain ⟨r1990, h1991, hf⟩ := bind_some hf
    refine oG 10 8191 (fuel := 4) (by kernel_rfl) (op_call rfl rfl rfl rfl hE rfl rfl rfl rfl (by kernel_rfl) (rec_numbers.calls (g := g) h1991 (hS.st.fore (L := [])) h1987) (fun a v w hR hE => ?_))
    obtain ⟨D1992, A1994, c1995, q1996, rfl, hS1, h1997⟩ := hR
    refine ⟨(hS1.keeps.sub (M' := []) trivial).mono (fun _ h => h), ?_⟩
    have le1999 := hS1.dle
    have hS := hS.callR hS1 rfl (.c .n)
    clear hS1
    obtain ⟨r2000, h2001, hf⟩ := bind_some hf
    refine oG 13 16383 (fuel := 3) (by kernel_rfl) (op_call rfl rfl rfl rfl hE rfl rfl rfl rfl (by kernel_rfl) (wire_Hash.calls (g := g) h2001 (hS.st.fore (L := [])) ) (fun a v w hR hE => ?_))
    obtain ⟨D2002, A2004, c2005, q2006, rfl, hS1, h2007⟩ := hR
    refine ⟨(hS1.keeps.sub (M' := []) trivial).mono (fun _ h => h), ?_⟩
    have le2009 := hS1.dle
    have hS := hS.callR hS1 rfl (.c .n)
    clear hS1
    have hS := hS.pk (.c 4 rfl (.c 0 rfl (.c 1 rfl (.c 2 rfl (.c 3 rfl (.c 5 rfl .n)))))) rfl
    obtain ⟨D2010, q2013, le2011, hS, h2014, h2012⟩ := hS.lent (h1972.mono (Snap.le.trans (Snap.le.trans (Snap.le.trans le1984 le1986) le1999) le2009))
    have hS := hS.pk (.c 4 rfl (.c 0 rfl (.c 1 rfl (.c 2 rfl (.c 3 rfl (.c 5 rfl .n)))))) rfl
    obtain ⟨D2015, q2018, le2016, hS, h2019, h2017⟩ := hS.lent (h1982.mono (Snap.le.trans (Snap.le.trans (Snap.le.trans le1986 le1999) le2009) le2011))
    have hS := hS.pk (.c 3 rfl (.c 0 rfl (.c 1 rfl (.c 2 rfl (.c 4 rfl (.c 5 rfl .n)))))) rfl
    obtain ⟨D2020, q2023, le2021, hS, h2024, h2022⟩ := hS.lent (h1997.mono (Snap.le.trans (Snap.le.trans le2009 le2011) le2016))
    have hS := hS.pk (.c 3 rfl (.c 0 rfl (.c 1 rfl (.c 2 rfl (.c 4 rfl (.c 5 rfl .n)))))) rfl
    obtain ⟨D2025, q2028, le2026, hS, h2029, h2027⟩ := hS.lent (h2007.mono (Snap.le.trans (Snap.le.trans le2011 le2016) le2021))
    refine oG 14 32767 (fuel := 2) (by kernel_rfl) (op_buildSlice (K := (kdSlice (kdInt .u8))) (e := 32) (cs := [.slice A1969 (List.length (r1965)) c1970] ++ ([.slice A1979 (List.length (r1975)) c1980] ++ ([.slice A1994 (List.length (r1990)) c1995] ++ ([.slice A2004 (List.length (r2000)) c2005] ++ [])))) ([r1965, r1975, r1990, r2000] : List (List Int)) rfl rfl rfl rfl hE rfl hS rfl (by kernel_rfl) rfl rfl (by exact (show RL (kdSlice (kdInt .u8)) D2025 ([r1965, r1975, r1990, r2000] : List (List Int)) ([.slice A1969 (List.length (r1965)) c1970] ++ ([.slice A1979 (List.length (r1975)) c1980] ++ ([.slice A1994 (List.length (r1990)) c1995] ++ ([.slice A2004 (List.length (r2000)) c2005] ++ [])))) from ⟨_, _, rfl, (kslice (h2012.mono (Snap.le.trans (Snap.le.trans le2016 le2021) le2026))), ⟨_, _, rfl, (kslice (h2017.mono (Snap.le.trans le2021 le2026))), ⟨_, _, rfl, (kslice (h2022.mono le2026)), ⟨_, _, rfl, (kslice h2027), rfl⟩⟩⟩⟩)) (fun a A2030 q2031 w hkp hE h2032 hS => ⟨hkp.mono (fun _ h => absurd h List.not_mem_nil), ?_⟩))
    clear hkp
    obtain ⟨D2034, q2037, le2035, hS, h2038, h2036⟩ := hS.lent h2032
    obtain ⟨r2039, h2040, hf⟩ := bind_some hf
    refine oG 15 65535 (fuel := 1) (by kernel_rfl) (op_call rfl rfl rfl rfl hE rfl rfl rfl rfl (by kernel_rfl) (wire_All.calls (g := g) h2040 (hS.st.fore (L := [])) h2036) (fun a v w hR hE => ?_))
    obtain ⟨D2041, A2043, c2044, q2045, rfl, hS1, h2046⟩ := hR
    refine ⟨(hS1.keeps.sub (M' := []) trivial).mono (fun _ h => h), ?_⟩
    have le2048 := hS1.dle
    have hS := hS.callR hS1 rfl (.c .n)
    clear hS1
    refine tW 16 131071 (fuel := 0) (by kernel_rfl) hE (fun M => tk_pure (.slice A2043 (List.length (r2039)) c2044) hE rfl rfl rfl rfl (fun _ _ _ e => by cases e) (by kernel_rfl) (fun a hE => ?_))
    refine doneG (by kernel_rfl) ?_
    refine wpIn_ret ?_
    obtain rfl := Option.some.inj hf
    repeat (with_reducible first | refine then_ret ?_ | refine block_ret ?_ | refine qx_ret ?_)
    refine ret_gen ([.slice A2043 (List.length (r2039)) c2044]) hE (by rw [show Try.f83.results.toList = [.tmp 2] from rfl]; exact ⟨_, _, rfl, rfl, rfl⟩) ?_
    have hS := hS.pk (.c 0 rfl .n) rfl
    exact ⟨_, rfl, D2041, A2043, c2044, q2045, rfl, hS, h2046⟩

set_option maxRecDepth 100000 in
set_option maxHeartbeats 4000000 in
theorem rec_forms_2.calls {K : Nat} {g w0 : World} {D0 : Snap} {x1 : T_api_Rec} {A2 : Option Addr} {c3 : Nat} {A5 : Option Addr} {c6 : Nat} {r : ((List Int))} (hf : rec_forms_2.f K x1 = some r) (hS0 : St g w0 D0 []) (h4 : Sl kd_T_api_Step D0 A2 c3 (x1.fSteps)) (h7 : Sl (kdInt .u8) D0 A5 c6 (x1.fData)) :
    CallsIn (Fw none) 0 Try.prog 85 (List.toArray [.agg (List.toArray (c_T_api_Rec (x1) A2 c3 A5 c6))]) w0 (fun e w' => ∃ v, e = .returned v ∧ ∃ (D1 : Snap) (A29 : Option Addr) (c30 : Nat) (q31 : Blk), v = .slice A29 (List.length (r)) c30 ∧ Stp g w0 D0 [] w' D1 [q31] ∧ OwnD (kdInt .u8) 5 D1 A29 c30 (r) q31) := by
  unfold rec_forms_2.f at hf
  have hS := Stp.refl hS0
  clear hS0
  refine calls_body (n := 11) Try.func85 rfl Try.ntmps85 rfl (fun a hE => ?_)
  have hE : Env a 11 [] [(0, .agg (List.toArray (c_T_api_Rec (x1) A2 c3 A5 c6)))] := hE
  refine wpIn_seq ?_
  refine region_at ?_
  refine at_op (op_box rfl rfl rfl rfl hE rfl hS rfl (fun a b34 w _ hE hS => ?_)) rfl
  refine segN 1 (j := 2) [(2, .slice none 0 0)] hE (by kernel_rfl) rfl (fun a hE => ?_)
  refine at_end rfl ?_
  refine wpIn_seq ?_
  refine region_at ?_
  refine at_op (op_tk hE (g_fieldAddr (fo := 1) (ft := 3) 1 rfl rfl rfl rfl hE rfl rfl (by kernel_rfl) rfl (fun a hE => ?_))) rfl
  refine at_op (op_tk hE (tk_load 0 (.int .i64 (x1.fSaga)) rfl rfl rfl rfl hE rfl hS rfl rfl (by kernel_rfl) (kL (j := 0) hS rfl List.not_mem_nil) (fun a hE => ?_))) rfl
  refine at_op (op_tk hE (g_fieldAddr (fo := 2) (ft := 3) 2 rfl rfl rfl rfl hE rfl rfl (by kernel_rfl) rfl (fun a hE => ?_))) rfl
  refine at_op (op_tk hE (tk_load 0 (.int .i64 (x1.fSeq)) rfl rfl rfl rfl hE rfl hS rfl rfl (by kernel_rfl) (kL (j := 0) hS rfl List.not_mem_nil) (fun a hE => ?_))) rfl
  refine at_op (op_tk hE (g_fieldAddr (fo := 7) (ft := 3) 7 rfl rfl rfl rfl hE rfl rfl (by kernel_rfl) rfl (fun a hE => ?_))) rfl
  refine at_op (op_tk hE (tk_load 0 (.int .i64 (x1.fEnd)) rfl rfl rfl rfl hE rfl hS rfl rfl (by kernel_rfl) (kL (j := 0) hS rfl List.not_mem_nil) (fun a hE => ?_))) rfl
  refine at_op (op_buildSlice (K := (kdInt .i64)) (e := 3) (cs := [.int .i64 (x1.fSaga)] ++ ([.int .i64 (x1.fSeq)] ++ ([.int .i64 (x1.fEnd)] ++ []))) ([x1.fSaga, x1.fSeq, x1.fEnd] : List Int) rfl rfl rfl rfl hE rfl hS rfl (by kernel_rfl) rfl rfl (by exact (show RL (kdInt .i64) D0 ([x1.fSaga, x1.fSeq, x1.fEnd] : List Int) ([.int .i64 (x1.fSaga)] ++ ([.int .i64 (x1.fSeq)] ++ ([.int .i64 (x1.fEnd)] ++ []))) from ⟨_, _, rfl, rfl, ⟨_, _, rfl, rfl, ⟨_, _, rfl, rfl, rfl⟩⟩⟩)) (fun a A36 q37 w _ hE h38 hS => ?_)) rfl
  obtain ⟨D40, q43, le41, hS, h44, h42⟩ := hS.lent h38
  obtain ⟨r45, h46, hf⟩ := bind_some hf
  refine at_op (op_call rfl rfl rfl rfl hE rfl rfl rfl rfl (by kernel_rfl) (rec_numbers.calls (g := g) h46 (hS.st.fore (L := [])) h42) (fun a v w hR hE => ?_)) rfl
  obtain ⟨D47, A49, c50, q51, rfl, hS1, h52⟩ := hR
  have le54 := hS1.dle
  have hS := hS.callR hS1 rfl (.c .n)
  clear hS1
  refine segN 1 (j := 9) [(2, .slice A49 (List.length (r45)) c50)] hE (by kernel_rfl) rfl (fun a hE => ?_)
  refine at_end rfl ?_
  refine wpIn_ret ?_
  obtain rfl := Option.some.inj hf
  repeat (with_reducible first | refine then_ret ?_ | refine block_ret ?_ | refine qx_ret ?_)
  refine ret_gen ([.slice A49 (List.length (r45)) c50]) hE (by rw [show Try.f85.results.toList = [.tmp 2] from rfl]; exact ⟨_, _, rfl, rfl, rfl⟩) ?_
  have hS := hS.pk (.c 0 rfl .n) rfl
  exact ⟨_, rfl, D47, A49, c50, q51, rfl, hS, h52⟩

set_option maxRecDepth 100000 in
set_option maxHeartbeats 4000000 in
theorem rec_forms_3.calls {K : Nat} {g w0 : World} {D0 : Snap} {x1 : T_api_Rec} {A2 : Option Addr} {c3 : Nat} {A5 : Option Addr} {c6 : Nat} {r : ((List Int))} (hf : rec_forms_3.f K x1 = some r) (hS0 : St g w0 D0 []) (h4 : Sl kd_T_api_Step D0 A2 c3 (x1.fSteps)) (h7 : Sl (kdInt .u8) D0 A5 c6 (x1.fData)) :
    CallsIn (Fw none) 0 Try.prog 86 (List.toArray [.agg (List.toArray (c_T_api_Rec (x1) A2 c3 A5 c6))]) w0 (fun e w' => ∃ v, e = .returned v ∧ ∃ (D1 : Snap) (A29 : Option Addr) (c30 : Nat) (q31 : Blk), v = .slice A29 (List.length (r)) c30 ∧ Stp g w0 D0 [] w' D1 [q31] ∧ OwnD (kdInt .u8) 5 D1 A29 c30 (r) q31) := by
  unfold rec_forms_3.f at hf
  have hS := Stp.refl hS0
  clear hS0
  refine calls_body (n := 9) Try.func86 rfl Try.ntmps86 rfl (fun a hE => ?_)
  have hE : Env a 9 [] [(0, .agg (List.toArray (c_T_api_Rec (x1) A2 c3 A5 c6)))] := hE
  refine wpIn_seq ?_
  refine region_at ?_
  refine at_op (op_box rfl rfl rfl rfl hE rfl hS rfl (fun a b34 w _ hE hS => ?_)) rfl
  refine segN 1 (j := 2) [(2, .slice none 0 0)] hE (by kernel_rfl) rfl (fun a hE => ?_)
  refine at_end rfl ?_
  refine wpIn_seq ?_
  refine region_at ?_
  refine at_op (op_tk hE (g_fieldAddr (fo := 8) (ft := 3) 8 rfl rfl rfl rfl hE rfl rfl (by kernel_rfl) rfl (fun a hE => ?_))) rfl
  refine at_op (op_tk hE (tk_load 0 (.int .i64 (x1.fPart)) rfl rfl rfl rfl hE rfl hS rfl rfl (by kernel_rfl) (kL (j := 0) hS rfl List.not_mem_nil) (fun a hE => ?_))) rfl
  refine at_op (op_tk hE (g_fieldAddr (fo := 9) (ft := 3) 9 rfl rfl rfl rfl hE rfl rfl (by kernel_rfl) rfl (fun a hE => ?_))) rfl
  refine at_op (op_tk hE (tk_load 0 (.int .i64 (x1.fEpoch)) rfl rfl rfl rfl hE rfl hS rfl rfl (by kernel_rfl) (kL (j := 0) hS rfl List.not_mem_nil) (fun a hE => ?_))) rfl
  refine at_op (op_buildSlice (K := (kdInt .i64)) (e := 3) (cs := [.int .i64 (x1.fPart)] ++ ([.int .i64 (x1.fEpoch)] ++ [])) ([x1.fPart, x1.fEpoch] : List Int) rfl rfl rfl rfl hE rfl hS rfl (by kernel_rfl) rfl rfl (by exact (show RL (kdInt .i64) D0 ([x1.fPart, x1.fEpoch] : List Int) ([.int .i64 (x1.fPart)] ++ ([.int .i64 (x1.fEpoch)] ++ [])) from ⟨_, _, rfl, rfl, ⟨_, _, rfl, rfl, rfl⟩⟩)) (fun a A36 q37 w _ hE h38 hS => ?_)) rfl
  obtain ⟨D40, q43, le41, hS, h44, h42⟩ := hS.lent h38
  obtain ⟨r45, h46, hf⟩ := bind_some hf
  refine at_op (op_call rfl rfl rfl rfl hE rfl rfl rfl rfl (by kernel_rfl) (rec_numbers.calls (g := g) h46 (hS.st.fore (L := [])) h42) (fun a v w hR hE => ?_)) rfl
  obtain ⟨D47, A49, c50, q51, rfl, hS1, h52⟩ := hR
  have le54 := hS1.dle
  have hS := hS.callR hS1 rfl (.c .n)
  clear hS1
  refine segN 1 (j := 7) [(2, .slice A49 (List.length (r45)) c50)] hE (by kernel_rfl) rfl (fun a hE => ?_)
  refine at_end rfl ?_
  refine wpIn_ret ?_
  obtain rfl := Option.some.inj hf
  repeat (with_reducible first | refine then_ret ?_ | refine block_ret ?_ | refine qx_ret ?_)
  refine ret_gen ([.slice A49 (List.length (r45)) c50]) hE (by rw [show Try.f86.results.toList = [.tmp 2] from rfl]; exact ⟨_, _, rfl, rfl, rfl⟩) ?_
  have hS := hS.pk (.c 0 rfl .n) rfl
  exact ⟨_, rfl, D47, A49, c50, q51, rfl, hS, h52⟩

set_option maxRecDepth 100000 in
set_option maxHeartbeats 4000000 in
theorem wire_Bytes.calls {K : Nat} {g w0 : World} {D0 : Snap} {x1 : (List Int)} {A2 : Option Addr} {c3 : Nat} {r : ((List Int))} (hf : wire_Bytes.f K x1 = some r) (hS0 : St g w0 D0 []) (h4 : Sl (kdInt .u8) D0 A2 c3 (x1)) :
    CallsIn (Fw none) 0 Try.prog 58 (List.toArray [.slice A2 (List.length (x1)) c3]) w0 (fun e w' => ∃ v, e = .returned v ∧ ∃ (D1 : Snap) (A22 : Option Addr) (c23 : Nat) (q24 : Blk), v = .slice A22 (List.length (r)) c23 ∧ Stp g w0 D0 [] w' D1 [q24] ∧ OwnD (kdInt .u8) 5 D1 A22 c23 (r) q24) := by
  unfold wire_Bytes.f at hf
  have hS := Stp.refl hS0
  clear hS0
  refine calls_body (n := 8) Try.func58 rfl Try.ntmps58 rfl (fun a hE => ?_)
  have hE : Env a 8 [] [(0, .slice A2 (List.length (x1)) c3)] := hE
  refine wpIn_seq ?_
  refine region_at ?_
  refine segN 1 (j := 1) [(2, .slice none 0 0)] hE (by kernel_rfl) rfl (fun a hE => ?_)
  refine at_end rfl ?_
  refine wpIn_seq ?_
  refine region_at ?_
  refine segN 2 (j := 2) [(4, .int .i64 (((List.length (x1) : Nat) : Int)))] hE (by kernel_rfl) rfl (fun a hE => ?_)
  obtain ⟨r27, h28, hf⟩ := bind_some hf
  refine at_op (op_call rfl rfl rfl rfl hE rfl rfl rfl rfl (by kernel_rfl) (wire_Num.calls (g := g) h28 (hS.st.fore (L := [])) ) (fun a v w hR hE => ?_)) rfl
  obtain ⟨D29, A31, c32, q33, rfl, hS1, h34⟩ := hR
  have le36 := hS1.dle
  have hS := hS.callR hS1 rfl (.c .n)
  clear hS1
  refine segN 1 (j := 4) [(6, .slice A2 (List.length (x1)) c3)] hE (by kernel_rfl) rfl (fun a hE => ?_)
  obtain ⟨l37, h38, hf⟩ := bind_some hf
  refine at_op (g_append (K := (kdInt .u8)) (e := 5) (bytes := 1) (l := r27) (m := x1) rfl rfl rfl rfl hE rfl hS rfl rfl (by kernel_rfl) rfl rfl h34 (h4.mono le36) h38 (fun a A39 c40 q41 w _ hE h42 hS => ?_)) rfl
  refine segN 1 (j := 6) [(2, .slice A39 (List.length (l37)) c40)] hE (by kernel_rfl) rfl (fun a hE => ?_)
  refine at_end rfl ?_
  refine wpIn_ret ?_
  obtain rfl := Option.some.inj hf
  repeat (with_reducible first | refine then_ret ?_ | refine block_ret ?_ | refine qx_ret ?_)
  refine ret_gen ([.slice A39 (List.length (l37)) c40]) hE (by rw [show Try.f58.results.toList = [.tmp 2] from rfl]; exact ⟨_, _, rfl, rfl, rfl⟩) ?_
  exact ⟨_, rfl, D29, A39, c40, q41, rfl, hS, h42⟩

set_option maxRecDepth 100000 in
set_option maxHeartbeats 4000000 in
theorem rec_Open_1.calls {K : Nat} {g w0 : World} {D0 : Snap} {x3 : T_api_Rec} {b1 : Nat} {A4 : Option Addr} {c5 : Nat} {A7 : Option Addr} {c8 : Nat} {r : ((List Int))} (hf : rec_Open_1.f K x3 = some r) (hS0 : St g w0 D0 [bx b1 47 (c_T_api_Rec (x3) A4 c5 A7 c8)]) (h6 : Sl kd_T_api_Step D0 A4 c5 (x3.fSteps)) (h9 : Sl (kdInt .u8) D0 A7 c8 (x3.fData)) :
    CallsIn (Fw none) 0 Try.prog 57 (List.toArray [.pointer (some ⟨b1, 0, none⟩)]) w0 (fun e w' => ∃ v, e = .returned v ∧ ∃ (D1 : Snap) (A334 : Option Addr) (c335 : Nat) (q336 : Blk), v = .slice A334 (List.length (r)) c335 ∧ Stp g w0 D0 [bx b1 47 (c_T_api_Rec (x3) A4 c5 A7 c8)] w' D1 [bx b1 47 (c_T_api_Rec (x3) A4 c5 A7 c8), q336] ∧ OwnD (kdInt .u8) 5 D1 A334 c335 (r) q336) := by
  unfold rec_Open_1.f at hf
  have hS := Stp.refl hS0
  clear hS0
  refine calls_body (n := 19) Try.func57 rfl Try.ntmps57 rfl (fun a hE => ?_)
  have hE : Env a 19 [] [(0, .pointer (some ⟨b1, 0, none⟩))] := hE
  refine wpIn_seq ?_
  refine region_at ?_
  refine segN 1 (j := 1) [(1, .slice none 0 0)] hE (by kernel_rfl) rfl (fun a hE => ?_)
  refine at_end rfl ?_
  refine wpIn_seq ?_
  refine wpIn_seq ?_
  refine region_at ?_
  refine at_op (op_tk hE (g_fieldAddr (fo := 76) (ft := 4) 76 rfl rfl rfl rfl hE rfl rfl (by kernel_rfl) rfl (fun a hE => ?_))) rfl
  refine at_op (op_tk hE (tk_load 0 (.bool (x3.fGone)) rfl rfl rfl rfl hE rfl hS rfl rfl (by kernel_rfl) (kL (j := 0) hS rfl List.not_mem_nil) (fun a hE => ?_))) rfl
  refine at_end rfl ?_
  refine cond_split hE (b := x3.fGone) rfl (fun hb => ?_) (fun hb => ?_)
  · replace hf := cond_t hb hf
    clear hb
    refine wpIn_seq ?_
    refine region_draw (fun j => Keeps (mfOf [] j)) (by kernel_rfl) ?_
    have hS := hS.drew
    first | generalize w.drew = w at hS ⊢ | generalize w0.drew = w at hS ⊢
    refine tW 1 2 (fuel := 6) (by kernel_rfl) hE (fun M => g_fieldAddr (fo := 77) (ft := 23) 77 rfl rfl rfl rfl hE rfl rfl (by kernel_rfl) rfl (fun a hE => ?_))
    refine tT 2 6 (fuel := 5) (by kernel_rfl) hE (tk_load 0 (.agg (List.toArray (acells .u8 32 (x3.fCom)))) rfl rfl rfl rfl hE rfl hS rfl rfl (by kernel_rfl) (kL (j := 0) hS rfl List.not_mem_nil) (fun a hE => ?_))
    obtain ⟨r486, h487, hf⟩ := bind_some hf
    refine oG 0 7 (fuel := 4) (by kernel_rfl) (op_call rfl rfl rfl rfl hE rfl rfl rfl rfl (by kernel_rfl) (wire_Flag.calls (g := g) h487 (hS.st.fore (L := [])) ) (fun a v w hR hE => ?_))
    obtain ⟨D488, A490, c491, q492, rfl, hS1, h493⟩ := hR
    refine ⟨(hS1.keeps.sub (M' := []) trivial).mono (fun _ h => h), ?_⟩
    have le495 := hS1.dle
    have hS := hS.callR hS1 rfl (.c .n)
    clear hS1
    obtain ⟨r496, h497, hf⟩ := bind_some hf
    refine oG 3 15 (fuel := 3) (by kernel_rfl) (op_call rfl rfl rfl rfl hE rfl rfl rfl rfl (by kernel_rfl) (wire_Hash.calls (g := g) h497 (hS.st.fore (L := [])) ) (fun a v w hR hE => ?_))
    obtain ⟨D498, A500, c501, q502, rfl, hS1, h503⟩ := hR
    refine ⟨(hS1.keeps.sub (M' := []) trivial).mono (fun _ h => h), ?_⟩
    have le505 := hS1.dle
    have hS := hS.callR hS1 rfl (.c .n)
    clear hS1
    have hS := hS.pk (.c 1 rfl (.c 0 rfl (.c 2 rfl .n))) rfl
    obtain ⟨D506, q509, le507, hS, h510, h508⟩ := hS.lent (h493.mono le505)
    have hS := hS.pk (.c 1 rfl (.c 0 rfl (.c 2 rfl .n))) rfl
    obtain ⟨D511, q514, le512, hS, h515, h513⟩ := hS.lent (h503.mono le507)
    refine oG 4 31 (fuel := 2) (by kernel_rfl) (op_buildSlice (K := (kdSlice (kdInt .u8))) (e := 32) (cs := [.slice A490 (List.length (r486)) c491] ++ ([.slice A500 (List.length (r496)) c501] ++ [])) ([r486, r496] : List (List Int)) rfl rfl rfl rfl hE rfl hS rfl (by kernel_rfl) rfl rfl (by exact (show RL (kdSlice (kdInt .u8)) D511 ([r486, r496] : List (List Int)) ([.slice A490 (List.length (r486)) c491] ++ ([.slice A500 (List.length (r496)) c501] ++ [])) from ⟨_, _, rfl, (kslice (h508.mono le512)), ⟨_, _, rfl, (kslice h513), rfl⟩⟩)) (fun a A516 q517 w hkp hE h518 hS => ⟨hkp.mono (fun _ h => absurd h List.not_mem_nil), ?_⟩))
    clear hkp
    obtain ⟨D520, q523, le521, hS, h524, h522⟩ := hS.lent h518
    obtain ⟨r525, h526, hf⟩ := bind_some hf
    refine oG 5 63 (fuel := 1) (by kernel_rfl) (op_call rfl rfl rfl rfl hE rfl rfl rfl rfl (by kernel_rfl) (wire_All.calls (g := g) h526 (hS.st.fore (L := [])) h522) (fun a v w hR hE => ?_))
    obtain ⟨D527, A529, c530, q531, rfl, hS1, h532⟩ := hR
    refine ⟨(hS1.keeps.sub (M' := []) trivial).mono (fun _ h => h), ?_⟩
    have le534 := hS1.dle
    have hS := hS.callR hS1 rfl (.c .n)
    clear hS1
    refine tW 6 127 (fuel := 0) (by kernel_rfl) hE (fun M => tk_pure (.slice A529 (List.length (r525)) c530) hE rfl rfl rfl rfl (fun _ _ _ e => by cases e) (by kernel_rfl) (fun a hE => ?_))
    refine doneG (by kernel_rfl) ?_
    refine wpIn_ret ?_
    obtain rfl := Option.some.inj hf
    repeat (with_reducible first | refine then_ret ?_ | refine block_ret ?_ | refine qx_ret ?_)
    refine ret_gen ([.slice A529 (List.length (r525)) c530]) hE (by rw [show Try.f57.results.toList = [.tmp 1] from rfl]; exact ⟨_, _, rfl, rfl, rfl⟩) ?_
    have hS := hS.pk (.c 4 rfl (.c 0 rfl .n)) rfl
    exact ⟨_, rfl, D527, A529, c530, q531, rfl, hS, h532⟩
  · replace hf := cond_f hb hf
    clear hb
    refine wpIn_skip ?_
    refine wpIn_seq ?_
    refine region_draw (fun j => Keeps (mfOf [] j)) (by kernel_rfl) ?_
    have hS := hS.drew
    first | generalize w.drew = w at hS ⊢ | generalize w0.drew = w at hS ⊢
    refine tW 1 2 (fuel := 9) (by kernel_rfl) hE (fun M => g_fieldAddr (fo := 44) (ft := 23) 44 rfl rfl rfl rfl hE rfl rfl (by kernel_rfl) rfl (fun a hE => ?_))
    refine tT 2 6 (fuel := 8) (by kernel_rfl) hE (tk_load 0 (.agg (List.toArray (acells .u8 32 (x3.fSalt)))) rfl rfl rfl rfl hE rfl hS rfl rfl (by kernel_rfl) (kL (j := 0) hS rfl List.not_mem_nil) (fun a hE => ?_))
    refine tW 4 22 (fuel := 7) (by kernel_rfl) hE (fun M => g_fieldAddr (fo := 43) (ft := 32) 43 rfl rfl rfl rfl hE rfl rfl (by kernel_rfl) rfl (fun a hE => ?_))
    refine tT 5 54 (fuel := 6) (by kernel_rfl) hE (tk_load 0 (.slice A7 (List.length (x3.fData)) c8) rfl rfl rfl rfl hE rfl hS rfl rfl (by kernel_rfl) (kL (j := 0) hS rfl List.not_mem_nil) (fun a hE => ?_))
    obtain ⟨r599, h600, hf⟩ := bind_some hf
    refine oG 0 55 (fuel := 5) (by kernel_rfl) (op_call rfl rfl rfl rfl hE rfl rfl rfl rfl (by kernel_rfl) (wire_Flag.calls (g := g) h600 (hS.st.fore (L := [])) ) (fun a v w hR hE => ?_))
    obtain ⟨D601, A603, c604, q605, rfl, hS1, h606⟩ := hR
    refine ⟨(hS1.keeps.sub (M' := []) trivial).mono (fun _ h => h), ?_⟩
    have le608 := hS1.dle
    have hS := hS.callR hS1 rfl (.c .n)
    clear hS1
    obtain ⟨r609, h610, hf⟩ := bind_some hf
    refine oG 3 63 (fuel := 4) (by kernel_rfl) (op_call rfl rfl rfl rfl hE rfl rfl rfl rfl (by kernel_rfl) (wire_Hash.calls (g := g) h610 (hS.st.fore (L := [])) ) (fun a v w hR hE => ?_))
    obtain ⟨D611, A613, c614, q615, rfl, hS1, h616⟩ := hR
    refine ⟨(hS1.keeps.sub (M' := []) trivial).mono (fun _ h => h), ?_⟩
    have le618 := hS1.dle
    have hS := hS.callR hS1 rfl (.c .n)
    clear hS1
    obtain ⟨r619, h620, hf⟩ := bind_some hf
    refine oG 6 127 (fuel := 3) (by kernel_rfl) (op_call rfl rfl rfl rfl hE rfl rfl rfl rfl (by kernel_rfl) (wire_Bytes.calls (g := g) h620 (hS.st.fore (L := [])) (h9.mono (Snap.le.trans le608 le618))) (fun a v w hR hE => ?_))
    obtain ⟨D621, A623, c624, q625, rfl, hS1, h626⟩ := hR
    refine ⟨(hS1.keeps.sub (M' := []) trivial).mono (fun _ h => h), ?_⟩
    have le628 := hS1.dle
    have hS := hS.callR hS1 rfl (.c .n)
    clear hS1
    have hS := hS.pk (.c 2 rfl (.c 0 rfl (.c 1 rfl (.c 3 rfl .n)))) rfl
    obtain ⟨D629, q632, le630, hS, h633, h631⟩ := hS.lent (h606.mono (Snap.le.trans le618 le628))
    have hS := hS.pk (.c 2 rfl (.c 0 rfl (.c 1 rfl (.c 3 rfl .n)))) rfl
    obtain ⟨D634, q637, le635, hS, h638, h636⟩ := hS.lent (h616.mono (Snap.le.trans le628 le630))
    have hS := hS.pk (.c 2 rfl (.c 0 rfl (.c 1 rfl (.c 3 rfl .n)))) rfl
    obtain ⟨D639, q642, le640, hS, h643, h641⟩ := hS.lent (h626.mono (Snap.le.trans le630 le635))
    refine oG 7 255 (fuel := 2) (by kernel_rfl) (op_buildSlice (K := (kdSlice (kdInt .u8))) (e := 32) (cs := [.slice A603 (List.length (r599)) c604] ++ ([.slice A613 (List.length (r609)) c614] ++ ([.slice A623 (List.length (r619)) c624] ++ []))) ([r599, r609, r619] : List (List Int)) rfl rfl rfl rfl hE rfl hS rfl (by kernel_rfl) rfl rfl (by exact (show RL (kdSlice (kdInt .u8)) D639 ([r599, r609, r619] : List (List Int)) ([.slice A603 (List.length (r599)) c604] ++ ([.slice A613 (List.length (r609)) c614] ++ ([.slice A623 (List.length (r619)) c624] ++ []))) from ⟨_, _, rfl, (kslice (h631.mono (Snap.le.trans le635 le640))), ⟨_, _, rfl, (kslice (h636.mono le640)), ⟨_, _, rfl, (kslice h641), rfl⟩⟩⟩)) (fun a A644 q645 w hkp hE h646 hS => ⟨hkp.mono (fun _ h => absurd h List.not_mem_nil), ?_⟩))
    clear hkp
    obtain ⟨D648, q651, le649, hS, h652, h650⟩ := hS.lent h646
    obtain ⟨r653, h654, hf⟩ := bind_some hf
    refine oG 8 511 (fuel := 1) (by kernel_rfl) (op_call rfl rfl rfl rfl hE rfl rfl rfl rfl (by kernel_rfl) (wire_All.calls (g := g) h654 (hS.st.fore (L := [])) h650) (fun a v w hR hE => ?_))
    obtain ⟨D655, A657, c658, q659, rfl, hS1, h660⟩ := hR
    refine ⟨(hS1.keeps.sub (M' := []) trivial).mono (fun _ h => h), ?_⟩
    have le662 := hS1.dle
    have hS := hS.callR hS1 rfl (.c .n)
    clear hS1
    refine tW 9 1023 (fuel := 0) (by kernel_rfl) hE (fun M => tk_pure (.slice A657 (List.length (r653)) c658) hE rfl rfl rfl rfl (fun _ _ _ e => by cases e) (by kernel_rfl) (fun a hE => ?_))
    refine doneG (by kernel_rfl) ?_
    refine wpIn_ret ?_
    obtain rfl := Option.some.inj hf
    repeat (with_reducible first | refine then_ret ?_ | refine block_ret ?_ | refine qx_ret ?_)
    refine ret_gen ([.slice A657 (List.length (r653)) c658]) hE (by rw [show Try.f57.results.toList = [.tmp 1] from rfl]; exact ⟨_, _, rfl, rfl, rfl⟩) ?_
    have hS := hS.pk (.c 5 rfl (.c 0 rfl .n)) rfl
    exact ⟨_, rfl, D655, A657, c658, q659, rfl, hS, h660⟩

set_option maxRecDepth 100000 in
set_option maxHeartbeats 4000000 in
theorem rec_put.calls {K : Nat} {g w0 : World} {D0 : Snap} {x3 : T_api_Rec} {x10 : T_api_Rec} {b1 : Nat} {A4 : Option Addr} {c5 : Nat} {A7 : Option Addr} {c8 : Nat} {A11 : Option Addr} {c12 : Nat} {A14 : Option Addr} {c15 : Nat} {r : ((List Int))} (hf : rec_put.f K x3 x10 = some r) (hS0 : St g w0 D0 [bx b1 47 (c_T_api_Rec (x10) A11 c12 A14 c15)]) (h6 : Sl kd_T_api_Step D0 A4 c5 (x3.fSteps)) (h9 : Sl (kdInt .u8) D0 A7 c8 (x3.fData)) (h13 : Sl kd_T_api_Step D0 A11 c12 (x10.fSteps)) (h16 : Sl (kdInt .u8) D0 A14 c15 (x10.fData)) :
    CallsIn (Fw none) 0 Try.prog 56 (List.toArray [.agg (List.toArray (c_T_api_Rec (x3) A4 c5 A7 c8)), .func (.func 57) #[] #[.pointer (some ⟨b1, 0, none⟩)]]) w0 (fun e w' => ∃ v, e = .returned v ∧ ∃ (D1 : Snap) (A1107 : Option Addr) (c1108 : Nat) (q1109 : Blk), v = .slice A1107 (List.length (r)) c1108 ∧ Stp g w0 D0 [bx b1 47 (c_T_api_Rec (x10) A11 c12 A14 c15)] w' D1 [bx b1 47 (c_T_api_Rec (x10) A11 c12 A14 c15), q1109] ∧ OwnD (kdInt .u8) 5 D1 A1107 c1108 (r) q1109) := by
  unfold rec_put.f at hf
  have hS := Stp.refl hS0
  clear hS0
  refine calls_body (n := 29) Try.func56 rfl Try.ntmps56 rfl (fun a hE => ?_)
  have hE : Env a 29 [] [(0, .agg (List.toArray (c_T_api_Rec (x3) A4 c5 A7 c8))), (1, .func (.func 57) #[] #[.pointer (some ⟨b1, 0, none⟩)])] := hE
  refine wpIn_seq ?_
  refine region_at ?_
  refine at_op (op_box rfl rfl rfl rfl hE rfl hS rfl (fun a b1112 w _ hE hS => ?_)) rfl
  refine segN 1 (j := 2) [(4, .slice none 0 0)] hE (by kernel_rfl) rfl (fun a hE => ?_)
  refine at_end rfl ?_
  refine wpIn_seq ?_
  refine wpIn_seq ?_
  refine region_at ?_
  refine at_op (op_tk hE (tk_load 0 (.agg (List.toArray (c_T_api_Rec (x3) A4 c5 A7 c8))) rfl rfl rfl rfl hE rfl hS rfl rfl (by kernel_rfl) (kL (j := 0) hS rfl List.not_mem_nil) (fun a hE => ?_))) rfl
  obtain ⟨r1119, h1120, hf⟩ := bind_some hf
  refine at_op (op_call rfl rfl rfl rfl hE rfl rfl rfl rfl (by kernel_rfl) (rec_Right.calls (g := g) h1120 (hS.st.fore (L := [])) h6 h9) (fun a v w hR hE => ?_)) rfl
  obtain ⟨D1121, rfl, hS1⟩ := hR
  have le1123 := hS1.dle
  have hS := hS.callR hS1 rfl .n
  clear hS1
  refine segN 1 (j := 3) [(8, .bool ((!r1119)))] hE (by kernel_rfl) rfl (fun a hE => ?_)
  refine at_end rfl ?_
  refine cond_split hE (b := (!r1119)) rfl (fun hb => ?_) (fun hb => ?_)
  · replace hf := cond_t hb hf
    clear hb
    refine wpIn_seq ?_
    refine region_at ?_
    refine segN 1 (j := 1) [(4, .slice none 0 0)] hE (by kernel_rfl) rfl (fun a hE => ?_)
    refine at_end rfl ?_
    refine wpIn_ret ?_
    have hS := hS.nils
    obtain rfl := Option.some.inj hf
    repeat (with_reducible first | refine then_ret ?_ | refine block_ret ?_ | refine qx_ret ?_)
    refine ret_gen ([.slice none 0 0]) hE (by rw [show Try.f56.results.toList = [.tmp 4] from rfl]; exact ⟨_, _, rfl, rfl, rfl⟩) ?_
    have hS := hS.pk (.c 2 rfl (.c 0 rfl .n)) rfl
    exact ⟨_, rfl, D1121, none, 0, none, rfl, hS, (OwnD.nil (kdInt .u8) 5 D1121)⟩
  · replace hf := cond_f hb hf
    clear hb
    refine wpIn_skip ?_
    obtain ⟨j1689, hj1690, hf⟩ := jn_elim hf
    refine seq_join (fun a w => ∃ (y1637 : (List Int)), ∃ (A1640 : Option Addr), ∃ (c1641 : Nat), ∃ (q1642 : Blk), ∃ (D1638 : Snap), Env a 29 [] [(1, .func (.func 57) #[] #[.pointer (some ⟨b1, 0, none⟩)]), (2, .pointer (some ⟨b1112, 0, none⟩)), (5, .slice A1640 (List.length (y1637)) c1641)] ∧ Stp g w0 D0 [bx b1 47 (c_T_api_Rec (x10) A11 c12 A14 c15)] w D1638 [bx b1 47 (c_T_api_Rec (x10) A11 c12 A14 c15), bx b1112 47 (c_T_api_Rec (x3) A4 c5 A7 c8), q1642] ∧ Snap.le D1121 D1638 ∧ OwnD (kdInt .u8) 5 D1638 A1640 c1641 (y1637) q1642 ∧ j1689 y1637 = some r) ?_ ?_
    · clear hj1690
      refine region_draw (fun j => Keeps (mfOf [] j)) (by kernel_rfl) ?_
      have hS := hS.drew
      first | generalize w.drew = w at hS ⊢ | generalize w0.drew = w at hS ⊢
      refine tW 0 1 (fuel := 12) (by kernel_rfl) hE (fun M => g_fieldAddr (fo := 0) (ft := 3) 0 rfl rfl rfl rfl hE rfl rfl (by kernel_rfl) rfl (fun a hE => ?_))
      refine tT 1 3 (fuel := 11) (by kernel_rfl) hE (tk_load 0 (.int .i64 (x3.fKind)) rfl rfl rfl rfl hE rfl hS rfl rfl (by kernel_rfl) (kL (j := 0) hS rfl List.not_mem_nil) (fun a hE => ?_))
      refine tW 4 19 (fuel := 10) (by kernel_rfl) hE (fun M => g_fieldAddr (fo := 0) (ft := 3) 0 rfl rfl rfl rfl hE rfl rfl (by kernel_rfl) rfl (fun a hE => ?_))
      refine tT 5 51 (fuel := 9) (by kernel_rfl) hE (tk_load 0 (.int .i64 (x3.fKind)) rfl rfl rfl rfl hE rfl hS rfl rfl (by kernel_rfl) (kL (j := 0) hS rfl List.not_mem_nil) (fun a hE => ?_))
      refine tT 8 307 (fuel := 8) (by kernel_rfl) hE (tk_load 0 (.agg (List.toArray (c_T_api_Rec (x3) A4 c5 A7 c8))) rfl rfl rfl rfl hE rfl hS rfl rfl (by kernel_rfl) (kL (j := 0) hS rfl List.not_mem_nil) (fun a hE => ?_))
      obtain ⟨r1947, h1948, hf⟩ := bind_some hf
      refine oG 2 311 (fuel := 7) (by kernel_rfl) (op_call rfl rfl rfl rfl hE rfl rfl rfl rfl (by kernel_rfl) (wire_Num.calls (g := g) h1948 (hS.st.fore (L := [])) ) (fun a v w hR hE => ?_))
      obtain ⟨D1949, A1951, c1952, q1953, rfl, hS1, h1954⟩ := hR
      refine ⟨(hS1.keeps.sub (M' := []) trivial).mono (fun _ h => h), ?_⟩
      have le1956 := hS1.dle
      have hS := hS.callR hS1 rfl (.c .n)
      clear hS1
      obtain ⟨r1957, h1958, hf⟩ := bind_some hf
      refine oG 3 319 (fuel := 6) (by kernel_rfl) (op_call rfl rfl rfl rfl hE rfl rfl rfl rfl (by kernel_rfl) (rec_forms.calls (g := g) h1958 (hS.st.fore (L := [])) ) (fun a v w hR hE => ?_))
      obtain ⟨D1959, rfl, hS1⟩ := hR
      refine ⟨(hS1.keeps.sub (M' := []) trivial).mono (fun _ h => h), ?_⟩
      have le1961 := hS1.dle
      have hS := hS.callR hS1 rfl .n
      clear hS1
      cases hb : decide (x3.fKind = (0 : Int))
      · replace hf := cond_f hb hf
        clear hb
        cases hb : decide (x3.fKind = (1 : Int))
        · replace hf := cond_f hb hf
          clear hb
          cases hb : decide (x3.fKind = (2 : Int))
          · replace hf := cond_f hb hf
            clear hb
            cases hb : decide (x3.fKind = (3 : Int))
            · replace hf := cond_f hb hf
              clear hb
              cases hb : decide (x3.fKind = (4 : Int))
              · replace hf := cond_f hb hf
                clear hb
                cases hb : decide (x3.fKind = (5 : Int))
                · replace hf := cond_f hb hf
                  clear hb
                  cases hb : decide (x3.fKind = (6 : Int))
                  · replace hf := cond_f hb hf
                    clear hb
                    cases hf
                  · replace hf := cond_t hb hf
                    have hk2163 := of_decide_eq_true hb
                    clear hb
                    refine tW 6 383 (fuel := 5) (by kernel_rfl) hE (fun M => tk_indexV (N := 7) (e := 113) (sz := 1) (cs := ([.nilFunc]) ++ (([.func (.func 81) #[] #[]]) ++ (([.func (.func 82) #[] #[]]) ++ (([.func (.func 83) #[] #[]]) ++ (([.func (.func 82) #[] #[]]) ++ (([.func (.func 85) #[] #[]]) ++ (([.func (.func 86) #[] #[]])))))))) 6 (.agg (List.toArray ([.func (.func 86) #[] #[]]))) rfl rfl rfl rfl hE rfl rfl rfl hk2163 (by kernel_rfl) (by kernel_rfl) (by kernel_rfl) (fun a hE => ?_))
                    refine tW 7 511 (fuel := 4) (by kernel_rfl) hE (fun M => g_field (cs := [.func (.func 86) #[] #[]]) (fo := 0) (ft := 62) (.func (.func 86) #[] #[]) rfl rfl rfl rfl hE rfl rfl (by kernel_rfl) (by kernel_rfl) (fun a hE => ?_))
                    obtain ⟨r2164, h2165, hf⟩ := bind_some hf
                    refine oG 9 1023 (fuel := 3) (by kernel_rfl) (op_call rfl rfl rfl rfl hE rfl rfl rfl rfl (by kernel_rfl) (rec_forms_3.calls (g := g) h2165 (hS.st.fore (L := [])) (h6.mono (Snap.le.trans (Snap.le.trans le1123 le1956) le1961)) (h9.mono (Snap.le.trans (Snap.le.trans le1123 le1956) le1961))) (fun a v w hR hE => ?_))
                    obtain ⟨D2166, A2168, c2169, q2170, rfl, hS1, h2171⟩ := hR
                    refine ⟨(hS1.keeps.sub (M' := []) trivial).mono (fun _ h => h), ?_⟩
                    have le2173 := hS1.dle
                    have hS := hS.callR hS1 rfl (.c .n)
                    clear hS1
                    have hS := hS.pk (.c 1 rfl (.c 0 rfl (.c 2 rfl (.c 3 rfl .n)))) rfl
                    obtain ⟨D2174, q2177, le2175, hS, h2178, h2176⟩ := hS.lent (h1954.mono (Snap.le.trans le1961 le2173))
                    have hS := hS.pk (.c 1 rfl (.c 0 rfl (.c 2 rfl (.c 3 rfl .n)))) rfl
                    obtain ⟨D2179, q2182, le2180, hS, h2183, h2181⟩ := hS.lent (h2171.mono le2175)
                    refine oG 10 2047 (fuel := 2) (by kernel_rfl) (op_buildSlice (K := (kdSlice (kdInt .u8))) (e := 32) (cs := [.slice A1951 (List.length (r1947)) c1952] ++ ([.slice A2168 (List.length (r2164)) c2169] ++ [])) ([r1947, r2164] : List (List Int)) rfl rfl rfl rfl hE rfl hS rfl (by kernel_rfl) rfl rfl (by exact (show RL (kdSlice (kdInt .u8)) D2179 ([r1947, r2164] : List (List Int)) ([.slice A1951 (List.length (r1947)) c1952] ++ ([.slice A2168 (List.length (r2164)) c2169] ++ [])) from ⟨_, _, rfl, (kslice (h2176.mono le2180)), ⟨_, _, rfl, (kslice h2181), rfl⟩⟩)) (fun a A2184 q2185 w hkp hE h2186 hS => ⟨hkp.mono (fun _ h => absurd h List.not_mem_nil), ?_⟩))
                    clear hkp
                    obtain ⟨D2188, q2191, le2189, hS, h2192, h2190⟩ := hS.lent h2186
                    obtain ⟨r2193, h2194, hf⟩ := bind_some hf
                    refine oG 11 4095 (fuel := 1) (by kernel_rfl) (op_call rfl rfl rfl rfl hE rfl rfl rfl rfl (by kernel_rfl) (wire_All.calls (g := g) h2194 (hS.st.fore (L := [])) h2190) (fun a v w hR hE => ?_))
                    obtain ⟨D2195, A2197, c2198, q2199, rfl, hS1, h2200⟩ := hR
                    refine ⟨(hS1.keeps.sub (M' := []) trivial).mono (fun _ h => h), ?_⟩
                    have le2202 := hS1.dle
                    have hS := hS.callR hS1 rfl (.c .n)
                    clear hS1
                    refine tW 12 8191 (fuel := 0) (by kernel_rfl) hE (fun M => tk_pure (.slice A2197 (List.length (r2193)) c2198) hE rfl rfl rfl rfl (fun _ _ _ e => by cases e) (by kernel_rfl) (fun a hE => ?_))
                    refine doneG (by kernel_rfl) ?_
                    have hS := hS.pk (.c 5 rfl (.c 4 rfl (.c 0 rfl .n))) rfl
                    exact ⟨r2193, A2197, c2198, q2199, D2195, hE.weak (by kernel_rfl), hS, (Snap.le.trans (Snap.le.trans (Snap.le.trans (Snap.le.trans (Snap.le.trans (Snap.le.trans le1956 le1961) le2173) le2175) le2180) le2189) le2202), h2200, hf⟩
                · replace hf := cond_t hb hf
                  have hk2123 := of_decide_eq_true hb
                  clear hb
                  refine tW 6 383 (fuel := 5) (by kernel_rfl) hE (fun M => tk_indexV (N := 7) (e := 113) (sz := 1) (cs := ([.nilFunc]) ++ (([.func (.func 81) #[] #[]]) ++ (([.func (.func 82) #[] #[]]) ++ (([.func (.func 83) #[] #[]]) ++ (([.func (.func 82) #[] #[]]) ++ (([.func (.func 85) #[] #[]]) ++ (([.func (.func 86) #[] #[]])))))))) 5 (.agg (List.toArray ([.func (.func 85) #[] #[]]))) rfl rfl rfl rfl hE rfl rfl rfl hk2123 (by kernel_rfl) (by kernel_rfl) (by kernel_rfl) (fun a hE => ?_))
                  refine tW 7 511 (fuel := 4) (by kernel_rfl) hE (fun M => g_field (cs := [.func (.func 85) #[] #[]]) (fo := 0) (ft := 62) (.func (.func 85) #[] #[]) rfl rfl rfl rfl hE rfl rfl (by kernel_rfl) (by kernel_rfl) (fun a hE => ?_))
                  obtain ⟨r2124, h2125, hf⟩ := bind_some hf
                  refine oG 9 1023 (fuel := 3) (by kernel_rfl) (op_call rfl rfl rfl rfl hE rfl rfl rfl rfl (by kernel_rfl) (rec_forms_2.calls (g := g) h2125 (hS.st.fore (L := [])) (h6.mono (Snap.le.trans (Snap.le.trans le1123 le1956) le1961)) (h9.mono (Snap.le.trans (Snap.le.trans le1123 le1956) le1961))) (fun a v w hR hE => ?_))
                  obtain ⟨D2126, A2128, c2129, q2130, rfl, hS1, h2131⟩ := hR
                  refine ⟨(hS1.keeps.sub (M' := []) trivial).mono (fun _ h => h), ?_⟩
                  have le2133 := hS1.dle
                  have hS := hS.callR hS1 rfl (.c .n)
                  clear hS1
                  have hS := hS.pk (.c 1 rfl (.c 0 rfl (.c 2 rfl (.c 3 rfl .n)))) rfl
                  obtain ⟨D2134, q2137, le2135, hS, h2138, h2136⟩ := hS.lent (h1954.mono (Snap.le.trans le1961 le2133))
                  have hS := hS.pk (.c 1 rfl (.c 0 rfl (.c 2 rfl (.c 3 rfl .n)))) rfl
                  obtain ⟨D2139, q2142, le2140, hS, h2143, h2141⟩ := hS.lent (h2131.mono le2135)
                  refine oG 10 2047 (fuel := 2) (by kernel_rfl) (op_buildSlice (K := (kdSlice (kdInt .u8))) (e := 32) (cs := [.slice A1951 (List.length (r1947)) c1952] ++ ([.slice A2128 (List.length (r2124)) c2129] ++ [])) ([r1947, r2124] : List (List Int)) rfl rfl rfl rfl hE rfl hS rfl (by kernel_rfl) rfl rfl (by exact (show RL (kdSlice (kdInt .u8)) D2139 ([r1947, r2124] : List (List Int)) ([.slice A1951 (List.length (r1947)) c1952] ++ ([.slice A2128 (List.length (r2124)) c2129] ++ [])) from ⟨_, _, rfl, (kslice (h2136.mono le2140)), ⟨_, _, rfl, (kslice h2141), rfl⟩⟩)) (fun a A2144 q2145 w hkp hE h2146 hS => ⟨hkp.mono (fun _ h => absurd h List.not_mem_nil), ?_⟩))
                  clear hkp
                  obtain ⟨D2148, q2151, le2149, hS, h2152, h2150⟩ := hS.lent h2146
                  obtain ⟨r2153, h2154, hf⟩ := bind_some hf
                  refine oG 11 4095 (fuel := 1) (by kernel_rfl) (op_call rfl rfl rfl rfl hE rfl rfl rfl rfl (by kernel_rfl) (wire_All.calls (g := g) h2154 (hS.st.fore (L := [])) h2150) (fun a v w hR hE => ?_))
                  obtain ⟨D2155, A2157, c2158, q2159, rfl, hS1, h2160⟩ := hR
                  refine ⟨(hS1.keeps.sub (M' := []) trivial).mono (fun _ h => h), ?_⟩
                  have le2162 := hS1.dle
                  have hS := hS.callR hS1 rfl (.c .n)
                  clear hS1
                  refine tW 12 8191 (fuel := 0) (by kernel_rfl) hE (fun M => tk_pure (.slice A2157 (List.length (r2153)) c2158) hE rfl rfl rfl rfl (fun _ _ _ e => by cases e) (by kernel_rfl) (fun a hE => ?_))
                  refine doneG (by kernel_rfl) ?_
                  have hS := hS.pk (.c 5 rfl (.c 4 rfl (.c 0 rfl .n))) rfl
                  exact ⟨r2153, A2157, c2158, q2159, D2155, hE.weak (by kernel_rfl), hS, (Snap.le.trans (Snap.le.trans (Snap.le.trans (Snap.le.trans (Snap.le.trans (Snap.le.trans le1956 le1961) le2133) le2135) le2140) le2149) le2162), h2160, hf⟩
              · replace hf := cond_t hb hf
                have hk2083 := of_decide_eq_true hb
                clear hb
                refine tW 6 383 (fuel := 5) (by kernel_rfl) hE (fun M => tk_indexV (N := 7) (e := 113) (sz := 1) (cs := ([.nilFunc]) ++ (([.func (.func 81) #[] #[]]) ++ (([.func (.func 82) #[] #[]]) ++ (([.func (.func 83) #[] #[]]) ++ (([.func (.func 82) #[] #[]]) ++ (([.func (.func 85) #[] #[]]) ++ (([.func (.func 86) #[] #[]])))))))) 4 (.agg (List.toArray ([.func (.func 82) #[] #[]]))) rfl rfl rfl rfl hE rfl rfl rfl hk2083 (by kernel_rfl) (by kernel_rfl) (by kernel_rfl) (fun a hE => ?_))
                refine tW 7 511 (fuel := 4) (by kernel_rfl) hE (fun M => g_field (cs := [.func (.func 82) #[] #[]]) (fo := 0) (ft := 62) (.func (.func 82) #[] #[]) rfl rfl rfl rfl hE rfl rfl (by kernel_rfl) (by kernel_rfl) (fun a hE => ?_))
                obtain ⟨r2084, h2085, hf⟩ := bind_some hf
                refine oG 9 1023 (fuel := 3) (by kernel_rfl) (op_call rfl rfl rfl rfl hE rfl rfl rfl rfl (by kernel_rfl) (rec_call.calls (g := g) h2085 (hS.st.fore (L := [])) (h6.mono (Snap.le.trans (Snap.le.trans le1123 le1956) le1961)) (h9.mono (Snap.le.trans (Snap.le.trans le1123 le1956) le1961))) (fun a v w hR hE => ?_))
                obtain ⟨D2086, A2088, c2089, q2090, rfl, hS1, h2091⟩ := hR
                refine ⟨(hS1.keeps.sub (M' := []) trivial).mono (fun _ h => h), ?_⟩
                have le2093 := hS1.dle
                have hS := hS.callR hS1 rfl (.c .n)
                clear hS1
                have hS := hS.pk (.c 1 rfl (.c 0 rfl (.c 2 rfl (.c 3 rfl .n)))) rfl
                obtain ⟨D2094, q2097, le2095, hS, h2098, h2096⟩ := hS.lent (h1954.mono (Snap.le.trans le1961 le2093))
                have hS := hS.pk (.c 1 rfl (.c 0 rfl (.c 2 rfl (.c 3 rfl .n)))) rfl
                obtain ⟨D2099, q2102, le2100, hS, h2103, h2101⟩ := hS.lent (h2091.mono le2095)
                refine oG 10 2047 (fuel := 2) (by kernel_rfl) (op_buildSlice (K := (kdSlice (kdInt .u8))) (e := 32) (cs := [.slice A1951 (List.length (r1947)) c1952] ++ ([.slice A2088 (List.length (r2084)) c2089] ++ [])) ([r1947, r2084] : List (List Int)) rfl rfl rfl rfl hE rfl hS rfl (by kernel_rfl) rfl rfl (by exact (show RL (kdSlice (kdInt .u8)) D2099 ([r1947, r2084] : List (List Int)) ([.slice A1951 (List.length (r1947)) c1952] ++ ([.slice A2088 (List.length (r2084)) c2089] ++ [])) from ⟨_, _, rfl, (kslice (h2096.mono le2100)), ⟨_, _, rfl, (kslice h2101), rfl⟩⟩)) (fun a A2104 q2105 w hkp hE h2106 hS => ⟨hkp.mono (fun _ h => absurd h List.not_mem_nil), ?_⟩))
                clear hkp
                obtain ⟨D2108, q2111, le2109, hS, h2112, h2110⟩ := hS.lent h2106
                obtain ⟨r2113, h2114, hf⟩ := bind_some hf
                refine oG 11 4095 (fuel := 1) (by kernel_rfl) (op_call rfl rfl rfl rfl hE rfl rfl rfl rfl (by kernel_rfl) (wire_All.calls (g := g) h2114 (hS.st.fore (L := [])) h2110) (fun a v w hR hE => ?_))
                obtain ⟨D2115, A2117, c2118, q2119, rfl, hS1, h2120⟩ := hR
                refine ⟨(hS1.keeps.sub (M' := []) trivial).mono (fun _ h => h), ?_⟩
                have le2122 := hS1.dle
                have hS := hS.callR hS1 rfl (.c .n)
                clear hS1
                refine tW 12 8191 (fuel := 0) (by kernel_rfl) hE (fun M => tk_pure (.slice A2117 (List.length (r2113)) c2118) hE rfl rfl rfl rfl (fun _ _ _ e => by cases e) (by kernel_rfl) (fun a hE => ?_))
                refine doneG (by kernel_rfl) ?_
                have hS := hS.pk (.c 5 rfl (.c 4 rfl (.c 0 rfl .n))) rfl
                exact ⟨r2113, A2117, c2118, q2119, D2115, hE.weak (by kernel_rfl), hS, (Snap.le.trans (Snap.le.trans (Snap.le.trans (Snap.le.trans (Snap.le.trans (Snap.le.trans le1956 le1961) le2093) le2095) le2100) le2109) le2122), h2120, hf⟩
            · replace hf := cond_t hb hf
              have hk2043 := of_decide_eq_true hb
              clear hb
              refine tW 6 383 (fuel := 5) (by kernel_rfl) hE (fun M => tk_indexV (N := 7) (e := 113) (sz := 1) (cs := ([.nilFunc]) ++ (([.func (.func 81) #[] #[]]) ++ (([.func (.func 82) #[] #[]]) ++ (([.func (.func 83) #[] #[]]) ++ (([.func (.func 82) #[] #[]]) ++ (([.func (.func 85) #[] #[]]) ++ (([.func (.func 86) #[] #[]])))))))) 3 (.agg (List.toArray ([.func (.func 83) #[] #[]]))) rfl rfl rfl rfl hE rfl rfl rfl hk2043 (by kernel_rfl) (by kernel_rfl) (by kernel_rfl) (fun a hE => ?_))
              refine tW 7 511 (fuel := 4) (by kernel_rfl) hE (fun M => g_field (cs := [.func (.func 83) #[] #[]]) (fo := 0) (ft := 62) (.func (.func 83) #[] #[]) rfl rfl rfl rfl hE rfl rfl (by kernel_rfl) (by kernel_rfl) (fun a hE => ?_))
              obtain ⟨r2044, h2045, hf⟩ := bind_some hf
              refine oG 9 1023 (fuel := 3) (by kernel_rfl) (op_call rfl rfl rfl rfl hE rfl rfl rfl rfl (by kernel_rfl) (rec_forms_1.calls (g := g) h2045 (hS.st.fore (L := [])) (h6.mono (Snap.le.trans (Snap.le.trans le1123 le1956) le1961)) (h9.mono (Snap.le.trans (Snap.le.trans le1123 le1956) le1961))) (fun a v w hR hE => ?_))
              obtain ⟨D2046, A2048, c2049, q2050, rfl, hS1, h2051⟩ := hR
              refine ⟨(hS1.keeps.sub (M' := []) trivial).mono (fun _ h => h), ?_⟩
              have le2053 := hS1.dle
              have hS := hS.callR hS1 rfl (.c .n)
              clear hS1
              have hS := hS.pk (.c 1 rfl (.c 0 rfl (.c 2 rfl (.c 3 rfl .n)))) rfl
              obtain ⟨D2054, q2057, le2055, hS, h2058, h2056⟩ := hS.lent (h1954.mono (Snap.le.trans le1961 le2053))
              have hS := hS.pk (.c 1 rfl (.c 0 rfl (.c 2 rfl (.c 3 rfl .n)))) rfl
              obtain ⟨D2059, q2062, le2060, hS, h2063, h2061⟩ := hS.lent (h2051.mono le2055)
              refine oG 10 2047 (fuel := 2) (by kernel_rfl) (op_buildSlice (K := (kdSlice (kdInt .u8))) (e := 32) (cs := [.slice A1951 (List.length (r1947)) c1952] ++ ([.slice A2048 (List.length (r2044)) c2049] ++ [])) ([r1947, r2044] : List (List Int)) rfl rfl rfl rfl hE rfl hS rfl (by kernel_rfl) rfl rfl (by exact (show RL (kdSlice (kdInt .u8)) D2059 ([r1947, r2044] : List (List Int)) ([.slice A1951 (List.length (r1947)) c1952] ++ ([.slice A2048 (List.length (r2044)) c2049] ++ [])) from ⟨_, _, rfl, (kslice (h2056.mono le2060)), ⟨_, _, rfl, (kslice h2061), rfl⟩⟩)) (fun a A2064 q2065 w hkp hE h2066 hS => ⟨hkp.mono (fun _ h => absurd h List.not_mem_nil), ?_⟩))
              clear hkp
              obtain ⟨D2068, q2071, le2069, hS, h2072, h2070⟩ := hS.lent h2066
              obtain ⟨r2073, h2074, hf⟩ := bind_some hf
              refine oG 11 4095 (fuel := 1) (by kernel_rfl) (op_call rfl rfl rfl rfl hE rfl rfl rfl rfl (by kernel_rfl) (wire_All.calls (g := g) h2074 (hS.st.fore (L := [])) h2070) (fun a v w hR hE => ?_))
              obtain ⟨D2075, A2077, c2078, q2079, rfl, hS1, h2080⟩ := hR
              refine ⟨(hS1.keeps.sub (M' := []) trivial).mono (fun _ h => h), ?_⟩
              have le2082 := hS1.dle
              have hS := hS.callR hS1 rfl (.c .n)
              clear hS1
              refine tW 12 8191 (fuel := 0) (by kernel_rfl) hE (fun M => tk_pure (.slice A2077 (List.length (r2073)) c2078) hE rfl rfl rfl rfl (fun _ _ _ e => by cases e) (by kernel_rfl) (fun a hE => ?_))
              refine doneG (by kernel_rfl) ?_
              have hS := hS.pk (.c 5 rfl (.c 4 rfl (.c 0 rfl .n))) rfl
              exact ⟨r2073, A2077, c2078, q2079, D2075, hE.weak (by kernel_rfl), hS, (Snap.le.trans (Snap.le.trans (Snap.le.trans (Snap.le.trans (Snap.le.trans (Snap.le.trans le1956 le1961) le2053) le2055) le2060) le2069) le2082), h2080, hf⟩
          · replace hf := cond_t hb hf
            have hk2003 := of_decide_eq_true hb
            clear hb
            refine tW 6 383 (fuel := 5) (by kernel_rfl) hE (fun M => tk_indexV (N := 7) (e := 113) (sz := 1) (cs := ([.nilFunc]) ++ (([.func (.func 81) #[] #[]]) ++ (([.func (.func 82) #[] #[]]) ++ (([.func (.func 83) #[] #[]]) ++ (([.func (.func 82) #[] #[]]) ++ (([.func (.func 85) #[] #[]]) ++ (([.func (.func 86) #[] #[]])))))))) 2 (.agg (List.toArray ([.func (.func 82) #[] #[]]))) rfl rfl rfl rfl hE rfl rfl rfl hk2003 (by kernel_rfl) (by kernel_rfl) (by kernel_rfl) (fun a hE => ?_))
            refine tW 7 511 (fuel := 4) (by kernel_rfl) hE (fun M => g_field (cs := [.func (.func 82) #[] #[]]) (fo := 0) (ft := 62) (.func (.func 82) #[] #[]) rfl rfl rfl rfl hE rfl rfl (by kernel_rfl) (by kernel_rfl) (fun a hE => ?_))
            obtain ⟨r2004, h2005, hf⟩ := bind_some hf
            refine oG 9 1023 (fuel := 3) (by kernel_rfl) (op_call rfl rfl rfl rfl hE rfl rfl rfl rfl (by kernel_rfl) (rec_call.calls (g := g) h2005 (hS.st.fore (L := [])) (h6.mono (Snap.le.trans (Snap.le.trans le1123 le1956) le1961)) (h9.mono (Snap.le.trans (Snap.le.trans le1123 le1956) le1961))) (fun a v w hR hE => ?_))
            obtain ⟨D2006, A2008, c2009, q2010, rfl, hS1, h2011⟩ := hR
            refine ⟨(hS1.keeps.sub (M' := []) trivial).mono (fun _ h => h), ?_⟩
            have le2013 := hS1.dle
            have hS := hS.callR hS1 rfl (.c .n)
            clear hS1
            have hS := hS.pk (.c 1 rfl (.c 0 rfl (.c 2 rfl (.c 3 rfl .n)))) rfl
            obtain ⟨D2014, q2017, le2015, hS, h2018, h2016⟩ := hS.lent (h1954.mono (Snap.le.trans le1961 le2013))
            have hS := hS.pk (.c 1 rfl (.c 0 rfl (.c 2 rfl (.c 3 rfl .n)))) rfl
            obtain ⟨D2019, q2022, le2020, hS, h2023, h2021⟩ := hS.lent (h2011.mono le2015)
            refine oG 10 2047 (fuel := 2) (by kernel_rfl) (op_buildSlice (K := (kdSlice (kdInt .u8))) (e := 32) (cs := [.slice A1951 (List.length (r1947)) c1952] ++ ([.slice A2008 (List.length (r2004)) c2009] ++ [])) ([r1947, r2004] : List (List Int)) rfl rfl rfl rfl hE rfl hS rfl (by kernel_rfl) rfl rfl (by exact (show RL (kdSlice (kdInt .u8)) D2019 ([r1947, r2004] : List (List Int)) ([.slice A1951 (List.length (r1947)) c1952] ++ ([.slice A2008 (List.length (r2004)) c2009] ++ [])) from ⟨_, _, rfl, (kslice (h2016.mono le2020)), ⟨_, _, rfl, (kslice h2021), rfl⟩⟩)) (fun a A2024 q2025 w hkp hE h2026 hS => ⟨hkp.mono (fun _ h => absurd h List.not_mem_nil), ?_⟩))
            clear hkp
            obtain ⟨D2028, q2031, le2029, hS, h2032, h2030⟩ := hS.lent h2026
            obtain ⟨r2033, h2034, hf⟩ := bind_some hf
            refine oG 11 4095 (fuel := 1) (by kernel_rfl) (op_call rfl rfl rfl rfl hE rfl rfl rfl rfl (by kernel_rfl) (wire_All.calls (g := g) h2034 (hS.st.fore (L := [])) h2030) (fun a v w hR hE => ?_))
            obtain ⟨D2035, A2037, c2038, q2039, rfl, hS1, h2040⟩ := hR
            refine ⟨(hS1.keeps.sub (M' := []) trivial).mono (fun _ h => h), ?_⟩
            have le2042 := hS1.dle
            have hS := hS.callR hS1 rfl (.c .n)
            clear hS1
            refine tW 12 8191 (fuel := 0) (by kernel_rfl) hE (fun M => tk_pure (.slice A2037 (List.length (r2033)) c2038) hE rfl rfl rfl rfl (fun _ _ _ e => by cases e) (by kernel_rfl) (fun a hE => ?_))
            refine doneG (by kernel_rfl) ?_
            have hS := hS.pk (.c 5 rfl (.c 4 rfl (.c 0 rfl .n))) rfl
            exact ⟨r2033, A2037, c2038, q2039, D2035, hE.weak (by kernel_rfl), hS, (Snap.le.trans (Snap.le.trans (Snap.le.trans (Snap.le.trans (Snap.le.trans (Snap.le.trans le1956 le1961) le2013) le2015) le2020) le2029) le2042), h2040, hf⟩
        · replace hf := cond_t hb hf
          have hk1963 := of_decide_eq_true hb
          clear hb
          refine tW 6 383 (fuel := 5) (by kernel_rfl) hE (fun M => tk_indexV (N := 7) (e := 113) (sz := 1) (cs := ([.nilFunc]) ++ (([.func (.func 81) #[] #[]]) ++ (([.func (.func 82) #[] #[]]) ++ (([.func (.func 83) #[] #[]]) ++ (([.func (.func 82) #[] #[]]) ++ (([.func (.func 85) #[] #[]]) ++ (([.func (.func 86) #[] #[]])))))))) 1 (.agg (List.toArray ([.func (.func 81) #[] #[]]))) rfl rfl rfl rfl hE rfl rfl rfl hk1963 (by kernel_rfl) (by kernel_rfl) (by kernel_rfl) (fun a hE => ?_))
          refine tW 7 511 (fuel := 4) (by kernel_rfl) hE (fun M => g_field (cs := [.func (.func 81) #[] #[]]) (fo := 0) (ft := 62) (.func (.func 81) #[] #[]) rfl rfl rfl rfl hE rfl rfl (by kernel_rfl) (by kernel_rfl) (fun a hE => ?_))
          obtain ⟨r1964, h1965, hf⟩ := bind_some hf
          refine oG 9 1023 (fuel := 3) (by kernel_rfl) (op_call rfl rfl rfl rfl hE rfl rfl rfl rfl (by kernel_rfl) (rec_begin.calls (g := g) h1965 (hS.st.fore (L := [])) (h6.mono (Snap.le.trans (Snap.le.trans le1123 le1956) le1961)) (h9.mono (Snap.le.trans (Snap.le.trans le1123 le1956) le1961))) (fun a v w hR hE => ?_))
          obtain ⟨D1966, A1968, c1969, q1970, rfl, hS1, h1971⟩ := hR
          refine ⟨(hS1.keeps.sub (M' := []) trivial).mono (fun _ h => h), ?_⟩
          have le1973 := hS1.dle
          have hS := hS.callR hS1 rfl (.c .n)
          clear hS1
          have hS := hS.pk (.c 1 rfl (.c 0 rfl (.c 2 rfl (.c 3 rfl .n)))) rfl
          obtain ⟨D1974, q1977, le1975, hS, h1978, h1976⟩ := hS.lent (h1954.mono (Snap.le.trans le1961 le1973))
          have hS := hS.pk (.c 1 rfl (.c 0 rfl (.c 2 rfl (.c 3 rfl .n)))) rfl
          obtain ⟨D1979, q1982, le1980, hS, h1983, h1981⟩ := hS.lent (h1971.mono le1975)
          refine oG 10 2047 (fuel := 2) (by kernel_rfl) (op_buildSlice (K := (kdSlice (kdInt .u8))) (e := 32) (cs := [.slice A1951 (List.length (r1947)) c1952] ++ ([.slice A1968 (List.length (r1964)) c1969] ++ [])) ([r1947, r1964] : List (List Int)) rfl rfl rfl rfl hE rfl hS rfl (by kernel_rfl) rfl rfl (by exact (show RL (kdSlice (kdInt .u8)) D1979 ([r1947, r1964] : List (List Int)) ([.slice A1951 (List.length (r1947)) c1952] ++ ([.slice A1968 (List.length (r1964)) c1969] ++ [])) from ⟨_, _, rfl, (kslice (h1976.mono le1980)), ⟨_, _, rfl, (kslice h1981), rfl⟩⟩)) (fun a A1984 q1985 w hkp hE h1986 hS => ⟨hkp.mono (fun _ h => absurd h List.not_mem_nil), ?_⟩))
          clear hkp
          obtain ⟨D1988, q1991, le1989, hS, h1992, h1990⟩ := hS.lent h1986
          obtain ⟨r1993, h1994, hf⟩ := bind_some hf
          refine oG 11 4095 (fuel := 1) (by kernel_rfl) (op_call rfl rfl rfl rfl hE rfl rfl rfl rfl (by kernel_rfl) (wire_All.calls (g := g) h1994 (hS.st.fore (L := [])) h1990) (fun a v w hR hE => ?_))
          obtain ⟨D1995, A1997, c1998, q1999, rfl, hS1, h2000⟩ := hR
          refine ⟨(hS1.keeps.sub (M' := []) trivial).mono (fun _ h => h), ?_⟩
          have le2002 := hS1.dle
          have hS := hS.callR hS1 rfl (.c .n)
          clear hS1
          refine tW 12 8191 (fuel := 0) (by kernel_rfl) hE (fun M => tk_pure (.slice A1997 (List.length (r1993)) c1998) hE rfl rfl rfl rfl (fun _ _ _ e => by cases e) (by kernel_rfl) (fun a hE => ?_))
          refine doneG (by kernel_rfl) ?_
          have hS := hS.pk (.c 5 rfl (.c 4 rfl (.c 0 rfl .n))) rfl
          exact ⟨r1993, A1997, c1998, q1999, D1995, hE.weak (by kernel_rfl), hS, (Snap.le.trans (Snap.le.trans (Snap.le.trans (Snap.le.trans (Snap.le.trans (Snap.le.trans le1956 le1961) le1973) le1975) le1980) le1989) le2002), h2000, hf⟩
      · replace hf := cond_t hb hf
        have hk1962 := of_decide_eq_true hb
        clear hb
        refine tW 6 383 (fuel := 5) (by kernel_rfl) hE (fun M => tk_indexV (N := 7) (e := 113) (sz := 1) (cs := ([.nilFunc]) ++ (([.func (.func 81) #[] #[]]) ++ (([.func (.func 82) #[] #[]]) ++ (([.func (.func 83) #[] #[]]) ++ (([.func (.func 82) #[] #[]]) ++ (([.func (.func 85) #[] #[]]) ++ (([.func (.func 86) #[] #[]])))))))) 0 (.agg (List.toArray ([.nilFunc]))) rfl rfl rfl rfl hE rfl rfl rfl hk1962 (by kernel_rfl) (by kernel_rfl) (by kernel_rfl) (fun a hE => ?_))
        refine tW 7 511 (fuel := 4) (by kernel_rfl) hE (fun M => g_field (cs := [.nilFunc]) (fo := 0) (ft := 62) (.nilFunc) rfl rfl rfl rfl hE rfl rfl (by kernel_rfl) (by kernel_rfl) (fun a hE => ?_))
        cases hf
    · clear hE hS
      rintro a w ⟨y1637, A1640, c1641, q1642, D1638, hE, hS, le1639, h1643, hf⟩
      replace hf := hj1690 _ hf
      clear hj1690
      refine wpIn_seq ?_
      refine wpIn_seq ?_
      refine region_at ?_
      refine at_op (op_tk hE (g_fieldAddr (fo := 0) (ft := 3) 0 rfl rfl rfl rfl hE rfl rfl (by kernel_rfl) rfl (fun a hE => ?_))) rfl
      refine at_op (op_tk hE (tk_load 1 (.int .i64 (x3.fKind)) rfl rfl rfl rfl hE rfl hS rfl rfl (by kernel_rfl) (kL (j := 1) hS rfl List.not_mem_nil) (fun a hE => ?_))) rfl
      refine segN 1 (j := 3) [(23, .bool ((decide (x3.fKind = (1 : Int)))))] hE (by kernel_rfl) rfl (fun a hE => ?_)
      refine at_end rfl ?_
      refine cond_split hE (b := (decide (x3.fKind = (1 : Int)))) rfl (fun hb => ?_) (fun hb => ?_)
      · replace hf := cond_t hb hf
        clear hb
        refine region_at ?_
        refine segN 2 (j := 2) [(24, .slice A1640 (List.length (y1637)) c1641), (25, .func (.func 57) #[] #[.pointer (some ⟨b1, 0, none⟩)])] hE (by kernel_rfl) rfl (fun a hE => ?_)
        obtain ⟨r1667, h1668, hf⟩ := bind_some hf
        refine at_op (op_call rfl rfl rfl rfl hE rfl rfl rfl rfl (by kernel_rfl) (rec_Open_1.calls (g := g) h1668 (hS.st.fore (L := [bx b1 47 (c_T_api_Rec (x10) A11 c12 A14 c15)])) (h13.mono (Snap.le.trans le1123 le1639)) (h16.mono (Snap.le.trans le1123 le1639))) (fun a v w hR hE => ?_)) rfl
        obtain ⟨D1669, A1671, c1672, q1673, rfl, hS1, h1674⟩ := hR
        have le1676 := hS1.dle
        have hS := hS.callR hS1 rfl (.c (.c .n))
        clear hS1
        have hS := hS.pk (.c 1 rfl (.c 0 rfl (.c 2 rfl (.c 3 rfl .n)))) rfl
        obtain ⟨D1677, q1680, le1678, hS, h1681, h1679⟩ := hS.lent h1674
        have hS := hS.pk (.c 3 rfl (.c 0 rfl (.c 1 rfl (.c 2 rfl .n)))) rfl
        obtain ⟨l1682, h1683, hf⟩ := bind_some hf
        refine at_op (g_append (K := (kdInt .u8)) (e := 5) (bytes := 1) (l := y1637) (m := r1667) rfl rfl rfl rfl hE rfl hS rfl rfl (by kernel_rfl) rfl rfl (h1643.mono (Snap.le.trans le1676 le1678)) h1679 h1683 (fun a A1684 c1685 q1686 w _ hE h1687 hS => ?_)) rfl
        refine segN 1 (j := 5) [(5, .slice A1684 (List.length (l1682)) c1685)] hE (by kernel_rfl) rfl (fun a hE => ?_)
        refine at_end rfl ?_
        refine wpIn_seq ?_
        refine region_at ?_
        refine segN 2 (j := 2) [(4, .slice A1684 (List.length (l1682)) c1685)] hE (by kernel_rfl) rfl (fun a hE => ?_)
        refine at_end rfl ?_
        refine wpIn_ret ?_
        obtain rfl := Option.some.inj hf
        repeat (with_reducible first | refine then_ret ?_ | refine block_ret ?_ | refine qx_ret ?_)
        refine ret_gen ([.slice A1684 (List.length (l1682)) c1685]) hE (by rw [show Try.f56.results.toList = [.tmp 4] from rfl]; exact ⟨_, _, rfl, rfl, rfl⟩) ?_
        have hS := hS.pk (.c 2 rfl (.c 0 rfl .n)) rfl
        exact ⟨_, rfl, D1677, A1684, c1685, q1686, rfl, hS, h1687⟩
      · replace hf := cond_f hb hf
        clear hb
        refine wpIn_skip ?_
        refine wpIn_seq ?_
        refine region_at ?_
        refine segN 2 (j := 2) [(4, .slice A1640 (List.length (y1637)) c1641)] hE (by kernel_rfl) rfl (fun a hE => ?_)
        refine at_end rfl ?_
        refine wpIn_ret ?_
        obtain rfl := Option.some.inj hf
        repeat (with_reducible first | refine then_ret ?_ | refine block_ret ?_ | refine qx_ret ?_)
        refine ret_gen ([.slice A1640 (List.length (y1637)) c1641]) hE (by rw [show Try.f56.results.toList = [.tmp 4] from rfl]; exact ⟨_, _, rfl, rfl, rfl⟩) ?_
        have hS := hS.pk (.c 0 rfl (.c 2 rfl .n)) rfl
        exact ⟨_, rfl, D1638, A1640, c1641, q1642, rfl, hS, h1643⟩

set_option maxRecDepth 100000 in
set_option maxHeartbeats 4000000 in
theorem rec_Open.calls {K : Nat} {g w0 : World} {D0 : Snap} {x1 : T_api_Rec} {A2 : Option Addr} {c3 : Nat} {A5 : Option Addr} {c6 : Nat} {r : ((List Int))} (hf : rec_Open.f K x1 = some r) (hS0 : St g w0 D0 []) (h4 : Sl kd_T_api_Step D0 A2 c3 (x1.fSteps)) (h7 : Sl (kdInt .u8) D0 A5 c6 (x1.fData)) :
    CallsIn (Fw none) 0 Try.prog 27 (List.toArray [.agg (List.toArray (c_T_api_Rec (x1) A2 c3 A5 c6))]) w0 (fun e w' => ∃ v, e = .returned v ∧ ∃ (D1 : Snap) (A20 : Option Addr) (c21 : Nat) (q22 : Blk), v = .slice A20 (List.length (r)) c21 ∧ Stp g w0 D0 [] w' D1 [q22] ∧ OwnD (kdInt .u8) 5 D1 A20 c21 (r) q22) := by
  unfold rec_Open.f at hf
  have hS := Stp.refl hS0
  clear hS0
  refine calls_body (n := 6) Try.func27 rfl Try.ntmps27 rfl (fun a hE => ?_)
  have hE : Env a 6 [] [(0, .agg (List.toArray (c_T_api_Rec (x1) A2 c3 A5 c6)))] := hE
  refine wpIn_seq ?_
  refine region_at ?_
  refine at_op (op_box rfl rfl rfl rfl hE rfl hS rfl (fun a b25 w _ hE hS => ?_)) rfl
  refine segN 1 (j := 2) [(2, .slice none 0 0)] hE (by kernel_rfl) rfl (fun a hE => ?_)
  refine at_end rfl ?_
  refine wpIn_seq ?_
  refine region_at ?_
  refine at_op (op_tk hE (tk_load 0 (.agg (List.toArray (c_T_api_Rec (x1) A2 c3 A5 c6))) rfl rfl rfl rfl hE rfl hS rfl rfl (by kernel_rfl) (kL (j := 0) hS rfl List.not_mem_nil) (fun a hE => ?_))) rfl
  refine segN 1 (j := 2) [(4, .func (.func 57) #[] #[.pointer (some ⟨b25, 0, none⟩)])] hE (by kernel_rfl) rfl (fun a hE => ?_)
  obtain ⟨r27, h28, hf⟩ := bind_some hf
  refine at_op (op_call rfl rfl rfl rfl hE rfl rfl rfl rfl (by kernel_rfl) (rec_put.calls (g := g) h28 (hS.st.fore (L := [bx b25 47 (c_T_api_Rec (x1) A2 c3 A5 c6)])) h4 h7 h4 h7) (fun a v w hR hE => ?_)) rfl
  obtain ⟨D29, A31, c32, q33, rfl, hS1, h34⟩ := hR
  have le36 := hS1.dle
  have hS := hS.callR hS1 rfl (.c (.c .n))
  clear hS1
  refine segN 1 (j := 4) [(2, .slice A31 (List.length (r27)) c32)] hE (by kernel_rfl) rfl (fun a hE => ?_)
  refine at_end rfl ?_
  refine wpIn_ret ?_
  obtain rfl := Option.some.inj hf
  repeat (with_reducible first | refine then_ret ?_ | refine block_ret ?_ | refine qx_ret ?_)
  refine ret_gen ([.slice A31 (List.length (r27)) c32]) hE (by rw [show Try.f27.results.toList = [.tmp 2] from rfl]; exact ⟨_, _, rfl, rfl, rfl⟩) ?_
  have hS := hS.pk (.c 1 rfl .n) rfl
  exact ⟨_, rfl, D29, A31, c32, q33, rfl, hS, h34⟩

set_option maxRecDepth 100000 in
set_option maxHeartbeats 4000000 in
theorem bundle_list_api_Hash.calls {K : Nat} {g w0 : World} {D0 : Snap} {x1 : (List (Vector Int 32))} {A2 : Option Addr} {c3 : Nat} {r : ((List Int))} (hf : bundle_list_api_Hash.f K x1 = some r) (hS0 : St g w0 D0 []) (h4 : Sl (kdArr .u8 32) D0 A2 c3 (x1)) :
    CallsIn (Fw none) 0 Try.prog 55 (List.toArray [.slice A2 (List.length (x1)) c3, .func (.func 22) #[] #[]]) w0 (fun e w' => ∃ v, e = .returned v ∧ ∃ (D1 : Snap) (A537 : Option Addr) (c538 : Nat) (q539 : Blk), v = .slice A537 (List.length (r)) c538 ∧ Stp g w0 D0 [] w' D1 [q539] ∧ OwnD (kdInt .u8) 5 D1 A537 c538 (r) q539) := by
  unfold bundle_list_api_Hash.f at hf
  have hS := Stp.refl hS0
  clear hS0
  refine calls_body (n := 24) Try.func55 rfl Try.ntmps55 rfl (fun a hE => ?_)
  have hE : Env a 24 [] [(0, .slice A2 (List.length (x1)) c3), (1, .func (.func 22) #[] #[])] := hE
  refine wpIn_seq ?_
  refine region_at ?_
  refine segN 1 (j := 1) [(4, .slice none 0 0)] hE (by kernel_rfl) rfl (fun a hE => ?_)
  refine at_end rfl ?_
  refine wpIn_seq ?_
  refine region_at ?_
  refine segN 2 (j := 2) [(9, .int .i64 (((List.length (x1) : Nat) : Int)))] hE (by kernel_rfl) rfl (fun a hE => ?_)
  obtain ⟨r542, h543, hf⟩ := bind_some hf
  refine at_op (op_call rfl rfl rfl rfl hE rfl rfl rfl rfl (by kernel_rfl) (wire_Num.calls (g := g) h543 (hS.st.fore (L := [])) ) (fun a v w hR hE => ?_)) rfl
  obtain ⟨D544, A546, c547, q548, rfl, hS1, h549⟩ := hR
  have le551 := hS1.dle
  have hS := hS.callR hS1 rfl (.c .n)
  clear hS1
  refine segN 1 (j := 4) [(5, .slice A546 (List.length (r542)) c547)] hE (by kernel_rfl) rfl (fun a hE => ?_)
  refine at_end rfl ?_
  refine wpIn_seq ?_
  refine wpIn_seq ?_
  refine region_at ?_
  refine segN 3 (j := 3) [(11, .slice A2 (List.length (x1)) c3), (12, .int .i64 (((List.length (x1) : Nat) : Int))), (13, .int .i64 ((0 : Int)))] hE (by kernel_rfl) rfl (fun a hE => ?_)
  refine at_end rfl ?_
  obtain ⟨s1000, hf, hs1001⟩ := bind_some hf
  refine block_loop (fun a w => ∃ (z992 : (List Int)), ∃ (A995 : Option Addr), ∃ (c996 : Nat), ∃ (q997 : Blk), ∃ (D993 : Snap), Env a 24 [] [(5, .slice A995 (List.length (z992)) c996)] ∧ Stp g w0 D0 [] w D993 [q997] ∧ Snap.le D544 D993 ∧ OwnD (kdInt .u8) 5 D993 A995 c996 (z992) q997 ∧ z992 = s1000) (fun k a w => ∃ (y904 : (List Int) × Int), ∃ (A907 : Option Addr), ∃ (c908 : Nat), ∃ (q909 : Blk), ∃ (D905 : Snap), Env a 24 [] [(1, .func (.func 22) #[] #[]), (5, .slice A907 (List.length (y904.1)) c908), (11, .slice A2 (List.length (x1)) c3), (12, .int .i64 (((List.length (x1) : Nat) : Int))), (13, .int .i64 (y904.2))] ∧ Stp g w0 D0 [] w D905 [q909] ∧ Snap.le D544 D905 ∧ OwnD (kdInt .u8) 5 D905 A907 c908 (y904.1) q909 ∧ bundle_list_api_Hash_l1.l K x1 k y904 = some s1000) K ?_ ?_ ?_
  · exact ⟨(r542, (0 : Int)), A546, c547, q548, D544, hE.weak (by kernel_rfl), hS, Snap.le.refl _, h549, hf⟩
  · clear hE hS hf
    rintro a w ⟨z992, A995, c996, q997, D993, hE, hS, le994, h998, rfl⟩
    have hf := hs1001
    clear hs1001
    refine wpIn_seq ?_
    refine region_at ?_
    refine segN 2 (j := 2) [(4, .slice A995 (List.length (z992)) c996)] hE (by kernel_rfl) rfl (fun a hE => ?_)
    refine at_end rfl ?_
    refine wpIn_ret ?_
    obtain rfl := Option.some.inj hf
    repeat (with_reducible first | refine then_ret ?_ | refine block_ret ?_ | refine qx_ret ?_)
    refine ret_gen ([.slice A995 (List.length (z992)) c996]) hE (by rw [show Try.f55.results.toList = [.tmp 4] from rfl]; exact ⟨_, _, rfl, rfl, rfl⟩) ?_
    exact ⟨_, rfl, D993, A995, c996, q997, rfl, hS, h998⟩
  · clear hE hS hf
    rintro k a w ⟨y904, A907, c908, q909, D905, hE, hS, le906, h910, hf⟩
    obtain ⟨k, rfl, hf⟩ := bundle_list_api_Hash_l1.some _ hf
    refine ⟨k, rfl, ?_⟩
    unfold bundle_list_api_Hash_l1.b at hf
    refine wpIn_seq ?_
    refine region_at ?_
    refine segN 1 (j := 1) [(14, .bool ((decide (y904.2 < ((List.length (x1) : Nat) : Int)))))] hE (by kernel_rfl) rfl (fun a hE => ?_)
    refine at_end rfl ?_
    refine wpIn_seq ?_
    refine cond_split hE (b := (decide (y904.2 < ((List.length (x1) : Nat) : Int)))) rfl (fun hb => ?_) (fun hb => ?_)
    · replace hf := cond_t hb hf
      clear hb
      refine wpIn_skip ?_
      refine wpIn_seq ?_
      refine wpIn_block ?_
      refine wpIn_seq ?_
      refine region_at ?_
      obtain ⟨x1038, h1039, hf⟩ := bind_some hf
      refine at_op (op_tk hE (g_index (K := (kdArr .u8 32)) (e := 23) (by_ := 32) (zl := 32) rfl rfl rfl rfl hE rfl rfl rfl (by kernel_rfl) rfl (h4.mono (Snap.le.trans le551 le906)) h1039 (fun a b1040 o1041 hE h1042 => ?_))) rfl
      obtain ⟨cs1043, C1044, T1045, fr1046, hr1047, hb1048, hc1049⟩ := h1042
      obtain rfl := hr1047
      refine at_op (op_tk hE (tk_loadX (off0 := o1041) (off := 0) (c := acells .u8 32 (x1038)) (.agg (List.toArray (acells .u8 32 (x1038)))) rfl rfl rfl rfl hE rfl hS rfl hb1048 hc1049 (by kernel_rfl) (by kernel_rfl) (kD hS dn_nil) (fun a hE => ?_))) rfl
      refine at_op (op_alloc (z := .agg (List.toArray (acells .u8 32 ((Vector.replicate 32 (0 : Int)))))) rfl rfl rfl rfl hE rfl hS (by kernel_rfl) (fun a b1050 w _ hE hS => ?_)) rfl
      refine at_op (op_store (v := .agg (List.toArray (acells .u8 32 (x1038)))) (acells .u8 32 (x1038)) rfl rfl rfl rfl hE hS rfl rfl (by kernel_rfl) (by kernel_rfl) (by kernel_rfl) (by kernel_rfl) (by kernel_rfl) (fun a w _ hE hS => ?_)) rfl
      refine at_end rfl ?_
      refine region_at ?_
      refine segN 2 (j := 2) [(17, .slice A907 (List.length (y904.1)) c908), (18, .func (.func 22) #[] #[])] hE (by kernel_rfl) rfl (fun a hE => ?_)
      refine at_op (op_tk hE (tk_load 0 (.agg (List.toArray (acells .u8 32 (x1038)))) rfl rfl rfl rfl hE rfl hS rfl rfl (by kernel_rfl) (kL (j := 0) hS rfl List.not_mem_nil) (fun a hE => ?_))) rfl
      obtain ⟨r1052, h1053, hf⟩ := bind_some hf
      refine at_op (op_call rfl rfl rfl rfl hE rfl rfl rfl rfl (by kernel_rfl) (wire_Hash.calls (g := g) h1053 (hS.st.fore (L := [])) ) (fun a v w hR hE => ?_)) rfl
      obtain ⟨D1054, A1056, c1057, q1058, rfl, hS1, h1059⟩ := hR
      have le1061 := hS1.dle
      have hS := hS.callR hS1 rfl (.c .n)
      clear hS1
      obtain ⟨D1062, q1065, le1063, hS, h1066, h1064⟩ := hS.lent h1059
      have hS := hS.pk (.c 2 rfl (.c 0 rfl (.c 1 rfl .n))) rfl
      obtain ⟨l1067, h1068, hf⟩ := bind_some hf
      refine at_op (g_append (K := (kdInt .u8)) (e := 5) (bytes := 1) (l := y904.1) (m := r1052) rfl rfl rfl rfl hE rfl hS rfl rfl (by kernel_rfl) rfl rfl (h910.mono (Snap.le.trans le1061 le1063)) h1064 h1068 (fun a A1069 c1070 q1071 w _ hE h1072 hS => ?_)) rfl
      refine segN 1 (j := 6) [(5, .slice A1069 (List.length (l1067)) c1070)] hE (by kernel_rfl) rfl (fun a hE => ?_)
      refine at_end rfl ?_
      refine region_at ?_
      refine segN 2 (j := 2) [(13, .int .i64 ((IntKind.wrap .i64 (y904.2 + (1 : Int)))))] hE (by kernel_rfl) rfl (fun a hE => ?_)
      refine at_end rfl ?_
      have hS := hS.pk (.c 0 rfl .n) rfl
      exact ⟨(l1067, (IntKind.wrap .i64 (y904.2 + (1 : Int)))), A1069, c1070, q1071, D1062, hE.weak (by kernel_rfl), hS, (Snap.le.trans (Snap.le.trans le906 le1061) le1063), h1072, hf⟩
    · replace hf := cond_f hb hf
      clear hb
      refine wpIn_exit ?_
      obtain rfl := Option.some.inj hf
      exact ⟨y904.1, A907, c908, q909, D905, hE.weak (by kernel_rfl), hS, le906, h910, rfl⟩

set_option maxRecDepth 100000 in
set_option maxHeartbeats 4000000 in
theorem bundle_item.calls {K : Nat} {g w0 : World} {D0 : Snap} {x1 : T_api_Item} {A2 : Option Addr} {c3 : Nat} {A5 : Option Addr} {c6 : Nat} {A8 : Option Addr} {c9 : Nat} {r : ((List Int))} (hf : bundle_item.f K x1 = some r) (hS0 : St g w0 D0 []) (h4 : Sl kd_T_api_Step D0 A2 c3 (x1.fRec.fSteps)) (h7 : Sl (kdInt .u8) D0 A5 c6 (x1.fRec.fData)) (h10 : Sl (kdArr .u8 32) D0 A8 c9 (x1.fPath)) :
    CallsIn (Fw none) 0 Try.prog 26 (List.toArray [.agg (List.toArray (c_T_api_Item (x1) A2 c3 A5 c6 A8 c9))]) w0 (fun e w' => ∃ v, e = .returned v ∧ ∃ (D1 : Snap) (A141 : Option Addr) (c142 : Nat) (q143 : Blk), v = .slice A141 (List.length (r)) c142 ∧ Stp g w0 D0 [] w' D1 [q143] ∧ OwnD (kdInt .u8) 5 D1 A141 c142 (r) q143) := by
  unfold bundle_item.f at hf
  have hS := Stp.refl hS0
  clear hS0
  refine calls_body (n := 14) Try.func26 rfl Try.ntmps26 rfl (fun a hE => ?_)
  have hE : Env a 14 [] [(0, .agg (List.toArray (c_T_api_Item (x1) A2 c3 A5 c6 A8 c9)))] := hE
  refine wpIn_seq ?_
  refine region_at ?_
  refine at_op (op_box rfl rfl rfl rfl hE rfl hS rfl (fun a b146 w _ hE hS => ?_)) rfl
  refine segN 1 (j := 2) [(2, .slice none 0 0)] hE (by kernel_rfl) rfl (fun a hE => ?_)
  refine at_end rfl ?_
  refine wpIn_seq ?_
  refine region_draw (fun j => Keeps (mfOf [] j)) (by kernel_rfl) ?_
  have hS := hS.drew
  first | generalize w.drew = w at hS ⊢ | generalize w0.drew = w at hS ⊢
  refine tW 0 1 (fuel := 11) (by kernel_rfl) hE (fun M => g_fieldAddr (fo := 0) (ft := 3) 0 rfl rfl rfl rfl hE rfl rfl (by kernel_rfl) rfl (fun a hE => ?_))
  refine tT 1 3 (fuel := 10) (by kernel_rfl) hE (tk_load 0 (.int .i64 (x1.fAt)) rfl rfl rfl rfl hE rfl hS rfl rfl (by kernel_rfl) (kL (j := 0) hS rfl List.not_mem_nil) (fun a hE => ?_))
  refine tW 3 11 (fuel := 9) (by kernel_rfl) hE (fun M => g_fieldAddr (fo := 1) (ft := 47) 1 rfl rfl rfl rfl hE rfl rfl (by kernel_rfl) rfl (fun a hE => ?_))
  refine tT 4 27 (fuel := 8) (by kernel_rfl) hE (tk_load 0 (.agg (List.toArray (c_T_api_Rec (x1.fRec) A2 c3 A5 c6))) rfl rfl rfl rfl hE rfl hS rfl rfl (by kernel_rfl) (kL (j := 0) hS rfl List.not_mem_nil) (fun a hE => ?_))
  refine tW 6 91 (fuel := 7) (by kernel_rfl) hE (fun M => g_fieldAddr (fo := 110) (ft := 48) 110 rfl rfl rfl rfl hE rfl rfl (by kernel_rfl) rfl (fun a hE => ?_))
  refine tT 7 219 (fuel := 6) (by kernel_rfl) hE (tk_load 0 (.slice A8 (List.length (x1.fPath)) c9) rfl rfl rfl rfl hE rfl hS rfl rfl (by kernel_rfl) (kL (j := 0) hS rfl List.not_mem_nil) (fun a hE => ?_))
  obtain ⟨r212, h213, hf⟩ := bind_some hf
  refine oG 2 223 (fuel := 5) (by kernel_rfl) (op_call rfl rfl rfl rfl hE rfl rfl rfl rfl (by kernel_rfl) (wire_Num.calls (g := g) h213 (hS.st.fore (L := [])) ) (fun a v w hR hE => ?_))
  obtain ⟨D214, A216, c217, q218, rfl, hS1, h219⟩ := hR
  refine ⟨(hS1.keeps.sub (M' := []) trivial).mono (fun _ h => h), ?_⟩
  have le221 := hS1.dle
  have hS := hS.callR hS1 rfl (.c .n)
  clear hS1
  obtain ⟨r222, h223, hf⟩ := bind_some hf
  refine oG 5 255 (fuel := 4) (by kernel_rfl) (op_call rfl rfl rfl rfl hE rfl rfl rfl rfl (by kernel_rfl) (rec_Open.calls (g := g) h223 (hS.st.fore (L := [])) (h4.mono le221) (h7.mono le221)) (fun a v w hR hE => ?_))
  obtain ⟨D224, A226, c227, q228, rfl, hS1, h229⟩ := hR
  refine ⟨(hS1.keeps.sub (M' := []) trivial).mono (fun _ h => h), ?_⟩
  have le231 := hS1.dle
  have hS := hS.callR hS1 rfl (.c .n)
  clear hS1
  obtain ⟨r232, h233, hf⟩ := bind_some hf
  refine oG 8 511 (fuel := 3) (by kernel_rfl) (op_call rfl rfl rfl rfl hE rfl rfl rfl rfl (by kernel_rfl) (bundle_list_api_Hash.calls (g := g) h233 (hS.st.fore (L := [])) (h10.mono (Snap.le.trans le221 le231))) (fun a v w hR hE => ?_))
  obtain ⟨D234, A236, c237, q238, rfl, hS1, h239⟩ := hR
  refine ⟨(hS1.keeps.sub (M' := []) trivial).mono (fun _ h => h), ?_⟩
  have le241 := hS1.dle
  have hS := hS.callR hS1 rfl (.c .n)
  clear hS1
  have hS := hS.pk (.c 2 rfl (.c 0 rfl (.c 1 rfl (.c 3 rfl .n)))) rfl
  obtain ⟨D242, q245, le243, hS, h246, h244⟩ := hS.lent (h219.mono (Snap.le.trans le231 le241))
  have hS := hS.pk (.c 2 rfl (.c 0 rfl (.c 1 rfl (.c 3 rfl .n)))) rfl
  obtain ⟨D247, q250, le248, hS, h251, h249⟩ := hS.lent (h229.mono (Snap.le.trans le241 le243))
  have hS := hS.pk (.c 2 rfl (.c 0 rfl (.c 1 rfl (.c 3 rfl .n)))) rfl
  obtain ⟨D252, q255, le253, hS, h256, h254⟩ := hS.lent (h239.mono (Snap.le.trans le243 le248))
  refine oG 9 1023 (fuel := 2) (by kernel_rfl) (op_buildSlice (K := (kdSlice (kdInt .u8))) (e := 32) (cs := [.slice A216 (List.length (r212)) c217] ++ ([.slice A226 (List.length (r222)) c227] ++ ([.slice A236 (List.length (r232)) c237] ++ []))) ([r212, r222, r232] : List (List Int)) rfl rfl rfl rfl hE rfl hS rfl (by kernel_rfl) rfl rfl (by exact (show RL (kdSlice (kdInt .u8)) D252 ([r212, r222, r232] : List (List Int)) ([.slice A216 (List.length (r212)) c217] ++ ([.slice A226 (List.length (r222)) c227] ++ ([.slice A236 (List.length (r232)) c237] ++ []))) from ⟨_, _, rfl, (kslice (h244.mono (Snap.le.trans le248 le253))), ⟨_, _, rfl, (kslice (h249.mono le253)), ⟨_, _, rfl, (kslice h254), rfl⟩⟩⟩)) (fun a A257 q258 w hkp hE h259 hS => ⟨hkp.mono (fun _ h => absurd h List.not_mem_nil), ?_⟩))
  clear hkp
  obtain ⟨D261, q264, le262, hS, h265, h263⟩ := hS.lent h259
  obtain ⟨r266, h267, hf⟩ := bind_some hf
  refine oG 10 2047 (fuel := 1) (by kernel_rfl) (op_call rfl rfl rfl rfl hE rfl rfl rfl rfl (by kernel_rfl) (wire_All.calls (g := g) h267 (hS.st.fore (L := [])) h263) (fun a v w hR hE => ?_))
  obtain ⟨D268, A270, c271, q272, rfl, hS1, h273⟩ := hR
  refine ⟨(hS1.keeps.sub (M' := []) trivial).mono (fun _ h => h), ?_⟩
  have le275 := hS1.dle
  have hS := hS.callR hS1 rfl (.c .n)
  clear hS1
  refine tW 11 4095 (fuel := 0) (by kernel_rfl) hE (fun M => tk_pure (.slice A270 (List.length (r266)) c271) hE rfl rfl rfl rfl (fun _ _ _ e => by cases e) (by kernel_rfl) (fun a hE => ?_))
  refine doneG (by kernel_rfl) ?_
  refine wpIn_ret ?_
  obtain rfl := Option.some.inj hf
  repeat (with_reducible first | refine then_ret ?_ | refine block_ret ?_ | refine qx_ret ?_)
  refine ret_gen ([.slice A270 (List.length (r266)) c271]) hE (by rw [show Try.f26.results.toList = [.tmp 2] from rfl]; exact ⟨_, _, rfl, rfl, rfl⟩) ?_
  have hS := hS.pk (.c 0 rfl .n) rfl
  exact ⟨_, rfl, D268, A270, c271, q272, rfl, hS, h273⟩

set_option maxRecDepth 100000 in
set_option maxHeartbeats 4000000 in
theorem bundle_list_api_Item.calls {K : Nat} {g w0 : World} {D0 : Snap} {x1 : (List T_api_Item)} {A2 : Option Addr} {c3 : Nat} {r : ((List Int))} (hf : bundle_list_api_Item.f K x1 = some r) (hS0 : St g w0 D0 []) (h4 : Sl kd_T_api_Item D0 A2 c3 (x1)) :
    CallsIn (Fw none) 0 Try.prog 25 (List.toArray [.slice A2 (List.length (x1)) c3, .func (.func 26) #[] #[]]) w0 (fun e w' => ∃ v, e = .returned v ∧ ∃ (D1 : Snap) (A645 : Option Addr) (c646 : Nat) (q647 : Blk), v = .slice A645 (List.length (r)) c646 ∧ Stp g w0 D0 [] w' D1 [q647] ∧ OwnD (kdInt .u8) 5 D1 A645 c646 (r) q647) := by
  unfold bundle_list_api_Item.f at hf
  have hS := Stp.refl hS0
  clear hS0
  refine calls_body (n := 24) Try.func25 rfl Try.ntmps25 rfl (fun a hE => ?_)
  have hE : Env a 24 [] [(0, .slice A2 (List.length (x1)) c3), (1, .func (.func 26) #[] #[])] := hE
  refine wpIn_seq ?_
  refine region_at ?_
  refine segN 1 (j := 1) [(4, .slice none 0 0)] hE (by kernel_rfl) rfl (fun a hE => ?_)
  refine at_end rfl ?_
  refine wpIn_seq ?_
  refine region_at ?_
  refine segN 2 (j := 2) [(9, .int .i64 (((List.length (x1) : Nat) : Int)))] hE (by kernel_rfl) rfl (fun a hE => ?_)
  obtain ⟨r650, h651, hf⟩ := bind_some hf
  refine at_op (op_call rfl rfl rfl rfl hE rfl rfl rfl rfl (by kernel_rfl) (wire_Num.calls (g := g) h651 (hS.st.fore (L := [])) ) (fun a v w hR hE => ?_)) rfl
  obtain ⟨D652, A654, c655, q656, rfl, hS1, h657⟩ := hR
  have le659 := hS1.dle
  have hS := hS.callR hS1 rfl (.c .n)
  clear hS1
  refine segN 1 (j := 4) [(5, .slice A654 (List.length (r650)) c655)] hE (by kernel_rfl) rfl (fun a hE => ?_)
  refine at_end rfl ?_
  refine wpIn_seq ?_
  refine wpIn_seq ?_
  refine region_at ?_
  refine segN 3 (j := 3) [(11, .slice A2 (List.length (x1)) c3), (12, .int .i64 (((List.length (x1) : Nat) : Int))), (13, .int .i64 ((0 : Int)))] hE (by kernel_rfl) rfl (fun a hE => ?_)
  refine at_end rfl ?_
  obtain ⟨s1198, hf, hs1199⟩ := bind_some hf
  refine block_loop (fun a w => ∃ (z1190 : (List Int)), ∃ (A1193 : Option Addr), ∃ (c1194 : Nat), ∃ (q1195 : Blk), ∃ (D1191 : Snap), Env a 24 [] [(5, .slice A1193 (List.length (z1190)) c1194)] ∧ Stp g w0 D0 [] w D1191 [q1195] ∧ Snap.le D652 D1191 ∧ OwnD (kdInt .u8) 5 D1191 A1193 c1194 (z1190) q1195 ∧ z1190 = s1198) (fun k a w => ∃ (y1084 : (List Int) × Int), ∃ (A1087 : Option Addr), ∃ (c1088 : Nat), ∃ (q1089 : Blk), ∃ (D1085 : Snap), Env a 24 [] [(1, .func (.func 26) #[] #[]), (5, .slice A1087 (List.length (y1084.1)) c1088), (11, .slice A2 (List.length (x1)) c3), (12, .int .i64 (((List.length (x1) : Nat) : Int))), (13, .int .i64 (y1084.2))] ∧ Stp g w0 D0 [] w D1085 [q1089] ∧ Snap.le D652 D1085 ∧ OwnD (kdInt .u8) 5 D1085 A1087 c1088 (y1084.1) q1089 ∧ bundle_list_api_Item_l1.l K x1 k y1084 = some s1198) K ?_ ?_ ?_
  · exact ⟨(r650, (0 : Int)), A654, c655, q656, D652, hE.weak (by kernel_rfl), hS, Snap.le.refl _, h657, hf⟩
  · clear hE hS hf
    rintro a w ⟨z1190, A1193, c1194, q1195, D1191, hE, hS, le1192, h1196, rfl⟩
    have hf := hs1199
    clear hs1199
    refine wpIn_seq ?_
    refine region_at ?_
    refine segN 2 (j := 2) [(4, .slice A1193 (List.length (z1190)) c1194)] hE (by kernel_rfl) rfl (fun a hE => ?_)
    refine at_end rfl ?_
    refine wpIn_ret ?_
    obtain rfl := Option.some.inj hf
    repeat (with_reducible first | refine then_ret ?_ | refine block_ret ?_ | refine qx_ret ?_)
    refine ret_gen ([.slice A1193 (List.length (z1190)) c1194]) hE (by rw [show Try.f25.results.toList = [.tmp 4] from rfl]; exact ⟨_, _, rfl, rfl, rfl⟩) ?_
    exact ⟨_, rfl, D1191, A1193, c1194, q1195, rfl, hS, h1196⟩
  · clear hE hS hf
    rintro k a w ⟨y1084, A1087, c1088, q1089, D1085, hE, hS, le1086, h1090, hf⟩
    obtain ⟨k, rfl, hf⟩ := bundle_list_api_Item_l1.some _ hf
    refine ⟨k, rfl, ?_⟩
    unfold bundle_list_api_Item_l1.b at hf
    refine wpIn_seq ?_
    refine region_at ?_
    refine segN 1 (j := 1) [(14, .bool ((decide (y1084.2 < ((List.length (x1) : Nat) : Int)))))] hE (by kernel_rfl) rfl (fun a hE => ?_)
    refine at_end rfl ?_
    refine wpIn_seq ?_
    refine cond_split hE (b := (decide (y1084.2 < ((List.length (x1) : Nat) : Int)))) rfl (fun hb => ?_) (fun hb => ?_)
    · replace hf := cond_t hb hf
      clear hb
      refine wpIn_skip ?_
      refine wpIn_seq ?_
      refine wpIn_block ?_
      refine wpIn_seq ?_
      refine region_at ?_
      obtain ⟨x1245, h1246, hf⟩ := bind_some hf
      refine at_op (op_tk hE (g_index (K := kd_T_api_Item) (e := 50) (by_ := 256) (zl := 111) rfl rfl rfl rfl hE rfl rfl rfl (by kernel_rfl) rfl (h4.mono (Snap.le.trans le659 le1086)) h1246 (fun a b1247 o1248 hE h1249 => ?_))) rfl
      obtain ⟨cs1250, C1251, T1252, fr1253, hr1254, hb1255, hc1256⟩ := h1249
      obtain ⟨A1257, c1258, A1260, c1261, A1263, c1264, rfl, h1259, h1262, h1265⟩ := kd_T_api_Item_el hr1254
      refine at_op (op_tk hE (tk_loadX (off0 := o1248) (off := 0) (c := c_T_api_Item (x1245) A1257 c1258 A1260 c1261 A1263 c1264) (.agg (List.toArray (c_T_api_Item (x1245) A1257 c1258 A1260 c1261 A1263 c1264))) rfl rfl rfl rfl hE rfl hS rfl hb1255 hc1256 (by kernel_rfl) (by kernel_rfl) (kD hS dn_nil) (fun a hE => ?_))) rfl
      refine at_op (op_alloc (z := .agg (List.toArray (c_T_api_Item (z_T_api_Item) none 0 none 0 none 0))) rfl rfl rfl rfl hE rfl hS (by kernel_rfl) (fun a b1266 w _ hE hS => ?_)) rfl
      refine at_op (op_store (v := .agg (List.toArray (c_T_api_Item (x1245) A1257 c1258 A1260 c1261 A1263 c1264))) (c_T_api_Item (x1245) A1257 c1258 A1260 c1261 A1263 c1264) rfl rfl rfl rfl hE hS rfl rfl (by kernel_rfl) (by kernel_rfl) (by kernel_rfl) (by kernel_rfl) (by kernel_rfl) (fun a w _ hE hS => ?_)) rfl
      refine at_end rfl ?_
      refine region_at ?_
      refine segN 2 (j := 2) [(17, .slice A1087 (List.length (y1084.1)) c1088), (18, .func (.func 26) #[] #[])] hE (by kernel_rfl) rfl (fun a hE => ?_)
      refine at_op (op_tk hE (tk_load 0 (.agg (List.toArray (c_T_api_Item (x1245) A1257 c1258 A1260 c1261 A1263 c1264))) rfl rfl rfl rfl hE rfl hS rfl rfl (by kernel_rfl) (kL (j := 0) hS rfl List.not_mem_nil) (fun a hE => ?_))) rfl
      obtain ⟨r1268, h1269, hf⟩ := bind_some hf
      refine at_op (op_call rfl rfl rfl rfl hE rfl rfl rfl rfl (by kernel_rfl) (bundle_item.calls (g := g) h1269 (hS.st.fore (L := [])) h1259 h1262 h1265) (fun a v w hR hE => ?_)) rfl
      obtain ⟨D1270, A1272, c1273, q1274, rfl, hS1, h1275⟩ := hR
      have le1277 := hS1.dle
      have hS := hS.callR hS1 rfl (.c .n)
      clear hS1
      obtain ⟨D1278, q1281, le1279, hS, h1282, h1280⟩ := hS.lent h1275
      have hS := hS.pk (.c 2 rfl (.c 0 rfl (.c 1 rfl .n))) rfl
      obtain ⟨l1283, h1284, hf⟩ := bind_some hf
      refine at_op (g_append (K := (kdInt .u8)) (e := 5) (bytes := 1) (l := y1084.1) (m := r1268) rfl rfl rfl rfl hE rfl hS rfl rfl (by kernel_rfl) rfl rfl (h1090.mono (Snap.le.trans le1277 le1279)) h1280 h1284 (fun a A1285 c1286 q1287 w _ hE h1288 hS => ?_)) rfl
      refine segN 1 (j := 6) [(5, .slice A1285 (List.length (l1283)) c1286)] hE (by kernel_rfl) rfl (fun a hE => ?_)
      refine at_end rfl ?_
      refine region_at ?_
      refine segN 2 (j := 2) [(13, .int .i64 ((IntKind.wrap .i64 (y1084.2 + (1 : Int)))))] hE (by kernel_rfl) rfl (fun a hE => ?_)
      refine at_end rfl ?_
      have hS := hS.pk (.c 0 rfl .n) rfl
      exact ⟨(l1283, (IntKind.wrap .i64 (y1084.2 + (1 : Int)))), A1285, c1286, q1287, D1278, hE.weak (by kernel_rfl), hS, (Snap.le.trans (Snap.le.trans le1086 le1277) le1279), h1288, hf⟩
    · replace hf := cond_f hb hf
      clear hb
      refine wpIn_exit ?_
      obtain rfl := Option.some.inj hf
      exact ⟨y1084.1, A1087, c1088, q1089, D1085, hE.weak (by kernel_rfl), hS, le1086, h1090, rfl⟩

set_option maxRecDepth 100000 in
set_option maxHeartbeats 4000000 in
theorem bundle_Put.calls {K : Nat} {g w0 : World} {D0 : Snap} {x1 : T_api_Bundle} {A2 : Option Addr} {c3 : Nat} {A5 : Option Addr} {c6 : Nat} {r : ((List Int))} (hf : bundle_Put.f K x1 = some r) (hS0 : St g w0 D0 []) (h4 : Sl kd_T_api_Sig D0 A2 c3 (x1.fPoint.fSigs)) (h7 : Sl kd_T_api_Item D0 A5 c6 (x1.fItems)) :
    CallsIn (Fw none) 0 Try.prog 11 (List.toArray [.agg (List.toArray (c_T_api_Bundle (x1) A2 c3 A5 c6))]) w0 (fun e w' => ∃ v, e = .returned v ∧ ∃ (D1 : Snap) (A4664 : Option Addr) (c4665 : Nat) (q4666 : Blk), v = .slice A4664 (List.length (r)) c4665 ∧ Stp g w0 D0 [] w' D1 [q4666] ∧ OwnD (kdInt .u8) 5 D1 A4664 c4665 (r) q4666) := by
  unfold bundle_Put.f at hf
  have hS := Stp.refl hS0
  clear hS0
  refine calls_body (n := 50) Try.func11 rfl Try.ntmps11 rfl (fun a hE => ?_)
  have hE : Env a 50 [] [(0, .agg (List.toArray (c_T_api_Bundle (x1) A2 c3 A5 c6)))] := hE
  refine wpIn_seq ?_
  refine region_at ?_
  refine at_op (op_box rfl rfl rfl rfl hE rfl hS rfl (fun a b4669 w _ hE hS => ?_)) rfl
  refine segN 1 (j := 2) [(2, .slice none 0 0)] hE (by kernel_rfl) rfl (fun a hE => ?_)
  refine at_end rfl ?_
  refine wpIn_seq ?_
  refine wpIn_seq ?_
  refine region_at ?_
  refine at_op (op_tk hE (tk_load 0 (.agg (List.toArray (c_T_api_Bundle (x1) A2 c3 A5 c6))) rfl rfl rfl rfl hE rfl hS rfl rfl (by kernel_rfl) (kL (j := 0) hS rfl List.not_mem_nil) (fun a hE => ?_))) rfl
  obtain ⟨r4676, h4677, hf⟩ := bind_some hf
  refine at_op (op_call rfl rfl rfl rfl hE rfl rfl rfl rfl (by kernel_rfl) (bundle_Right.calls (g := g) h4677 (hS.st.fore (L := [])) h4 h7) (fun a v w hR hE => ?_)) rfl
  obtain ⟨D4678, rfl, hS1⟩ := hR
  have le4680 := hS1.dle
  have hS := hS.callR hS1 rfl .n
  clear hS1
  refine segN 1 (j := 3) [(8, .bool ((!r4676)))] hE (by kernel_rfl) rfl (fun a hE => ?_)
  refine at_end rfl ?_
  refine cond_split hE (b := (!r4676)) rfl (fun hb => ?_) (fun hb => ?_)
  · replace hf := cond_t hb hf
    clear hb
    refine wpIn_seq ?_
    refine region_at ?_
    refine segN 1 (j := 1) [(2, .slice none 0 0)] hE (by kernel_rfl) rfl (fun a hE => ?_)
    refine at_end rfl ?_
    refine wpIn_ret ?_
    have hS := hS.nils
    obtain rfl := Option.some.inj hf
    repeat (with_reducible first | refine then_ret ?_ | refine block_ret ?_ | refine qx_ret ?_)
    refine ret_gen ([.slice none 0 0]) hE (by rw [show Try.f11.results.toList = [.tmp 2] from rfl]; exact ⟨_, _, rfl, rfl, rfl⟩) ?_
    have hS := hS.pk (.c 0 rfl .n) rfl
    exact ⟨_, rfl, D4678, none, 0, none, rfl, hS, (OwnD.nil (kdInt .u8) 5 D4678)⟩
  · replace hf := cond_f hb hf
    clear hb
    refine wpIn_skip ?_
    obtain ⟨j7344, hj7345, hf⟩ := jn_elim hf
    refine seq_join (fun a w => ∃ (y6662 : (List Int)), ∃ (A6665 : Option Addr), ∃ (c6666 : Nat), ∃ (q6667 : Blk), ∃ (D6663 : Snap), Env a 50 [] [(1, .pointer (some ⟨b4669, 0, none⟩)), (3, .slice A6665 (List.length (y6662)) c6666)] ∧ Stp g w0 D0 [] w D6663 [bx b4669 29 (c_T_api_Bundle (x1) A2 c3 A5 c6), q6667] ∧ Snap.le D4678 D6663 ∧ OwnD (kdInt .u8) 5 D6663 A6665 c6666 (y6662) q6667 ∧ j7344 y6662 = some r) ?_ ?_
    · clear hj7345
      refine region_draw (fun j => RP (plOf [] [b4669] j)) (by kernel_rfl) ?_
      have hS := hS.drew
      first | generalize w.drew = w at hS ⊢ | generalize w0.drew = w at hS ⊢
      refine tW 2 4 (fuel := 19) (by kernel_rfl) hE (fun M => g_fieldAddr (fo := 0) (ft := 4) 0 rfl rfl rfl rfl hE rfl rfl (by kernel_rfl) rfl (fun a hE => ?_))
      refine tP 3 12 (fuel := 18) (by kernel_rfl) hE (tk_load 0 (.bool (x1.fWhole)) rfl rfl rfl rfl hE rfl hS rfl rfl (by kernel_rfl) (fun _ h => h.at_ (List.Mem.head _)) (fun a hE => ?_))
      refine tW 5 44 (fuel := 17) (by kernel_rfl) hE (fun M => g_fieldAddr (fo := 1) (ft := 26) 1 rfl rfl rfl rfl hE rfl rfl (by kernel_rfl) rfl (fun a hE => ?_))
      refine tW 6 108 (fuel := 16) (by kernel_rfl) hE (fun M => g_fieldAddr (fo := 0) (ft := 3) 1 rfl rfl rfl rfl hE rfl rfl (by kernel_rfl) rfl (fun a hE => ?_))
      refine tP 7 236 (fuel := 15) (by kernel_rfl) hE (tk_load 0 (.int .i64 (x1.fPoint.fSize)) rfl rfl rfl rfl hE rfl hS rfl rfl (by kernel_rfl) (fun _ h => h.at_ (List.Mem.head _)) (fun a hE => ?_))
      refine tW 9 748 (fuel := 14) (by kernel_rfl) hE (fun M => g_fieldAddr (fo := 1) (ft := 26) 1 rfl rfl rfl rfl hE rfl rfl (by kernel_rfl) rfl (fun a hE => ?_))
      refine tW 10 1772 (fuel := 13) (by kernel_rfl) hE (fun M => g_fieldAddr (fo := 1) (ft := 23) 2 rfl rfl rfl rfl hE rfl rfl (by kernel_rfl) rfl (fun a hE => ?_))
      refine tP 11 3820 (fuel := 12) (by kernel_rfl) hE (tk_load 0 (.agg (List.toArray (acells .u8 32 (x1.fPoint.fRoot)))) rfl rfl rfl rfl hE rfl hS rfl rfl (by kernel_rfl) (fun _ h => h.at_ (List.Mem.head _)) (fun a hE => ?_))
      refine tW 13 12012 (fuel := 11) (by kernel_rfl) hE (fun M => g_fieldAddr (fo := 1) (ft := 26) 1 rfl rfl rfl rfl hE rfl rfl (by kernel_rfl) rfl (fun a hE => ?_))
      refine tW 14 28396 (fuel := 10) (by kernel_rfl) hE (fun M => g_fieldAddr (fo := 33) (ft := 24) 34 rfl rfl rfl rfl hE rfl rfl (by kernel_rfl) rfl (fun a hE => ?_))
      refine tP 15 61164 (fuel := 9) (by kernel_rfl) hE (tk_load 0 (.slice A2 (List.length (x1.fPoint.fSigs)) c3) rfl rfl rfl rfl hE rfl hS rfl rfl (by kernel_rfl) (fun _ h => h.at_ (List.Mem.head _)) (fun a hE => ?_))
      refine twoB (i := 0) (j := 4) (fuel := 8) (m1 := 61165) (m2 := 61180) (by kernel_rfl) (by kernel_rfl) (by kernel_rfl) ?_ ?_
      · have hp_b4669 := hS.heapAt (j := 0) rfl
        refine (op_buildSlice (K := (kdInt .u8)) (e := 5) (cs := [.int .u8 ((105 : Int))] ++ ([.int .u8 ((110 : Int))] ++ ([.int .u8 ((115 : Int))] ++ ([.int .u8 ((112 : Int))] ++ [])))) ([(105 : Int), (110 : Int), (115 : Int), (112 : Int)] : List Int) rfl rfl rfl rfl hE rfl hS rfl (by kernel_rfl) rfl rfl (by exact (show RL (kdInt .u8) D4678 ([(105 : Int), (110 : Int), (115 : Int), (112 : Int)] : List Int) ([.int .u8 ((105 : Int))] ++ ([.int .u8 ((110 : Int))] ++ ([.int .u8 ((115 : Int))] ++ ([.int .u8 ((112 : Int))] ++ [])))) from ⟨_, _, rfl, rfl, ⟨_, _, rfl, rfl, ⟨_, _, rfl, rfl, ⟨_, _, rfl, rfl, rfl⟩⟩⟩⟩)) (fun a A8336 q8337 w _ hE h8338 hS => ?_))
        refine ⟨show RP [b4669] _ _ from ⟨(hS.heapAt (j := 1) rfl).trans hp_b4669.symm, trivial⟩, ?_⟩
        clear hp_b4669
        refine twoB (i := 1) (j := 4) (fuel := 7) (m1 := 61167) (m2 := 61181) (by kernel_rfl) (by kernel_rfl) (by kernel_rfl) ?_ ?_
        · have hp_b4669 := hS.heapAt (j := 1) rfl
          refine (op_lit (T := 5) (l := ([(105 : Int), (110 : Int), (115 : Int), (112 : Int)] : List Int)) rfl rfl rfl rfl hE rfl hS rfl (by kernel_rfl) h8338 (by kernel_rfl) (fun a D8340 w _ le8341 hE h8342 hS => ?_))
          refine ⟨show RP [b4669] _ _ from ⟨(hS.heapAt (j := 0) rfl).trans hp_b4669.symm, trivial⟩, ?_⟩
          clear hp_b4669
          have hp_b4669 := hS.heapAt (j := 0) rfl
          obtain ⟨r8343, h8344, hf⟩ := bind_some hf
          refine oG 4 61183 (fuel := 6) (by kernel_rfl) (op_call rfl rfl rfl rfl hE rfl rfl rfl rfl (by kernel_rfl) (wire_Flag.calls (g := g) h8344 (hS.st.fore (L := [])) ) (fun a v w hR hE => ?_))
          obtain ⟨D8345, A8347, c8348, q8349, rfl, hS1, h8350⟩ := hR
          have le8352 := hS1.dle
          have hS := hS.callR hS1 rfl (.c .n)
          clear hS1
          refine ⟨show RP [b4669] _ _ from ⟨(hS.heapAt (j := 1) rfl).trans hp_b4669.symm, trivial⟩, ?_⟩
          clear hp_b4669
          have hp_b4669 := hS.heapAt (j := 1) rfl
          obtain ⟨r8353, h8354, hf⟩ := bind_some hf
          refine oG 8 61439 (fuel := 5) (by kernel_rfl) (op_call rfl rfl rfl rfl hE rfl rfl rfl rfl (by kernel_rfl) (wire_Num.calls (g := g) h8354 (hS.st.fore (L := [])) ) (fun a v w hR hE => ?_))
          obtain ⟨D8355, A8357, c8358, q8359, rfl, hS1, h8360⟩ := hR
          have le8362 := hS1.dle
          have hS := hS.callR hS1 rfl (.c .n)
          clear hS1
          refine ⟨show RP [b4669] _ _ from ⟨(hS.heapAt (j := 2) rfl).trans hp_b4669.symm, trivial⟩, ?_⟩
          clear hp_b4669
          have hp_b4669 := hS.heapAt (j := 2) rfl
          obtain ⟨r8363, h8364, hf⟩ := bind_some hf
          refine oG 12 65535 (fuel := 4) (by kernel_rfl) (op_call rfl rfl rfl rfl hE rfl rfl rfl rfl (by kernel_rfl) (wire_Hash.calls (g := g) h8364 (hS.st.fore (L := [])) ) (fun a v w hR hE => ?_))
          obtain ⟨D8365, A8367, c8368, q8369, rfl, hS1, h8370⟩ := hR
          have le8372 := hS1.dle
          have hS := hS.callR hS1 rfl (.c .n)
          clear hS1
          refine ⟨show RP [b4669] _ _ from ⟨(hS.heapAt (j := 3) rfl).trans hp_b4669.symm, trivial⟩, ?_⟩
          clear hp_b4669
          have hp_b4669 := hS.heapAt (j := 3) rfl
          obtain ⟨r8373, h8374, hf⟩ := bind_some hf
          refine oG 16 131071 (fuel := 3) (by kernel_rfl) (op_call rfl rfl rfl rfl hE rfl rfl rfl rfl (by kernel_rfl) (bundle_list_api_Sig.calls (g := g) h8374 (hS.st.fore (L := [])) (h4.mono (Snap.le.trans (Snap.le.trans (Snap.le.trans (Snap.le.trans le4680 le8341) le8352) le8362) le8372))) (fun a v w hR hE => ?_))
          obtain ⟨D8375, A8377, c8378, q8379, rfl, hS1, h8380⟩ := hR
          have le8382 := hS1.dle
          have hS := hS.callR hS1 rfl (.c .n)
          clear hS1
          refine ⟨show RP [b4669] _ _ from ⟨(hS.heapAt (j := 4) rfl).trans hp_b4669.symm, trivial⟩, ?_⟩
          clear hp_b4669
          have hp_b4669 := hS.heapAt (j := 4) rfl
          have hS := hS.pk (.c 3 rfl (.c 0 rfl (.c 1 rfl (.c 2 rfl (.c 4 rfl .n))))) rfl
          obtain ⟨D8383, q8386, le8384, hS, h8387, h8385⟩ := hS.lent (h8350.mono (Snap.le.trans (Snap.le.trans le8362 le8372) le8382))
          have hS := hS.pk (.c 3 rfl (.c 0 rfl (.c 1 rfl (.c 2 rfl (.c 4 rfl .n))))) rfl
          obtain ⟨D8388, q8391, le8389, hS, h8392, h8390⟩ := hS.lent (h8360.mono (Snap.le.trans (Snap.le.trans le8372 le8382) le8384))
          have hS := hS.pk (.c 3 rfl (.c 0 rfl (.c 1 rfl (.c 2 rfl (.c 4 rfl .n))))) rfl
          obtain ⟨D8393, q8396, le8394, hS, h8397, h8395⟩ := hS.lent (h8370.mono (Snap.le.trans (Snap.le.trans le8382 le8384) le8389))
          have hS := hS.pk (.c 3 rfl (.c 0 rfl (.c 1 rfl (.c 2 rfl (.c 4 rfl .n))))) rfl
          obtain ⟨D8398, q8401, le8399, hS, h8402, h8400⟩ := hS.lent (h8380.mono (Snap.le.trans (Snap.le.trans le8384 le8389) le8394))
          refine oG 17 262143 (fuel := 2) (by kernel_rfl) (op_buildSlice (K := (kdSlice (kdInt .u8))) (e := 32) (cs := [.slice A8336 (List.length (([(105 : Int), (110 : Int), (115 : Int), (112 : Int)] : List Int))) 4] ++ ([.slice A8347 (List.length (r8343)) c8348] ++ ([.slice A8357 (List.length (r8353)) c8358] ++ ([.slice A8367 (List.length (r8363)) c8368] ++ ([.slice A8377 (List.length (r8373)) c8378] ++ []))))) ([([(105 : Int), (110 : Int), (115 : Int), (112 : Int)] : List Int), r8343, r8353, r8363, r8373] : List (List Int)) rfl rfl rfl rfl hE rfl hS rfl (by kernel_rfl) rfl rfl (by exact (show RL (kdSlice (kdInt .u8)) D8398 ([([(105 : Int), (110 : Int), (115 : Int), (112 : Int)] : List Int), r8343, r8353, r8363, r8373] : List (List Int)) ([.slice A8336 (List.length (([(105 : Int), (110 : Int), (115 : Int), (112 : Int)] : List Int))) 4] ++ ([.slice A8347 (List.length (r8343)) c8348] ++ ([.slice A8357 (List.length (r8353)) c8358] ++ ([.slice A8367 (List.length (r8363)) c8368] ++ ([.slice A8377 (List.length (r8373)) c8378] ++ []))))) from ⟨_, _, rfl, (kslice (h8342.mono (Snap.le.trans (Snap.le.trans (Snap.le.trans (Snap.le.trans (Snap.le.trans (Snap.le.trans (Snap.le.trans le8352 le8362) le8372) le8382) le8384) le8389) le8394) le8399))), ⟨_, _, rfl, (kslice (h8385.mono (Snap.le.trans (Snap.le.trans le8389 le8394) le8399))), ⟨_, _, rfl, (kslice (h8390.mono (Snap.le.trans le8394 le8399))), ⟨_, _, rfl, (kslice (h8395.mono le8399)), ⟨_, _, rfl, (kslice h8400), rfl⟩⟩⟩⟩⟩)) (fun a A8403 q8404 w _ hE h8405 hS => ?_))
          refine ⟨show RP [b4669] _ _ from ⟨(hS.heapAt (j := 5) rfl).trans hp_b4669.symm, trivial⟩, ?_⟩
          clear hp_b4669
          have hp_b4669 := hS.heapAt (j := 5) rfl
          obtain ⟨D8407, q8410, le8408, hS, h8411, h8409⟩ := hS.lent h8405
          obtain ⟨r8412, h8413, hf⟩ := bind_some hf
          refine oG 18 524287 (fuel := 1) (by kernel_rfl) (op_call rfl rfl rfl rfl hE rfl rfl rfl rfl (by kernel_rfl) (wire_All.calls (g := g) h8413 (hS.st.fore (L := [])) h8409) (fun a v w hR hE => ?_))
          obtain ⟨D8414, A8416, c8417, q8418, rfl, hS1, h8419⟩ := hR
          have le8421 := hS1.dle
          have hS := hS.callR hS1 rfl (.c .n)
          clear hS1
          refine ⟨show RP [b4669] _ _ from ⟨(hS.heapAt (j := 6) rfl).trans hp_b4669.symm, trivial⟩, ?_⟩
          clear hp_b4669
          refine tW 19 1048575 (fuel := 0) (by kernel_rfl) hE (fun M => tk_pure (.slice A8416 (List.length (r8412)) c8417) hE rfl rfl rfl rfl (fun _ _ _ e => by cases e) (by kernel_rfl) (fun a hE => ?_))
          refine doneG (by kernel_rfl) ?_
          have hS := hS.pk (.c 6 rfl (.c 0 rfl .n)) rfl
          exact ⟨r8412, A8416, c8417, q8418, D8414, hE.weak (by kernel_rfl), hS, (Snap.le.trans (Snap.le.trans (Snap.le.trans (Snap.le.trans (Snap.le.trans (Snap.le.trans (Snap.le.trans (Snap.le.trans (Snap.le.trans (Snap.le.trans le8341 le8352) le8362) le8372) le8382) le8384) le8389) le8394) le8399) le8408) le8421), h8419, hf⟩
        · have hp_b4669 := hS.heapAt (j := 1) rfl
          obtain ⟨r8422, h8423, hf⟩ := bind_some hf
          refine (op_call rfl rfl rfl rfl hE rfl rfl rfl rfl (by kernel_rfl) (wire_Flag.calls (g := g) h8423 (hS.st.fore (L := [])) ) (fun a v w hR hE => ?_))
          obtain ⟨D8424, A8426, c8427, q8428, rfl, hS1, h8429⟩ := hR
          have le8431 := hS1.dle
          have hS := hS.callR hS1 rfl (.c .n)
          clear hS1
          refine ⟨show RP [b4669] _ _ from ⟨(hS.heapAt (j := 2) rfl).trans hp_b4669.symm, trivial⟩, ?_⟩
          clear hp_b4669
          refine twoB (i := 1) (j := 8) (fuel := 6) (m1 := 61183) (m2 := 61437) (by kernel_rfl) (by kernel_rfl) (by kernel_rfl) ?_ ?_
          · have hp_b4669 := hS.heapAt (j := 2) rfl
            have hS := hS.pk (.c 1 rfl (.c 0 rfl (.c 2 rfl .n))) rfl
            refine (op_lit (T := 5) (l := ([(105 : Int), (110 : Int), (115 : Int), (112 : Int)] : List Int)) rfl rfl rfl rfl hE rfl hS rfl (by kernel_rfl) (h8338.mono le8431) (by kernel_rfl) (fun a D8432 w _ le8433 hE h8434 hS => ?_))
            refine ⟨show RP [b4669] _ _ from ⟨(hS.heapAt (j := 1) rfl).trans hp_b4669.symm, trivial⟩, ?_⟩
            clear hp_b4669
            have hp_b4669 := hS.heapAt (j := 1) rfl
            obtain ⟨r8435, h8436, hf⟩ := bind_some hf
            refine oG 8 61439 (fuel := 5) (by kernel_rfl) (op_call rfl rfl rfl rfl hE rfl rfl rfl rfl (by kernel_rfl) (wire_Num.calls (g := g) h8436 (hS.st.fore (L := [])) ) (fun a v w hR hE => ?_))
            obtain ⟨D8437, A8439, c8440, q8441, rfl, hS1, h8442⟩ := hR
            have le8444 := hS1.dle
            have hS := hS.callR hS1 rfl (.c .n)
            clear hS1
            refine ⟨show RP [b4669] _ _ from ⟨(hS.heapAt (j := 2) rfl).trans hp_b4669.symm, trivial⟩, ?_⟩
            clear hp_b4669
            have hp_b4669 := hS.heapAt (j := 2) rfl
            obtain ⟨r8445, h8446, hf⟩ := bind_some hf
            refine oG 12 65535 (fuel := 4) (by kernel_rfl) (op_call rfl rfl rfl rfl hE rfl rfl rfl rfl (by kernel_rfl) (wire_Hash.calls (g := g) h8446 (hS.st.fore (L := [])) ) (fun a v w hR hE => ?_))
            obtain ⟨D8447, A8449, c8450, q8451, rfl, hS1, h8452⟩ := hR
            have le8454 := hS1.dle
            have hS := hS.callR hS1 rfl (.c .n)
            clear hS1
            refine ⟨show RP [b4669] _ _ from ⟨(hS.heapAt (j := 3) rfl).trans hp_b4669.symm, trivial⟩, ?_⟩
            clear hp_b4669
            have hp_b4669 := hS.heapAt (j := 3) rfl
            obtain ⟨r8455, h8456, hf⟩ := bind_some hf
            refine oG 16 131071 (fuel := 3) (by kernel_rfl) (op_call rfl rfl rfl rfl hE rfl rfl rfl rfl (by kernel_rfl) (bundle_list_api_Sig.calls (g := g) h8456 (hS.st.fore (L := [])) (h4.mono (Snap.le.trans (Snap.le.trans (Snap.le.trans (Snap.le.trans le4680 le8431) le8433) le8444) le8454))) (fun a v w hR hE => ?_))
            obtain ⟨D8457, A8459, c8460, q8461, rfl, hS1, h8462⟩ := hR
            have le8464 := hS1.dle
            have hS := hS.callR hS1 rfl (.c .n)
            clear hS1
            refine ⟨show RP [b4669] _ _ from ⟨(hS.heapAt (j := 4) rfl).trans hp_b4669.symm, trivial⟩, ?_⟩
            clear hp_b4669
            have hp_b4669 := hS.heapAt (j := 4) rfl
            have hS := hS.pk (.c 3 rfl (.c 0 rfl (.c 1 rfl (.c 2 rfl (.c 4 rfl .n))))) rfl
            obtain ⟨D8465, q8468, le8466, hS, h8469, h8467⟩ := hS.lent (h8429.mono (Snap.le.trans (Snap.le.trans (Snap.le.trans le8433 le8444) le8454) le8464))
            have hS := hS.pk (.c 3 rfl (.c 0 rfl (.c 1 rfl (.c 2 rfl (.c 4 rfl .n))))) rfl
            obtain ⟨D8470, q8473, le8471, hS, h8474, h8472⟩ := hS.lent (h8442.mono (Snap.le.trans (Snap.le.trans le8454 le8464) le8466))
            have hS := hS.pk (.c 3 rfl (.c 0 rfl (.c 1 rfl (.c 2 rfl (.c 4 rfl .n))))) rfl
            obtain ⟨D8475, q8478, le8476, hS, h8479, h8477⟩ := hS.lent (h8452.mono (Snap.le.trans (Snap.le.trans le8464 le8466) le8471))
            have hS := hS.pk (.c 3 rfl (.c 0 rfl (.c 1 rfl (.c 2 rfl (.c 4 rfl .n))))) rfl
            obtain ⟨D8480, q8483, le8481, hS, h8484, h8482⟩ := hS.lent (h8462.mono (Snap.le.trans (Snap.le.trans le8466 le8471) le8476))
            refine oG 17 262143 (fuel := 2) (by kernel_rfl) (op_buildSlice (K := (kdSlice (kdInt .u8))) (e := 32) (cs := [.slice A8336 (List.length (([(105 : Int), (110 : Int), (115 : Int), (112 : Int)] : List Int))) 4] ++ ([.slice A8426 (List.length (r8422)) c8427] ++ ([.slice A8439 (List.length (r8435)) c8440] ++ ([.slice A8449 (List.length (r8445)) c8450] ++ ([.slice A8459 (List.length (r8455)) c8460] ++ []))))) ([([(105 : Int), (110 : Int), (115 : Int), (112 : Int)] : List Int), r8422, r8435, r8445, r8455] : List (List Int)) rfl rfl rfl rfl hE rfl hS rfl (by kernel_rfl) rfl rfl (by exact (show RL (kdSlice (kdInt .u8)) D8480 ([([(105 : Int), (110 : Int), (115 : Int), (112 : Int)] : List Int), r8422, r8435, r8445, r8455] : List (List Int)) ([.slice A8336 (List.length (([(105 : Int), (110 : Int), (115 : Int), (112 : Int)] : List Int))) 4] ++ ([.slice A8426 (List.length (r8422)) c8427] ++ ([.slice A8439 (List.length (r8435)) c8440] ++ ([.slice A8449 (List.length (r8445)) c8450] ++ ([.slice A8459 (List.length (r8455)) c8460] ++ []))))) from ⟨_, _, rfl, (kslice (h8434.mono (Snap.le.trans (Snap.le.trans (Snap.le.trans (Snap.le.trans (Snap.le.trans (Snap.le.trans le8444 le8454) le8464) le8466) le8471) le8476) le8481))), ⟨_, _, rfl, (kslice (h8467.mono (Snap.le.trans (Snap.le.trans le8471 le8476) le8481))), ⟨_, _, rfl, (kslice (h8472.mono (Snap.le.trans le8476 le8481))), ⟨_, _, rfl, (kslice (h8477.mono le8481)), ⟨_, _, rfl, (kslice h8482), rfl⟩⟩⟩⟩⟩)) (fun a A8485 q8486 w _ hE h8487 hS => ?_))
            refine ⟨show RP [b4669] _ _ from ⟨(hS.heapAt (j := 5) rfl).trans hp_b4669.symm, trivial⟩, ?_⟩
            clear hp_b4669
            have hp_b4669 := hS.heapAt (j := 5) rfl
            obtain ⟨D8489, q8492, le8490, hS, h8493, h8491⟩ := hS.lent h8487
            obtain ⟨r8494, h8495, hf⟩ := bind_some hf
            refine oG 18 524287 (fuel := 1) (by kernel_rfl) (op_call rfl rfl rfl rfl hE rfl rfl rfl rfl (by kernel_rfl) (wire_All.calls (g := g) h8495 (hS.st.fore (L := [])) h8491) (fun a v w hR hE => ?_))
            obtain ⟨D8496, A8498, c8499, q8500, rfl, hS1, h8501⟩ := hR
            have le8503 := hS1.dle
            have hS := hS.callR hS1 rfl (.c .n)
            clear hS1
            refine ⟨show RP [b4669] _ _ from ⟨(hS.heapAt (j := 6) rfl).trans hp_b4669.symm, trivial⟩, ?_⟩
            clear hp_b4669
            refine tW 19 1048575 (fuel := 0) (by kernel_rfl) hE (fun M => tk_pure (.slice A8498 (List.length (r8494)) c8499) hE rfl rfl rfl rfl (fun _ _ _ e => by cases e) (by kernel_rfl) (fun a hE => ?_))
            refine doneG (by kernel_rfl) ?_
            have hS := hS.pk (.c 6 rfl (.c 0 rfl .n)) rfl
            exact ⟨r8494, A8498, c8499, q8500, D8496, hE.weak (by kernel_rfl), hS, (Snap.le.trans (Snap.le.trans (Snap.le.trans (Snap.le.trans (Snap.le.trans (Snap.le.trans (Snap.le.trans (Snap.le.trans (Snap.le.trans (Snap.le.trans le8431 le8433) le8444) le8454) le8464) le8466) le8471) le8476) le8481) le8490) le8503), h8501, hf⟩
          · have hp_b4669 := hS.heapAt (j := 2) rfl
            obtain ⟨r8504, h8505, hf⟩ := bind_some hf
            refine (op_call rfl rfl rfl rfl hE rfl rfl rfl rfl (by kernel_rfl) (wire_Num.calls (g := g) h8505 (hS.st.fore (L := [])) ) (fun a v w hR hE => ?_))
            obtain ⟨D8506, A8508, c8509, q8510, rfl, hS1, h8511⟩ := hR
            have le8513 := hS1.dle
            have hS := hS.callR hS1 rfl (.c .n)
            clear hS1
            refine ⟨show RP [b4669] _ _ from ⟨(hS.heapAt (j := 3) rfl).trans hp_b4669.symm, trivial⟩, ?_⟩
            clear hp_b4669
            refine twoB (i := 1) (j := 12) (fuel := 5) (m1 := 61439) (m2 := 65533) (by kernel_rfl) (by kernel_rfl) (by kernel_rfl) ?_ ?_
            · have hp_b4669 := hS.heapAt (j := 3) rfl
              have hS := hS.pk (.c 2 rfl (.c 0 rfl (.c 1 rfl (.c 3 rfl .n)))) rfl
              refine (op_lit (T := 5) (l := ([(105 : Int), (110 : Int), (115 : Int), (112 : Int)] : List Int)) rfl rfl rfl rfl hE rfl hS rfl (by kernel_rfl) (h8338.mono (Snap.le.trans le8431 le8513)) (by kernel_rfl) (fun a D8514 w _ le8515 hE h8516 hS => ?_))
              refine ⟨show RP [b4669] _ _ from ⟨(hS.heapAt (j := 2) rfl).trans hp_b4669.symm, trivial⟩, ?_⟩
              clear hp_b4669
              have hp_b4669 := hS.heapAt (j := 2) rfl
              obtain ⟨r8517, h8518, hf⟩ := bind_some hf
              refine oG 12 65535 (fuel := 4) (by kernel_rfl) (op_call rfl rfl rfl rfl hE rfl rfl rfl rfl (by kernel_rfl) (wire_Hash.calls (g := g) h8518 (hS.st.fore (L := [])) ) (fun a v w hR hE => ?_))
              obtain ⟨D8519, A8521, c8522, q8523, rfl, hS1, h8524⟩ := hR
              have le8526 := hS1.dle
              have hS := hS.callR hS1 rfl (.c .n)
              clear hS1
              refine ⟨show RP [b4669] _ _ from ⟨(hS.heapAt (j := 3) rfl).trans hp_b4669.symm, trivial⟩, ?_⟩
              clear hp_b4669
              have hp_b4669 := hS.heapAt (j := 3) rfl
              obtain ⟨r8527, h8528, hf⟩ := bind_some hf
              refine oG 16 131071 (fuel := 3) (by kernel_rfl) (op_call rfl rfl rfl rfl hE rfl rfl rfl rfl (by kernel_rfl) (bundle_list_api_Sig.calls (g := g) h8528 (hS.st.fore (L := [])) (h4.mono (Snap.le.trans (Snap.le.trans (Snap.le.trans (Snap.le.trans le4680 le8431) le8513) le8515) le8526))) (fun a v w hR hE => ?_))
              obtain ⟨D8529, A8531, c8532, q8533, rfl, hS1, h8534⟩ := hR
              have le8536 := hS1.dle
              have hS := hS.callR hS1 rfl (.c .n)
              clear hS1
              refine ⟨show RP [b4669] _ _ from ⟨(hS.heapAt (j := 4) rfl).trans hp_b4669.symm, trivial⟩, ?_⟩
              clear hp_b4669
              have hp_b4669 := hS.heapAt (j := 4) rfl
              have hS := hS.pk (.c 3 rfl (.c 0 rfl (.c 1 rfl (.c 2 rfl (.c 4 rfl .n))))) rfl
              obtain ⟨D8537, q8540, le8538, hS, h8541, h8539⟩ := hS.lent (h8429.mono (Snap.le.trans (Snap.le.trans (Snap.le.trans le8513 le8515) le8526) le8536))
              have hS := hS.pk (.c 3 rfl (.c 0 rfl (.c 1 rfl (.c 2 rfl (.c 4 rfl .n))))) rfl
              obtain ⟨D8542, q8545, le8543, hS, h8546, h8544⟩ := hS.lent (h8511.mono (Snap.le.trans (Snap.le.trans (Snap.le.trans le8515 le8526) le8536) le8538))
              have hS := hS.pk (.c 3 rfl (.c 0 rfl (.c 1 rfl (.c 2 rfl (.c 4 rfl .n))))) rfl
              obtain ⟨D8547, q8550, le8548, hS, h8551, h8549⟩ := hS.lent (h8524.mono (Snap.le.trans (Snap.le.trans le8536 le8538) le8543))
              have hS := hS.pk (.c 3 rfl (.c 0 rfl (.c 1 rfl (.c 2 rfl (.c 4 rfl .n))))) rfl
              obtain ⟨D8552, q8555, le8553, hS, h8556, h8554⟩ := hS.lent (h8534.mono (Snap.le.trans (Snap.le.trans le8538 le8543) le8548))
              refine oG 17 262143 (fuel := 2) (by kernel_rfl) (op_buildSlice (K := (kdSlice (kdInt .u8))) (e := 32) (cs := [.slice A8336 (List.length (([(105 : Int), (110 : Int), (115 : Int), (112 : Int)] : List Int))) 4] ++ ([.slice A8426 (List.length (r8422)) c8427] ++ ([.slice A8508 (List.length (r8504)) c8509] ++ ([.slice A8521 (List.length (r8517)) c8522] ++ ([.slice A8531 (List.length (r8527)) c8532] ++ []))))) ([([(105 : Int), (110 : Int), (115 : Int), (112 : Int)] : List Int), r8422, r8504, r8517, r8527] : List (List Int)) rfl rfl rfl rfl hE rfl hS rfl (by kernel_rfl) rfl rfl (by exact (show RL (kdSlice (kdInt .u8)) D8552 ([([(105 : Int), (110 : Int), (115 : Int), (112 : Int)] : List Int), r8422, r8504, r8517, r8527] : List (List Int)) ([.slice A8336 (List.length (([(105 : Int), (110 : Int), (115 : Int), (112 : Int)] : List Int))) 4] ++ ([.slice A8426 (List.length (r8422)) c8427] ++ ([.slice A8508 (List.length (r8504)) c8509] ++ ([.slice A8521 (List.length (r8517)) c8522] ++ ([.slice A8531 (List.length (r8527)) c8532] ++ []))))) from ⟨_, _, rfl, (kslice (h8516.mono (Snap.le.trans (Snap.le.trans (Snap.le.trans (Snap.le.trans (Snap.le.trans le8526 le8536) le8538) le8543) le8548) le8553))), ⟨_, _, rfl, (kslice (h8539.mono (Snap.le.trans (Snap.le.trans le8543 le8548) le8553))), ⟨_, _, rfl, (kslice (h8544.mono (Snap.le.trans le8548 le8553))), ⟨_, _, rfl, (kslice (h8549.mono le8553)), ⟨_, _, rfl, (kslice h8554), rfl⟩⟩⟩⟩⟩)) (fun a A8557 q8558 w _ hE h8559 hS => ?_))
              refine ⟨show RP [b4669] _ _ from ⟨(hS.heapAt (j := 5) rfl).trans hp_b4669.symm, trivial⟩, ?_⟩
              clear hp_b4669
              have hp_b4669 := hS.heapAt (j := 5) rfl
              obtain ⟨D8561, q8564, le8562, hS, h8565, h8563⟩ := hS.lent h8559
              obtain ⟨r8566, h8567, hf⟩ := bind_some hf
              refine oG 18 524287 (fuel := 1) (by kernel_rfl) (op_call rfl rfl rfl rfl hE rfl rfl rfl rfl (by kernel_rfl) (wire_All.calls (g := g) h8567 (hS.st.fore (L := [])) h8563) (fun a v w hR hE => ?_))
              obtain ⟨D8568, A8570, c8571, q8572, rfl, hS1, h8573⟩ := hR
              have le8575 := hS1.dle
              have hS := hS.callR hS1 rfl (.c .n)
              clear hS1
              refine ⟨show RP [b4669] _ _ from ⟨(hS.heapAt (j := 6) rfl).trans hp_b4669.symm, trivial⟩, ?_⟩
              clear hp_b4669
              refine tW 19 1048575 (fuel := 0) (by kernel_rfl) hE (fun M => tk_pure (.slice A8570 (List.length (r8566)) c8571) hE rfl rfl rfl rfl (fun _ _ _ e => by cases e) (by kernel_rfl) (fun a hE => ?_))
              refine doneG (by kernel_rfl) ?_
              have hS := hS.pk (.c 6 rfl (.c 0 rfl .n)) rfl
              exact ⟨r8566, A8570, c8571, q8572, D8568, hE.weak (by kernel_rfl), hS, (Snap.le.trans (Snap.le.trans (Snap.le.trans (Snap.le.trans (Snap.le.trans (Snap.le.trans (Snap.le.trans (Snap.le.trans (Snap.le.trans (Snap.le.trans le8431 le8513) le8515) le8526) le8536) le8538) le8543) le8548) le8553) le8562) le8575), h8573, hf⟩
            · have hp_b4669 := hS.heapAt (j := 3) rfl
              obtain ⟨r8576, h8577, hf⟩ := bind_some hf
              refine (op_call rfl rfl rfl rfl hE rfl rfl rfl rfl (by kernel_rfl) (wire_Hash.calls (g := g) h8577 (hS.st.fore (L := [])) ) (fun a v w hR hE => ?_))
              obtain ⟨D8578, A8580, c8581, q8582, rfl, hS1, h8583⟩ := hR
              have le8585 := hS1.dle
              have hS := hS.callR hS1 rfl (.c .n)
              clear hS1
              refine ⟨show RP [b4669] _ _ from ⟨(hS.heapAt (j := 4) rfl).trans hp_b4669.symm, trivial⟩, ?_⟩
              clear hp_b4669
              refine twoB (i := 1) (j := 16) (fuel := 4) (m1 := 65535) (m2 := 131069) (by kernel_rfl) (by kernel_rfl) (by kernel_rfl) ?_ ?_
              · have hp_b4669 := hS.heapAt (j := 4) rfl
                have hS := hS.pk (.c 3 rfl (.c 0 rfl (.c 1 rfl (.c 2 rfl (.c 4 rfl .n))))) rfl
                refine (op_lit (T := 5) (l := ([(105 : Int), (110 : Int), (115 : Int), (112 : Int)] : List Int)) rfl rfl rfl rfl hE rfl hS rfl (by kernel_rfl) (h8338.mono (Snap.le.trans (Snap.le.trans le8431 le8513) le8585)) (by kernel_rfl) (fun a D8586 w _ le8587 hE h8588 hS => ?_))
                refine ⟨show RP [b4669] _ _ from ⟨(hS.heapAt (j := 3) rfl).trans hp_b4669.symm, trivial⟩, ?_⟩
                clear hp_b4669
                have hp_b4669 := hS.heapAt (j := 3) rfl
                obtain ⟨r8589, h8590, hf⟩ := bind_some hf
                refine oG 16 131071 (fuel := 3) (by kernel_rfl) (op_call rfl rfl rfl rfl hE rfl rfl rfl rfl (by kernel_rfl) (bundle_list_api_Sig.calls (g := g) h8590 (hS.st.fore (L := [])) (h4.mono (Snap.le.trans (Snap.le.trans (Snap.le.trans (Snap.le.trans le4680 le8431) le8513) le8585) le8587))) (fun a v w hR hE => ?_))
                obtain ⟨D8591, A8593, c8594, q8595, rfl, hS1, h8596⟩ := hR
                have le8598 := hS1.dle
                have hS := hS.callR hS1 rfl (.c .n)
                clear hS1
                refine ⟨show RP [b4669] _ _ from ⟨(hS.heapAt (j := 4) rfl).trans hp_b4669.symm, trivial⟩, ?_⟩
                clear hp_b4669
                have hp_b4669 := hS.heapAt (j := 4) rfl
                have hS := hS.pk (.c 3 rfl (.c 0 rfl (.c 1 rfl (.c 2 rfl (.c 4 rfl .n))))) rfl
                obtain ⟨D8599, q8602, le8600, hS, h8603, h8601⟩ := hS.lent (h8429.mono (Snap.le.trans (Snap.le.trans (Snap.le.trans le8513 le8585) le8587) le8598))
                have hS := hS.pk (.c 3 rfl (.c 0 rfl (.c 1 rfl (.c 2 rfl (.c 4 rfl .n))))) rfl
                obtain ⟨D8604, q8607, le8605, hS, h8608, h8606⟩ := hS.lent (h8511.mono (Snap.le.trans (Snap.le.trans (Snap.le.trans le8585 le8587) le8598) le8600))
                have hS := hS.pk (.c 3 rfl (.c 0 rfl (.c 1 rfl (.c 2 rfl (.c 4 rfl .n))))) rfl
                obtain ⟨D8609, q8612, le8610, hS, h8613, h8611⟩ := hS.lent (h8583.mono (Snap.le.trans (Snap.le.trans (Snap.le.trans le8587 le8598) le8600) le8605))
                have hS := hS.pk (.c 3 rfl (.c 0 rfl (.c 1 rfl (.c 2 rfl (.c 4 rfl .n))))) rfl
                obtain ⟨D8614, q8617, le8615, hS, h8618, h8616⟩ := hS.lent (h8596.mono (Snap.le.trans (Snap.le.trans le8600 le8605) le8610))
                refine oG 17 262143 (fuel := 2) (by kernel_rfl) (op_buildSlice (K := (kdSlice (kdInt .u8))) (e := 32) (cs := [.slice A8336 (List.length (([(105 : Int), (110 : Int), (115 : Int), (112 : Int)] : List Int))) 4] ++ ([.slice A8426 (List.length (r8422)) c8427] ++ ([.slice A8508 (List.length (r8504)) c8509] ++ ([.slice A8580 (List.length (r8576)) c8581] ++ ([.slice A8593 (List.length (r8589)) c8594] ++ []))))) ([([(105 : Int), (110 : Int), (115 : Int), (112 : Int)] : List Int), r8422, r8504, r8576, r8589] : List (List Int)) rfl rfl rfl rfl hE rfl hS rfl (by kernel_rfl) rfl rfl (by exact (show RL (kdSlice (kdInt .u8)) D8614 ([([(105 : Int), (110 : Int), (115 : Int), (112 : Int)] : List Int), r8422, r8504, r8576, r8589] : List (List Int)) ([.slice A8336 (List.length (([(105 : Int), (110 : Int), (115 : Int), (112 : Int)] : List Int))) 4] ++ ([.slice A8426 (List.length (r8422)) c8427] ++ ([.slice A8508 (List.length (r8504)) c8509] ++ ([.slice A8580 (List.length (r8576)) c8581] ++ ([.slice A8593 (List.length (r8589)) c8594] ++ []))))) from ⟨_, _, rfl, (kslice (h8588.mono (Snap.le.trans (Snap.le.trans (Snap.le.trans (Snap.le.trans le8598 le8600) le8605) le8610) le8615))), ⟨_, _, rfl, (kslice (h8601.mono (Snap.le.trans (Snap.le.trans le8605 le8610) le8615))), ⟨_, _, rfl, (kslice (h8606.mono (Snap.le.trans le8610 le8615))), ⟨_, _, rfl, (kslice (h8611.mono le8615)), ⟨_, _, rfl, (kslice h8616), rfl⟩⟩⟩⟩⟩)) (fun a A8619 q8620 w _ hE h8621 hS => ?_))
                refine ⟨show RP [b4669] _ _ from ⟨(hS.heapAt (j := 5) rfl).trans hp_b4669.symm, trivial⟩, ?_⟩
                clear hp_b4669
                have hp_b4669 := hS.heapAt (j := 5) rfl
                obtain ⟨D8623, q8626, le8624, hS, h8627, h8625⟩ := hS.lent h8621
                obtain ⟨r8628, h8629, hf⟩ := bind_some hf
                refine oG 18 524287 (fuel := 1) (by kernel_rfl) (op_call rfl rfl rfl rfl hE rfl rfl rfl rfl (by kernel_rfl) (wire_All.calls (g := g) h8629 (hS.st.fore (L := [])) h8625) (fun a v w hR hE => ?_))
                obtain ⟨D8630, A8632, c8633, q8634, rfl, hS1, h8635⟩ := hR
                have le8637 := hS1.dle
                have hS := hS.callR hS1 rfl (.c .n)
                clear hS1
                refine ⟨show RP [b4669] _ _ from ⟨(hS.heapAt (j := 6) rfl).trans hp_b4669.symm, trivial⟩, ?_⟩
                clear hp_b4669
                refine tW 19 1048575 (fuel := 0) (by kernel_rfl) hE (fun M => tk_pure (.slice A8632 (List.length (r8628)) c8633) hE rfl rfl rfl rfl (fun _ _ _ e => by cases e) (by kernel_rfl) (fun a hE => ?_))
                refine doneG (by kernel_rfl) ?_
                have hS := hS.pk (.c 6 rfl (.c 0 rfl .n)) rfl
                exact ⟨r8628, A8632, c8633, q8634, D8630, hE.weak (by kernel_rfl), hS, (Snap.le.trans (Snap.le.trans (Snap.le.trans (Snap.le.trans (Snap.le.trans (Snap.le.trans (Snap.le.trans (Snap.le.trans (Snap.le.trans (Snap.le.trans le8431 le8513) le8585) le8587) le8598) le8600) le8605) le8610) le8615) le8624) le8637), h8635, hf⟩
              · have hp_b4669 := hS.heapAt (j := 4) rfl
                obtain ⟨r8638, h8639, hf⟩ := bind_some hf
                refine (op_call rfl rfl rfl rfl hE rfl rfl rfl rfl (by kernel_rfl) (bundle_list_api_Sig.calls (g := g) h8639 (hS.st.fore (L := [])) (h4.mono (Snap.le.trans (Snap.le.trans (Snap.le.trans le4680 le8431) le8513) le8585))) (fun a v w hR hE => ?_))
                obtain ⟨D8640, A8642, c8643, q8644, rfl, hS1, h8645⟩ := hR
                have le8647 := hS1.dle
                have hS := hS.callR hS1 rfl (.c .n)
                clear hS1
                refine ⟨show RP [b4669] _ _ from ⟨(hS.heapAt (j := 5) rfl).trans hp_b4669.symm, trivial⟩, ?_⟩
                clear hp_b4669
                have hp_b4669 := hS.heapAt (j := 5) rfl
                have hS := hS.pk (.c 4 rfl (.c 0 rfl (.c 1 rfl (.c 2 rfl (.c 3 rfl (.c 5 rfl .n)))))) rfl
                refine oG 1 131071 (fuel := 3) (by kernel_rfl) (op_lit (T := 5) (l := ([(105 : Int), (110 : Int), (115 : Int), (112 : Int)] : List Int)) rfl rfl rfl rfl hE rfl hS rfl (by kernel_rfl) (h8338.mono (Snap.le.trans (Snap.le.trans (Snap.le.trans le8431 le8513) le8585) le8647)) (by kernel_rfl) (fun a D8648 w _ le8649 hE h8650 hS => ?_))
                refine ⟨show RP [b4669] _ _ from ⟨(hS.heapAt (j := 4) rfl).trans hp_b4669.symm, trivial⟩, ?_⟩
                clear hp_b4669
                have hp_b4669 := hS.heapAt (j := 4) rfl
                have hS := hS.pk (.c 3 rfl (.c 0 rfl (.c 1 rfl (.c 2 rfl (.c 4 rfl .n))))) rfl
                obtain ⟨D8651, q8654, le8652, hS, h8655, h8653⟩ := hS.lent (h8429.mono (Snap.le.trans (Snap.le.trans (Snap.le.trans le8513 le8585) le8647) le8649))
                have hS := hS.pk (.c 3 rfl (.c 0 rfl (.c 1 rfl (.c 2 rfl (.c 4 rfl .n))))) rfl
                obtain ⟨D8656, q8659, le8657, hS, h8660, h8658⟩ := hS.lent (h8511.mono (Snap.le.trans (Snap.le.trans (Snap.le.trans le8585 le8647) le8649) le8652))
                have hS := hS.pk (.c 3 rfl (.c 0 rfl (.c 1 rfl (.c 2 rfl (.c 4 rfl .n))))) rfl
                obtain ⟨D8661, q8664, le8662, hS, h8665, h8663⟩ := hS.lent (h8583.mono (Snap.le.trans (Snap.le.trans (Snap.le.trans le8647 le8649) le8652) le8657))
                have hS := hS.pk (.c 3 rfl (.c 0 rfl (.c 1 rfl (.c 2 rfl (.c 4 rfl .n))))) rfl
                obtain ⟨D8666, q8669, le8667, hS, h8670, h8668⟩ := hS.lent (h8645.mono (Snap.le.trans (Snap.le.trans (Snap.le.trans le8649 le8652) le8657) le8662))
                refine oG 17 262143 (fuel := 2) (by kernel_rfl) (op_buildSlice (K := (kdSlice (kdInt .u8))) (e := 32) (cs := [.slice A8336 (List.length (([(105 : Int), (110 : Int), (115 : Int), (112 : Int)] : List Int))) 4] ++ ([.slice A8426 (List.length (r8422)) c8427] ++ ([.slice A8508 (List.length (r8504)) c8509] ++ ([.slice A8580 (List.length (r8576)) c8581] ++ ([.slice A8642 (List.length (r8638)) c8643] ++ []))))) ([([(105 : Int), (110 : Int), (115 : Int), (112 : Int)] : List Int), r8422, r8504, r8576, r8638] : List (List Int)) rfl rfl rfl rfl hE rfl hS rfl (by kernel_rfl) rfl rfl (by exact (show RL (kdSlice (kdInt .u8)) D8666 ([([(105 : Int), (110 : Int), (115 : Int), (112 : Int)] : List Int), r8422, r8504, r8576, r8638] : List (List Int)) ([.slice A8336 (List.length (([(105 : Int), (110 : Int), (115 : Int), (112 : Int)] : List Int))) 4] ++ ([.slice A8426 (List.length (r8422)) c8427] ++ ([.slice A8508 (List.length (r8504)) c8509] ++ ([.slice A8580 (List.length (r8576)) c8581] ++ ([.slice A8642 (List.length (r8638)) c8643] ++ []))))) from ⟨_, _, rfl, (kslice (h8650.mono (Snap.le.trans (Snap.le.trans (Snap.le.trans le8652 le8657) le8662) le8667))), ⟨_, _, rfl, (kslice (h8653.mono (Snap.le.trans (Snap.le.trans le8657 le8662) le8667))), ⟨_, _, rfl, (kslice (h8658.mono (Snap.le.trans le8662 le8667))), ⟨_, _, rfl, (kslice (h8663.mono le8667)), ⟨_, _, rfl, (kslice h8668), rfl⟩⟩⟩⟩⟩)) (fun a A8671 q8672 w _ hE h8673 hS => ?_))
                refine ⟨show RP [b4669] _ _ from ⟨(hS.heapAt (j := 5) rfl).trans hp_b4669.symm, trivial⟩, ?_⟩
                clear hp_b4669
                have hp_b4669 := hS.heapAt (j := 5) rfl
                obtain ⟨D8675, q8678, le8676, hS, h8679, h8677⟩ := hS.lent h8673
                obtain ⟨r8680, h8681, hf⟩ := bind_some hf
                refine oG 18 524287 (fuel := 1) (by kernel_rfl) (op_call rfl rfl rfl rfl hE rfl rfl rfl rfl (by kernel_rfl) (wire_All.calls (g := g) h8681 (hS.st.fore (L := [])) h8677) (fun a v w hR hE => ?_))
                obtain ⟨D8682, A8684, c8685, q8686, rfl, hS1, h8687⟩ := hR
                have le8689 := hS1.dle
                have hS := hS.callR hS1 rfl (.c .n)
                clear hS1
                refine ⟨show RP [b4669] _ _ from ⟨(hS.heapAt (j := 6) rfl).trans hp_b4669.symm, trivial⟩, ?_⟩
                clear hp_b4669
                refine tW 19 1048575 (fuel := 0) (by kernel_rfl) hE (fun M => tk_pure (.slice A8684 (List.length (r8680)) c8685) hE rfl rfl rfl rfl (fun _ _ _ e => by cases e) (by kernel_rfl) (fun a hE => ?_))
                refine doneG (by kernel_rfl) ?_
                have hS := hS.pk (.c 6 rfl (.c 0 rfl .n)) rfl
                exact ⟨r8680, A8684, c8685, q8686, D8682, hE.weak (by kernel_rfl), hS, (Snap.le.trans (Snap.le.trans (Snap.le.trans (Snap.le.trans (Snap.le.trans (Snap.le.trans (Snap.le.trans (Snap.le.trans (Snap.le.trans (Snap.le.trans le8431 le8513) le8585) le8647) le8649) le8652) le8657) le8662) le8667) le8676) le8689), h8687, hf⟩
      · have hp_b4669 := hS.heapAt (j := 0) rfl
        obtain ⟨r8690, h8691, hf⟩ := bind_some hf
        refine (op_call rfl rfl rfl rfl hE rfl rfl rfl rfl (by kernel_rfl) (wire_Flag.calls (g := g) h8691 (hS.st.fore (L := [])) ) (fun a v w hR hE => ?_))
        obtain ⟨D8692, A8694, c8695, q8696, rfl, hS1, h8697⟩ := hR
        have le8699 := hS1.dle
        have hS := hS.callR hS1 rfl (.c .n)
        clear hS1
        refine ⟨show RP [b4669] _ _ from ⟨(hS.heapAt (j := 1) rfl).trans hp_b4669.symm, trivial⟩, ?_⟩
        clear hp_b4669
        refine twoB (i := 0) (j := 8) (fuel := 7) (m1 := 61181) (m2 := 61436) (by kernel_rfl) (by kernel_rfl) (by kernel_rfl) ?_ ?_
        · have hp_b4669 := hS.heapAt (j := 1) rfl
          refine (op_buildSlice (K := (kdInt .u8)) (e := 5) (cs := [.int .u8 ((105 : Int))] ++ ([.int .u8 ((110 : Int))] ++ ([.int .u8 ((115 : Int))] ++ ([.int .u8 ((112 : Int))] ++ [])))) ([(105 : Int), (110 : Int), (115 : Int), (112 : Int)] : List Int) rfl rfl rfl rfl hE rfl hS rfl (by kernel_rfl) rfl rfl (by exact (show RL (kdInt .u8) D8692 ([(105 : Int), (110 : Int), (115 : Int), (112 : Int)] : List Int) ([.int .u8 ((105 : Int))] ++ ([.int .u8 ((110 : Int))] ++ ([.int .u8 ((115 : Int))] ++ ([.int .u8 ((112 : Int))] ++ [])))) from ⟨_, _, rfl, rfl, ⟨_, _, rfl, rfl, ⟨_, _, rfl, rfl, ⟨_, _, rfl, rfl, rfl⟩⟩⟩⟩)) (fun a A8700 q8701 w _ hE h8702 hS => ?_))
          refine ⟨show RP [b4669] _ _ from ⟨(hS.heapAt (j := 2) rfl).trans hp_b4669.symm, trivial⟩, ?_⟩
          clear hp_b4669
          refine twoB (i := 1) (j := 8) (fuel := 6) (m1 := 61183) (m2 := 61437) (by kernel_rfl) (by kernel_rfl) (by kernel_rfl) ?_ ?_
          · have hp_b4669 := hS.heapAt (j := 2) rfl
            refine (op_lit (T := 5) (l := ([(105 : Int), (110 : Int), (115 : Int), (112 : Int)] : List Int)) rfl rfl rfl rfl hE rfl hS rfl (by kernel_rfl) h8702 (by kernel_rfl) (fun a D8704 w _ le8705 hE h8706 hS => ?_))
            refine ⟨show RP [b4669] _ _ from ⟨(hS.heapAt (j := 1) rfl).trans hp_b4669.symm, trivial⟩, ?_⟩
            clear hp_b4669
            have hp_b4669 := hS.heapAt (j := 1) rfl
            obtain ⟨r8707, h8708, hf⟩ := bind_some hf
            refine oG 8 61439 (fuel := 5) (by kernel_rfl) (op_call rfl rfl rfl rfl hE rfl rfl rfl rfl (by kernel_rfl) (wire_Num.calls (g := g) h8708 (hS.st.fore (L := [])) ) (fun a v w hR hE => ?_))
            obtain ⟨D8709, A8711, c8712, q8713, rfl, hS1, h8714⟩ := hR
            have le8716 := hS1.dle
            have hS := hS.callR hS1 rfl (.c .n)
            clear hS1
            refine ⟨show RP [b4669] _ _ from ⟨(hS.heapAt (j := 2) rfl).trans hp_b4669.symm, trivial⟩, ?_⟩
            clear hp_b4669
            have hp_b4669 := hS.heapAt (j := 2) rfl
            obtain ⟨r8717, h8718, hf⟩ := bind_some hf
            refine oG 12 65535 (fuel := 4) (by kernel_rfl) (op_call rfl rfl rfl rfl hE rfl rfl rfl rfl (by kernel_rfl) (wire_Hash.calls (g := g) h8718 (hS.st.fore (L := [])) ) (fun a v w hR hE => ?_))
            obtain ⟨D8719, A8721, c8722, q8723, rfl, hS1, h8724⟩ := hR
            have le8726 := hS1.dle
            have hS := hS.callR hS1 rfl (.c .n)
            clear hS1
            refine ⟨show RP [b4669] _ _ from ⟨(hS.heapAt (j := 3) rfl).trans hp_b4669.symm, trivial⟩, ?_⟩
            clear hp_b4669
            have hp_b4669 := hS.heapAt (j := 3) rfl
            obtain ⟨r8727, h8728, hf⟩ := bind_some hf
            refine oG 16 131071 (fuel := 3) (by kernel_rfl) (op_call rfl rfl rfl rfl hE rfl rfl rfl rfl (by kernel_rfl) (bundle_list_api_Sig.calls (g := g) h8728 (hS.st.fore (L := [])) (h4.mono (Snap.le.trans (Snap.le.trans (Snap.le.trans (Snap.le.trans le4680 le8699) le8705) le8716) le8726))) (fun a v w hR hE => ?_))
            obtain ⟨D8729, A8731, c8732, q8733, rfl, hS1, h8734⟩ := hR
            have le8736 := hS1.dle
            have hS := hS.callR hS1 rfl (.c .n)
            clear hS1
            refine ⟨show RP [b4669] _ _ from ⟨(hS.heapAt (j := 4) rfl).trans hp_b4669.symm, trivial⟩, ?_⟩
            clear hp_b4669
            have hp_b4669 := hS.heapAt (j := 4) rfl
            have hS := hS.pk (.c 3 rfl (.c 0 rfl (.c 1 rfl (.c 2 rfl (.c 4 rfl .n))))) rfl
            obtain ⟨D8737, q8740, le8738, hS, h8741, h8739⟩ := hS.lent (h8697.mono (Snap.le.trans (Snap.le.trans (Snap.le.trans le8705 le8716) le8726) le8736))
            have hS := hS.pk (.c 3 rfl (.c 0 rfl (.c 1 rfl (.c 2 rfl (.c 4 rfl .n))))) rfl
            obtain ⟨D8742, q8745, le8743, hS, h8746, h8744⟩ := hS.lent (h8714.mono (Snap.le.trans (Snap.le.trans le8726 le8736) le8738))
            have hS := hS.pk (.c 3 rfl (.c 0 rfl (.c 1 rfl (.c 2 rfl (.c 4 rfl .n))))) rfl
            obtain ⟨D8747, q8750, le8748, hS, h8751, h8749⟩ := hS.lent (h8724.mono (Snap.le.trans (Snap.le.trans le8736 le8738) le8743))
            have hS := hS.pk (.c 3 rfl (.c 0 rfl (.c 1 rfl (.c 2 rfl (.c 4 rfl .n))))) rfl
            obtain ⟨D8752, q8755, le8753, hS, h8756, h8754⟩ := hS.lent (h8734.mono (Snap.le.trans (Snap.le.trans le8738 le8743) le8748))
            refine oG 17 262143 (fuel := 2) (by kernel_rfl) (op_buildSlice (K := (kdSlice (kdInt .u8))) (e := 32) (cs := [.slice A8700 (List.length (([(105 : Int), (110 : Int), (115 : Int), (112 : Int)] : List Int))) 4] ++ ([.slice A8694 (List.length (r8690)) c8695] ++ ([.slice A8711 (List.length (r8707)) c8712] ++ ([.slice A8721 (List.length (r8717)) c8722] ++ ([.slice A8731 (List.length (r8727)) c8732] ++ []))))) ([([(105 : Int), (110 : Int), (115 : Int), (112 : Int)] : List Int), r8690, r8707, r8717, r8727] : List (List Int)) rfl rfl rfl rfl hE rfl hS rfl (by kernel_rfl) rfl rfl (by exact (show RL (kdSlice (kdInt .u8)) D8752 ([([(105 : Int), (110 : Int), (115 : Int), (112 : Int)] : List Int), r8690, r8707, r8717, r8727] : List (List Int)) ([.slice A8700 (List.length (([(105 : Int), (110 : Int), (115 : Int), (112 : Int)] : List Int))) 4] ++ ([.slice A8694 (List.length (r8690)) c8695] ++ ([.slice A8711 (List.length (r8707)) c8712] ++ ([.slice A8721 (List.length (r8717)) c8722] ++ ([.slice A8731 (List.length (r8727)) c8732] ++ []))))) from ⟨_, _, rfl, (kslice (h8706.mono (Snap.le.trans (Snap.le.trans (Snap.le.trans (Snap.le.trans (Snap.le.trans (Snap.le.trans le8716 le8726) le8736) le8738) le8743) le8748) le8753))), ⟨_, _, rfl, (kslice (h8739.mono (Snap.le.trans (Snap.le.trans le8743 le8748) le8753))), ⟨_, _, rfl, (kslice (h8744.mono (Snap.le.trans le8748 le8753))), ⟨_, _, rfl, (kslice (h8749.mono le8753)), ⟨_, _, rfl, (kslice h8754), rfl⟩⟩⟩⟩⟩)) (fun a A8757 q8758 w _ hE h8759 hS => ?_))
            refine ⟨show RP [b4669] _ _ from ⟨(hS.heapAt (j := 5) rfl).trans hp_b4669.symm, trivial⟩, ?_⟩
            clear hp_b4669
            have hp_b4669 := hS.heapAt (j := 5) rfl
            obtain ⟨D8761, q8764, le8762, hS, h8765, h8763⟩ := hS.lent h8759
            obtain ⟨r8766, h8767, hf⟩ := bind_some hf
            refine oG 18 524287 (fuel := 1) (by kernel_rfl) (op_call rfl rfl rfl rfl hE rfl rfl rfl rfl (by kernel_rfl) (wire_All.calls (g := g) h8767 (hS.st.fore (L := [])) h8763) (fun a v w hR hE => ?_))
            obtain ⟨D8768, A8770, c8771, q8772, rfl, hS1, h8773⟩ := hR
            have le8775 := hS1.dle
            have hS := hS.callR hS1 rfl (.c .n)
            clear hS1
            refine ⟨show RP [b4669] _ _ from ⟨(hS.heapAt (j := 6) rfl).trans hp_b4669.symm, trivial⟩, ?_⟩
            clear hp_b4669
            refine tW 19 1048575 (fuel := 0) (by kernel_rfl) hE (fun M => tk_pure (.slice A8770 (List.length (r8766)) c8771) hE rfl rfl rfl rfl (fun _ _ _ e => by cases e) (by kernel_rfl) (fun a hE => ?_))
            refine doneG (by kernel_rfl) ?_
            have hS := hS.pk (.c 6 rfl (.c 0 rfl .n)) rfl
            exact ⟨r8766, A8770, c8771, q8772, D8768, hE.weak (by kernel_rfl), hS, (Snap.le.trans (Snap.le.trans (Snap.le.trans (Snap.le.trans (Snap.le.trans (Snap.le.trans (Snap.le.trans (Snap.le.trans (Snap.le.trans (Snap.le.trans le8699 le8705) le8716) le8726) le8736) le8738) le8743) le8748) le8753) le8762) le8775), h8773, hf⟩
          · have hp_b4669 := hS.heapAt (j := 2) rfl
            obtain ⟨r8776, h8777, hf⟩ := bind_some hf
            refine (op_call rfl rfl rfl rfl hE rfl rfl rfl rfl (by kernel_rfl) (wire_Num.calls (g := g) h8777 (hS.st.fore (L := [])) ) (fun a v w hR hE => ?_))
            obtain ⟨D8778, A8780, c8781, q8782, rfl, hS1, h8783⟩ := hR
            have le8785 := hS1.dle
            have hS := hS.callR hS1 rfl (.c .n)
            clear hS1
            refine ⟨show RP [b4669] _ _ from ⟨(hS.heapAt (j := 3) rfl).trans hp_b4669.symm, trivial⟩, ?_⟩
            clear hp_b4669
            refine twoB (i := 1) (j := 12) (fuel := 5) (m1 := 61439) (m2 := 65533) (by kernel_rfl) (by kernel_rfl) (by kernel_rfl) ?_ ?_
            · have hp_b4669 := hS.heapAt (j := 3) rfl
              have hS := hS.pk (.c 1 rfl (.c 0 rfl (.c 2 rfl (.c 3 rfl .n)))) rfl
              refine (op_lit (T := 5) (l := ([(105 : Int), (110 : Int), (115 : Int), (112 : Int)] : List Int)) rfl rfl rfl rfl hE rfl hS rfl (by kernel_rfl) (h8702.mono le8785) (by kernel_rfl) (fun a D8786 w _ le8787 hE h8788 hS => ?_))
              refine ⟨show RP [b4669] _ _ from ⟨(hS.heapAt (j := 2) rfl).trans hp_b4669.symm, trivial⟩, ?_⟩
              clear hp_b4669
              have hp_b4669 := hS.heapAt (j := 2) rfl
              obtain ⟨r8789, h8790, hf⟩ := bind_some hf
              refine oG 12 65535 (fuel := 4) (by kernel_rfl) (op_call rfl rfl rfl rfl hE rfl rfl rfl rfl (by kernel_rfl) (wire_Hash.calls (g := g) h8790 (hS.st.fore (L := [])) ) (fun a v w hR hE => ?_))
              obtain ⟨D8791, A8793, c8794, q8795, rfl, hS1, h8796⟩ := hR
              have le8798 := hS1.dle
              have hS := hS.callR hS1 rfl (.c .n)
              clear hS1
              refine ⟨show RP [b4669] _ _ from ⟨(hS.heapAt (j := 3) rfl).trans hp_b4669.symm, trivial⟩, ?_⟩
              clear hp_b4669
              have hp_b4669 := hS.heapAt (j := 3) rfl
              obtain ⟨r8799, h8800, hf⟩ := bind_some hf
              refine oG 16 131071 (fuel := 3) (by kernel_rfl) (op_call rfl rfl rfl rfl hE rfl rfl rfl rfl (by kernel_rfl) (bundle_list_api_Sig.calls (g := g) h8800 (hS.st.fore (L := [])) (h4.mono (Snap.le.trans (Snap.le.trans (Snap.le.trans (Snap.le.trans le4680 le8699) le8785) le8787) le8798))) (fun a v w hR hE => ?_))
              obtain ⟨D8801, A8803, c8804, q8805, rfl, hS1, h8806⟩ := hR
              have le8808 := hS1.dle
              have hS := hS.callR hS1 rfl (.c .n)
              clear hS1
              refine ⟨show RP [b4669] _ _ from ⟨(hS.heapAt (j := 4) rfl).trans hp_b4669.symm, trivial⟩, ?_⟩
              clear hp_b4669
              have hp_b4669 := hS.heapAt (j := 4) rfl
              have hS := hS.pk (.c 3 rfl (.c 0 rfl (.c 1 rfl (.c 2 rfl (.c 4 rfl .n))))) rfl
              obtain ⟨D8809, q8812, le8810, hS, h8813, h8811⟩ := hS.lent (h8697.mono (Snap.le.trans (Snap.le.trans (Snap.le.trans le8785 le8787) le8798) le8808))
              have hS := hS.pk (.c 3 rfl (.c 0 rfl (.c 1 rfl (.c 2 rfl (.c 4 rfl .n))))) rfl
              obtain ⟨D8814, q8817, le8815, hS, h8818, h8816⟩ := hS.lent (h8783.mono (Snap.le.trans (Snap.le.trans (Snap.le.trans le8787 le8798) le8808) le8810))
              have hS := hS.pk (.c 3 rfl (.c 0 rfl (.c 1 rfl (.c 2 rfl (.c 4 rfl .n))))) rfl
              obtain ⟨D8819, q8822, le8820, hS, h8823, h8821⟩ := hS.lent (h8796.mono (Snap.le.trans (Snap.le.trans le8808 le8810) le8815))
              have hS := hS.pk (.c 3 rfl (.c 0 rfl (.c 1 rfl (.c 2 rfl (.c 4 rfl .n))))) rfl
              obtain ⟨D8824, q8827, le8825, hS, h8828, h8826⟩ := hS.lent (h8806.mono (Snap.le.trans (Snap.le.trans le8810 le8815) le8820))
              refine oG 17 262143 (fuel := 2) (by kernel_rfl) (op_buildSlice (K := (kdSlice (kdInt .u8))) (e := 32) (cs := [.slice A8700 (List.length (([(105 : Int), (110 : Int), (115 : Int), (112 : Int)] : List Int))) 4] ++ ([.slice A8694 (List.length (r8690)) c8695] ++ ([.slice A8780 (List.length (r8776)) c8781] ++ ([.slice A8793 (List.length (r8789)) c8794] ++ ([.slice A8803 (List.length (r8799)) c8804] ++ []))))) ([([(105 : Int), (110 : Int), (115 : Int), (112 : Int)] : List Int), r8690, r8776, r8789, r8799] : List (List Int)) rfl rfl rfl rfl hE rfl hS rfl (by kernel_rfl) rfl rfl (by exact (show RL (kdSlice (kdInt .u8)) D8824 ([([(105 : Int), (110 : Int), (115 : Int), (112 : Int)] : List Int), r8690, r8776, r8789, r8799] : List (List Int)) ([.slice A8700 (List.length (([(105 : Int), (110 : Int), (115 : Int), (112 : Int)] : List Int))) 4] ++ ([.slice A8694 (List.length (r8690)) c8695] ++ ([.slice A8780 (List.length (r8776)) c8781] ++ ([.slice A8793 (List.length (r8789)) c8794] ++ ([.slice A8803 (List.length (r8799)) c8804] ++ []))))) from ⟨_, _, rfl, (kslice (h8788.mono (Snap.le.trans (Snap.le.trans (Snap.le.trans (Snap.le.trans (Snap.le.trans le8798 le8808) le8810) le8815) le8820) le8825))), ⟨_, _, rfl, (kslice (h8811.mono (Snap.le.trans (Snap.le.trans le8815 le8820) le8825))), ⟨_, _, rfl, (kslice (h8816.mono (Snap.le.trans le8820 le8825))), ⟨_, _, rfl, (kslice (h8821.mono le8825)), ⟨_, _, rfl, (kslice h8826), rfl⟩⟩⟩⟩⟩)) (fun a A8829 q8830 w _ hE h8831 hS => ?_))
              refine ⟨show RP [b4669] _ _ from ⟨(hS.heapAt (j := 5) rfl).trans hp_b4669.symm, trivial⟩, ?_⟩
              clear hp_b4669
              have hp_b4669 := hS.heapAt (j := 5) rfl
              obtain ⟨D8833, q8836, le8834, hS, h8837, h8835⟩ := hS.lent h8831
              obtain ⟨r8838, h8839, hf⟩ := bind_some hf
              refine oG 18 524287 (fuel := 1) (by kernel_rfl) (op_call rfl rfl rfl rfl hE rfl rfl rfl rfl (by kernel_rfl) (wire_All.calls (g := g) h8839 (hS.st.fore (L := [])) h8835) (fun a v w hR hE => ?_))
              obtain ⟨D8840, A8842, c8843, q8844, rfl, hS1, h8845⟩ := hR
              have le8847 := hS1.dle
              have hS := hS.callR hS1 rfl (.c .n)
              clear hS1
              refine ⟨show RP [b4669] _ _ from ⟨(hS.heapAt (j := 6) rfl).trans hp_b4669.symm, trivial⟩, ?_⟩
              clear hp_b4669
              refine tW 19 1048575 (fuel := 0) (by kernel_rfl) hE (fun M => tk_pure (.slice A8842 (List.length (r8838)) c8843) hE rfl rfl rfl rfl (fun _ _ _ e => by cases e) (by kernel_rfl) (fun a hE => ?_))
              refine doneG (by kernel_rfl) ?_
              have hS := hS.pk (.c 6 rfl (.c 0 rfl .n)) rfl
              exact ⟨r8838, A8842, c8843, q8844, D8840, hE.weak (by kernel_rfl), hS, (Snap.le.trans (Snap.le.trans (Snap.le.trans (Snap.le.trans (Snap.le.trans (Snap.le.trans (Snap.le.trans (Snap.le.trans (Snap.le.trans (Snap.le.trans le8699 le8785) le8787) le8798) le8808) le8810) le8815) le8820) le8825) le8834) le8847), h8845, hf⟩
            · have hp_b4669 := hS.heapAt (j := 3) rfl
              obtain ⟨r8848, h8849, hf⟩ := bind_some hf
              refine (op_call rfl rfl rfl rfl hE rfl rfl rfl rfl (by kernel_rfl) (wire_Hash.calls (g := g) h8849 (hS.st.fore (L := [])) ) (fun a v w hR hE => ?_))
              obtain ⟨D8850, A8852, c8853, q8854, rfl, hS1, h8855⟩ := hR
              have le8857 := hS1.dle
              have hS := hS.callR hS1 rfl (.c .n)
              clear hS1
              refine ⟨show RP [b4669] _ _ from ⟨(hS.heapAt (j := 4) rfl).trans hp_b4669.symm, trivial⟩, ?_⟩
              clear hp_b4669
              refine twoB (i := 1) (j := 16) (fuel := 4) (m1 := 65535) (m2 := 131069) (by kernel_rfl) (by kernel_rfl) (by kernel_rfl) ?_ ?_
              · have hp_b4669 := hS.heapAt (j := 4) rfl
                have hS := hS.pk (.c 2 rfl (.c 0 rfl (.c 1 rfl (.c 3 rfl (.c 4 rfl .n))))) rfl
                refine (op_lit (T := 5) (l := ([(105 : Int), (110 : Int), (115 : Int), (112 : Int)] : List Int)) rfl rfl rfl rfl hE rfl hS rfl (by kernel_rfl) (h8702.mono (Snap.le.trans le8785 le8857)) (by kernel_rfl) (fun a D8858 w _ le8859 hE h8860 hS => ?_))
                refine ⟨show RP [b4669] _ _ from ⟨(hS.heapAt (j := 3) rfl).trans hp_b4669.symm, trivial⟩, ?_⟩
                clear hp_b4669
                have hp_b4669 := hS.heapAt (j := 3) rfl
                obtain ⟨r8861, h8862, hf⟩ := bind_some hf
                refine oG 16 131071 (fuel := 3) (by kernel_rfl) (op_call rfl rfl rfl rfl hE rfl rfl rfl rfl (by kernel_rfl) (bundle_list_api_Sig.calls (g := g) h8862 (hS.st.fore (L := [])) (h4.mono (Snap.le.trans (Snap.le.trans (Snap.le.trans (Snap.le.trans le4680 le8699) le8785) le8857) le8859))) (fun a v w hR hE => ?_))
                obtain ⟨D8863, A8865, c8866, q8867, rfl, hS1, h8868⟩ := hR
                have le8870 := hS1.dle
                have hS := hS.callR hS1 rfl (.c .n)
                clear hS1
                refine ⟨show RP [b4669] _ _ from ⟨(hS.heapAt (j := 4) rfl).trans hp_b4669.symm, trivial⟩, ?_⟩
                clear hp_b4669
                have hp_b4669 := hS.heapAt (j := 4) rfl
                have hS := hS.pk (.c 3 rfl (.c 0 rfl (.c 1 rfl (.c 2 rfl (.c 4 rfl .n))))) rfl
                obtain ⟨D8871, q8874, le8872, hS, h8875, h8873⟩ := hS.lent (h8697.mono (Snap.le.trans (Snap.le.trans (Snap.le.trans le8785 le8857) le8859) le8870))
                have hS := hS.pk (.c 3 rfl (.c 0 rfl (.c 1 rfl (.c 2 rfl (.c 4 rfl .n))))) rfl
                obtain ⟨D8876, q8879, le8877, hS, h8880, h8878⟩ := hS.lent (h8783.mono (Snap.le.trans (Snap.le.trans (Snap.le.trans le8857 le8859) le8870) le8872))
                have hS := hS.pk (.c 3 rfl (.c 0 rfl (.c 1 rfl (.c 2 rfl (.c 4 rfl .n))))) rfl
                obtain ⟨D8881, q8884, le8882, hS, h8885, h8883⟩ := hS.lent (h8855.mono (Snap.le.trans (Snap.le.trans (Snap.le.trans le8859 le8870) le8872) le8877))
                have hS := hS.pk (.c 3 rfl (.c 0 rfl (.c 1 rfl (.c 2 rfl (.c 4 rfl .n))))) rfl
                obtain ⟨D8886, q8889, le8887, hS, h8890, h8888⟩ := hS.lent (h8868.mono (Snap.le.trans (Snap.le.trans le8872 le8877) le8882))
                refine oG 17 262143 (fuel := 2) (by kernel_rfl) (op_buildSlice (K := (kdSlice (kdInt .u8))) (e := 32) (cs := [.slice A8700 (List.length (([(105 : Int), (110 : Int), (115 : Int), (112 : Int)] : List Int))) 4] ++ ([.slice A8694 (List.length (r8690)) c8695] ++ ([.slice A8780 (List.length (r8776)) c8781] ++ ([.slice A8852 (List.length (r8848)) c8853] ++ ([.slice A8865 (List.length (r8861)) c8866] ++ []))))) ([([(105 : Int), (110 : Int), (115 : Int), (112 : Int)] : List Int), r8690, r8776, r8848, r8861] : List (List Int)) rfl rfl rfl rfl hE rfl hS rfl (by kernel_rfl) rfl rfl (by exact (show RL (kdSlice (kdInt .u8)) D8886 ([([(105 : Int), (110 : Int), (115 : Int), (112 : Int)] : List Int), r8690, r8776, r8848, r8861] : List (List Int)) ([.slice A8700 (List.length (([(105 : Int), (110 : Int), (115 : Int), (112 : Int)] : List Int))) 4] ++ ([.slice A8694 (List.length (r8690)) c8695] ++ ([.slice A8780 (List.length (r8776)) c8781] ++ ([.slice A8852 (List.length (r8848)) c8853] ++ ([.slice A8865 (List.length (r8861)) c8866] ++ []))))) from ⟨_, _, rfl, (kslice (h8860.mono (Snap.le.trans (Snap.le.trans (Snap.le.trans (Snap.le.trans le8870 le8872) le8877) le8882) le8887))), ⟨_, _, rfl, (kslice (h8873.mono (Snap.le.trans (Snap.le.trans le8877 le8882) le8887))), ⟨_, _, rfl, (kslice (h8878.mono (Snap.le.trans le8882 le8887))), ⟨_, _, rfl, (kslice (h8883.mono le8887)), ⟨_, _, rfl, (kslice h8888), rfl⟩⟩⟩⟩⟩)) (fun a A8891 q8892 w _ hE h8893 hS => ?_))
                refine ⟨show RP [b4669] _ _ from ⟨(hS.heapAt (j := 5) rfl).trans hp_b4669.symm, trivial⟩, ?_⟩
                clear hp_b4669
                have hp_b4669 := hS.heapAt (j := 5) rfl
                obtain ⟨D8895, q8898, le8896, hS, h8899, h8897⟩ := hS.lent h8893
                obtain ⟨r8900, h8901, hf⟩ := bind_some hf
                refine oG 18 524287 (fuel := 1) (by kernel_rfl) (op_call rfl rfl rfl rfl hE rfl rfl rfl rfl (by kernel_rfl) (wire_All.calls (g := g) h8901 (hS.st.fore (L := [])) h8897) (fun a v w hR hE => ?_))
                obtain ⟨D8902, A8904, c8905, q8906, rfl, hS1, h8907⟩ := hR
                have le8909 := hS1.dle
                have hS := hS.callR hS1 rfl (.c .n)
                clear hS1
                refine ⟨show RP [b4669] _ _ from ⟨(hS.heapAt (j := 6) rfl).trans hp_b4669.symm, trivial⟩, ?_⟩
                clear hp_b4669
                refine tW 19 1048575 (fuel := 0) (by kernel_rfl) hE (fun M => tk_pure (.slice A8904 (List.length (r8900)) c8905) hE rfl rfl rfl rfl (fun _ _ _ e => by cases e) (by kernel_rfl) (fun a hE => ?_))
                refine doneG (by kernel_rfl) ?_
                have hS := hS.pk (.c 6 rfl (.c 0 rfl .n)) rfl
                exact ⟨r8900, A8904, c8905, q8906, D8902, hE.weak (by kernel_rfl), hS, (Snap.le.trans (Snap.le.trans (Snap.le.trans (Snap.le.trans (Snap.le.trans (Snap.le.trans (Snap.le.trans (Snap.le.trans (Snap.le.trans (Snap.le.trans le8699 le8785) le8857) le8859) le8870) le8872) le8877) le8882) le8887) le8896) le8909), h8907, hf⟩
              · have hp_b4669 := hS.heapAt (j := 4) rfl
                obtain ⟨r8910, h8911, hf⟩ := bind_some hf
                refine (op_call rfl rfl rfl rfl hE rfl rfl rfl rfl (by kernel_rfl) (bundle_list_api_Sig.calls (g := g) h8911 (hS.st.fore (L := [])) (h4.mono (Snap.le.trans (Snap.le.trans (Snap.le.trans le4680 le8699) le8785) le8857))) (fun a v w hR hE => ?_))
                obtain ⟨D8912, A8914, c8915, q8916, rfl, hS1, h8917⟩ := hR
                have le8919 := hS1.dle
                have hS := hS.callR hS1 rfl (.c .n)
                clear hS1
                refine ⟨show RP [b4669] _ _ from ⟨(hS.heapAt (j := 5) rfl).trans hp_b4669.symm, trivial⟩, ?_⟩
                clear hp_b4669
                have hp_b4669 := hS.heapAt (j := 5) rfl
                have hS := hS.pk (.c 3 rfl (.c 0 rfl (.c 1 rfl (.c 2 rfl (.c 4 rfl (.c 5 rfl .n)))))) rfl
                refine oG 1 131071 (fuel := 3) (by kernel_rfl) (op_lit (T := 5) (l := ([(105 : Int), (110 : Int), (115 : Int), (112 : Int)] : List Int)) rfl rfl rfl rfl hE rfl hS rfl (by kernel_rfl) (h8702.mono (Snap.le.trans (Snap.le.trans le8785 le8857) le8919)) (by kernel_rfl) (fun a D8920 w _ le8921 hE h8922 hS => ?_))
                refine ⟨show RP [b4669] _ _ from ⟨(hS.heapAt (j := 4) rfl).trans hp_b4669.symm, trivial⟩, ?_⟩
                clear hp_b4669
                have hp_b4669 := hS.heapAt (j := 4) rfl
                have hS := hS.pk (.c 3 rfl (.c 0 rfl (.c 1 rfl (.c 2 rfl (.c 4 rfl .n))))) rfl
                obtain ⟨D8923, q8926, le8924, hS, h8927, h8925⟩ := hS.lent (h8697.mono (Snap.le.trans (Snap.le.trans (Snap.le.trans le8785 le8857) le8919) le8921))
                have hS := hS.pk (.c 3 rfl (.c 0 rfl (.c 1 rfl (.c 2 rfl (.c 4 rfl .n))))) rfl
                obtain ⟨D8928, q8931, le8929, hS, h8932, h8930⟩ := hS.lent (h8783.mono (Snap.le.trans (Snap.le.trans (Snap.le.trans le8857 le8919) le8921) le8924))
                have hS := hS.pk (.c 3 rfl (.c 0 rfl (.c 1 rfl (.c 2 rfl (.c 4 rfl .n))))) rfl
                obtain ⟨D8933, q8936, le8934, hS, h8937, h8935⟩ := hS.lent (h8855.mono (Snap.le.trans (Snap.le.trans (Snap.le.trans le8919 le8921) le8924) le8929))
                have hS := hS.pk (.c 3 rfl (.c 0 rfl (.c 1 rfl (.c 2 rfl (.c 4 rfl .n))))) rfl
                obtain ⟨D8938, q8941, le8939, hS, h8942, h8940⟩ := hS.lent (h8917.mono (Snap.le.trans (Snap.le.trans (Snap.le.trans le8921 le8924) le8929) le8934))
                refine oG 17 262143 (fuel := 2) (by kernel_rfl) (op_buildSlice (K := (kdSlice (kdInt .u8))) (e := 32) (cs := [.slice A8700 (List.length (([(105 : Int), (110 : Int), (115 : Int), (112 : Int)] : List Int))) 4] ++ ([.slice A8694 (List.length (r8690)) c8695] ++ ([.slice A8780 (List.length (r8776)) c8781] ++ ([.slice A8852 (List.length (r8848)) c8853] ++ ([.slice A8914 (List.length (r8910)) c8915] ++ []))))) ([([(105 : Int), (110 : Int), (115 : Int), (112 : Int)] : List Int), r8690, r8776, r8848, r8910] : List (List Int)) rfl rfl rfl rfl hE rfl hS rfl (by kernel_rfl) rfl rfl (by exact (show RL (kdSlice (kdInt .u8)) D8938 ([([(105 : Int), (110 : Int), (115 : Int), (112 : Int)] : List Int), r8690, r8776, r8848, r8910] : List (List Int)) ([.slice A8700 (List.length (([(105 : Int), (110 : Int), (115 : Int), (112 : Int)] : List Int))) 4] ++ ([.slice A8694 (List.length (r8690)) c8695] ++ ([.slice A8780 (List.length (r8776)) c8781] ++ ([.slice A8852 (List.length (r8848)) c8853] ++ ([.slice A8914 (List.length (r8910)) c8915] ++ []))))) from ⟨_, _, rfl, (kslice (h8922.mono (Snap.le.trans (Snap.le.trans (Snap.le.trans le8924 le8929) le8934) le8939))), ⟨_, _, rfl, (kslice (h8925.mono (Snap.le.trans (Snap.le.trans le8929 le8934) le8939))), ⟨_, _, rfl, (kslice (h8930.mono (Snap.le.trans le8934 le8939))), ⟨_, _, rfl, (kslice (h8935.mono le8939)), ⟨_, _, rfl, (kslice h8940), rfl⟩⟩⟩⟩⟩)) (fun a A8943 q8944 w _ hE h8945 hS => ?_))
                refine ⟨show RP [b4669] _ _ from ⟨(hS.heapAt (j := 5) rfl).trans hp_b4669.symm, trivial⟩, ?_⟩
                clear hp_b4669
                have hp_b4669 := hS.heapAt (j := 5) rfl
                obtain ⟨D8947, q8950, le8948, hS, h8951, h8949⟩ := hS.lent h8945
                obtain ⟨r8952, h8953, hf⟩ := bind_some hf
                refine oG 18 524287 (fuel := 1) (by kernel_rfl) (op_call rfl rfl rfl rfl hE rfl rfl rfl rfl (by kernel_rfl) (wire_All.calls (g := g) h8953 (hS.st.fore (L := [])) h8949) (fun a v w hR hE => ?_))
                obtain ⟨D8954, A8956, c8957, q8958, rfl, hS1, h8959⟩ := hR
                have le8961 := hS1.dle
                have hS := hS.callR hS1 rfl (.c .n)
                clear hS1
                refine ⟨show RP [b4669] _ _ from ⟨(hS.heapAt (j := 6) rfl).trans hp_b4669.symm, trivial⟩, ?_⟩
                clear hp_b4669
                refine tW 19 1048575 (fuel := 0) (by kernel_rfl) hE (fun M => tk_pure (.slice A8956 (List.length (r8952)) c8957) hE rfl rfl rfl rfl (fun _ _ _ e => by cases e) (by kernel_rfl) (fun a hE => ?_))
                refine doneG (by kernel_rfl) ?_
                have hS := hS.pk (.c 6 rfl (.c 0 rfl .n)) rfl
                exact ⟨r8952, A8956, c8957, q8958, D8954, hE.weak (by kernel_rfl), hS, (Snap.le.trans (Snap.le.trans (Snap.le.trans (Snap.le.trans (Snap.le.trans (Snap.le.trans (Snap.le.trans (Snap.le.trans (Snap.le.trans (Snap.le.trans le8699 le8785) le8857) le8919) le8921) le8924) le8929) le8934) le8939) le8948) le8961), h8959, hf⟩
        · have hp_b4669 := hS.heapAt (j := 1) rfl
          obtain ⟨r8962, h8963, hf⟩ := bind_some hf
          refine (op_call rfl rfl rfl rfl hE rfl rfl rfl rfl (by kernel_rfl) (wire_Num.calls (g := g) h8963 (hS.st.fore (L := [])) ) (fun a v w hR hE => ?_))
          obtain ⟨D8964, A8966, c8967, q8968, rfl, hS1, h8969⟩ := hR
          have le8971 := hS1.dle
          have hS := hS.callR hS1 rfl (.c .n)
          clear hS1
          refine ⟨show RP [b4669] _ _ from ⟨(hS.heapAt (j := 2) rfl).trans hp_b4669.symm, trivial⟩, ?_⟩
          clear hp_b4669
          refine twoB (i := 0) (j := 12) (fuel := 6) (m1 := 61437) (m2 := 65532) (by kernel_rfl) (by kernel_rfl) (by kernel_rfl) ?_ ?_
          · have hp_b4669 := hS.heapAt (j := 2) rfl
            refine (op_buildSlice (K := (kdInt .u8)) (e := 5) (cs := [.int .u8 ((105 : Int))] ++ ([.int .u8 ((110 : Int))] ++ ([.int .u8 ((115 : Int))] ++ ([.int .u8 ((112 : Int))] ++ [])))) ([(105 : Int), (110 : Int), (115 : Int), (112 : Int)] : List Int) rfl rfl rfl rfl hE rfl hS rfl (by kernel_rfl) rfl rfl (by exact (show RL (kdInt .u8) D8964 ([(105 : Int), (110 : Int), (115 : Int), (112 : Int)] : List Int) ([.int .u8 ((105 : Int))] ++ ([.int .u8 ((110 : Int))] ++ ([.int .u8 ((115 : Int))] ++ ([.int .u8 ((112 : Int))] ++ [])))) from ⟨_, _, rfl, rfl, ⟨_, _, rfl, rfl, ⟨_, _, rfl, rfl, ⟨_, _, rfl, rfl, rfl⟩⟩⟩⟩)) (fun a A8972 q8973 w _ hE h8974 hS => ?_))
            refine ⟨show RP [b4669] _ _ from ⟨(hS.heapAt (j := 3) rfl).trans hp_b4669.symm, trivial⟩, ?_⟩
            clear hp_b4669
            refine twoB (i := 1) (j := 12) (fuel := 5) (m1 := 61439) (m2 := 65533) (by kernel_rfl) (by kernel_rfl) (by kernel_rfl) ?_ ?_
            · have hp_b4669 := hS.heapAt (j := 3) rfl
              refine (op_lit (T := 5) (l := ([(105 : Int), (110 : Int), (115 : Int), (112 : Int)] : List Int)) rfl rfl rfl rfl hE rfl hS rfl (by kernel_rfl) h8974 (by kernel_rfl) (fun a D8976 w _ le8977 hE h8978 hS => ?_))
              refine ⟨show RP [b4669] _ _ from ⟨(hS.heapAt (j := 2) rfl).trans hp_b4669.symm, trivial⟩, ?_⟩
              clear hp_b4669
              have hp_b4669 := hS.heapAt (j := 2) rfl
              obtain ⟨r8979, h8980, hf⟩ := bind_some hf
              refine oG 12 65535 (fuel := 4) (by kernel_rfl) (op_call rfl rfl rfl rfl hE rfl rfl rfl rfl (by kernel_rfl) (wire_Hash.calls (g := g) h8980 (hS.st.fore (L := [])) ) (fun a v w hR hE => ?_))
              obtain ⟨D8981, A8983, c8984, q8985, rfl, hS1, h8986⟩ := hR
              have le8988 := hS1.dle
              have hS := hS.callR hS1 rfl (.c .n)
              clear hS1
              refine ⟨show RP [b4669] _ _ from ⟨(hS.heapAt (j := 3) rfl).trans hp_b4669.symm, trivial⟩, ?_⟩
              clear hp_b4669
              have hp_b4669 := hS.heapAt (j := 3) rfl
              obtain ⟨r8989, h8990, hf⟩ := bind_some hf
              refine oG 16 131071 (fuel := 3) (by kernel_rfl) (op_call rfl rfl rfl rfl hE rfl rfl rfl rfl (by kernel_rfl) (bundle_list_api_Sig.calls (g := g) h8990 (hS.st.fore (L := [])) (h4.mono (Snap.le.trans (Snap.le.trans (Snap.le.trans (Snap.le.trans le4680 le8699) le8971) le8977) le8988))) (fun a v w hR hE => ?_))
              obtain ⟨D8991, A8993, c8994, q8995, rfl, hS1, h8996⟩ := hR
              have le8998 := hS1.dle
              have hS := hS.callR hS1 rfl (.c .n)
              clear hS1
              refine ⟨show RP [b4669] _ _ from ⟨(hS.heapAt (j := 4) rfl).trans hp_b4669.symm, trivial⟩, ?_⟩
              clear hp_b4669
              have hp_b4669 := hS.heapAt (j := 4) rfl
              have hS := hS.pk (.c 3 rfl (.c 0 rfl (.c 1 rfl (.c 2 rfl (.c 4 rfl .n))))) rfl
              obtain ⟨D8999, q9002, le9000, hS, h9003, h9001⟩ := hS.lent (h8697.mono (Snap.le.trans (Snap.le.trans (Snap.le.trans le8971 le8977) le8988) le8998))
              have hS := hS.pk (.c 3 rfl (.c 0 rfl (.c 1 rfl (.c 2 rfl (.c 4 rfl .n))))) rfl
              obtain ⟨D9004, q9007, le9005, hS, h9008, h9006⟩ := hS.lent (h8969.mono (Snap.le.trans (Snap.le.trans (Snap.le.trans le8977 le8988) le8998) le9000))
              have hS := hS.pk (.c 3 rfl (.c 0 rfl (.c 1 rfl (.c 2 rfl (.c 4 rfl .n))))) rfl
              obtain ⟨D9009, q9012, le9010, hS, h9013, h9011⟩ := hS.lent (h8986.mono (Snap.le.trans (Snap.le.trans le8998 le9000) le9005))
              have hS := hS.pk (.c 3 rfl (.c 0 rfl (.c 1 rfl (.c 2 rfl (.c 4 rfl .n))))) rfl
              obtain ⟨D9014, q9017, le9015, hS, h9018, h9016⟩ := hS.lent (h8996.mono (Snap.le.trans (Snap.le.trans le9000 le9005) le9010))
              refine oG 17 262143 (fuel := 2) (by kernel_rfl) (op_buildSlice (K := (kdSlice (kdInt .u8))) (e := 32) (cs := [.slice A8972 (List.length (([(105 : Int), (110 : Int), (115 : Int), (112 : Int)] : List Int))) 4] ++ ([.slice A8694 (List.length (r8690)) c8695] ++ ([.slice A8966 (List.length (r8962)) c8967] ++ ([.slice A8983 (List.length (r8979)) c8984] ++ ([.slice A8993 (List.length (r8989)) c8994] ++ []))))) ([([(105 : Int), (110 : Int), (115 : Int), (112 : Int)] : List Int), r8690, r8962, r8979, r8989] : List (List Int)) rfl rfl rfl rfl hE rfl hS rfl (by kernel_rfl) rfl rfl (by exact (show RL (kdSlice (kdInt .u8)) D9014 ([([(105 : Int), (110 : Int), (115 : Int), (112 : Int)] : List Int), r8690, r8962, r8979, r8989] : List (List Int)) ([.slice A8972 (List.length (([(105 : Int), (110 : Int), (115 : Int), (112 : Int)] : List Int))) 4] ++ ([.slice A8694 (List.length (r8690)) c8695] ++ ([.slice A8966 (List.length (r8962)) c8967] ++ ([.slice A8983 (List.length (r8979)) c8984] ++ ([.slice A8993 (List.length (r8989)) c8994] ++ []))))) from ⟨_, _, rfl, (kslice (h8978.mono (Snap.le.trans (Snap.le.trans (Snap.le.trans (Snap.le.trans (Snap.le.trans le8988 le8998) le9000) le9005) le9010) le9015))), ⟨_, _, rfl, (kslice (h9001.mono (Snap.le.trans (Snap.le.trans le9005 le9010) le9015))), ⟨_, _, rfl, (kslice (h9006.mono (Snap.le.trans le9010 le9015))), ⟨_, _, rfl, (kslice (h9011.mono le9015)), ⟨_, _, rfl, (kslice h9016), rfl⟩⟩⟩⟩⟩)) (fun a A9019 q9020 w _ hE h9021 hS => ?_))
              refine ⟨show RP [b4669] _ _ from ⟨(hS.heapAt (j := 5) rfl).trans hp_b4669.symm, trivial⟩, ?_⟩
              clear hp_b4669
              have hp_b4669 := hS.heapAt (j := 5) rfl
              obtain ⟨D9023, q9026, le9024, hS, h9027, h9025⟩ := hS.lent h9021
              obtain ⟨r9028, h9029, hf⟩ := bind_some hf
              refine oG 18 524287 (fuel := 1) (by kernel_rfl) (op_call rfl rfl rfl rfl hE rfl rfl rfl rfl (by kernel_rfl) (wire_All.calls (g := g) h9029 (hS.st.fore (L := [])) h9025) (fun a v w hR hE => ?_))
              obtain ⟨D9030, A9032, c9033, q9034, rfl, hS1, h9035⟩ := hR
              have le9037 := hS1.dle
              have hS := hS.callR hS1 rfl (.c .n)
              clear hS1
              refine ⟨show RP [b4669] _ _ from ⟨(hS.heapAt (j := 6) rfl).trans hp_b4669.symm, trivial⟩, ?_⟩
              clear hp_b4669
              refine tW 19 1048575 (fuel := 0) (by kernel_rfl) hE (fun M => tk_pure (.slice A9032 (List.length (r9028)) c9033) hE rfl rfl rfl rfl (fun _ _ _ e => by cases e) (by kernel_rfl) (fun a hE => ?_))
              refine doneG (by kernel_rfl) ?_
              have hS := hS.pk (.c 6 rfl (.c 0 rfl .n)) rfl
              exact ⟨r9028, A9032, c9033, q9034, D9030, hE.weak (by kernel_rfl), hS, (Snap.le.trans (Snap.le.trans (Snap.le.trans (Snap.le.trans (Snap.le.trans (Snap.le.trans (Snap.le.trans (Snap.le.trans (Snap.le.trans (Snap.le.trans le8699 le8971) le8977) le8988) le8998) le9000) le9005) le9010) le9015) le9024) le9037), h9035, hf⟩
            · have hp_b4669 := hS.heapAt (j := 3) rfl
              obtain ⟨r9038, h9039, hf⟩ := bind_some hf
              refine (op_call rfl rfl rfl rfl hE rfl rfl rfl rfl (by kernel_rfl) (wire_Hash.calls (g := g) h9039 (hS.st.fore (L := [])) ) (fun a v w hR hE => ?_))
              obtain ⟨D9040, A9042, c9043, q9044, rfl, hS1, h9045⟩ := hR
              have le9047 := hS1.dle
              have hS := hS.callR hS1 rfl (.c .n)
              clear hS1
              refine ⟨show RP [b4669] _ _ from ⟨(hS.heapAt (j := 4) rfl).trans hp_b4669.symm, trivial⟩, ?_⟩
              clear hp_b4669
              refine twoB (i := 1) (j := 16) (fuel := 4) (m1 := 65535) (m2 := 131069) (by kernel_rfl) (by kernel_rfl) (by kernel_rfl) ?_ ?_
              · have hp_b4669 := hS.heapAt (j := 4) rfl
                have hS := hS.pk (.c 1 rfl (.c 0 rfl (.c 2 rfl (.c 3 rfl (.c 4 rfl .n))))) rfl
                refine (op_lit (T := 5) (l := ([(105 : Int), (110 : Int), (115 : Int), (112 : Int)] : List Int)) rfl rfl rfl rfl hE rfl hS rfl (by kernel_rfl) (h8974.mono le9047) (by kernel_rfl) (fun a D9048 w _ le9049 hE h9050 hS => ?_))
                refine ⟨show RP [b4669] _ _ from ⟨(hS.heapAt (j := 3) rfl).trans hp_b4669.symm, trivial⟩, ?_⟩
                clear hp_b4669
                have hp_b4669 := hS.heapAt (j := 3) rfl
                obtain ⟨r9051, h9052, hf⟩ := bind_some hf
                refine oG 16 131071 (fuel := 3) (by kernel_rfl) (op_call rfl rfl rfl rfl hE rfl rfl rfl rfl (by kernel_rfl) (bundle_list_api_Sig.calls (g := g) h9052 (hS.st.fore (L := [])) (h4.mono (Snap.le.trans (Snap.le.trans (Snap.le.trans (Snap.le.trans le4680 le8699) le8971) le9047) le9049))) (fun a v w hR hE => ?_))
                obtain ⟨D9053, A9055, c9056, q9057, rfl, hS1, h9058⟩ := hR
                have le9060 := hS1.dle
                have hS := hS.callR hS1 rfl (.c .n)
                clear hS1
                refine ⟨show RP [b4669] _ _ from ⟨(hS.heapAt (j := 4) rfl).trans hp_b4669.symm, trivial⟩, ?_⟩
                clear hp_b4669
                have hp_b4669 := hS.heapAt (j := 4) rfl
                have hS := hS.pk (.c 3 rfl (.c 0 rfl (.c 1 rfl (.c 2 rfl (.c 4 rfl .n))))) rfl
                obtain ⟨D9061, q9064, le9062, hS, h9065, h9063⟩ := hS.lent (h8697.mono (Snap.le.trans (Snap.le.trans (Snap.le.trans le8971 le9047) le9049) le9060))
                have hS := hS.pk (.c 3 rfl (.c 0 rfl (.c 1 rfl (.c 2 rfl (.c 4 rfl .n))))) rfl
                obtain ⟨D9066, q9069, le9067, hS, h9070, h9068⟩ := hS.lent (h8969.mono (Snap.le.trans (Snap.le.trans (Snap.le.trans le9047 le9049) le9060) le9062))
                have hS := hS.pk (.c 3 rfl (.c 0 rfl (.c 1 rfl (.c 2 rfl (.c 4 rfl .n))))) rfl
                obtain ⟨D9071, q9074, le9072, hS, h9075, h9073⟩ := hS.lent (h9045.mono (Snap.le.trans (Snap.le.trans (Snap.le.trans le9049 le9060) le9062) le9067))
                have hS := hS.pk (.c 3 rfl (.c 0 rfl (.c 1 rfl (.c 2 rfl (.c 4 rfl .n))))) rfl
                obtain ⟨D9076, q9079, le9077, hS, h9080, h9078⟩ := hS.lent (h9058.mono (Snap.le.trans (Snap.le.trans le9062 le9067) le9072))
                refine oG 17 262143 (fuel := 2) (by kernel_rfl) (op_buildSlice (K := (kdSlice (kdInt .u8))) (e := 32) (cs := [.slice A8972 (List.length (([(105 : Int), (110 : Int), (115 : Int), (112 : Int)] : List Int))) 4] ++ ([.slice A8694 (List.length (r8690)) c8695] ++ ([.slice A8966 (List.length (r8962)) c8967] ++ ([.slice A9042 (List.length (r9038)) c9043] ++ ([.slice A9055 (List.length (r9051)) c9056] ++ []))))) ([([(105 : Int), (110 : Int), (115 : Int), (112 : Int)] : List Int), r8690, r8962, r9038, r9051] : List (List Int)) rfl rfl rfl rfl hE rfl hS rfl (by kernel_rfl) rfl rfl (by exact (show RL (kdSlice (kdInt .u8)) D9076 ([([(105 : Int), (110 : Int), (115 : Int), (112 : Int)] : List Int), r8690, r8962, r9038, r9051] : List (List Int)) ([.slice A8972 (List.length (([(105 : Int), (110 : Int), (115 : Int), (112 : Int)] : List Int))) 4] ++ ([.slice A8694 (List.length (r8690)) c8695] ++ ([.slice A8966 (List.length (r8962)) c8967] ++ ([.slice A9042 (List.length (r9038)) c9043] ++ ([.slice A9055 (List.length (r9051)) c9056] ++ []))))) from ⟨_, _, rfl, (kslice (h9050.mono (Snap.le.trans (Snap.le.trans (Snap.le.trans (Snap.le.trans le9060 le9062) le9067) le9072) le9077))), ⟨_, _, rfl, (kslice (h9063.mono (Snap.le.trans (Snap.le.trans le9067 le9072) le9077))), ⟨_, _, rfl, (kslice (h9068.mono (Snap.le.trans le9072 le9077))), ⟨_, _, rfl, (kslice (h9073.mono le9077)), ⟨_, _, rfl, (kslice h9078), rfl⟩⟩⟩⟩⟩)) (fun a A9081 q9082 w _ hE h9083 hS => ?_))
                refine ⟨show RP [b4669] _ _ from ⟨(hS.heapAt (j := 5) rfl).trans hp_b4669.symm, trivial⟩, ?_⟩
                clear hp_b4669
                have hp_b4669 := hS.heapAt (j := 5) rfl
                obtain ⟨D9085, q9088, le9086, hS, h9089, h9087⟩ := hS.lent h9083
                obtain ⟨r9090, h9091, hf⟩ := bind_some hf
                refine oG 18 524287 (fuel := 1) (by kernel_rfl) (op_call rfl rfl rfl rfl hE rfl rfl rfl rfl (by kernel_rfl) (wire_All.calls (g := g) h9091 (hS.st.fore (L := [])) h9087) (fun a v w hR hE => ?_))
                obtain ⟨D9092, A9094, c9095, q9096, rfl, hS1, h9097⟩ := hR
                have le9099 := hS1.dle
                have hS := hS.callR hS1 rfl (.c .n)
                clear hS1
                refine ⟨show RP [b4669] _ _ from ⟨(hS.heapAt (j := 6) rfl).trans hp_b4669.symm, trivial⟩, ?_⟩
                clear hp_b4669
                refine tW 19 1048575 (fuel := 0) (by kernel_rfl) hE (fun M => tk_pure (.slice A9094 (List.length (r9090)) c9095) hE rfl rfl rfl rfl (fun _ _ _ e => by cases e) (by kernel_rfl) (fun a hE => ?_))
                refine doneG (by kernel_rfl) ?_
                have hS := hS.pk (.c 6 rfl (.c 0 rfl .n)) rfl
                exact ⟨r9090, A9094, c9095, q9096, D9092, hE.weak (by kernel_rfl), hS, (Snap.le.trans (Snap.le.trans (Snap.le.trans (Snap.le.trans (Snap.le.trans (Snap.le.trans (Snap.le.trans (Snap.le.trans (Snap.le.trans (Snap.le.trans le8699 le8971) le9047) le9049) le9060) le9062) le9067) le9072) le9077) le9086) le9099), h9097, hf⟩
              · have hp_b4669 := hS.heapAt (j := 4) rfl
                obtain ⟨r9100, h9101, hf⟩ := bind_some hf
                refine (op_call rfl rfl rfl rfl hE rfl rfl rfl rfl (by kernel_rfl) (bundle_list_api_Sig.calls (g := g) h9101 (hS.st.fore (L := [])) (h4.mono (Snap.le.trans (Snap.le.trans (Snap.le.trans le4680 le8699) le8971) le9047))) (fun a v w hR hE => ?_))
                obtain ⟨D9102, A9104, c9105, q9106, rfl, hS1, h9107⟩ := hR
                have le9109 := hS1.dle
                have hS := hS.callR hS1 rfl (.c .n)
                clear hS1
                refine ⟨show RP [b4669] _ _ from ⟨(hS.heapAt (j := 5) rfl).trans hp_b4669.symm, trivial⟩, ?_⟩
                clear hp_b4669
                have hp_b4669 := hS.heapAt (j := 5) rfl
                have hS := hS.pk (.c 2 rfl (.c 0 rfl (.c 1 rfl (.c 3 rfl (.c 4 rfl (.c 5 rfl .n)))))) rfl
                refine oG 1 131071 (fuel := 3) (by kernel_rfl) (op_lit (T := 5) (l := ([(105 : Int), (110 : Int), (115 : Int), (112 : Int)] : List Int)) rfl rfl rfl rfl hE rfl hS rfl (by kernel_rfl) (h8974.mono (Snap.le.trans le9047 le9109)) (by kernel_rfl) (fun a D9110 w _ le9111 hE h9112 hS => ?_))
                refine ⟨show RP [b4669] _ _ from ⟨(hS.heapAt (j := 4) rfl).trans hp_b4669.symm, trivial⟩, ?_⟩
                clear hp_b4669
                have hp_b4669 := hS.heapAt (j := 4) rfl
                have hS := hS.pk (.c 3 rfl (.c 0 rfl (.c 1 rfl (.c 2 rfl (.c 4 rfl .n))))) rfl
                obtain ⟨D9113, q9116, le9114, hS, h9117, h9115⟩ := hS.lent (h8697.mono (Snap.le.trans (Snap.le.trans (Snap.le.trans le8971 le9047) le9109) le9111))
                have hS := hS.pk (.c 3 rfl (.c 0 rfl (.c 1 rfl (.c 2 rfl (.c 4 rfl .n))))) rfl
                obtain ⟨D9118, q9121, le9119, hS, h9122, h9120⟩ := hS.lent (h8969.mono (Snap.le.trans (Snap.le.trans (Snap.le.trans le9047 le9109) le9111) le9114))
                have hS := hS.pk (.c 3 rfl (.c 0 rfl (.c 1 rfl (.c 2 rfl (.c 4 rfl .n))))) rfl
                obtain ⟨D9123, q9126, le9124, hS, h9127, h9125⟩ := hS.lent (h9045.mono (Snap.le.trans (Snap.le.trans (Snap.le.trans le9109 le9111) le9114) le9119))
                have hS := hS.pk (.c 3 rfl (.c 0 rfl (.c 1 rfl (.c 2 rfl (.c 4 rfl .n))))) rfl
                obtain ⟨D9128, q9131, le9129, hS, h9132, h9130⟩ := hS.lent (h9107.mono (Snap.le.trans (Snap.le.trans (Snap.le.trans le9111 le9114) le9119) le9124))
                refine oG 17 262143 (fuel := 2) (by kernel_rfl) (op_buildSlice (K := (kdSlice (kdInt .u8))) (e := 32) (cs := [.slice A8972 (List.length (([(105 : Int), (110 : Int), (115 : Int), (112 : Int)] : List Int))) 4] ++ ([.slice A8694 (List.length (r8690)) c8695] ++ ([.slice A8966 (List.length (r8962)) c8967] ++ ([.slice A9042 (List.length (r9038)) c9043] ++ ([.slice A9104 (List.length (r9100)) c9105] ++ []))))) ([([(105 : Int), (110 : Int), (115 : Int), (112 : Int)] : List Int), r8690, r8962, r9038, r9100] : List (List Int)) rfl rfl rfl rfl hE rfl hS rfl (by kernel_rfl) rfl rfl (by exact (show RL (kdSlice (kdInt .u8)) D9128 ([([(105 : Int), (110 : Int), (115 : Int), (112 : Int)] : List Int), r8690, r8962, r9038, r9100] : List (List Int)) ([.slice A8972 (List.length (([(105 : Int), (110 : Int), (115 : Int), (112 : Int)] : List Int))) 4] ++ ([.slice A8694 (List.length (r8690)) c8695] ++ ([.slice A8966 (List.length (r8962)) c8967] ++ ([.slice A9042 (List.length (r9038)) c9043] ++ ([.slice A9104 (List.length (r9100)) c9105] ++ []))))) from ⟨_, _, rfl, (kslice (h9112.mono (Snap.le.trans (Snap.le.trans (Snap.le.trans le9114 le9119) le9124) le9129))), ⟨_, _, rfl, (kslice (h9115.mono (Snap.le.trans (Snap.le.trans le9119 le9124) le9129))), ⟨_, _, rfl, (kslice (h9120.mono (Snap.le.trans le9124 le9129))), ⟨_, _, rfl, (kslice (h9125.mono le9129)), ⟨_, _, rfl, (kslice h9130), rfl⟩⟩⟩⟩⟩)) (fun a A9133 q9134 w _ hE h9135 hS => ?_))
                refine ⟨show RP [b4669] _ _ from ⟨(hS.heapAt (j := 5) rfl).trans hp_b4669.symm, trivial⟩, ?_⟩
                clear hp_b4669
                have hp_b4669 := hS.heapAt (j := 5) rfl
                obtain ⟨D9137, q9140, le9138, hS, h9141, h9139⟩ := hS.lent h9135
                obtain ⟨r9142, h9143, hf⟩ := bind_some hf
                refine oG 18 524287 (fuel := 1) (by kernel_rfl) (op_call rfl rfl rfl rfl hE rfl rfl rfl rfl (by kernel_rfl) (wire_All.calls (g := g) h9143 (hS.st.fore (L := [])) h9139) (fun a v w hR hE => ?_))
                obtain ⟨D9144, A9146, c9147, q9148, rfl, hS1, h9149⟩ := hR
                have le9151 := hS1.dle
                have hS := hS.callR hS1 rfl (.c .n)
                clear hS1
                refine ⟨show RP [b4669] _ _ from ⟨(hS.heapAt (j := 6) rfl).trans hp_b4669.symm, trivial⟩, ?_⟩
                clear hp_b4669
                refine tW 19 1048575 (fuel := 0) (by kernel_rfl) hE (fun M => tk_pure (.slice A9146 (List.length (r9142)) c9147) hE rfl rfl rfl rfl (fun _ _ _ e => by cases e) (by kernel_rfl) (fun a hE => ?_))
                refine doneG (by kernel_rfl) ?_
                have hS := hS.pk (.c 6 rfl (.c 0 rfl .n)) rfl
                exact ⟨r9142, A9146, c9147, q9148, D9144, hE.weak (by kernel_rfl), hS, (Snap.le.trans (Snap.le.trans (Snap.le.trans (Snap.le.trans (Snap.le.trans (Snap.le.trans (Snap.le.trans (Snap.le.trans (Snap.le.trans (Snap.le.trans le8699 le8971) le9047) le9109) le9111) le9114) le9119) le9124) le9129) le9138) le9151), h9149, hf⟩
          · have hp_b4669 := hS.heapAt (j := 2) rfl
            obtain ⟨r9152, h9153, hf⟩ := bind_some hf
            refine (op_call rfl rfl rfl rfl hE rfl rfl rfl rfl (by kernel_rfl) (wire_Hash.calls (g := g) h9153 (hS.st.fore (L := [])) ) (fun a v w hR hE => ?_))
            obtain ⟨D9154, A9156, c9157, q9158, rfl, hS1, h9159⟩ := hR
            have le9161 := hS1.dle
            have hS := hS.callR hS1 rfl (.c .n)
            clear hS1
            refine ⟨show RP [b4669] _ _ from ⟨(hS.heapAt (j := 3) rfl).trans hp_b4669.symm, trivial⟩, ?_⟩
            clear hp_b4669
            refine twoB (i := 0) (j := 16) (fuel := 5) (m1 := 65533) (m2 := 131068) (by kernel_rfl) (by kernel_rfl) (by kernel_rfl) ?_ ?_
            · have hp_b4669 := hS.heapAt (j := 3) rfl
              refine (op_buildSlice (K := (kdInt .u8)) (e := 5) (cs := [.int .u8 ((105 : Int))] ++ ([.int .u8 ((110 : Int))] ++ ([.int .u8 ((115 : Int))] ++ ([.int .u8 ((112 : Int))] ++ [])))) ([(105 : Int), (110 : Int), (115 : Int), (112 : Int)] : List Int) rfl rfl rfl rfl hE rfl hS rfl (by kernel_rfl) rfl rfl (by exact (show RL (kdInt .u8) D9154 ([(105 : Int), (110 : Int), (115 : Int), (112 : Int)] : List Int) ([.int .u8 ((105 : Int))] ++ ([.int .u8 ((110 : Int))] ++ ([.int .u8 ((115 : Int))] ++ ([.int .u8 ((112 : Int))] ++ [])))) from ⟨_, _, rfl, rfl, ⟨_, _, rfl, rfl, ⟨_, _, rfl, rfl, ⟨_, _, rfl, rfl, rfl⟩⟩⟩⟩)) (fun a A9162 q9163 w _ hE h9164 hS => ?_))
              refine ⟨show RP [b4669] _ _ from ⟨(hS.heapAt (j := 4) rfl).trans hp_b4669.symm, trivial⟩, ?_⟩
              clear hp_b4669
              refine twoB (i := 1) (j := 16) (fuel := 4) (m1 := 65535) (m2 := 131069) (by kernel_rfl) (by kernel_rfl) (by kernel_rfl) ?_ ?_
              · have hp_b4669 := hS.heapAt (j := 4) rfl
                refine (op_lit (T := 5) (l := ([(105 : Int), (110 : Int), (115 : Int), (112 : Int)] : List Int)) rfl rfl rfl rfl hE rfl hS rfl (by kernel_rfl) h9164 (by kernel_rfl) (fun a D9166 w _ le9167 hE h9168 hS => ?_))
                refine ⟨show RP [b4669] _ _ from ⟨(hS.heapAt (j := 3) rfl).trans hp_b4669.symm, trivial⟩, ?_⟩
                clear hp_b4669
                have hp_b4669 := hS.heapAt (j := 3) rfl
                obtain ⟨r9169, h9170, hf⟩ := bind_some hf
                refine oG 16 131071 (fuel := 3) (by kernel_rfl) (op_call rfl rfl rfl rfl hE rfl rfl rfl rfl (by kernel_rfl) (bundle_list_api_Sig.calls (g := g) h9170 (hS.st.fore (L := [])) (h4.mono (Snap.le.trans (Snap.le.trans (Snap.le.trans (Snap.le.trans le4680 le8699) le8971) le9161) le9167))) (fun a v w hR hE => ?_))
                obtain ⟨D9171, A9173, c9174, q9175, rfl, hS1, h9176⟩ := hR
                have le9178 := hS1.dle
                have hS := hS.callR hS1 rfl (.c .n)
                clear hS1
                refine ⟨show RP [b4669] _ _ from ⟨(hS.heapAt (j := 4) rfl).trans hp_b4669.symm, trivial⟩, ?_⟩
                clear hp_b4669
                have hp_b4669 := hS.heapAt (j := 4) rfl
                have hS := hS.pk (.c 3 rfl (.c 0 rfl (.c 1 rfl (.c 2 rfl (.c 4 rfl .n))))) rfl
                obtain ⟨D9179, q9182, le9180, hS, h9183, h9181⟩ := hS.lent (h8697.mono (Snap.le.trans (Snap.le.trans (Snap.le.trans le8971 le9161) le9167) le9178))
                have hS := hS.pk (.c 3 rfl (.c 0 rfl (.c 1 rfl (.c 2 rfl (.c 4 rfl .n))))) rfl
                obtain ⟨D9184, q9187, le9185, hS, h9188, h9186⟩ := hS.lent (h8969.mono (Snap.le.trans (Snap.le.trans (Snap.le.trans le9161 le9167) le9178) le9180))
                have hS := hS.pk (.c 3 rfl (.c 0 rfl (.c 1 rfl (.c 2 rfl (.c 4 rfl .n))))) rfl
                obtain ⟨D9189, q9192, le9190, hS, h9193, h9191⟩ := hS.lent (h9159.mono (Snap.le.trans (Snap.le.trans (Snap.le.trans le9167 le9178) le9180) le9185))
                have hS := hS.pk (.c 3 rfl (.c 0 rfl (.c 1 rfl (.c 2 rfl (.c 4 rfl .n))))) rfl
                obtain ⟨D9194, q9197, le9195, hS, h9198, h9196⟩ := hS.lent (h9176.mono (Snap.le.trans (Snap.le.trans le9180 le9185) le9190))
                refine oG 17 262143 (fuel := 2) (by kernel_rfl) (op_buildSlice (K := (kdSlice (kdInt .u8))) (e := 32) (cs := [.slice A9162 (List.length (([(105 : Int), (110 : Int), (115 : Int), (112 : Int)] : List Int))) 4] ++ ([.slice A8694 (List.length (r8690)) c8695] ++ ([.slice A8966 (List.length (r8962)) c8967] ++ ([.slice A9156 (List.length (r9152)) c9157] ++ ([.slice A9173 (List.length (r9169)) c9174] ++ []))))) ([([(105 : Int), (110 : Int), (115 : Int), (112 : Int)] : List Int), r8690, r8962, r9152, r9169] : List (List Int)) rfl rfl rfl rfl hE rfl hS rfl (by kernel_rfl) rfl rfl (by exact (show RL (kdSlice (kdInt .u8)) D9194 ([([(105 : Int), (110 : Int), (115 : Int), (112 : Int)] : List Int), r8690, r8962, r9152, r9169] : List (List Int)) ([.slice A9162 (List.length (([(105 : Int), (110 : Int), (115 : Int), (112 : Int)] : List Int))) 4] ++ ([.slice A8694 (List.length (r8690)) c8695] ++ ([.slice A8966 (List.length (r8962)) c8967] ++ ([.slice A9156 (List.length (r9152)) c9157] ++ ([.slice A9173 (List.length (r9169)) c9174] ++ []))))) from ⟨_, _, rfl, (kslice (h9168.mono (Snap.le.trans (Snap.le.trans (Snap.le.trans (Snap.le.trans le9178 le9180) le9185) le9190) le9195))), ⟨_, _, rfl, (kslice (h9181.mono (Snap.le.trans (Snap.le.trans le9185 le9190) le9195))), ⟨_, _, rfl, (kslice (h9186.mono (Snap.le.trans le9190 le9195))), ⟨_, _, rfl, (kslice (h9191.mono le9195)), ⟨_, _, rfl, (kslice h9196), rfl⟩⟩⟩⟩⟩)) (fun a A9199 q9200 w _ hE h9201 hS => ?_))
                refine ⟨show RP [b4669] _ _ from ⟨(hS.heapAt (j := 5) rfl).trans hp_b4669.symm, trivial⟩, ?_⟩
                clear hp_b4669
                have hp_b4669 := hS.heapAt (j := 5) rfl
                obtain ⟨D9203, q9206, le9204, hS, h9207, h9205⟩ := hS.lent h9201
                obtain ⟨r9208, h9209, hf⟩ := bind_some hf
                refine oG 18 524287 (fuel := 1) (by kernel_rfl) (op_call rfl rfl rfl rfl hE rfl rfl rfl rfl (by kernel_rfl) (wire_All.calls (g := g) h9209 (hS.st.fore (L := [])) h9205) (fun a v w hR hE => ?_))
                obtain ⟨D9210, A9212, c9213, q9214, rfl, hS1, h9215⟩ := hR
                have le9217 := hS1.dle
                have hS := hS.callR hS1 rfl (.c .n)
                clear hS1
                refine ⟨show RP [b4669] _ _ from ⟨(hS.heapAt (j := 6) rfl).trans hp_b4669.symm, trivial⟩, ?_⟩
                clear hp_b4669
                refine tW 19 1048575 (fuel := 0) (by kernel_rfl) hE (fun M => tk_pure (.slice A9212 (List.length (r9208)) c9213) hE rfl rfl rfl rfl (fun _ _ _ e => by cases e) (by kernel_rfl) (fun a hE => ?_))
                refine doneG (by kernel_rfl) ?_
                have hS := hS.pk (.c 6 rfl (.c 0 rfl .n)) rfl
                exact ⟨r9208, A9212, c9213, q9214, D9210, hE.weak (by kernel_rfl), hS, (Snap.le.trans (Snap.le.trans (Snap.le.trans (Snap.le.trans (Snap.le.trans (Snap.le.trans (Snap.le.trans (Snap.le.trans (Snap.le.trans (Snap.le.trans le8699 le8971) le9161) le9167) le9178) le9180) le9185) le9190) le9195) le9204) le9217), h9215, hf⟩
              · have hp_b4669 := hS.heapAt (j := 4) rfl
                obtain ⟨r9218, h9219, hf⟩ := bind_some hf
                refine (op_call rfl rfl rfl rfl hE rfl rfl rfl rfl (by kernel_rfl) (bundle_list_api_Sig.calls (g := g) h9219 (hS.st.fore (L := [])) (h4.mono (Snap.le.trans (Snap.le.trans (Snap.le.trans le4680 le8699) le8971) le9161))) (fun a v w hR hE => ?_))
                obtain ⟨D9220, A9222, c9223, q9224, rfl, hS1, h9225⟩ := hR
                have le9227 := hS1.dle
                have hS := hS.callR hS1 rfl (.c .n)
                clear hS1
                refine ⟨show RP [b4669] _ _ from ⟨(hS.heapAt (j := 5) rfl).trans hp_b4669.symm, trivial⟩, ?_⟩
                clear hp_b4669
                have hp_b4669 := hS.heapAt (j := 5) rfl
                have hS := hS.pk (.c 1 rfl (.c 0 rfl (.c 2 rfl (.c 3 rfl (.c 4 rfl (.c 5 rfl .n)))))) rfl
                refine oG 1 131071 (fuel := 3) (by kernel_rfl) (op_lit (T := 5) (l := ([(105 : Int), (110 : Int), (115 : Int), (112 : Int)] : List Int)) rfl rfl rfl rfl hE rfl hS rfl (by kernel_rfl) (h9164.mono le9227) (by kernel_rfl) (fun a D9228 w _ le9229 hE h9230 hS => ?_))
                refine ⟨show RP [b4669] _ _ from ⟨(hS.heapAt (j := 4) rfl).trans hp_b4669.symm, trivial⟩, ?_⟩
                clear hp_b4669
                have hp_b4669 := hS.heapAt (j := 4) rfl
                have hS := hS.pk (.c 3 rfl (.c 0 rfl (.c 1 rfl (.c 2 rfl (.c 4 rfl .n))))) rfl
                obtain ⟨D9231, q9234, le9232, hS, h9235, h9233⟩ := hS.lent (h8697.mono (Snap.le.trans (Snap.le.trans (Snap.le.trans le8971 le9161) le9227) le9229))
                have hS := hS.pk (.c 3 rfl (.c 0 rfl (.c 1 rfl (.c 2 rfl (.c 4 rfl .n))))) rfl
                obtain ⟨D9236, q9239, le9237, hS, h9240, h9238⟩ := hS.lent (h8969.mono (Snap.le.trans (Snap.le.trans (Snap.le.trans le9161 le9227) le9229) le9232))
                have hS := hS.pk (.c 3 rfl (.c 0 rfl (.c 1 rfl (.c 2 rfl (.c 4 rfl .n))))) rfl
                obtain ⟨D9241, q9244, le9242, hS, h9245, h9243⟩ := hS.lent (h9159.mono (Snap.le.trans (Snap.le.trans (Snap.le.trans le9227 le9229) le9232) le9237))
                have hS := hS.pk (.c 3 rfl (.c 0 rfl (.c 1 rfl (.c 2 rfl (.c 4 rfl .n))))) rfl
                obtain ⟨D9246, q9249, le9247, hS, h9250, h9248⟩ := hS.lent (h9225.mono (Snap.le.trans (Snap.le.trans (Snap.le.trans le9229 le9232) le9237) le9242))
                refine oG 17 262143 (fuel := 2) (by kernel_rfl) (op_buildSlice (K := (kdSlice (kdInt .u8))) (e := 32) (cs := [.slice A9162 (List.length (([(105 : Int), (110 : Int), (115 : Int), (112 : Int)] : List Int))) 4] ++ ([.slice A8694 (List.length (r8690)) c8695] ++ ([.slice A8966 (List.length (r8962)) c8967] ++ ([.slice A9156 (List.length (r9152)) c9157] ++ ([.slice A9222 (List.length (r9218)) c9223] ++ []))))) ([([(105 : Int), (110 : Int), (115 : Int), (112 : Int)] : List Int), r8690, r8962, r9152, r9218] : List (List Int)) rfl rfl rfl rfl hE rfl hS rfl (by kernel_rfl) rfl rfl (by exact (show RL (kdSlice (kdInt .u8)) D9246 ([([(105 : Int), (110 : Int), (115 : Int), (112 : Int)] : List Int), r8690, r8962, r9152, r9218] : List (List Int)) ([.slice A9162 (List.length (([(105 : Int), (110 : Int), (115 : Int), (112 : Int)] : List Int))) 4] ++ ([.slice A8694 (List.length (r8690)) c8695] ++ ([.slice A8966 (List.length (r8962)) c8967] ++ ([.slice A9156 (List.length (r9152)) c9157] ++ ([.slice A9222 (List.length (r9218)) c9223] ++ []))))) from ⟨_, _, rfl, (kslice (h9230.mono (Snap.le.trans (Snap.le.trans (Snap.le.trans le9232 le9237) le9242) le9247))), ⟨_, _, rfl, (kslice (h9233.mono (Snap.le.trans (Snap.le.trans le9237 le9242) le9247))), ⟨_, _, rfl, (kslice (h9238.mono (Snap.le.trans le9242 le9247))), ⟨_, _, rfl, (kslice (h9243.mono le9247)), ⟨_, _, rfl, (kslice h9248), rfl⟩⟩⟩⟩⟩)) (fun a A9251 q9252 w _ hE h9253 hS => ?_))
                refine ⟨show RP [b4669] _ _ from ⟨(hS.heapAt (j := 5) rfl).trans hp_b4669.symm, trivial⟩, ?_⟩
                clear hp_b4669
                have hp_b4669 := hS.heapAt (j := 5) rfl
                obtain ⟨D9255, q9258, le9256, hS, h9259, h9257⟩ := hS.lent h9253
                obtain ⟨r9260, h9261, hf⟩ := bind_some hf
                refine oG 18 524287 (fuel := 1) (by kernel_rfl) (op_call rfl rfl rfl rfl hE rfl rfl rfl rfl (by kernel_rfl) (wire_All.calls (g := g) h9261 (hS.st.fore (L := [])) h9257) (fun a v w hR hE => ?_))
                obtain ⟨D9262, A9264, c9265, q9266, rfl, hS1, h9267⟩ := hR
                have le9269 := hS1.dle
                have hS := hS.callR hS1 rfl (.c .n)
                clear hS1
                refine ⟨show RP [b4669] _ _ from ⟨(hS.heapAt (j := 6) rfl).trans hp_b4669.symm, trivial⟩, ?_⟩
                clear hp_b4669
                refine tW 19 1048575 (fuel := 0) (by kernel_rfl) hE (fun M => tk_pure (.slice A9264 (List.length (r9260)) c9265) hE rfl rfl rfl rfl (fun _ _ _ e => by cases e) (by kernel_rfl) (fun a hE => ?_))
                refine doneG (by kernel_rfl) ?_
                have hS := hS.pk (.c 6 rfl (.c 0 rfl .n)) rfl
                exact ⟨r9260, A9264, c9265, q9266, D9262, hE.weak (by kernel_rfl), hS, (Snap.le.trans (Snap.le.trans (Snap.le.trans (Snap.le.trans (Snap.le.trans (Snap.le.trans (Snap.le.trans (Snap.le.trans (Snap.le.trans (Snap.le.trans le8699 le8971) le9161) le9227) le9229) le9232) le9237) le9242) le9247) le9256) le9269), h9267, hf⟩
            · have hp_b4669 := hS.heapAt (j := 3) rfl
              obtain ⟨r9270, h9271, hf⟩ := bind_some hf
              refine (op_call rfl rfl rfl rfl hE rfl rfl rfl rfl (by kernel_rfl) (bundle_list_api_Sig.calls (g := g) h9271 (hS.st.fore (L := [])) (h4.mono (Snap.le.trans (Snap.le.trans (Snap.le.trans le4680 le8699) le8971) le9161))) (fun a v w hR hE => ?_))
              obtain ⟨D9272, A9274, c9275, q9276, rfl, hS1, h9277⟩ := hR
              have le9279 := hS1.dle
              have hS := hS.callR hS1 rfl (.c .n)
              clear hS1
              refine ⟨show RP [b4669] _ _ from ⟨(hS.heapAt (j := 4) rfl).trans hp_b4669.symm, trivial⟩, ?_⟩
              clear hp_b4669
              have hp_b4669 := hS.heapAt (j := 4) rfl
              refine oG 0 131069 (fuel := 4) (by kernel_rfl) (op_buildSlice (K := (kdInt .u8)) (e := 5) (cs := [.int .u8 ((105 : Int))] ++ ([.int .u8 ((110 : Int))] ++ ([.int .u8 ((115 : Int))] ++ ([.int .u8 ((112 : Int))] ++ [])))) ([(105 : Int), (110 : Int), (115 : Int), (112 : Int)] : List Int) rfl rfl rfl rfl hE rfl hS rfl (by kernel_rfl) rfl rfl (by exact (show RL (kdInt .u8) D9272 ([(105 : Int), (110 : Int), (115 : Int), (112 : Int)] : List Int) ([.int .u8 ((105 : Int))] ++ ([.int .u8 ((110 : Int))] ++ ([.int .u8 ((115 : Int))] ++ ([.int .u8 ((112 : Int))] ++ [])))) from ⟨_, _, rfl, rfl, ⟨_, _, rfl, rfl, ⟨_, _, rfl, rfl, ⟨_, _, rfl, rfl, rfl⟩⟩⟩⟩)) (fun a A9280 q9281 w _ hE h9282 hS => ?_))
              refine ⟨show RP [b4669] _ _ from ⟨(hS.heapAt (j := 5) rfl).trans hp_b4669.symm, trivial⟩, ?_⟩
              clear hp_b4669
              have hp_b4669 := hS.heapAt (j := 5) rfl
              refine oG 1 131071 (fuel := 3) (by kernel_rfl) (op_lit (T := 5) (l := ([(105 : Int), (110 : Int), (115 : Int), (112 : Int)] : List Int)) rfl rfl rfl rfl hE rfl hS rfl (by kernel_rfl) h9282 (by kernel_rfl) (fun a D9284 w _ le9285 hE h9286 hS => ?_))
              refine ⟨show RP [b4669] _ _ from ⟨(hS.heapAt (j := 4) rfl).trans hp_b4669.symm, trivial⟩, ?_⟩
              clear hp_b4669
              have hp_b4669 := hS.heapAt (j := 4) rfl
              have hS := hS.pk (.c 3 rfl (.c 0 rfl (.c 1 rfl (.c 2 rfl (.c 4 rfl .n))))) rfl
              obtain ⟨D9287, q9290, le9288, hS, h9291, h9289⟩ := hS.lent (h8697.mono (Snap.le.trans (Snap.le.trans (Snap.le.trans le8971 le9161) le9279) le9285))
              have hS := hS.pk (.c 3 rfl (.c 0 rfl (.c 1 rfl (.c 2 rfl (.c 4 rfl .n))))) rfl
              obtain ⟨D9292, q9295, le9293, hS, h9296, h9294⟩ := hS.lent (h8969.mono (Snap.le.trans (Snap.le.trans (Snap.le.trans le9161 le9279) le9285) le9288))
              have hS := hS.pk (.c 3 rfl (.c 0 rfl (.c 1 rfl (.c 2 rfl (.c 4 rfl .n))))) rfl
              obtain ⟨D9297, q9300, le9298, hS, h9301, h9299⟩ := hS.lent (h9159.mono (Snap.le.trans (Snap.le.trans (Snap.le.trans le9279 le9285) le9288) le9293))
              have hS := hS.pk (.c 3 rfl (.c 0 rfl (.c 1 rfl (.c 2 rfl (.c 4 rfl .n))))) rfl
              obtain ⟨D9302, q9305, le9303, hS, h9306, h9304⟩ := hS.lent (h9277.mono (Snap.le.trans (Snap.le.trans (Snap.le.trans le9285 le9288) le9293) le9298))
              refine oG 17 262143 (fuel := 2) (by kernel_rfl) (op_buildSlice (K := (kdSlice (kdInt .u8))) (e := 32) (cs := [.slice A9280 (List.length (([(105 : Int), (110 : Int), (115 : Int), (112 : Int)] : List Int))) 4] ++ ([.slice A8694 (List.length (r8690)) c8695] ++ ([.slice A8966 (List.length (r8962)) c8967] ++ ([.slice A9156 (List.length (r9152)) c9157] ++ ([.slice A9274 (List.length (r9270)) c9275] ++ []))))) ([([(105 : Int), (110 : Int), (115 : Int), (112 : Int)] : List Int), r8690, r8962, r9152, r9270] : List (List Int)) rfl rfl rfl rfl hE rfl hS rfl (by kernel_rfl) rfl rfl (by exact (show RL (kdSlice (kdInt .u8)) D9302 ([([(105 : Int), (110 : Int), (115 : Int), (112 : Int)] : List Int), r8690, r8962, r9152, r9270] : List (List Int)) ([.slice A9280 (List.length (([(105 : Int), (110 : Int), (115 : Int), (112 : Int)] : List Int))) 4] ++ ([.slice A8694 (List.length (r8690)) c8695] ++ ([.slice A8966 (List.length (r8962)) c8967] ++ ([.slice A9156 (List.length (r9152)) c9157] ++ ([.slice A9274 (List.length (r9270)) c9275] ++ []))))) from ⟨_, _, rfl, (kslice (h9286.mono (Snap.le.trans (Snap.le.trans (Snap.le.trans le9288 le9293) le9298) le9303))), ⟨_, _, rfl, (kslice (h9289.mono (Snap.le.trans (Snap.le.trans le9293 le9298) le9303))), ⟨_, _, rfl, (kslice (h9294.mono (Snap.le.trans le9298 le9303))), ⟨_, _, rfl, (kslice (h9299.mono le9303)), ⟨_, _, rfl, (kslice h9304), rfl⟩⟩⟩⟩⟩)) (fun a A9307 q9308 w _ hE h9309 hS => ?_))
              refine ⟨show RP [b4669] _ _ from ⟨(hS.heapAt (j := 5) rfl).trans hp_b4669.symm, trivial⟩, ?_⟩
              clear hp_b4669
              have hp_b4669 := hS.heapAt (j := 5) rfl
              obtain ⟨D9311, q9314, le9312, hS, h9315, h9313⟩ := hS.lent h9309
              obtain ⟨r9316, h9317, hf⟩ := bind_some hf
              refine oG 18 524287 (fuel := 1) (by kernel_rfl) (op_call rfl rfl rfl rfl hE rfl rfl rfl rfl (by kernel_rfl) (wire_All.calls (g := g) h9317 (hS.st.fore (L := [])) h9313) (fun a v w hR hE => ?_))
              obtain ⟨D9318, A9320, c9321, q9322, rfl, hS1, h9323⟩ := hR
              have le9325 := hS1.dle
              have hS := hS.callR hS1 rfl (.c .n)
              clear hS1
              refine ⟨show RP [b4669] _ _ from ⟨(hS.heapAt (j := 6) rfl).trans hp_b4669.symm, trivial⟩, ?_⟩
              clear hp_b4669
              refine tW 19 1048575 (fuel := 0) (by kernel_rfl) hE (fun M => tk_pure (.slice A9320 (List.length (r9316)) c9321) hE rfl rfl rfl rfl (fun _ _ _ e => by cases e) (by kernel_rfl) (fun a hE => ?_))
              refine doneG (by kernel_rfl) ?_
              have hS := hS.pk (.c 6 rfl (.c 0 rfl .n)) rfl
              exact ⟨r9316, A9320, c9321, q9322, D9318, hE.weak (by kernel_rfl), hS, (Snap.le.trans (Snap.le.trans (Snap.le.trans (Snap.le.trans (Snap.le.trans (Snap.le.trans (Snap.le.trans (Snap.le.trans (Snap.le.trans (Snap.le.trans le8699 le8971) le9161) le9279) le9285) le9288) le9293) le9298) le9303) le9312) le9325), h9323, hf⟩
    · clear hE hS
      rintro a w ⟨y6662, A6665, c6666, q6667, D6663, hE, hS, le6664, h6668, hf⟩
      replace hf := hj7345 _ hf
      clear hj7345
      refine wpIn_seq ?_
      refine wpIn_seq ?_
      refine region_at ?_
      refine at_op (op_tk hE (g_fieldAddr (fo := 0) (ft := 4) 0 rfl rfl rfl rfl hE rfl rfl (by kernel_rfl) rfl (fun a hE => ?_))) rfl
      refine at_op (op_tk hE (tk_load 0 (.bool (x1.fWhole)) rfl rfl rfl rfl hE rfl hS rfl rfl (by kernel_rfl) (kL (j := 0) hS rfl List.not_mem_nil) (fun a hE => ?_))) rfl
      refine segN 1 (j := 3) [(30, .bool ((!x1.fWhole)))] hE (by kernel_rfl) rfl (fun a hE => ?_)
      refine at_end rfl ?_
      refine cond_split hE (b := (!x1.fWhole)) rfl (fun hb => ?_) (fun hb => ?_)
      · replace hf := cond_t hb hf
        clear hb
        refine wpIn_seq ?_
        refine region_at ?_
        refine segN 1 (j := 1) [(31, .slice A6665 (List.length (y6662)) c6666)] hE (by kernel_rfl) rfl (fun a hE => ?_)
        refine at_op (op_tk hE (g_fieldAddr (fo := 35) (ft := 27) 35 rfl rfl rfl rfl hE rfl rfl (by kernel_rfl) rfl (fun a hE => ?_))) rfl
        refine at_op (op_tk hE (tk_load 0 (.slice A5 (List.length (x1.fItems)) c6) rfl rfl rfl rfl hE rfl hS rfl rfl (by kernel_rfl) (kL (j := 0) hS rfl List.not_mem_nil) (fun a hE => ?_))) rfl
        obtain ⟨r6692, h6693, hf⟩ := bind_some hf
        refine at_op (op_call rfl rfl rfl rfl hE rfl rfl rfl rfl (by kernel_rfl) (bundle_list_api_Item.calls (g := g) h6693 (hS.st.fore (L := [])) (h7.mono (Snap.le.trans le4680 le6664))) (fun a v w hR hE => ?_)) rfl
        obtain ⟨D6694, A6696, c6697, q6698, rfl, hS1, h6699⟩ := hR
        have le6701 := hS1.dle
        have hS := hS.callR hS1 rfl (.c .n)
        clear hS1
        obtain ⟨D6702, q6705, le6703, hS, h6706, h6704⟩ := hS.lent h6699
        have hS := hS.pk (.c 2 rfl (.c 0 rfl (.c 1 rfl .n))) rfl
        obtain ⟨l6707, h6708, hf⟩ := bind_some hf
        refine at_op (g_append (K := (kdInt .u8)) (e := 5) (bytes := 1) (l := y6662) (m := r6692) rfl rfl rfl rfl hE rfl hS rfl rfl (by kernel_rfl) rfl rfl (h6668.mono (Snap.le.trans le6701 le6703)) h6704 h6708 (fun a A6709 c6710 q6711 w _ hE h6712 hS => ?_)) rfl
        refine segN 1 (j := 6) [(2, .slice A6709 (List.length (l6707)) c6710)] hE (by kernel_rfl) rfl (fun a hE => ?_)
        refine at_end rfl ?_
        refine wpIn_ret ?_
        obtain rfl := Option.some.inj hf
        repeat (with_reducible first | refine then_ret ?_ | refine block_ret ?_ | refine qx_ret ?_)
        refine ret_gen ([.slice A6709 (List.length (l6707)) c6710]) hE (by rw [show Try.f11.results.toList = [.tmp 2] from rfl]; exact ⟨_, _, rfl, rfl, rfl⟩) ?_
        have hS := hS.pk (.c 0 rfl .n) rfl
        exact ⟨_, rfl, D6702, A6709, c6710, q6711, rfl, hS, h6712⟩
      · replace hf := cond_f hb hf
        clear hb
        refine wpIn_skip ?_
        refine wpIn_seq ?_
        refine wpIn_seq ?_
        refine region_at ?_
        refine at_op (op_tk hE (g_fieldAddr (fo := 35) (ft := 27) 35 rfl rfl rfl rfl hE rfl rfl (by kernel_rfl) rfl (fun a hE => ?_))) rfl
        refine at_op (op_tk hE (tk_load 0 (.slice A5 (List.length (x1.fItems)) c6) rfl rfl rfl rfl hE rfl hS rfl rfl (by kernel_rfl) (kL (j := 0) hS rfl List.not_mem_nil) (fun a hE => ?_))) rfl
        refine segN 2 (j := 4) [(38, .int .i64 (((List.length (x1.fItems) : Nat) : Int))), (39, .int .i64 ((0 : Int)))] hE (by kernel_rfl) rfl (fun a hE => ?_)
        refine at_end rfl ?_
        obtain ⟨s7252, hf, hs7253⟩ := bind_some hf
        have hS := hS.pk (.c 1 rfl .n) rfl
        refine block_loop (fun a w => ∃ (z7244 : (List Int)), ∃ (A7247 : Option Addr), ∃ (c7248 : Nat), ∃ (q7249 : Blk), ∃ (D7245 : Snap), Env a 50 [] [(3, .slice A7247 (List.length (z7244)) c7248)] ∧ Stp g w0 D0 [] w D7245 [q7249] ∧ Snap.le D6663 D7245 ∧ OwnD (kdInt .u8) 5 D7245 A7247 c7248 (z7244) q7249 ∧ z7244 = s7252) (fun k a w => ∃ (y7138 : (List Int) × Int), ∃ (A7141 : Option Addr), ∃ (c7142 : Nat), ∃ (q7143 : Blk), ∃ (D7139 : Snap), Env a 50 [] [(3, .slice A7141 (List.length (y7138.1)) c7142), (37, .slice A5 (List.length (x1.fItems)) c6), (38, .int .i64 (((List.length (x1.fItems) : Nat) : Int))), (39, .int .i64 (y7138.2))] ∧ Stp g w0 D0 [] w D7139 [q7143] ∧ Snap.le D6663 D7139 ∧ OwnD (kdInt .u8) 5 D7139 A7141 c7142 (y7138.1) q7143 ∧ bundle_Put_l1.l K x1 k y7138 = some s7252) K ?_ ?_ ?_
        · exact ⟨(y6662, (0 : Int)), A6665, c6666, q6667, D6663, hE.weak (by kernel_rfl), hS, Snap.le.refl _, h6668, hf⟩
        · clear hE hS hf
          rintro a w ⟨z7244, A7247, c7248, q7249, D7245, hE, hS, le7246, h7250, rfl⟩
          have hf := hs7253
          clear hs7253
          refine wpIn_seq ?_
          refine region_at ?_
          refine segN 2 (j := 2) [(2, .slice A7247 (List.length (z7244)) c7248)] hE (by kernel_rfl) rfl (fun a hE => ?_)
          refine at_end rfl ?_
          refine wpIn_ret ?_
          obtain rfl := Option.some.inj hf
          repeat (with_reducible first | refine then_ret ?_ | refine block_ret ?_ | refine qx_ret ?_)
          refine ret_gen ([.slice A7247 (List.length (z7244)) c7248]) hE (by rw [show Try.f11.results.toList = [.tmp 2] from rfl]; exact ⟨_, _, rfl, rfl, rfl⟩) ?_
          exact ⟨_, rfl, D7245, A7247, c7248, q7249, rfl, hS, h7250⟩
        · clear hE hS hf
          rintro k a w ⟨y7138, A7141, c7142, q7143, D7139, hE, hS, le7140, h7144, hf⟩
          obtain ⟨k, rfl, hf⟩ := bundle_Put_l1.some _ hf
          refine ⟨k, rfl, ?_⟩
          unfold bundle_Put_l1.b at hf
          refine wpIn_seq ?_
          refine region_at ?_
          refine segN 1 (j := 1) [(40, .bool ((decide (y7138.2 < ((List.length (x1.fItems) : Nat) : Int)))))] hE (by kernel_rfl) rfl (fun a hE => ?_)
          refine at_end rfl ?_
          refine wpIn_seq ?_
          refine cond_split hE (b := (decide (y7138.2 < ((List.length (x1.fItems) : Nat) : Int)))) rfl (fun hb => ?_) (fun hb => ?_)
          · replace hf := cond_t hb hf
            clear hb
            refine wpIn_skip ?_
            refine wpIn_seq ?_
            refine wpIn_block ?_
            refine wpIn_seq ?_
            refine region_at ?_
            obtain ⟨x7299, h7300, hf⟩ := bind_some hf
            refine at_op (op_tk hE (g_index (K := kd_T_api_Item) (e := 50) (by_ := 256) (zl := 111) rfl rfl rfl rfl hE rfl rfl rfl (by kernel_rfl) rfl (h7.mono (Snap.le.trans (Snap.le.trans le4680 le6664) le7140)) h7300 (fun a b7301 o7302 hE h7303 => ?_))) rfl
            obtain ⟨cs7304, C7305, T7306, fr7307, hr7308, hb7309, hc7310⟩ := h7303
            obtain ⟨A7311, c7312, A7314, c7315, A7317, c7318, rfl, h7313, h7316, h7319⟩ := kd_T_api_Item_el hr7308
            refine at_op (op_tk hE (tk_loadX (off0 := o7302) (off := 0) (c := c_T_api_Item (x7299) A7311 c7312 A7314 c7315 A7317 c7318) (.agg (List.toArray (c_T_api_Item (x7299) A7311 c7312 A7314 c7315 A7317 c7318))) rfl rfl rfl rfl hE rfl hS rfl hb7309 hc7310 (by kernel_rfl) (by kernel_rfl) (kD hS dn_nil) (fun a hE => ?_))) rfl
            refine at_op (op_alloc (z := .agg (List.toArray (c_T_api_Item (z_T_api_Item) none 0 none 0 none 0))) rfl rfl rfl rfl hE rfl hS (by kernel_rfl) (fun a b7320 w _ hE hS => ?_)) rfl
            refine at_op (op_store (v := .agg (List.toArray (c_T_api_Item (x7299) A7311 c7312 A7314 c7315 A7317 c7318))) (c_T_api_Item (x7299) A7311 c7312 A7314 c7315 A7317 c7318) rfl rfl rfl rfl hE hS rfl rfl (by kernel_rfl) (by kernel_rfl) (by kernel_rfl) (by kernel_rfl) (by kernel_rfl) (fun a w _ hE hS => ?_)) rfl
            refine at_end rfl ?_
            refine region_at ?_
            refine segN 1 (j := 1) [(43, .slice A7141 (List.length (y7138.1)) c7142)] hE (by kernel_rfl) rfl (fun a hE => ?_)
            refine at_op (op_tk hE (g_fieldAddr (fo := 1) (ft := 47) 1 rfl rfl rfl rfl hE rfl rfl (by kernel_rfl) rfl (fun a hE => ?_))) rfl
            refine at_op (op_tk hE (tk_load 0 (.agg (List.toArray (c_T_api_Rec (x7299.fRec) A7311 c7312 A7314 c7315))) rfl rfl rfl rfl hE rfl hS rfl rfl (by kernel_rfl) (kL (j := 0) hS rfl List.not_mem_nil) (fun a hE => ?_))) rfl
            obtain ⟨r7322, h7323, hf⟩ := bind_some hf
            refine at_op (op_call rfl rfl rfl rfl hE rfl rfl rfl rfl (by kernel_rfl) (rec_Open.calls (g := g) h7323 (hS.st.fore (L := [])) h7313 h7316) (fun a v w hR hE => ?_)) rfl
            obtain ⟨D7324, A7326, c7327, q7328, rfl, hS1, h7329⟩ := hR
            have le7331 := hS1.dle
            have hS := hS.callR hS1 rfl (.c .n)
            clear hS1
            obtain ⟨D7332, q7335, le7333, hS, h7336, h7334⟩ := hS.lent h7329
            have hS := hS.pk (.c 2 rfl (.c 0 rfl (.c 1 rfl .n))) rfl
            obtain ⟨l7337, h7338, hf⟩ := bind_some hf
            refine at_op (g_append (K := (kdInt .u8)) (e := 5) (bytes := 1) (l := y7138.1) (m := r7322) rfl rfl rfl rfl hE rfl hS rfl rfl (by kernel_rfl) rfl rfl (h7144.mono (Snap.le.trans le7331 le7333)) h7334 h7338 (fun a A7339 c7340 q7341 w _ hE h7342 hS => ?_)) rfl
            refine segN 1 (j := 6) [(3, .slice A7339 (List.length (l7337)) c7340)] hE (by kernel_rfl) rfl (fun a hE => ?_)
            refine at_end rfl ?_
            refine region_at ?_
            refine segN 2 (j := 2) [(39, .int .i64 ((IntKind.wrap .i64 (y7138.2 + (1 : Int)))))] hE (by kernel_rfl) rfl (fun a hE => ?_)
            refine at_end rfl ?_
            have hS := hS.pk (.c 0 rfl .n) rfl
            exact ⟨(l7337, (IntKind.wrap .i64 (y7138.2 + (1 : Int)))), A7339, c7340, q7341, D7332, hE.weak (by kernel_rfl), hS, (Snap.le.trans (Snap.le.trans le7140 le7331) le7333), h7342, hf⟩
          · replace hf := cond_f hb hf
            clear hb
            refine wpIn_exit ?_
            obtain rfl := Option.some.inj hf
            exact ⟨y7138.1, A7141, c7142, q7143, D7139, hE.weak (by kernel_rfl), hS, le7140, h7144, rfl⟩

set_option maxRecDepth 100000 in
set_option maxHeartbeats 4000000 in
theorem bytes_HasPrefix.calls {K : Nat} {g w0 : World} {D0 : Snap} {x1 : (List Int)} {x5 : (List Int)} {A2 : Option Addr} {c3 : Nat} {A6 : Option Addr} {c7 : Nat} {r : (Bool)} (hf : bytes_HasPrefix.f K x1 x5 = some r) (hS0 : St g w0 D0 []) (h4 : Sl (kdInt .u8) D0 A2 c3 (x1)) (h8 : Sl (kdInt .u8) D0 A6 c7 (x5)) :
    CallsIn (Fw none) 0 Try.prog 59 (List.toArray [.slice A2 (List.length (x1)) c3, .slice A6 (List.length (x5)) c7]) w0 (fun e w' => ∃ v, e = .returned v ∧ ∃ (D1 : Snap), v = .bool (r) ∧ Stp g w0 D0 [] w' D1 []) := by
  unfold bytes_HasPrefix.f at hf
  have hS := Stp.refl hS0
  clear hS0
  refine calls_body (n := 18) Try.func59 rfl Try.ntmps59 rfl (fun a hE => ?_)
  have hE : Env a 18 [] [(0, .slice A2 (List.length (x1)) c3), (1, .slice A6 (List.length (x5)) c7)] := hE
  refine wpIn_seq ?_
  refine region_at ?_
  refine segN 1 (j := 1) [(4, .bool false)] hE (by kernel_rfl) rfl (fun a hE => ?_)
  refine at_end rfl ?_
  refine wpIn_seq ?_
  refine region_at ?_
  refine segN 6 (j := 6) [(10, .bool ((decide (((List.length (x5) : Nat) : Int) ≤ ((List.length (x1) : Nat) : Int)))))] hE (by kernel_rfl) rfl (fun a hE => ?_)
  cases hb : (decide (((List.length (x5) : Nat) : Int) ≤ ((List.length (x1) : Nat) : Int)))
  · replace hf := cond_f hb hf
    have hE := hE.know (t := 10) (b := (decide (((List.length (x5) : Nat) : Int) ≤ ((List.length (x1) : Nat) : Int)))) (b' := false) rfl hb
    clear hb
    refine segN 8 (j := 14) [(4, .bool false)] hE (by kernel_rfl) rfl (fun a hE => ?_)
    refine at_end rfl ?_
    refine wpIn_ret ?_
    obtain rfl := Option.some.inj hf
    repeat (with_reducible first | refine then_ret ?_ | refine block_ret ?_ | refine qx_ret ?_)
    refine ret_gen ([.bool false]) hE (by rw [show Try.f59.results.toList = [.tmp 4] from rfl]; exact ⟨_, _, rfl, rfl, rfl⟩) ?_
    exact ⟨_, rfl, D0, rfl, hS⟩
  · replace hf := cond_t hb hf
    have hE := hE.know (t := 10) (b := (decide (((List.length (x5) : Nat) : Int) ≤ ((List.length (x1) : Nat) : Int)))) (b' := true) rfl hb
    clear hb
    refine segN 3 (j := 9) [(11, .slice A2 (List.length (x1)) c3), (13, .int .i64 (((List.length (x5) : Nat) : Int)))] hE (by kernel_rfl) rfl (fun a hE => ?_)
    obtain ⟨l39, h40, hf⟩ := bind_some hf
    refine at_op (op_tk hE (g_slice (K := (kdInt .u8)) (e := 5) (by_ := 1) (zl := 1) rfl rfl rfl rfl hE rfl rfl (by kernel_rfl) rfl ⟨_, rfl⟩ h4 h40 (fun a A41 c42 hE h43 => ?_))) rfl
    refine segN 1 (j := 11) [(15, .slice A6 (List.length (x5)) c7)] hE (by kernel_rfl) rfl (fun a hE => ?_)
    obtain ⟨r44, h45, hf⟩ := bind_some hf
    refine at_op (op_call rfl rfl rfl rfl hE rfl rfl rfl rfl (by kernel_rfl) (bytes_Equal.calls (g := g) h45 (hS.st.fore (L := [])) h43 h8) (fun a v w hR hE => ?_)) rfl
    obtain ⟨D46, rfl, hS1⟩ := hR
    have le48 := hS1.dle
    have hS := hS.callR hS1 rfl .n
    clear hS1
    refine segN 2 (j := 14) [(4, .bool (r44))] hE (by kernel_rfl) rfl (fun a hE => ?_)
    refine at_end rfl ?_
    refine wpIn_ret ?_
    obtain rfl := Option.some.inj hf
    repeat (with_reducible first | refine then_ret ?_ | refine block_ret ?_ | refine qx_ret ?_)
    refine ret_gen ([.bool (r44)]) hE (by rw [show Try.f59.results.toList = [.tmp 4] from rfl]; exact ⟨_, _, rfl, rfl, rfl⟩) ?_
    exact ⟨_, rfl, D46, rfl, hS⟩

set_option maxRecDepth 100000 in
set_option maxHeartbeats 4000000 in
theorem bytes_CutPrefix.calls {K : Nat} {g w0 : World} {D0 : Snap} {x1 : (List Int)} {x5 : (List Int)} {A2 : Option Addr} {c3 : Nat} {A6 : Option Addr} {c7 : Nat} {r : ((List Int) × Bool)} (hf : bytes_CutPrefix.f K x1 x5 = some r) (hS0 : St g w0 D0 []) (h4 : Sl (kdInt .u8) D0 A2 c3 (x1)) (h8 : Sl (kdInt .u8) D0 A6 c7 (x5)) :
    CallsIn (Fw none) 0 Try.prog 28 (List.toArray [.slice A2 (List.length (x1)) c3, .slice A6 (List.length (x5)) c7]) w0 (fun e w' => ∃ v, e = .returned v ∧ ∃ (D1 : Snap) (A24 : Option Addr) (c25 : Nat), v = .tuple #[.slice A24 (List.length (r.1)) c25, .bool (r.2)] ∧ Stp g w0 D0 [] w' D1 [] ∧ Sl (kdInt .u8) D1 A24 c25 (r.1)) := by
  unfold bytes_CutPrefix.f at hf
  have hS := Stp.refl hS0
  clear hS0
  refine calls_body (n := 15) Try.func28 rfl Try.ntmps28 rfl (fun a hE => ?_)
  have hE : Env a 15 [] [(0, .slice A2 (List.length (x1)) c3), (1, .slice A6 (List.length (x5)) c7)] := hE
  refine wpIn_seq ?_
  refine region_at ?_
  refine segN 2 (j := 2) [(4, .slice none 0 0), (5, .bool false)] hE (by kernel_rfl) rfl (fun a hE => ?_)
  refine at_end rfl ?_
  refine wpIn_seq ?_
  refine wpIn_seq ?_
  refine region_at ?_
  refine segN 2 (j := 2) [(6, .slice A2 (List.length (x1)) c3), (7, .slice A6 (List.length (x5)) c7)] hE (by kernel_rfl) rfl (fun a hE => ?_)
  obtain ⟨r32, h33, hf⟩ := bind_some hf
  refine at_op (op_call rfl rfl rfl rfl hE rfl rfl rfl rfl (by kernel_rfl) (bytes_HasPrefix.calls (g := g) h33 (hS.st.fore (L := [])) h4 h8) (fun a v w hR hE => ?_)) rfl
  obtain ⟨D34, rfl, hS1⟩ := hR
  have le36 := hS1.dle
  have hS := hS.callR hS1 rfl .n
  clear hS1
  refine segN 1 (j := 4) [(9, .bool ((!r32)))] hE (by kernel_rfl) rfl (fun a hE => ?_)
  refine at_end rfl ?_
  refine cond_split hE (b := (!r32)) rfl (fun hb => ?_) (fun hb => ?_)
  · replace hf := cond_t hb hf
    clear hb
    refine wpIn_seq ?_
    refine region_at ?_
    refine segN 3 (j := 3) [(4, .slice A2 (List.length (x1)) c3), (5, .bool false)] hE (by kernel_rfl) rfl (fun a hE => ?_)
    refine at_end rfl ?_
    refine wpIn_ret ?_
    obtain rfl := Option.some.inj hf
    repeat (with_reducible first | refine then_ret ?_ | refine block_ret ?_ | refine qx_ret ?_)
    refine ret_gen ([.slice A2 (List.length (x1)) c3, .bool false]) hE (by rw [show Try.f28.results.toList = [.tmp 4, .tmp 5] from rfl]; exact ⟨_, _, rfl, rfl, ⟨_, _, rfl, rfl, rfl⟩⟩) ?_
    exact ⟨_, rfl, D34, A2, c3, rfl, hS, (h4.mono le36)⟩
  · replace hf := cond_f hb hf
    clear hb
    refine wpIn_skip ?_
    refine wpIn_seq ?_
    refine region_at ?_
    refine segN 3 (j := 3) [(11, .slice A2 (List.length (x1)) c3), (13, .int .i64 (((List.length (x5) : Nat) : Int)))] hE (by kernel_rfl) rfl (fun a hE => ?_)
    obtain ⟨l37, h38, hf⟩ := bind_some hf
    refine at_op (op_tk hE (g_slice (K := (kdInt .u8)) (e := 5) (by_ := 1) (zl := 1) rfl rfl rfl rfl hE rfl rfl (by kernel_rfl) ⟨_, rfl⟩ rfl (h4.mono le36) h38 (fun a A39 c40 hE h41 => ?_))) rfl
    refine segN 2 (j := 6) [(4, .slice A39 (List.length (l37)) c40), (5, .bool true)] hE (by kernel_rfl) rfl (fun a hE => ?_)
    refine at_end rfl ?_
    refine wpIn_ret ?_
    obtain rfl := Option.some.inj hf
    repeat (with_reducible first | refine then_ret ?_ | refine block_ret ?_ | refine qx_ret ?_)
    refine ret_gen ([.slice A39 (List.length (l37)) c40, .bool true]) hE (by rw [show Try.f28.results.toList = [.tmp 4, .tmp 5] from rfl]; exact ⟨_, _, rfl, rfl, ⟨_, _, rfl, rfl, rfl⟩⟩) ?_
    exact ⟨_, rfl, D34, A39, c40, rfl, hS, h41⟩

set_option maxRecDepth 100000 in
set_option maxHeartbeats 4000000 in
theorem wire_Read.calls {K : Nat} {g w0 : World} {D0 : Snap} {x1 : (List Int)} {A2 : Option Addr} {c3 : Nat} {r : (T_wire_Reader)} (hf : wire_Read.f K x1 = some r) (hS0 : St g w0 D0 []) (h4 : Sl (kdInt .u8) D0 A2 c3 (x1)) :
    CallsIn (Fw none) 0 Try.prog 29 (List.toArray [.slice A2 (List.length (x1)) c3]) w0 (fun e w' => ∃ v, e = .returned v ∧ ∃ (D1 : Snap) (b22 : Nat) (A24 : Option Addr) (c25 : Nat), v = .pointer (some ⟨b22, 0, none⟩) ∧ Stp g w0 D0 [] w' D1 [bx b22 94 (c_T_wire_Reader ((T_wire_Reader.mk (r.fB) (r.fBad))) A24 c25)] ∧ Sl (kdInt .u8) D1 A24 c25 (r.fB)) := by
  unfold wire_Read.f at hf
  have hS := Stp.refl hS0
  clear hS0
  refine calls_body (n := 7) Try.func29 rfl Try.ntmps29 rfl (fun a hE => ?_)
  have hE : Env a 7 [] [(0, .slice A2 (List.length (x1)) c3)] := hE
  refine wpIn_seq ?_
  refine region_at ?_
  refine segN 1 (j := 1) [(2, .pointer none)] hE (by kernel_rfl) rfl (fun a hE => ?_)
  refine at_end rfl ?_
  refine wpIn_seq ?_
  refine region_at ?_
  refine segN 1 (j := 1) [(3, .slice A2 (List.length (x1)) c3)] hE (by kernel_rfl) rfl (fun a hE => ?_)
  obtain ⟨r27, h28, hf⟩ := bind_some hf
  refine at_op (op_call rfl rfl rfl rfl hE rfl rfl rfl rfl (by kernel_rfl) (slices_Clone_byte_byte.calls (g := g) h28 (hS.st.fore (L := [])) h4) (fun a v w hR hE => ?_)) rfl
  obtain ⟨D29, A31, c32, q33, rfl, hS1, h34⟩ := hR
  have le36 := hS1.dle
  have hS := hS.callR hS1 rfl (.c .n)
  clear hS1
  obtain ⟨D37, q40, le38, hS, h41, h39⟩ := hS.lent h34
  refine at_op (op_tk hE (tk_build (c_T_wire_Reader ((T_wire_Reader.mk (r27) ((0 : Int)))) A31 c32) rfl rfl rfl rfl hE rfl rfl (by kernel_rfl) (fun a hE => ?_))) rfl
  refine at_op (op_box rfl rfl rfl rfl hE rfl hS rfl (fun a b42 w _ hE hS => ?_)) rfl
  refine segN 1 (j := 5) [(2, .pointer (some ⟨b42, 0, none⟩))] hE (by kernel_rfl) rfl (fun a hE => ?_)
  refine at_end rfl ?_
  refine wpIn_ret ?_
  obtain rfl := Option.some.inj hf
  repeat (with_reducible first | refine then_ret ?_ | refine block_ret ?_ | refine qx_ret ?_)
  refine ret_gen ([.pointer (some ⟨b42, 0, none⟩)]) hE (by rw [show Try.f29.results.toList = [.tmp 2] from rfl]; exact ⟨_, _, rfl, rfl, rfl⟩) ?_
  have hS := hS.pk (.c 0 rfl .n) rfl
  exact ⟨_, rfl, D37, b42, A31, c32, rfl, hS, h39⟩

end Go.Proofs.Ytnnhkfmknlfpbaa
