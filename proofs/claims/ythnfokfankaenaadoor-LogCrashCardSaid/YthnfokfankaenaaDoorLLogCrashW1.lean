/-
  Proved, text by text: a call of a function of the cut comes to what its plain function computes.
  Conditions: those that each theorem names.
-/
import Derived.Test.YthnfokfankaenaaDoorProg
import Derived.Test.YthnfokfankaenaaDoorLLogCrashW0
set_option linter.unusedVariables false
namespace Go.Proofs.YthnfokfankaenaaDoor
open Go Go.Sep

set_option maxRecDepth 100000 in
set_option maxHeartbeats 4000000 in
theorem log_read.calls {K : Nat} {g w0 : World} {D0 : Snap} {x1 : (List Int)} {x5 : Int} {x6 : T_log_at} {A2 : Option Addr} {c3 : Nat} {r : (T_log_entry × Bool)} (hf : log_read.f K x1 x5 x6 = some r) (hS0 : St g w0 D0 []) (h4 : Sl (kdInt .u8) D0 A2 c3 (x1)) (hG0 : Cell (kdArr .u32 8) D0 0 0 gl_First) (hG1 : Cell (kdArr .u32 64) D0 1 0 gl_K) :
    CallsIn (Fw none) 0 Tryd.prog 43 (List.toArray [.slice A2 (List.length (x1)) c3, .int .i64 (x5), .agg (List.toArray (c_T_log_at (x6)))]) w0 (fun e w' => ∃ v, e = .returned v ∧ ∃ (D1 : Snap) (A122 : Option Addr) (c123 : Nat), v = .tuple #[.agg (List.toArray (c_T_log_entry ((T_log_entry.mk (r.1.fB) ((T_log_at.mk (r.1.fEnd.fCount) (r.1.fEnd.fChain))) (r.1.fNext))) A122 c123)), .bool (r.2)] ∧ Stp g w0 D0 [] w' D1 [] ∧ Sl (kdInt .u8) D1 A122 c123 (r.1.fB)) := by
  unfold log_read.f at hf
  have hS := Stp.refl hS0
  clear hS0
  refine calls_body (n := 45) Tryd.func43 rfl Tryd.ntmps43 rfl (fun a hE => ?_)
  have hE : Env a 45 [] [(0, .slice A2 (List.length (x1)) c3), (1, .int .i64 (x5)), (2, .agg (List.toArray (c_T_log_at (x6))))] := hE
  refine wpIn_seq ?_
  refine region_at ?_
  refine at_op (op_box rfl rfl rfl rfl hE rfl hS rfl (fun a b125 w _ hE hS => ?_)) rfl
  refine at_op (op_alloc (z := .agg (List.toArray (c_T_log_entry (z_T_log_entry) none 0))) rfl rfl rfl rfl hE rfl hS (by kernel_rfl) (fun a b127 w _ hE hS => ?_)) rfl
  refine segN 1 (j := 3) [(7, .bool false)] hE (by kernel_rfl) rfl (fun a hE => ?_)
  refine at_end rfl ?_
  refine wpIn_seq ?_
  refine region_at ?_
  refine segN 2 (j := 2) [(11, .slice A2 (List.length (x1)) c3), (12, .int .i64 (x5))] hE (by kernel_rfl) rfl (fun a hE => ?_)
  obtain ⟨l129, h130, hf⟩ := bind_some hf
  refine at_op (op_tk hE (g_slice (K := (kdInt .u8)) (e := 5) (by_ := 1) (zl := 1) rfl rfl rfl rfl hE rfl rfl (by kernel_rfl) ⟨_, rfl⟩ rfl h4 h130 (fun a A131 c132 hE h133 => ?_))) rfl
  obtain ⟨r134, h135, hf⟩ := bind_some hf
  refine at_op (op_call rfl rfl rfl rfl hE rfl rfl rfl rfl (by kernel_rfl) (wire_Read.calls (g := g) h135 (hS.st.fore (L := [])) h133) (fun a v w hR hE => ?_)) rfl
  obtain ⟨D136, b138, A140, c141, rfl, hS1, h142⟩ := hR
  have le143 := hS1.dle
  have hS := hS.callR hS1 rfl (.c .n)
  clear hS1
  refine segN 1 (j := 5) [(8, .pointer (some ⟨b138, 0, none⟩))] hE (by kernel_rfl) rfl (fun a hE => ?_)
  refine at_end rfl ?_
  refine wpIn_seq ?_
  refine region_at ?_
  refine segN 1 (j := 1) [(15, .pointer (some ⟨b138, 0, none⟩))] hE (by kernel_rfl) rfl (fun a hE => ?_)
  obtain ⟨r144, h145, hf⟩ := bind_some hf
  refine at_op (op_call rfl rfl rfl rfl hE rfl rfl rfl rfl (by kernel_rfl) (wire_Reader_Bytes.calls (g := g) h145 (hS.st.fore (L := [bx b138 102 (c_T_wire_Reader (r134) A140 c141)])) h142) (fun a v w hR hE => ?_)) rfl
  obtain ⟨D146, A148, c149, q150, A153, c154, rfl, hS1, h151, h155⟩ := hR
  have le156 := hS1.dle
  have hS := hS.callR hS1 rfl (.c (.c .n))
  clear hS1
  refine segN 1 (j := 3) [(9, .slice A148 (List.length (r144.1)) c149)] hE (by kernel_rfl) rfl (fun a hE => ?_)
  refine at_end rfl ?_
  refine wpIn_seq ?_
  obtain ⟨j233, hj234, hf⟩ := jn_elim hf
  refine seq_join (fun a w => ∃ (y177 : Bool), ∃ (D178 : Snap), Env a 45 [] [(0, .slice A2 (List.length (x1)) c3), (1, .int .i64 (x5)), (5, .pointer (some ⟨b125, 0, none⟩)), (6, .pointer (some ⟨b127, 0, none⟩)), (9, .slice A148 (List.length (r144.1)) c149), (24, .bool (y177))] ∧ Stp g w0 D0 [] w D178 [bx b125 62 (c_T_log_at (x6)), bx b127 69 (c_T_log_entry (z_T_log_entry) none 0), q150] ∧ Snap.le D146 D178 ∧ j233 y177 = some r) ?_ ?_
  · clear hj234
    refine region_at ?_
    refine segN 1 (j := 1) [(17, .pointer (some ⟨b138, 0, none⟩))] hE (by kernel_rfl) rfl (fun a hE => ?_)
    obtain ⟨r235, h236, hf⟩ := bind_some hf
    refine at_op (op_call rfl rfl rfl rfl hE rfl rfl rfl rfl (by kernel_rfl) (wire_Reader_Bad.calls (g := g) h236 (hS.st.fore (L := [bx b138 102 (c_T_wire_Reader (r144.2) A153 c154)])) h155) (fun a v w hR hE => ?_)) rfl
    obtain ⟨D237, rfl, hS1⟩ := hR
    have le239 := hS1.dle
    have hS := hS.callR hS1 rfl (.c .n)
    clear hS1
    refine segN 2 (j := 4) [(20, .bool ((!decide (r235 = (0 : Int)))))] hE (by kernel_rfl) rfl (fun a hE => ?_)
    cases hb : (!decide (r235 = (0 : Int)))
    · replace hf := cond_f hb hf
      have hE := hE.know (t := 20) (b := (!decide (r235 = (0 : Int)))) (b' := false) rfl hb
      clear hb
      refine segN 4 (j := 8) [(24, .bool ((decide (((List.length (r144.1) : Nat) : Int) = (0 : Int)))))] hE (by kernel_rfl) rfl (fun a hE => ?_)
      refine at_end rfl ?_
      have hS := hS.pk (.c 3 rfl (.c 2 rfl (.c 1 rfl .n))) rfl
      exact ⟨(decide (((List.length (r144.1) : Nat) : Int) = (0 : Int))), D237, hE.weak (by kernel_rfl), hS, le239, hf⟩
    · replace hf := cond_t hb hf
      have hE := hE.know (t := 20) (b := (!decide (r235 = (0 : Int)))) (b' := true) rfl hb
      clear hb
      refine segN 4 (j := 8) [(24, .bool true)] hE (by kernel_rfl) rfl (fun a hE => ?_)
      refine at_end rfl ?_
      have hS := hS.pk (.c 3 rfl (.c 2 rfl (.c 1 rfl .n))) rfl
      exact ⟨true, D237, hE.weak (by kernel_rfl), hS, le239, hf⟩
  · clear hE hS
    rintro a w ⟨y177, D178, hE, hS, le179, hf⟩
    replace hf := hj234 _ hf
    clear hj234
    refine cond_split hE (b := y177) rfl (fun hb => ?_) (fun hb => ?_)
    · replace hf := cond_t hb hf
      clear hb
      refine wpIn_seq ?_
      refine region_at ?_
      refine at_op (op_tk hE (tk_build (c_T_log_entry (z_T_log_entry) none 0) rfl rfl rfl rfl hE rfl rfl (by kernel_rfl) (fun a hE => ?_))) rfl
      have hS := hS.pk (.c 1 rfl (.c 0 rfl (.c 2 rfl .n))) rfl
      refine at_op (op_store (v := .agg (List.toArray (c_T_log_entry (z_T_log_entry) none 0))) (c_T_log_entry (z_T_log_entry) none 0) rfl rfl rfl rfl hE hS rfl rfl (by kernel_rfl) (by kernel_rfl) (by kernel_rfl) (by kernel_rfl) (by kernel_rfl) (fun a w _ hE hS => ?_)) rfl
      refine segN 1 (j := 3) [(7, .bool false)] hE (by kernel_rfl) rfl (fun a hE => ?_)
      refine at_end rfl ?_
      refine wpIn_ret ?_
      obtain rfl := Option.some.inj hf
      repeat (with_reducible first | refine then_ret ?_ | refine block_ret ?_ | refine qx_ret ?_)
      refine ret_gen ([.agg (List.toArray (c_T_log_entry (z_T_log_entry) none 0)), .bool false]) hE (by rw [show Tryd.f43.results.toList = [.cell 6 69, .tmp 7] from rfl]; exact ⟨_, _, _, 0, _, _, rfl, rfl, hS.heapAt (j := 0) rfl, by kernel_rfl, ⟨_, _, rfl, rfl, rfl⟩⟩) ?_
      have hS := hS.pk .n rfl
      exact ⟨_, rfl, D178, none, 0, rfl, hS, (Sl.nil (kdInt .u8) D178)⟩
    · replace hf := cond_f hb hf
      clear hb
      refine wpIn_skip ?_
      refine wpIn_seq ?_
      refine region_at ?_
      refine at_op (op_tk hE (tk_load 0 (.agg (List.toArray (c_T_log_at (x6)))) rfl rfl rfl rfl hE rfl hS rfl rfl (by kernel_rfl) (kL (j := 0) hS rfl List.not_mem_nil) (fun a hE => ?_))) rfl
      refine segN 1 (j := 2) [(27, .slice A148 (List.length (r144.1)) c149)] hE (by kernel_rfl) rfl (fun a hE => ?_)
      have hS := hS.pk (.c 2 rfl (.c 0 rfl (.c 1 rfl .n))) rfl
      obtain ⟨D180, q183, le181, hS, h184, h182⟩ := hS.lent (h151.mono le179)
      obtain ⟨r185, h186, hf⟩ := bind_some hf
      refine at_op (op_call rfl rfl rfl rfl hE rfl rfl rfl rfl (by kernel_rfl) (log_at_laid.calls (g := g) h186 (hS.st.fore (L := [])) h182 (hG0.mono (Snap.le.trans (Snap.le.trans (Snap.le.trans le143 le156) le179) le181)) (hG1.mono (Snap.le.trans (Snap.le.trans (Snap.le.trans le143 le156) le179) le181))) (fun a v w hR hE => ?_)) rfl
      obtain ⟨D187, A189, c190, q191, rfl, hS1, h192⟩ := hR
      have le194 := hS1.dle
      have hS := hS.callR hS1 rfl (.c .n)
      clear hS1
      refine segN 1 (j := 4) [(10, .slice A189 (List.length (r185)) c190)] hE (by kernel_rfl) rfl (fun a hE => ?_)
      refine at_end rfl ?_
      refine wpIn_seq ?_
      refine wpIn_seq ?_
      refine region_at ?_
      refine segN 2 (j := 2) [(29, .slice A2 (List.length (x1)) c3), (30, .int .i64 (x5))] hE (by kernel_rfl) rfl (fun a hE => ?_)
      obtain ⟨l210, h211, hf⟩ := bind_some hf
      refine at_op (op_tk hE (g_slice (K := (kdInt .u8)) (e := 5) (by_ := 1) (zl := 1) rfl rfl rfl rfl hE rfl rfl (by kernel_rfl) ⟨_, rfl⟩ rfl (h4.mono (Snap.le.trans (Snap.le.trans (Snap.le.trans (Snap.le.trans le143 le156) le179) le181) le194)) h211 (fun a A212 c213 hE h214 => ?_))) rfl
      refine segN 1 (j := 4) [(32, .slice A189 (List.length (r185)) c190)] hE (by kernel_rfl) rfl (fun a hE => ?_)
      obtain ⟨D215, q218, le216, hS, h219, h217⟩ := hS.lent h192
      obtain ⟨r220, h221, hf⟩ := bind_some hf
      refine at_op (op_call rfl rfl rfl rfl hE rfl rfl rfl rfl (by kernel_rfl) (bytes_HasPrefix.calls (g := g) h221 (hS.st.fore (L := [])) (h214.mono le216) h217) (fun a v w hR hE => ?_)) rfl
      obtain ⟨D222, rfl, hS1⟩ := hR
      have le224 := hS1.dle
      have hS := hS.callR hS1 rfl .n
      clear hS1
      refine segN 1 (j := 6) [(34, .bool ((!r220)))] hE (by kernel_rfl) rfl (fun a hE => ?_)
      refine at_end rfl ?_
      refine cond_split hE (b := (!r220)) rfl (fun hb => ?_) (fun hb => ?_)
      · replace hf := cond_t hb hf
        clear hb
        refine wpIn_seq ?_
        refine region_at ?_
        refine at_op (op_tk hE (tk_build (c_T_log_entry (z_T_log_entry) none 0) rfl rfl rfl rfl hE rfl rfl (by kernel_rfl) (fun a hE => ?_))) rfl
        have hS := hS.pk (.c 3 rfl (.c 0 rfl (.c 1 rfl (.c 2 rfl .n)))) rfl
        refine at_op (op_store (v := .agg (List.toArray (c_T_log_entry (z_T_log_entry) none 0))) (c_T_log_entry (z_T_log_entry) none 0) rfl rfl rfl rfl hE hS rfl rfl (by kernel_rfl) (by kernel_rfl) (by kernel_rfl) (by kernel_rfl) (by kernel_rfl) (fun a w _ hE hS => ?_)) rfl
        refine segN 1 (j := 3) [(7, .bool false)] hE (by kernel_rfl) rfl (fun a hE => ?_)
        refine at_end rfl ?_
        refine wpIn_ret ?_
        obtain rfl := Option.some.inj hf
        repeat (with_reducible first | refine then_ret ?_ | refine block_ret ?_ | refine qx_ret ?_)
        refine ret_gen ([.agg (List.toArray (c_T_log_entry (z_T_log_entry) none 0)), .bool false]) hE (by rw [show Tryd.f43.results.toList = [.cell 6 69, .tmp 7] from rfl]; exact ⟨_, _, _, 0, _, _, rfl, rfl, hS.heapAt (j := 0) rfl, by kernel_rfl, ⟨_, _, rfl, rfl, rfl⟩⟩) ?_
        have hS := hS.pk .n rfl
        exact ⟨_, rfl, D222, none, 0, rfl, hS, (Sl.nil (kdInt .u8) D222)⟩
      · replace hf := cond_f hb hf
        clear hb
        refine wpIn_skip ?_
        refine wpIn_seq ?_
        refine region_at ?_
        refine segN 1 (j := 1) [(36, .slice A148 (List.length (r144.1)) c149)] hE (by kernel_rfl) rfl (fun a hE => ?_)
        refine at_op (op_tk hE (tk_load 2 (.agg (List.toArray (c_T_log_at (x6)))) rfl rfl rfl rfl hE rfl hS rfl rfl (by kernel_rfl) (kL (j := 2) hS rfl List.not_mem_nil) (fun a hE => ?_))) rfl
        refine segN 1 (j := 3) [(38, .slice A148 (List.length (r144.1)) c149)] hE (by kernel_rfl) rfl (fun a hE => ?_)
        obtain ⟨r225, h226, hf⟩ := bind_some hf
        refine at_op (op_call rfl rfl rfl rfl hE rfl rfl rfl rfl (by kernel_rfl) (log_at_behind.calls (g := g) h226 (hS.st.fore (L := [])) (h182.mono (Snap.le.trans (Snap.le.trans le194 le216) le224)) (hG0.mono (Snap.le.trans (Snap.le.trans (Snap.le.trans (Snap.le.trans (Snap.le.trans (Snap.le.trans le143 le156) le179) le181) le194) le216) le224)) (hG1.mono (Snap.le.trans (Snap.le.trans (Snap.le.trans (Snap.le.trans (Snap.le.trans (Snap.le.trans le143 le156) le179) le181) le194) le216) le224))) (fun a v w hR hE => ?_)) rfl
        obtain ⟨D227, rfl, hS1⟩ := hR
        have le229 := hS1.dle
        have hS := hS.callR hS1 rfl .n
        clear hS1
        refine segN 4 (j := 8) [(43, .int .i64 ((IntKind.wrap .i64 (x5 + ((List.length (r185) : Nat) : Int)))))] hE (by kernel_rfl) rfl (fun a hE => ?_)
        refine at_op (op_tk hE (tk_build (c_T_log_entry ((T_log_entry.mk (r144.1) (r225) ((IntKind.wrap .i64 (x5 + ((List.length (r185) : Nat) : Int)))))) A148 c149) rfl rfl rfl rfl hE rfl rfl (by kernel_rfl) (fun a hE => ?_))) rfl
        have hS := hS.pk (.c 3 rfl (.c 0 rfl (.c 1 rfl (.c 2 rfl .n)))) rfl
        obtain ⟨v230, hv231, hf⟩ := bind_some hf
        replace hv231 := Option.some.inj hv231
        refine at_op (op_store (v := .agg (List.toArray (c_T_log_entry ((T_log_entry.mk (r144.1) (r225) ((IntKind.wrap .i64 (x5 + ((List.length (r185) : Nat) : Int)))))) A148 c149))) (c_T_log_entry (v230) A148 c149) rfl rfl rfl rfl hE hS rfl rfl (by kernel_rfl) (by kernel_rfl) (by kernel_rfl) (by kernel_rfl) (by rw [← hv231]; kernel_rfl) (fun a w _ hE hS => ?_)) rfl
        have h232 : Sl (kdInt .u8) D180 A148 c149 (v230.fB) := by rw [← hv231]; exact h182
        refine segN 1 (j := 11) [(7, .bool true)] hE (by kernel_rfl) rfl (fun a hE => ?_)
        refine at_end rfl ?_
        refine wpIn_ret ?_
        obtain rfl := Option.some.inj hf
        repeat (with_reducible first | refine then_ret ?_ | refine block_ret ?_ | refine qx_ret ?_)
        refine ret_gen ([.agg (List.toArray (c_T_log_entry (v230) A148 c149)), .bool true]) hE (by rw [show Tryd.f43.results.toList = [.cell 6 69, .tmp 7] from rfl]; exact ⟨_, _, _, 0, _, _, rfl, rfl, hS.heapAt (j := 0) rfl, by kernel_rfl, ⟨_, _, rfl, rfl, rfl⟩⟩) ?_
        have hS := hS.pk .n rfl
        exact ⟨_, rfl, D227, A148, c149, rfl, hS, (h232.mono (Snap.le.trans (Snap.le.trans (Snap.le.trans le194 le216) le224) le229))⟩

set_option maxRecDepth 100000 in
set_option maxHeartbeats 4000000 in
theorem disk_Disk_leave.calls {K : Nat} {g w0 : World} {D0 : Snap} {x3 : Int} {x4 : (List Int)} {x10 : Int} {x11 : Int} {b1 : Nat} {A5 : Option Addr} {c6 : Nat} {q7 : Blk} {r : ((List Int) × Int)} (hf : disk_Disk_leave.f K x3 x4 x10 x11 = some r) (hS0 : St g w0 D0 [bx b1 72 (c_T_disk_Disk ((T_disk_Disk.mk (x4) (x10) (x11))) A5 c6), q7]) (h8 : OwnL (kdInt .u8) 5 D0 A5 c6 (x4) q7) :
    CallsIn (Fw none) 0 Tryd.prog 39 (List.toArray [.pointer (some ⟨b1, 0, none⟩), .int .i64 (x3)]) w0 (fun e w' => ∃ v, e = .returned v ∧ ∃ (D1 : Snap) (A23 : Option Addr) (c24 : Nat) (q25 : Blk), v = .tuple #[] ∧ Stp g w0 D0 [bx b1 72 (c_T_disk_Disk ((T_disk_Disk.mk (x4) (x10) (x11))) A5 c6), q7] w' D1 [bx b1 72 (c_T_disk_Disk ((T_disk_Disk.mk (r.1) (r.2) (x11))) A23 c24), q25] ∧ OwnL (kdInt .u8) 5 D1 A23 c24 (r.1) q25) := by
  unfold disk_Disk_leave.f at hf
  have hS := Stp.refl hS0
  clear hS0
  refine calls_body (n := 18) Tryd.func39 rfl Tryd.ntmps39 rfl (fun a hE => ?_)
  have hE : Env a 18 [] [(0, .pointer (some ⟨b1, 0, none⟩)), (1, .int .i64 (x3))] := hE
  refine wpIn_seq ?_
  refine region_at ?_
  refine segN 3 (j := 3) [(4, .pointer (some ⟨b1, 0, none⟩)), (6, .pointer (some ⟨b1, 0, none⟩))] hE (by kernel_rfl) rfl (fun a hE => ?_)
  refine at_op (op_tk hE (g_fieldAddr (fo := 0) (ft := 33) 0 rfl rfl rfl rfl hE rfl rfl (by kernel_rfl) rfl (fun a hE => ?_))) rfl
  refine at_op (op_tk hE (tk_load 0 (.slice A5 (List.length (x4)) c6) rfl rfl rfl rfl hE rfl hS rfl rfl (by kernel_rfl) (kL (j := 0) hS rfl List.not_mem_nil) (fun a hE => ?_))) rfl
  refine segN 2 (j := 7) [(9, .int .i64 (x3)), (10, .int .i64 (x3))] hE (by kernel_rfl) rfl (fun a hE => ?_)
  have hS := hS.pk (.c 1 rfl (.c 0 rfl .n)) rfl
  obtain ⟨D28, q31, le29, hS, h32, h30⟩ := hS.lent h8
  obtain ⟨l33, h34, hf⟩ := bind_some hf
  refine at_op (op_tk hE (tk_sliceFull (K := (kdInt .u8)) (e := 5) (by_ := 1) (zl0 := 1) rfl rfl rfl rfl hE rfl rfl (by kernel_rfl) rfl rfl rfl h30 h34 (fun a A35 hE h36 => ?_))) rfl
  have h38 := OwnL.full 5 h36 rfl
  have hS := hS.nils
  refine segN 1 (j := 9) [(12, .pointer (some ⟨b1, 0, none⟩))] hE (by kernel_rfl) rfl (fun a hE => ?_)
  refine at_op (op_tk hE (g_fieldAddr (fo := 0) (ft := 33) 0 rfl rfl rfl rfl hE rfl rfl (by kernel_rfl) rfl (fun a hE => ?_))) rfl
  have hS := hS.pk (.c 2 rfl (.c 0 rfl (.c 1 rfl .n))) rfl
  refine at_op (op_store (v := .slice A35 (List.length (l33)) (List.length (l33))) (c_T_disk_Disk ((T_disk_Disk.mk (l33) (x10) (x11))) A35 ((List.length (l33)))) rfl rfl rfl rfl hE hS rfl rfl (by kernel_rfl) (by kernel_rfl) (by kernel_rfl) (by kernel_rfl) (by kernel_rfl) (fun a w _ hE hS => ?_)) rfl
  refine at_end rfl ?_
  refine region_at ?_
  refine segN 3 (j := 3) [(15, .int .i64 (x3)), (16, .pointer (some ⟨b1, 0, none⟩))] hE (by kernel_rfl) rfl (fun a hE => ?_)
  refine at_op (op_tk hE (g_fieldAddr (fo := 1) (ft := 3) 1 rfl rfl rfl rfl hE rfl rfl (by kernel_rfl) rfl (fun a hE => ?_))) rfl
  refine at_op (op_store (v := .int .i64 (x3)) (c_T_disk_Disk ((T_disk_Disk.mk (l33) (x3) (x11))) A35 ((List.length (l33)))) rfl rfl rfl rfl hE hS rfl rfl (by kernel_rfl) (by kernel_rfl) (by kernel_rfl) (by kernel_rfl) (by kernel_rfl) (fun a w _ hE hS => ?_)) rfl
  refine at_end rfl ?_
  obtain rfl := Option.some.inj hf
  repeat (with_reducible first | refine then_ret ?_ | refine block_ret ?_ | refine qx_ret ?_)
  refine ret_genN ([]) hE (by rw [show Tryd.f39.results.toList = [] from rfl]; exact rfl) ?_
  have hS := hS.pk (.c 0 rfl (.c 1 rfl .n)) rfl
  exact ⟨_, rfl, D28, A35, (List.length (l33)), none, rfl, hS, h38⟩

set_option maxRecDepth 100000 in
set_option maxHeartbeats 4000000 in
theorem disk_Disk_Cut.calls {K : Nat} {g w0 : World} {D0 : Snap} {x3 : Int} {x4 : (List Int)} {x10 : Int} {x11 : Int} {b1 : Nat} {A5 : Option Addr} {c6 : Nat} {q7 : Blk} {r : (Int × (List Int) × Int)} (hf : disk_Disk_Cut.f K x3 x4 x10 x11 = some r) (hS0 : St g w0 D0 [bx b1 72 (c_T_disk_Disk ((T_disk_Disk.mk (x4) (x10) (x11))) A5 c6), q7]) (h8 : OwnL (kdInt .u8) 5 D0 A5 c6 (x4) q7) :
    CallsIn (Fw none) 0 Tryd.prog 32 (List.toArray [.pointer (some ⟨b1, 0, none⟩), .int .i64 (x3)]) w0 (fun e w' => ∃ v, e = .returned v ∧ ∃ (D1 : Snap) (A32 : Option Addr) (c33 : Nat) (q34 : Blk), v = .int .i64 (r.1) ∧ Stp g w0 D0 [bx b1 72 (c_T_disk_Disk ((T_disk_Disk.mk (x4) (x10) (x11))) A5 c6), q7] w' D1 [bx b1 72 (c_T_disk_Disk ((T_disk_Disk.mk (r.2.1) (r.2.2) (x11))) A32 c33), q34] ∧ OwnL (kdInt .u8) 5 D1 A32 c33 (r.2.1) q34) := by
  unfold disk_Disk_Cut.f at hf
  have hS := Stp.refl hS0
  clear hS0
  refine calls_body (n := 23) Tryd.func32 rfl Tryd.ntmps32 rfl (fun a hE => ?_)
  have hE : Env a 23 [] [(0, .pointer (some ⟨b1, 0, none⟩)), (1, .int .i64 (x3))] := hE
  refine wpIn_seq ?_
  refine region_at ?_
  refine segN 1 (j := 1) [(4, .int .i64 ((0 : Int)))] hE (by kernel_rfl) rfl (fun a hE => ?_)
  refine at_end rfl ?_
  refine wpIn_seq ?_
  obtain ⟨j55, hj56, hf⟩ := jn_elim hf
  refine seq_join (fun a w => ∃ (y42 : Bool), ∃ (D43 : Snap), Env a 23 [] [(0, .pointer (some ⟨b1, 0, none⟩)), (1, .int .i64 (x3)), (19, .bool (y42))] ∧ Stp g w0 D0 [bx b1 72 (c_T_disk_Disk ((T_disk_Disk.mk (x4) (x10) (x11))) A5 c6), q7] w D43 [bx b1 72 (c_T_disk_Disk ((T_disk_Disk.mk (x4) (x10) (x11))) A5 c6), q7] ∧ Snap.le D0 D43 ∧ j55 y42 = some r) ?_ ?_
  · clear hj56
    refine region_at ?_
    refine segN 1 (j := 1) [(5, .pointer (some ⟨b1, 0, none⟩))] hE (by kernel_rfl) rfl (fun a hE => ?_)
    refine at_op (op_tk hE (tk_bin (r := .bool false) rfl rfl rfl rfl hE rfl rfl rfl (eqptr_run (by kernel_rfl) _) (fun a hE => ?_))) rfl
    refine segN 5 (j := 7) [(11, .bool ((decide (x3 < (0 : Int)))))] hE (by kernel_rfl) rfl (fun a hE => ?_)
    cases hb : (decide (x3 < (0 : Int)))
    · replace hf := cond_f hb hf
      have hE := hE.know (t := 11) (b := (decide (x3 < (0 : Int)))) (b' := false) rfl hb
      clear hb
      refine segN 3 (j := 10) [(12, .int .i64 (x3)), (14, .pointer (some ⟨b1, 0, none⟩))] hE (by kernel_rfl) rfl (fun a hE => ?_)
      refine at_op (op_tk hE (g_fieldAddr (fo := 0) (ft := 33) 0 rfl rfl rfl rfl hE rfl rfl (by kernel_rfl) rfl (fun a hE => ?_))) rfl
      refine at_op (op_tk hE (tk_load 0 (.slice A5 (List.length (x4)) c6) rfl rfl rfl rfl hE rfl hS rfl rfl (by kernel_rfl) (kL (j := 0) hS rfl List.not_mem_nil) (fun a hE => ?_))) rfl
      refine segN 3 (j := 15) [(19, .bool ((decide (((List.length (x4) : Nat) : Int) < x3))))] hE (by kernel_rfl) rfl (fun a hE => ?_)
      refine at_end rfl ?_
      exact ⟨(decide (((List.length (x4) : Nat) : Int) < x3)), D0, hE.weak (by kernel_rfl), hS, Snap.le.refl _, hf⟩
    · replace hf := cond_t hb hf
      have hE := hE.know (t := 11) (b := (decide (x3 < (0 : Int)))) (b' := true) rfl hb
      clear hb
      refine segN 8 (j := 15) [(19, .bool true)] hE (by kernel_rfl) rfl (fun a hE => ?_)
      refine at_end rfl ?_
      exact ⟨true, D0, hE.weak (by kernel_rfl), hS, Snap.le.refl _, hf⟩
  · clear hE hS
    rintro a w ⟨y42, D43, hE, hS, le44, hf⟩
    replace hf := hj56 _ hf
    clear hj56
    refine cond_split hE (b := y42) rfl (fun hb => ?_) (fun hb => ?_)
    · replace hf := cond_t hb hf
      clear hb
      refine wpIn_seq ?_
      refine region_at ?_
      refine segN 1 (j := 1) [(4, .int .i64 ((1 : Int)))] hE (by kernel_rfl) rfl (fun a hE => ?_)
      refine at_end rfl ?_
      refine wpIn_ret ?_
      obtain rfl := Option.some.inj hf
      repeat (with_reducible first | refine then_ret ?_ | refine block_ret ?_ | refine qx_ret ?_)
      refine ret_gen ([.int .i64 ((1 : Int))]) hE (by rw [show Tryd.f32.results.toList = [.tmp 4] from rfl]; exact ⟨_, _, rfl, rfl, rfl⟩) ?_
      exact ⟨_, rfl, D43, A5, c6, q7, rfl, hS, (h8.mono le44)⟩
    · replace hf := cond_f hb hf
      clear hb
      refine wpIn_skip ?_
      refine wpIn_seq ?_
      refine region_at ?_
      refine segN 2 (j := 2) [(20, .pointer (some ⟨b1, 0, none⟩)), (21, .int .i64 (x3))] hE (by kernel_rfl) rfl (fun a hE => ?_)
      obtain ⟨r45, h46, hf⟩ := bind_some hf
      refine at_op (op_call rfl rfl rfl rfl hE rfl rfl rfl rfl (by kernel_rfl) (disk_Disk_leave.calls (g := g) h46 (hS.st.fore (L := [bx b1 72 (c_T_disk_Disk ((T_disk_Disk.mk (x4) (x10) (x11))) A5 c6), q7])) (h8.mono le44)) (fun a v w hR hE => ?_)) rfl
      obtain ⟨D47, A49, c50, q51, rfl, hS1, h52⟩ := hR
      have le54 := hS1.dle
      have hS := hS.callR hS1 rfl (.c (.c .n))
      clear hS1
      refine at_end rfl ?_
      refine wpIn_seq ?_
      refine region_at ?_
      refine segN 1 (j := 1) [(4, .int .i64 ((0 : Int)))] hE (by kernel_rfl) rfl (fun a hE => ?_)
      refine at_end rfl ?_
      refine wpIn_ret ?_
      obtain rfl := Option.some.inj hf
      repeat (with_reducible first | refine then_ret ?_ | refine block_ret ?_ | refine qx_ret ?_)
      refine ret_gen ([.int .i64 ((0 : Int))]) hE (by rw [show Tryd.f32.results.toList = [.tmp 4] from rfl]; exact ⟨_, _, rfl, rfl, rfl⟩) ?_
      exact ⟨_, rfl, D47, A49, c50, q51, rfl, hS, h52⟩

set_option maxRecDepth 100000 in
set_option maxHeartbeats 4000000 in
theorem log_Open.calls {K : Nat} {g w0 : World} {D0 : Snap} {x3 : (List Int)} {x9 : Int} {x10 : Int} {b1 : Nat} {A4 : Option Addr} {c5 : Nat} {q6 : Blk} {r : ((List (List Int)) × Int × (List Int) × Int × T_log_at)} (hf : log_Open.f K x3 x9 x10 = some r) (hS0 : St g w0 D0 [bx b1 72 (c_T_disk_Disk ((T_disk_Disk.mk (x3) (x9) (x10))) A4 c5), q6]) (h7 : OwnL (kdInt .u8) 5 D0 A4 c5 (x3) q6) (hG0 : Cell (kdArr .u32 8) D0 0 0 gl_First) (hG1 : Cell (kdArr .u32 64) D0 1 0 gl_K) :
    CallsIn (Fw none) 0 Tryd.prog 11 (List.toArray [.pointer (some ⟨b1, 0, none⟩)]) w0 (fun e w' => ∃ v, e = .returned v ∧ ∃ (D1 : Snap) (b1225 : Nat) (A1227 : Option Addr) (c1228 : Nat) (q1229 : Blk) (A1232 : Option Addr) (c1233 : Nat) (q1234 : Blk), v = .tuple #[.pointer (some ⟨b1225, 0, none⟩), .slice A1227 (List.length (r.1)) c1228, .int .i64 (r.2.1)] ∧ Stp g w0 D0 [bx b1 72 (c_T_disk_Disk ((T_disk_Disk.mk (x3) (x9) (x10))) A4 c5), q6] w' D1 [bx b1 72 (c_T_disk_Disk ((T_disk_Disk.mk (r.2.2.1) (r.2.2.2.1) (x10))) A1232 c1233), bx b1225 64 ([.pointer (some ⟨b1, 0, none⟩)] ++ ((c_T_log_at ((T_log_at.mk (r.2.2.2.2.fCount) (r.2.2.2.2.fChain)))))), q1229, q1234] ∧ OwnL (kdSlice (kdInt .u8)) 33 D1 A1227 c1228 (r.1) q1229 ∧ OwnL (kdInt .u8) 5 D1 A1232 c1233 (r.2.2.1) q1234) := by
  unfold log_Open.f at hf
  have hS := Stp.refl hS0
  clear hS0
  refine calls_bodyM (n := 35) Tryd.func11 rfl Tryd.ntmps11 rfl (fun a hE => ?_)
  have hE : Env a 35 [] [(0, .pointer (some ⟨b1, 0, none⟩))] := hE
  refine wpIn_seq ?_
  refine region_at ?_
  refine segN 3 (j := 3) [(2, .pointer none), (3, .slice none 0 0), (4, .int .i64 ((0 : Int)))] hE (by kernel_rfl) rfl (fun a hE => ?_)
  refine at_end rfl ?_
  refine wpIn_seq ?_
  refine wpIn_seq ?_
  refine region_at ?_
  refine segN 1 (j := 1) [(9, .pointer (some ⟨b1, 0, none⟩))] hE (by kernel_rfl) rfl (fun a hE => ?_)
  refine at_op (op_tk hE (tk_bin (r := .bool false) rfl rfl rfl rfl hE rfl rfl rfl (eqptr_run (by kernel_rfl) _) (fun a hE => ?_))) rfl
  refine at_end rfl ?_
  refine wpIn_cond_false (hE.eval rfl) ?_
  refine wpIn_skip ?_
  refine wpIn_seq ?_
  refine region_at ?_
  refine segN 1 (j := 1) [(11, .pointer (some ⟨b1, 0, none⟩))] hE (by kernel_rfl) rfl (fun a hE => ?_)
  refine at_op (op_tk hE (tk_build ([.pointer (some ⟨b1, 0, none⟩)] ++ ((c_T_log_at ((T_log_at.mk ((0 : Int)) ((Vector.replicate 32 (0 : Int)))))))) rfl rfl rfl rfl hE rfl rfl (by kernel_rfl) (fun a hE => ?_))) rfl
  refine at_op (op_box rfl rfl rfl rfl hE rfl hS rfl (fun a b1237 w _ hE hS => ?_)) rfl
  refine at_op (op_alloc (z := .pointer none) rfl rfl rfl rfl hE rfl hS (by kernel_rfl) (fun a b1239 w _ hE hS => ?_)) rfl
  refine at_op (op_store (v := .pointer (some ⟨b1237, 0, none⟩)) ([.pointer (some ⟨b1237, 0, none⟩)]) rfl rfl rfl rfl hE hS rfl rfl (by kernel_rfl) (by kernel_rfl) (by kernel_rfl) (by kernel_rfl) (by kernel_rfl) (fun a w _ hE hS => ?_)) rfl
  refine at_end rfl ?_
  refine wpIn_seq ?_
  refine region_at ?_
  refine at_op (op_alloc (z := .slice none 0 0) rfl rfl rfl rfl hE rfl hS (by kernel_rfl) (fun a b1241 w _ hE hS => ?_)) rfl
  refine at_end rfl ?_
  refine wpIn_seq ?_
  refine region_at ?_
  refine at_op (op_alloc (z := .int .i64 ((0 : Int))) rfl rfl rfl rfl hE rfl hS (by kernel_rfl) (fun a b1243 w _ hE hS => ?_)) rfl
  refine at_op (op_store (v := .int .i64 ((0 : Int))) ([.int .i64 ((0 : Int))]) rfl rfl rfl rfl hE hS rfl rfl (by kernel_rfl) (by kernel_rfl) (by kernel_rfl) (by kernel_rfl) (by kernel_rfl) (fun a w _ hE hS => ?_)) rfl
  refine at_end rfl ?_
  refine wpIn_seq ?_
  refine wpIn_seq ?_
  refine region_at ?_
  refine segN 1 (j := 1) [(14, .pointer (some ⟨b1, 0, none⟩))] hE (by kernel_rfl) rfl (fun a hE => ?_)
  have hS := hS.pk (.c 4 rfl (.c 5 rfl (.c 0 rfl (.c 1 rfl (.c 2 rfl (.c 3 rfl .n)))))) rfl
  obtain ⟨r1843, h1844, hf⟩ := bind_some hf
  refine at_op (op_call rfl rfl rfl rfl hE rfl rfl rfl rfl (by kernel_rfl) (disk_Disk_Bytes.calls (g := g) h1844 (hS.st.fore (L := [bx b1 72 (c_T_disk_Disk ((T_disk_Disk.mk (x3) (x9) (x10))) A4 c5), q6])) h7) (fun a v w hR hE => ?_)) rfl
  obtain ⟨D1845, A1847, c1848, q1849, q1852, rfl, hS1, h1850, h1853⟩ := hR
  have le1855 := hS1.dle
  have hS := hS.callR hS1 rfl (.c (.c (.c .n)))
  clear hS1
  have hS := hS.pk (.c 1 rfl (.c 0 rfl (.c 2 rfl (.c 3 rfl (.c 4 rfl (.c 5 rfl (.c 6 rfl .n))))))) rfl
  obtain ⟨D1856, q1859, le1857, hS, h1860, h1858⟩ := hS.lent h1850
  obtain ⟨r1861, h1862, hf⟩ := bind_some hf
  refine at_op (op_call rfl rfl rfl rfl hE rfl rfl rfl rfl (by kernel_rfl) (log_entries.calls (g := g) h1862 (hS.st.fore (L := [])) h1858) (fun a v w hR hE => ?_)) rfl
  obtain ⟨D1863, b1865, A1867, c1868, rfl, hS1, h1869⟩ := hR
  have le1870 := hS1.dle
  have hS := hS.callR hS1 rfl (.c .n)
  clear hS1
  refine at_end rfl ?_
  refine wpIn_block ?_
  have hEo1877 := hE
  refine range_in2 (captured := #[.pointer (some ⟨b1865, 0, none⟩)]) hE hS rfl (by kernel_rfl) (fun fn1876 l1874 d1875 w q1872 hq1873 hS => ?_)
  refine calls_body (n := 25) Tryd.func42 rfl Tryd.ntmps42 rfl (fun a hE => ?_)
  have hE : Env a 25 [] [(0, .func (.yield l1874) #[] #[]), (1, .pointer (some ⟨b1865, 0, none⟩))] := hE
  refine wpIn_seq ?_
  refine region_at ?_
  refine at_op (op_tk hE (tk_build (c_T_log_entry (z_T_log_entry) none 0) rfl rfl rfl rfl hE rfl rfl (by kernel_rfl) (fun a hE => ?_))) rfl
  refine at_op (op_alloc (z := .agg (List.toArray (c_T_log_entry (z_T_log_entry) none 0))) rfl rfl rfl rfl hE rfl hS (by kernel_rfl) (fun a b1878 w _ hE hS => ?_)) rfl
  refine at_op (op_store (v := .agg (List.toArray (c_T_log_entry (z_T_log_entry) none 0))) (c_T_log_entry (z_T_log_entry) none 0) rfl rfl rfl rfl hE hS rfl rfl (by kernel_rfl) (by kernel_rfl) (by kernel_rfl) (by kernel_rfl) (by kernel_rfl) (fun a w _ hE hS => ?_)) rfl
  refine at_end rfl ?_
  obtain ⟨s2316, hf, hs2317⟩ := bind_some hf
  have hS := hS.nils
  have hS := hS.pk (.c 6 rfl (.c 10 rfl (.c 9 rfl (.c 8 rfl (.c 4 rfl (.c 1 rfl (.c 11 rfl (.c 2 rfl (.c 3 rfl (.c 7 rfl (.c 0 rfl .n))))))))))) rfl
  refine block_loopR (fun _ _ => False) (fun a w => ∃ (z2308 : (List (List Int)) × Int × T_log_at), ∃ (A2311 : Option Addr), ∃ (c2312 : Nat), ∃ (q2313 : Blk), ∃ (D2309 : Snap), Env a 25 [] [] ∧ Stp g w0 D0 [bx b1 72 (c_T_disk_Disk ((T_disk_Disk.mk (x3) (x9) (x10))) A4 c5), q6] w D2309 [bx b1 72 (c_T_disk_Disk ((T_disk_Disk.mk (x3) (x9) (x10))) A4 c5), bx b1239 25 ([.pointer (some ⟨b1237, 0, none⟩)]), bx b1241 26 ([.slice A2311 (List.length (z2308.1)) c2312]), bx b1243 3 ([.int .i64 (z2308.2.1)]), bx b1865 33 ([.slice A1867 (List.length (r1861)) c1868]), bx b1237 64 ([.pointer (some ⟨b1, 0, none⟩)] ++ ((c_T_log_at (z2308.2.2)))), q1872 .ready none, dk d1875, q1852, q2313] ∧ Snap.le D1863 D2309 ∧ OwnL (kdSlice (kdInt .u8)) 33 D2309 A2311 c2312 (z2308.1) q2313 ∧ z2308 = s2316) (fun k a w => ∃ (y2164 : (List (List Int)) × Int × T_log_entry × T_log_at), ∃ (A2167 : Option Addr), ∃ (c2168 : Nat), ∃ (q2169 : Blk), ∃ (A2172 : Option Addr), ∃ (c2173 : Nat), ∃ (D2165 : Snap), Env a 25 [] [(0, .func (.yield l1874) #[] #[]), (1, .pointer (some ⟨b1865, 0, none⟩)), (3, .pointer (some ⟨b1878, 0, none⟩))] ∧ Stp g w0 D0 [bx b1 72 (c_T_disk_Disk ((T_disk_Disk.mk (x3) (x9) (x10))) A4 c5), q6] w D2165 [bx b1 72 (c_T_disk_Disk ((T_disk_Disk.mk (x3) (x9) (x10))) A4 c5), bx b1239 25 ([.pointer (some ⟨b1237, 0, none⟩)]), bx b1241 26 ([.slice A2167 (List.length (y2164.1)) c2168]), bx b1243 3 ([.int .i64 (y2164.2.1)]), bx b1865 33 ([.slice A1867 (List.length (r1861)) c1868]), bx b1878 69 (c_T_log_entry (y2164.2.2.1) A2172 c2173), bx b1237 64 ([.pointer (some ⟨b1, 0, none⟩)] ++ ((c_T_log_at (y2164.2.2.2)))), q1872 .ready none, dk d1875, q1852, q2169] ∧ Snap.le D1863 D2165 ∧ OwnL (kdSlice (kdInt .u8)) 33 D2165 A2167 c2168 (y2164.1) q2169 ∧ Sl (kdInt .u8) D2165 A2172 c2173 (y2164.2.2.1.fB) ∧ log_Open_l1.l K r1861 k y2164 = some s2316) K ?_ ?_ ?_ ?_
  · exact ⟨(([] : List (List Int)), (0 : Int), z_T_log_entry, (T_log_at.mk ((0 : Int)) ((Vector.replicate 32 (0 : Int))))), none, 0, none, none, 0, D1863, hE.weak (by kernel_rfl), hS, Snap.le.refl _, (OwnD.nil (kdSlice (kdInt .u8)) 33 D1863), (Sl.nil (kdInt .u8) D1863), hf⟩
  · intro _ _ h; exact h.elim
  · clear hE hS hf
    rintro a w ⟨z2308, A2311, c2312, q2313, D2309, hE, hS, le2310, h2314, rfl⟩
    have hf := hs2317
    clear hs2317
    repeat (with_reducible first | refine then_ret ?_ | refine block_ret ?_ | refine qx_ret ?_)
    refine ret_gen ([]) hE (by rw [show Tryd.f42.results.toList = [] from rfl]; rfl) ?_
    have hS := hS.pk (.c 6 rfl (.c 0 rfl (.c 1 rfl (.c 2 rfl (.c 3 rfl (.c 4 rfl (.c 5 rfl (.c 7 rfl (.c 8 rfl (.c 9 rfl .n)))))))))) rfl
    refine range_done2 hq1873 hS hEo1877 (fun w a hS hE => ?_)
    refine wpIn_seq ?_
    refine region_at ?_
    refine segN 1 (j := 1) [(30, .pointer (some ⟨b1, 0, none⟩))] hE (by kernel_rfl) rfl (fun a hE => ?_)
    refine at_op (op_tk hE (tk_load 3 (.int .i64 (z2308.2.1)) rfl rfl rfl rfl hE rfl hS rfl rfl (by kernel_rfl) (kL (j := 3) hS rfl List.not_mem_nil) (fun a hE => ?_))) rfl
    have hS := hS.pk (.c 0 rfl (.c 7 rfl (.c 1 rfl (.c 2 rfl (.c 3 rfl (.c 4 rfl (.c 5 rfl (.c 6 rfl (.c 8 rfl .n))))))))) rfl
    obtain ⟨r2441, h2442, hf⟩ := bind_some hf
    refine at_op (op_call rfl rfl rfl rfl hE rfl rfl rfl rfl (by kernel_rfl) (disk_Disk_Cut.calls (g := g) h2442 (hS.st.fore (L := [bx b1 72 (c_T_disk_Disk ((T_disk_Disk.mk (x3) (x9) (x10))) A4 c5), q1852])) (h1853.mono (Snap.le.trans (Snap.le.trans le1857 le1870) le2310))) (fun a v w hR hE => ?_)) rfl
    obtain ⟨D2443, A2445, c2446, q2447, rfl, hS1, h2448⟩ := hR
    have le2450 := hS1.dle
    have hS := hS.callR hS1 rfl (.c (.c .n))
    clear hS1
    refine at_end rfl ?_
    refine wpIn_seq ?_
    refine region_draw (fun j => Keeps (mfOf [] j)) (by kernel_rfl) ?_
    have hS := hS.drew
    first | generalize w.drew = w at hS ⊢ | generalize w0.drew = w at hS ⊢
    refine tT 0 1 (fuel := 4) (by kernel_rfl) hE (tk_load 2 (.pointer (some ⟨b1237, 0, none⟩)) rfl rfl rfl rfl hE rfl hS rfl rfl (by kernel_rfl) (kL (j := 2) hS rfl List.not_mem_nil) (fun a hE => ?_))
    refine tW 2 5 (fuel := 3) (by kernel_rfl) hE (fun M => tk_pure (.pointer (some ⟨b1237, 0, none⟩)) hE rfl rfl rfl rfl (fun _ _ _ e => by cases e) (by kernel_rfl) (fun a hE => ?_))
    refine tT 1 7 (fuel := 2) (by kernel_rfl) hE (tk_load 3 (.slice A2311 (List.length (z2308.1)) c2312) rfl rfl rfl rfl hE rfl hS rfl rfl (by kernel_rfl) (kL (j := 3) hS rfl List.not_mem_nil) (fun a hE => ?_))
    refine tW 3 15 (fuel := 1) (by kernel_rfl) hE (fun M => tk_pure (.slice A2311 (List.length (z2308.1)) c2312) hE rfl rfl rfl rfl (fun _ _ _ e => by cases e) (by kernel_rfl) (fun a hE => ?_))
    refine tW 4 31 (fuel := 0) (by kernel_rfl) hE (fun M => tk_pure (.int .i64 ((0 : Int))) hE rfl rfl rfl rfl (fun _ _ _ e => by cases e) (by kernel_rfl) (fun a hE => ?_))
    refine doneG (by kernel_rfl) ?_
    refine wpIn_ret ?_
    have hS := hS.pk (.c 7 rfl (.c 0 rfl (.c 1 rfl (.c 2 rfl (.c 3 rfl (.c 4 rfl (.c 5 rfl (.c 6 rfl (.c 8 rfl .n))))))))) rfl
    obtain rfl := Option.some.inj hf
    repeat (with_reducible first | refine then_ret ?_ | refine block_ret ?_ | refine qx_ret ?_)
    refine ret_M1 ([.pointer (some ⟨b1237, 0, none⟩), .slice A2311 (List.length (z2308.1)) c2312, .int .i64 ((0 : Int))]) hE hS (fun w hS => ⟨by rw [show Tryd.f11.results.toList = [.tmp 2, .tmp 3, .tmp 4] from rfl]; exact ⟨_, _, rfl, rfl, ⟨_, _, rfl, rfl, ⟨_, _, rfl, rfl, rfl⟩⟩⟩, ?_⟩)
    have hS := hS.pk (.c 0 rfl (.c 6 rfl (.c 7 rfl (.c 1 rfl .n)))) rfl
    exact ⟨_, rfl, D2443, b1237, A2311, c2312, q2313, A2445, c2446, q2447, rfl, hS, (h2314.mono le2450), h2448⟩
  · clear hE hS hf
    rintro k a w ⟨y2164, A2167, c2168, q2169, A2172, c2173, D2165, hE, hS, le2166, h2170, h2174, hf⟩
    obtain ⟨k, rfl, hf⟩ := log_Open_l1.some _ hf
    refine ⟨k, rfl, ?_⟩
    unfold log_Open_l1.b at hf
    refine wpIn_block ?_
    refine wpIn_seq ?_
    refine region_at ?_
    refine at_op (op_tk hE (tk_load 4 (.slice A1867 (List.length (r1861)) c1868) rfl rfl rfl rfl hE rfl hS rfl rfl (by kernel_rfl) (kL (j := 4) hS rfl List.not_mem_nil) (fun a hE => ?_))) rfl
    refine at_op (op_tk hE (g_fieldAddr (fo := 34) (ft := 3) 34 rfl rfl rfl rfl hE rfl rfl (by kernel_rfl) rfl (fun a hE => ?_))) rfl
    refine at_op (op_tk hE (tk_load 5 (.int .i64 (y2164.2.2.1.fNext)) rfl rfl rfl rfl hE rfl hS rfl rfl (by kernel_rfl) (kL (j := 5) hS rfl List.not_mem_nil) (fun a hE => ?_))) rfl
    refine at_op (op_tk hE (g_fieldAddr (fo := 1) (ft := 62) 1 rfl rfl rfl rfl hE rfl rfl (by kernel_rfl) rfl (fun a hE => ?_))) rfl
    refine at_op (op_tk hE (tk_load 5 (.agg (List.toArray (c_T_log_at (y2164.2.2.1.fEnd)))) rfl rfl rfl rfl hE rfl hS rfl rfl (by kernel_rfl) (kL (j := 5) hS rfl List.not_mem_nil) (fun a hE => ?_))) rfl
    obtain ⟨r2318, h2319, hf⟩ := bind_some hf
    refine at_op (op_call rfl rfl rfl rfl hE rfl rfl rfl rfl (by kernel_rfl) (log_read.calls (g := g) h2319 (hS.st.fore (L := [])) (h1869.mono le2166) (hG0.mono (Snap.le.trans (Snap.le.trans (Snap.le.trans le1855 le1857) le1870) le2166)) (hG1.mono (Snap.le.trans (Snap.le.trans (Snap.le.trans le1855 le1857) le1870) le2166))) (fun a v w hR hE => ?_)) rfl
    obtain ⟨D2320, A2322, c2323, rfl, hS1, h2324⟩ := hR
    have le2325 := hS1.dle
    have hS := hS.callR hS1 rfl .n
    clear hS1
    refine segN 3 (j := 9) [(14, .agg (List.toArray (c_T_log_entry (r2318.1) A2322 c2323))), (15, .bool (r2318.2))] hE (by kernel_rfl) rfl (fun a hE => ?_)
    refine at_op (op_alloc (z := .agg (List.toArray (c_T_log_entry (z_T_log_entry) none 0))) rfl rfl rfl rfl hE rfl hS (by kernel_rfl) (fun a b2326 w _ hE hS => ?_)) rfl
    refine at_op (op_store (v := .agg (List.toArray (c_T_log_entry (r2318.1) A2322 c2323))) (c_T_log_entry (r2318.1) A2322 c2323) rfl rfl rfl rfl hE hS rfl rfl (by kernel_rfl) (by kernel_rfl) (by kernel_rfl) (by kernel_rfl) (by kernel_rfl) (fun a w _ hE hS => ?_)) rfl
    refine segN 1 (j := 12) [(5, .bool (r2318.2))] hE (by kernel_rfl) rfl (fun a hE => ?_)
    refine at_end rfl ?_
    refine wpIn_seq ?_
    obtain ⟨j2415, hj2416, hf⟩ := jn_elim hf
    refine seq_join (fun a w => ∃ (y2407 : Bool × (List (List Int)) × Int × T_log_at), ∃ (A2410 : Option Addr), ∃ (c2411 : Nat), ∃ (q2412 : Blk), ∃ (D2408 : Snap), Env a 25 [] [(0, .func (.yield l1874) #[] #[]), (1, .pointer (some ⟨b1865, 0, none⟩)), (3, .pointer (some ⟨b1878, 0, none⟩)), (4, .pointer (some ⟨b2326, 0, none⟩)), (23, .bool (y2407.1))] ∧ Stp g w0 D0 [bx b1 72 (c_T_disk_Disk ((T_disk_Disk.mk (x3) (x9) (x10))) A4 c5), q6] w D2408 [bx b1 72 (c_T_disk_Disk ((T_disk_Disk.mk (x3) (x9) (x10))) A4 c5), bx b1239 25 ([.pointer (some ⟨b1237, 0, none⟩)]), bx b1241 26 ([.slice A2410 (List.length (y2407.2.1)) c2411]), bx b1243 3 ([.int .i64 (y2407.2.2.1)]), bx b1865 33 ([.slice A1867 (List.length (r1861)) c1868]), bx b1878 69 (c_T_log_entry (y2164.2.2.1) A2172 c2173), bx b2326 69 (c_T_log_entry (r2318.1) A2322 c2323), bx b1237 64 ([.pointer (some ⟨b1, 0, none⟩)] ++ ((c_T_log_at (y2407.2.2.2)))), q1872 .ready none, dk d1875, q1852, q2412] ∧ Snap.le D2320 D2408 ∧ OwnL (kdSlice (kdInt .u8)) 33 D2408 A2410 c2411 (y2407.2.1) q2412 ∧ j2415 y2407 = some s2316) ?_ ?_
    · clear hj2416
      refine region_at ?_
      refine segN 3 (j := 3) [(18, .bool ((!r2318.2)))] hE (by kernel_rfl) rfl (fun a hE => ?_)
      cases hb : (!r2318.2)
      · replace hf := cond_f hb hf
        have hE := hE.know (t := 18) (b := (!r2318.2)) (b' := false) rfl hb
        clear hb
        refine segN 1 (j := 4) [(19, .func (.yield l1874) #[] #[])] hE (by kernel_rfl) rfl (fun a hE => ?_)
        refine at_op (op_tk hE (tk_load 0 (.agg (List.toArray (c_T_log_entry (r2318.1) A2322 c2323))) rfl rfl rfl rfl hE rfl hS rfl rfl (by kernel_rfl) (kL (j := 0) hS rfl List.not_mem_nil) (fun a hE => ?_))) rfl
        have hS := hS.pk (.c 8 rfl (.c 0 rfl (.c 1 rfl (.c 2 rfl (.c 3 rfl (.c 4 rfl (.c 5 rfl (.c 6 rfl (.c 7 rfl (.c 9 rfl (.c 10 rfl (.c 11 rfl .n)))))))))))) rfl
        refine at_op (op_yield2 (args := [.agg (List.toArray (c_T_log_entry (r2318.1) A2322 c2323))]) hq1873 rfl rfl rfl rfl hE rfl rfl rfl hS hEo1877 rfl (by kernel_rfl) (fun a hE => ?_)) rfl
        refine region_at ?_
        refine at_op (op_alloc (z := .agg (List.toArray (c_T_log_entry (z_T_log_entry) none 0))) rfl rfl rfl rfl hE rfl hS (by kernel_rfl) (fun a b2417 w _ hE hS => ?_)) rfl
        refine at_op (op_store (v := .agg (List.toArray (c_T_log_entry (r2318.1) A2322 c2323))) (c_T_log_entry (r2318.1) A2322 c2323) rfl rfl rfl rfl hE hS rfl rfl (by kernel_rfl) (by kernel_rfl) (by kernel_rfl) (by kernel_rfl) (by kernel_rfl) (fun a w _ hE hS => ?_)) rfl
        refine at_end rfl ?_
        have hS := hS.pk (.c 1 rfl (.c 0 rfl (.c 2 rfl (.c 3 rfl (.c 4 rfl (.c 5 rfl (.c 6 rfl (.c 7 rfl (.c 8 rfl (.c 9 rfl (.c 10 rfl (.c 11 rfl (.c 12 rfl .n))))))))))))) rfl
        refine begin_in2 hq1873 hS (fun w hS => ?_)
        refine wpIn_block ?_
        refine wpIn_seq ?_
        refine region_at ?_
        refine at_op (op_tk hE (tk_load 5 (.slice A2167 (List.length (y2164.1)) c2168) rfl rfl rfl rfl hE rfl hS rfl rfl (by kernel_rfl) (kL (j := 5) hS rfl List.not_mem_nil) (fun a hE => ?_))) rfl
        refine at_op (op_tk hE (g_fieldAddr (fo := 0) (ft := 33) 0 rfl rfl rfl rfl hE rfl rfl (by kernel_rfl) rfl (fun a hE => ?_))) rfl
        refine at_op (op_tk hE (tk_load 1 (.slice A2322 (List.length (r2318.1.fB)) c2323) rfl rfl rfl rfl hE rfl hS rfl rfl (by kernel_rfl) (kL (j := 1) hS rfl List.not_mem_nil) (fun a hE => ?_))) rfl
        refine at_op (op_buildSlice (K := (kdSlice (kdInt .u8))) (e := 33) (cs := [.slice A2322 (List.length (r2318.1.fB)) c2323] ++ []) ([r2318.1.fB] : List (List Int)) rfl rfl rfl rfl hE rfl hS rfl (by kernel_rfl) rfl rfl (by exact (show RL (kdSlice (kdInt .u8)) D2320 ([r2318.1.fB] : List (List Int)) ([.slice A2322 (List.length (r2318.1.fB)) c2323] ++ []) from ⟨_, _, rfl, (kslice h2324), rfl⟩)) (fun a A2419 q2420 w _ hE h2421 hS => ?_)) rfl
        obtain ⟨D2423, q2426, le2424, hS, h2427, h2425⟩ := hS.lent h2421
        have hS := hS.pk (.c 13 rfl (.c 0 rfl (.c 1 rfl (.c 2 rfl (.c 3 rfl (.c 4 rfl (.c 5 rfl (.c 6 rfl (.c 7 rfl (.c 8 rfl (.c 9 rfl (.c 10 rfl (.c 11 rfl (.c 12 rfl .n)))))))))))))) rfl
        obtain ⟨D2428, q2431, le2429, hS, h2432, h2430⟩ := hS.lent (h2170.mono (Snap.le.trans le2325 le2424))
        obtain ⟨l2433, h2434, hf⟩ := bind_some hf
        refine at_op (g_append (K := (kdSlice (kdInt .u8))) (e := 33) (bytes := 24) (l := y2164.1) (m := ([r2318.1.fB] : List (List Int))) rfl rfl rfl rfl hE rfl hS rfl rfl (by kernel_rfl) rfl rfl h2432 (h2425.mono le2429) h2434 (fun a A2435 c2436 q2437 w _ hE h2438 hS => ?_)) rfl
        have hS := hS.pk (.c 7 rfl (.c 0 rfl (.c 1 rfl (.c 2 rfl (.c 3 rfl (.c 4 rfl (.c 5 rfl (.c 6 rfl (.c 8 rfl (.c 9 rfl (.c 10 rfl (.c 11 rfl (.c 12 rfl (.c 13 rfl .n)))))))))))))) rfl
        refine at_op (op_store (v := .slice A2435 (List.length (l2433)) c2436) ([.slice A2435 (List.length (l2433)) c2436]) rfl rfl rfl rfl hE hS rfl rfl (by kernel_rfl) (by kernel_rfl) (by kernel_rfl) (by kernel_rfl) (by kernel_rfl) (fun a w _ hE hS => ?_)) rfl
        refine at_end rfl ?_
        refine region_draw (fun j => Keeps (mfOf [(7, [b1237]), (8, [b1243])] j)) (by kernel_rfl) ?_
        have hS := hS.drew
        first | generalize w.drew = w at hS ⊢ | generalize w0.drew = w at hS ⊢
        refine tT 0 1 (fuel := 8) (by kernel_rfl) hE (tk_load 7 (.pointer (some ⟨b1237, 0, none⟩)) rfl rfl rfl rfl hE rfl hS rfl rfl (by kernel_rfl) (kL (j := 7) hS rfl List.not_mem_nil) (fun a hE => ?_))
        refine tW 1 3 (fuel := 7) (by kernel_rfl) hE (fun M => g_fieldAddr (fo := 1) (ft := 62) 1 rfl rfl rfl rfl hE rfl rfl (by kernel_rfl) rfl (fun a hE => ?_))
        refine tT 2 7 (fuel := 6) (by kernel_rfl) hE (tk_load 4 (.agg (List.toArray (c_T_log_at (r2318.1.fEnd)))) rfl rfl rfl rfl hE rfl hS rfl rfl (by kernel_rfl) (kL (j := 4) hS rfl List.not_mem_nil) (fun a hE => ?_))
        refine tW 5 39 (fuel := 5) (by kernel_rfl) hE (fun M => tk_pure (.pointer (some ⟨b1237, 0, none⟩)) hE rfl rfl rfl rfl (fun _ _ _ e => by cases e) (by kernel_rfl) (fun a hE => ?_))
        refine tW 3 47 (fuel := 4) (by kernel_rfl) hE (fun M => g_fieldAddr (fo := 34) (ft := 3) 34 rfl rfl rfl rfl hE rfl rfl (by kernel_rfl) rfl (fun a hE => ?_))
        refine tN (T := [(7, [b1237]), (8, [b1243])]) [7] 4 63 (fuel := 3) (by kernel_rfl) hE (tk_load 4 (.int .i64 (r2318.1.fNext)) rfl rfl rfl rfl hE rfl hS rfl rfl (by kernel_rfl) (kL (j := 4) hS rfl (show b2417 ∉ [b1237] from (nm_cons (hS.ne (i := 4) (j := 11) (by decide) rfl rfl) List.not_mem_nil))) (fun a hE => ?_))
        refine tW 6 127 (fuel := 2) (by kernel_rfl) hE (fun M => g_fieldAddr (fo := 1) (ft := 62) 1 rfl rfl rfl rfl hE rfl rfl (by kernel_rfl) rfl (fun a hE => ?_))
        have hS := hS.pk (.c 11 rfl (.c 0 rfl (.c 1 rfl (.c 2 rfl (.c 3 rfl (.c 4 rfl (.c 5 rfl (.c 6 rfl (.c 7 rfl (.c 8 rfl (.c 9 rfl (.c 10 rfl (.c 12 rfl (.c 13 rfl .n)))))))))))))) rfl
        refine oG 7 255 (fuel := 1) (by kernel_rfl) (op_store (v := .agg (List.toArray (c_T_log_at (r2318.1.fEnd)))) ([.pointer (some ⟨b1, 0, none⟩)] ++ ((c_T_log_at (r2318.1.fEnd)))) rfl rfl rfl rfl hE hS rfl rfl (by kernel_rfl) (by kernel_rfl) (by kernel_rfl) (by kernel_rfl) (by kernel_rfl) (fun a w hkp hE hS => ⟨hkp.mono (fun _ h => h), ?_⟩))
        clear hkp
        have hS := hS.pk (.c 9 rfl (.c 0 rfl (.c 1 rfl (.c 2 rfl (.c 3 rfl (.c 4 rfl (.c 5 rfl (.c 6 rfl (.c 7 rfl (.c 8 rfl (.c 10 rfl (.c 11 rfl (.c 12 rfl (.c 13 rfl .n)))))))))))))) rfl
        refine oG 8 511 (fuel := 0) (by kernel_rfl) (op_store (v := .int .i64 (r2318.1.fNext)) ([.int .i64 (r2318.1.fNext)]) rfl rfl rfl rfl hE hS rfl rfl (by kernel_rfl) (by kernel_rfl) (by kernel_rfl) (by kernel_rfl) (by kernel_rfl) (fun a w hkp hE hS => ⟨hkp.mono (fun _ h => h), ?_⟩))
        clear hkp
        refine doneG (by kernel_rfl) ?_
        have hS := hS.pk (.c 5 rfl (.c 0 rfl (.c 1 rfl (.c 2 rfl (.c 3 rfl (.c 4 rfl (.c 6 rfl (.c 7 rfl (.c 8 rfl (.c 9 rfl (.c 10 rfl (.c 11 rfl (.c 12 rfl (.c 13 rfl .n)))))))))))))) rfl
        refine round_normal2 (a1 := a) hq1873 hS (fun w a hS hE => ?_)
        refine segN 2 (j := 8) [(23, .bool false)] hE (by kernel_rfl) rfl (fun a hE => ?_)
        refine at_end rfl ?_
        have hS := hS.pk (.c 8 rfl (.c 9 rfl (.c 3 rfl (.c 1 rfl (.c 10 rfl (.c 11 rfl (.c 7 rfl (.c 2 rfl (.c 0 rfl (.c 12 rfl (.c 13 rfl (.c 4 rfl .n)))))))))))) rfl
        exact ⟨(false, l2433, r2318.1.fNext, r2318.1.fEnd), A2435, c2436, q2437, D2428, hE.weak (by kernel_rfl), hS, (Snap.le.trans le2424 le2429), h2438, hf⟩
      · replace hf := cond_t hb hf
        have hE := hE.know (t := 18) (b := (!r2318.2)) (b' := true) rfl hb
        clear hb
        refine segN 5 (j := 8) [(23, .bool true)] hE (by kernel_rfl) rfl (fun a hE => ?_)
        refine at_end rfl ?_
        have hS := hS.pk (.c 1 rfl (.c 2 rfl (.c 3 rfl (.c 4 rfl (.c 5 rfl (.c 6 rfl (.c 0 rfl (.c 7 rfl (.c 8 rfl (.c 9 rfl (.c 10 rfl (.c 11 rfl .n)))))))))))) rfl
        exact ⟨(true, y2164.1, y2164.2.1, y2164.2.2.2), A2167, c2168, q2169, D2320, hE.weak (by kernel_rfl), hS, Snap.le.refl _, (h2170.mono le2325), hf⟩
    · clear hE hS
      rintro a w ⟨y2407, A2410, c2411, q2412, D2408, hE, hS, le2409, h2413, hf⟩
      replace hf := hj2416 _ hf
      clear hj2416
      refine cond_split hE (b := y2407.1) rfl (fun hb => ?_) (fun hb => ?_)
      · replace hf := cond_t hb hf
        clear hb
        refine wpIn_ret ?_
        obtain rfl := Option.some.inj hf
        have hS := hS.pk (.c 0 rfl (.c 1 rfl (.c 2 rfl (.c 3 rfl (.c 4 rfl (.c 7 rfl (.c 8 rfl (.c 9 rfl (.c 10 rfl (.c 11 rfl .n)))))))))) rfl
        exact ⟨(y2407.2.1, y2407.2.2.1, y2407.2.2.2), A2410, c2411, q2412, D2408, hE.weak (by kernel_rfl), hS, (Snap.le.trans (Snap.le.trans le2166 le2325) le2409), h2413, rfl⟩
      · replace hf := cond_f hb hf
        clear hb
        refine wpIn_skip ?_
        refine region_at ?_
        refine at_op (op_tk hE (tk_load 6 (.agg (List.toArray (c_T_log_entry (r2318.1) A2322 c2323))) rfl rfl rfl rfl hE rfl hS rfl rfl (by kernel_rfl) (kL (j := 6) hS rfl List.not_mem_nil) (fun a hE => ?_))) rfl
        have hS := hS.pk (.c 5 rfl (.c 0 rfl (.c 1 rfl (.c 2 rfl (.c 3 rfl (.c 4 rfl (.c 6 rfl (.c 7 rfl (.c 8 rfl (.c 9 rfl (.c 10 rfl (.c 11 rfl .n)))))))))))) rfl
        refine at_op (op_store (v := .agg (List.toArray (c_T_log_entry (r2318.1) A2322 c2323))) (c_T_log_entry (r2318.1) A2322 c2323) rfl rfl rfl rfl hE hS rfl rfl (by kernel_rfl) (by kernel_rfl) (by kernel_rfl) (by kernel_rfl) (by kernel_rfl) (fun a w _ hE hS => ?_)) rfl
        refine at_end rfl ?_
        have hS := hS.pk (.c 1 rfl (.c 2 rfl (.c 3 rfl (.c 4 rfl (.c 5 rfl (.c 0 rfl (.c 7 rfl (.c 8 rfl (.c 9 rfl (.c 10 rfl (.c 11 rfl .n))))))))))) rfl
        exact ⟨(y2407.2.1, y2407.2.2.1, r2318.1, y2407.2.2.2), A2410, c2411, q2412, A2322, c2323, D2408, hE.weak (by kernel_rfl), hS, (Snap.le.trans (Snap.le.trans le2166 le2325) le2409), h2413, (h2324.mono le2409), hf⟩

set_option maxRecDepth 100000 in
set_option maxHeartbeats 4000000 in
theorem disk_Disk_Write.calls {K : Nat} {g w0 : World} {D0 : Snap} {x3 : (List Int)} {x7 : (List Int)} {x13 : Int} {x14 : Int} {b1 : Nat} {A4 : Option Addr} {c5 : Nat} {A8 : Option Addr} {c9 : Nat} {q10 : Blk} {r : (Int × (List Int))} (hf : disk_Disk_Write.f K x3 x7 x13 x14 = some r) (hS0 : St g w0 D0 [bx b1 72 (c_T_disk_Disk ((T_disk_Disk.mk (x7) (x13) (x14))) A8 c9), q10]) (h6 : Sl (kdInt .u8) D0 A4 c5 (x3)) (h11 : OwnL (kdInt .u8) 5 D0 A8 c9 (x7) q10) :
    CallsIn (Fw none) 0 Tryd.prog 27 (List.toArray [.pointer (some ⟨b1, 0, none⟩), .slice A4 (List.length (x3)) c5]) w0 (fun e w' => ∃ v, e = .returned v ∧ ∃ (D1 : Snap) (A27 : Option Addr) (c28 : Nat) (q29 : Blk), v = .int .i64 (r.1) ∧ Stp g w0 D0 [bx b1 72 (c_T_disk_Disk ((T_disk_Disk.mk (x7) (x13) (x14))) A8 c9), q10] w' D1 [bx b1 72 (c_T_disk_Disk ((T_disk_Disk.mk (r.2) (x13) (x14))) A27 c28), q29] ∧ OwnL (kdInt .u8) 5 D1 A27 c28 (r.2) q29) := by
  unfold disk_Disk_Write.f at hf
  have hS := Stp.refl hS0
  clear hS0
  refine calls_body (n := 31) Tryd.func27 rfl Tryd.ntmps27 rfl (fun a hE => ?_)
  have hE : Env a 31 [] [(0, .pointer (some ⟨b1, 0, none⟩)), (1, .slice A4 (List.length (x3)) c5)] := hE
  refine wpIn_seq ?_
  refine region_at ?_
  refine segN 1 (j := 1) [(4, .int .i64 ((0 : Int)))] hE (by kernel_rfl) rfl (fun a hE => ?_)
  refine at_end rfl ?_
  refine wpIn_seq ?_
  refine wpIn_block ?_
  refine wpIn_seq ?_
  refine region_at ?_
  refine segN 1 (j := 1) [(6, .pointer (some ⟨b1, 0, none⟩))] hE (by kernel_rfl) rfl (fun a hE => ?_)
  refine at_op (op_tk hE (tk_bin (r := .bool false) rfl rfl rfl rfl hE rfl rfl rfl (eqptr_run (by kernel_rfl) _) (fun a hE => ?_))) rfl
  refine segN 1 (j := 3) [(5, .bool false)] hE (by kernel_rfl) rfl (fun a hE => ?_)
  refine at_end rfl ?_
  refine wpIn_cond_false (hE.eval rfl) ?_
  refine wpIn_seq ?_
  refine region_draw (fun j => Keeps (mfOf [] j)) (by kernel_rfl) ?_
  have hS := hS.drew
  first | generalize w.drew = w at hS ⊢ | generalize w0.drew = w at hS ⊢
  refine tW 0 1 (fuel := 13) (by kernel_rfl) hE (fun M => tk_pure (.slice A4 (List.length (x3)) c5) hE rfl rfl rfl rfl (fun _ _ _ e => by cases e) (by kernel_rfl) (fun a hE => ?_))
  refine tW 1 3 (fuel := 12) (by kernel_rfl) hE (fun M => tk_pure (.int .i64 (((List.length (x3) : Nat) : Int))) hE rfl rfl rfl rfl (fun _ _ _ e => by cases e) (by kernel_rfl) (fun a hE => ?_))
  refine tW 2 7 (fuel := 11) (by kernel_rfl) hE (fun M => tk_pure (.pointer (some ⟨b1, 0, none⟩)) hE rfl rfl rfl rfl (fun _ _ _ e => by cases e) (by kernel_rfl) (fun a hE => ?_))
  refine tW 3 15 (fuel := 10) (by kernel_rfl) hE (fun M => tk_pure (.pointer (some ⟨b1, 0, none⟩)) hE rfl rfl rfl rfl (fun _ _ _ e => by cases e) (by kernel_rfl) (fun a hE => ?_))
  refine tW 6 79 (fuel := 9) (by kernel_rfl) hE (fun M => tk_pure (.pointer (some ⟨b1, 0, none⟩)) hE rfl rfl rfl rfl (fun _ _ _ e => by cases e) (by kernel_rfl) (fun a hE => ?_))
  refine tW 7 207 (fuel := 8) (by kernel_rfl) hE (fun M => tk_pure (.pointer (some ⟨b1, 0, none⟩)) hE rfl rfl rfl rfl (fun _ _ _ e => by cases e) (by kernel_rfl) (fun a hE => ?_))
  refine tW 4 223 (fuel := 7) (by kernel_rfl) hE (fun M => g_fieldAddr (fo := 2) (ft := 3) 2 rfl rfl rfl rfl hE rfl rfl (by kernel_rfl) rfl (fun a hE => ?_))
  refine tT 5 255 (fuel := 6) (by kernel_rfl) hE (tk_load 0 (.int .i64 (x14)) rfl rfl rfl rfl hE rfl hS rfl rfl (by kernel_rfl) (kL (j := 0) hS rfl List.not_mem_nil) (fun a hE => ?_))
  refine tW 8 511 (fuel := 5) (by kernel_rfl) hE (fun M => g_fieldAddr (fo := 0) (ft := 33) 0 rfl rfl rfl rfl hE rfl rfl (by kernel_rfl) rfl (fun a hE => ?_))
  refine tT 9 1023 (fuel := 4) (by kernel_rfl) hE (tk_load 0 (.slice A8 (List.length (x7)) c9) rfl rfl rfl rfl hE rfl hS rfl rfl (by kernel_rfl) (kL (j := 0) hS rfl List.not_mem_nil) (fun a hE => ?_))
  refine tW 10 2047 (fuel := 3) (by kernel_rfl) hE (fun M => tk_pure (.int .i64 (((List.length (x7) : Nat) : Int))) hE rfl rfl rfl rfl (fun _ _ _ e => by cases e) (by kernel_rfl) (fun a hE => ?_))
  refine tW 11 4095 (fuel := 2) (by kernel_rfl) hE (fun M => tk_pure (.int .i64 ((IntKind.wrap .i64 (x14 - ((List.length (x7) : Nat) : Int))))) hE rfl rfl rfl rfl (fun _ _ _ e => by cases e) (by kernel_rfl) (fun a hE => ?_))
  refine tW 12 8191 (fuel := 1) (by kernel_rfl) hE (fun M => tk_pure (.bool ((decide ((IntKind.wrap .i64 (x14 - ((List.length (x7) : Nat) : Int))) < ((List.length (x3) : Nat) : Int))))) hE rfl rfl rfl rfl (fun _ _ _ e => by cases e) (by kernel_rfl) (fun a hE => ?_))
  refine tW 13 16383 (fuel := 0) (by kernel_rfl) hE (fun M => tk_pure (.bool ((decide ((IntKind.wrap .i64 (x14 - ((List.length (x7) : Nat) : Int))) < ((List.length (x3) : Nat) : Int))))) hE rfl rfl rfl rfl (fun _ _ _ e => by cases e) (by kernel_rfl) (fun a hE => ?_))
  refine doneG (by kernel_rfl) ?_
  refine cond_split hE (b := (decide ((IntKind.wrap .i64 (x14 - ((List.length (x7) : Nat) : Int))) < ((List.length (x3) : Nat) : Int)))) rfl (fun hb => ?_) (fun hb => ?_)
  · replace hf := cond_t hb hf
    clear hb
    refine wpIn_seq ?_
    refine region_at ?_
    refine segN 1 (j := 1) [(4, .int .i64 ((5 : Int)))] hE (by kernel_rfl) rfl (fun a hE => ?_)
    refine at_end rfl ?_
    refine wpIn_ret ?_
    obtain rfl := Option.some.inj hf
    repeat (with_reducible first | refine then_ret ?_ | refine block_ret ?_ | refine qx_ret ?_)
    refine ret_gen ([.int .i64 ((5 : Int))]) hE (by rw [show Tryd.f27.results.toList = [.tmp 4] from rfl]; exact ⟨_, _, rfl, rfl, rfl⟩) ?_
    exact ⟨_, rfl, D0, A8, c9, q10, rfl, hS, h11⟩
  · replace hf := cond_f hb hf
    clear hb
    refine wpIn_skip ?_
    refine wpIn_seq ?_
    refine region_at ?_
    refine segN 3 (j := 3) [(22, .pointer (some ⟨b1, 0, none⟩)), (24, .pointer (some ⟨b1, 0, none⟩))] hE (by kernel_rfl) rfl (fun a hE => ?_)
    refine at_op (op_tk hE (g_fieldAddr (fo := 0) (ft := 33) 0 rfl rfl rfl rfl hE rfl rfl (by kernel_rfl) rfl (fun a hE => ?_))) rfl
    refine at_op (op_tk hE (tk_load 0 (.slice A8 (List.length (x7)) c9) rfl rfl rfl rfl hE rfl hS rfl rfl (by kernel_rfl) (kL (j := 0) hS rfl List.not_mem_nil) (fun a hE => ?_))) rfl
    refine segN 1 (j := 6) [(27, .slice A4 (List.length (x3)) c5)] hE (by kernel_rfl) rfl (fun a hE => ?_)
    have hS := hS.pk (.c 1 rfl (.c 0 rfl .n)) rfl
    obtain ⟨D32, q35, le33, hS, h36, h34⟩ := hS.lent h11
    obtain ⟨l37, h38, hf⟩ := bind_some hf
    refine at_op (g_append (K := (kdInt .u8)) (e := 5) (bytes := 1) (l := x7) (m := x3) rfl rfl rfl rfl hE rfl hS rfl rfl (by kernel_rfl) rfl rfl h36 (h6.mono le33) h38 (fun a A39 c40 q41 w _ hE h42 hS => ?_)) rfl
    refine segN 1 (j := 8) [(29, .pointer (some ⟨b1, 0, none⟩))] hE (by kernel_rfl) rfl (fun a hE => ?_)
    refine at_op (op_tk hE (g_fieldAddr (fo := 0) (ft := 33) 0 rfl rfl rfl rfl hE rfl rfl (by kernel_rfl) rfl (fun a hE => ?_))) rfl
    have hS := hS.pk (.c 1 rfl (.c 0 rfl .n)) rfl
    refine at_op (op_store (v := .slice A39 (List.length (l37)) c40) (c_T_disk_Disk ((T_disk_Disk.mk (l37) (x13) (x14))) A39 c40) rfl rfl rfl rfl hE hS rfl rfl (by kernel_rfl) (by kernel_rfl) (by kernel_rfl) (by kernel_rfl) (by kernel_rfl) (fun a w _ hE hS => ?_)) rfl
    refine at_end rfl ?_
    refine wpIn_seq ?_
    refine region_at ?_
    refine segN 1 (j := 1) [(4, .int .i64 ((0 : Int)))] hE (by kernel_rfl) rfl (fun a hE => ?_)
    refine at_end rfl ?_
    refine wpIn_ret ?_
    obtain rfl := Option.some.inj hf
    repeat (with_reducible first | refine then_ret ?_ | refine block_ret ?_ | refine qx_ret ?_)
    refine ret_gen ([.int .i64 ((0 : Int))]) hE (by rw [show Tryd.f27.results.toList = [.tmp 4] from rfl]; exact ⟨_, _, rfl, rfl, rfl⟩) ?_
    exact ⟨_, rfl, D32, A39, c40, q41, rfl, hS, h42⟩

set_option maxRecDepth 100000 in
set_option maxHeartbeats 4000000 in
theorem log_Log_Put.calls {K : Nat} {g w0 : World} {D0 : Snap} {x5 : (List Int)} {x9 : T_log_at} {x10 : (List Int)} {x16 : Int} {x17 : Int} {b1 : Nat} {b2 : Nat} {A6 : Option Addr} {c7 : Nat} {A11 : Option Addr} {c12 : Nat} {q13 : Blk} {r : (Int × T_log_at × (List Int))} (hf : log_Log_Put.f K x5 x9 x10 x16 x17 = some r) (hS0 : St g w0 D0 [bx b1 64 ([.pointer (some ⟨b2, 0, none⟩)] ++ ((c_T_log_at (x9)))), bx b2 72 (c_T_disk_Disk ((T_disk_Disk.mk (x10) (x16) (x17))) A11 c12), q13]) (h8 : Sl (kdInt .u8) D0 A6 c7 (x5)) (h14 : OwnL (kdInt .u8) 5 D0 A11 c12 (x10) q13) (hG0 : Cell (kdArr .u32 8) D0 0 0 gl_First) (hG1 : Cell (kdArr .u32 64) D0 1 0 gl_K) :
    CallsIn (Fw none) 0 Tryd.prog 14 (List.toArray [.pointer (some ⟨b1, 0, none⟩), .slice A6 (List.length (x5)) c7]) w0 (fun e w' => ∃ v, e = .returned v ∧ ∃ (D1 : Snap) (A123 : Option Addr) (c124 : Nat) (q125 : Blk), v = .int .i64 (r.1) ∧ Stp g w0 D0 [bx b1 64 ([.pointer (some ⟨b2, 0, none⟩)] ++ ((c_T_log_at (x9)))), bx b2 72 (c_T_disk_Disk ((T_disk_Disk.mk (x10) (x16) (x17))) A11 c12), q13] w' D1 [bx b1 64 ([.pointer (some ⟨b2, 0, none⟩)] ++ ((c_T_log_at ((T_log_at.mk (r.2.1.fCount) (r.2.1.fChain)))))), bx b2 72 (c_T_disk_Disk ((T_disk_Disk.mk (r.2.2) (x16) (x17))) A123 c124), q125] ∧ OwnL (kdInt .u8) 5 D1 A123 c124 (r.2.2) q125) := by
  unfold log_Log_Put.f at hf
  have hS := Stp.refl hS0
  clear hS0
  refine calls_body (n := 41) Tryd.func14 rfl Tryd.ntmps14 rfl (fun a hE => ?_)
  have hE : Env a 41 [] [(0, .pointer (some ⟨b1, 0, none⟩)), (1, .slice A6 (List.length (x5)) c7)] := hE
  refine wpIn_seq ?_
  refine region_at ?_
  refine segN 1 (j := 1) [(4, .int .i64 ((0 : Int)))] hE (by kernel_rfl) rfl (fun a hE => ?_)
  refine at_end rfl ?_
  refine wpIn_seq ?_
  refine wpIn_block ?_
  refine wpIn_seq ?_
  refine region_at ?_
  refine segN 1 (j := 1) [(7, .pointer (some ⟨b1, 0, none⟩))] hE (by kernel_rfl) rfl (fun a hE => ?_)
  refine at_op (op_tk hE (tk_bin (r := .bool false) rfl rfl rfl rfl hE rfl rfl rfl (eqptr_run (by kernel_rfl) _) (fun a hE => ?_))) rfl
  refine segN 6 (j := 8) [(6, .bool ((decide (((List.length (x5) : Nat) : Int) = (0 : Int)))))] hE (by kernel_rfl) rfl (fun a hE => ?_)
  refine at_end rfl ?_
  refine cond_split hE (b := (decide (((List.length (x5) : Nat) : Int) = (0 : Int)))) rfl (fun hb => ?_) (fun hb => ?_)
  · replace hf := cond_t hb hf
    clear hb
    refine wpIn_seq ?_
    refine region_at ?_
    refine segN 1 (j := 1) [(4, .int .i64 ((1 : Int)))] hE (by kernel_rfl) rfl (fun a hE => ?_)
    refine at_end rfl ?_
    refine wpIn_ret ?_
    obtain rfl := Option.some.inj hf
    repeat (with_reducible first | refine then_ret ?_ | refine block_ret ?_ | refine qx_ret ?_)
    refine ret_gen ([.int .i64 ((1 : Int))]) hE (by rw [show Tryd.f14.results.toList = [.tmp 4] from rfl]; exact ⟨_, _, rfl, rfl, rfl⟩) ?_
    exact ⟨_, rfl, D0, A11, c12, q13, rfl, hS, h14⟩
  · replace hf := cond_f hb hf
    clear hb
    refine wpIn_seq ?_
    refine region_at ?_
    refine segN 4 (j := 4) [(14, .bool ((decide ((2000 : Int) < ((List.length (x5) : Nat) : Int)))))] hE (by kernel_rfl) rfl (fun a hE => ?_)
    refine at_end rfl ?_
    refine cond_split hE (b := (decide ((2000 : Int) < ((List.length (x5) : Nat) : Int)))) rfl (fun hb => ?_) (fun hb => ?_)
    · replace hf := cond_t hb hf
      clear hb
      refine wpIn_seq ?_
      refine region_at ?_
      refine segN 1 (j := 1) [(4, .int .i64 ((4 : Int)))] hE (by kernel_rfl) rfl (fun a hE => ?_)
      refine at_end rfl ?_
      refine wpIn_ret ?_
      obtain rfl := Option.some.inj hf
      repeat (with_reducible first | refine then_ret ?_ | refine block_ret ?_ | refine qx_ret ?_)
      refine ret_gen ([.int .i64 ((4 : Int))]) hE (by rw [show Tryd.f14.results.toList = [.tmp 4] from rfl]; exact ⟨_, _, rfl, rfl, rfl⟩) ?_
      exact ⟨_, rfl, D0, A11, c12, q13, rfl, hS, h14⟩
    · replace hf := cond_f hb hf
      clear hb
      refine wpIn_skip ?_
      refine wpIn_seq ?_
      refine wpIn_seq ?_
      refine region_draw (fun j => Keeps (mfOf [(10, [b2] ++ ids [q13])] j)) (by kernel_rfl) ?_
      have hS := hS.drew
      first | generalize w.drew = w at hS ⊢ | generalize w0.drew = w at hS ⊢
      refine tW 0 1 (fuel := 11) (by kernel_rfl) hE (fun M => tk_pure (.pointer (some ⟨b1, 0, none⟩)) hE rfl rfl rfl rfl (fun _ _ _ e => by cases e) (by kernel_rfl) (fun a hE => ?_))
      refine tW 1 3 (fuel := 10) (by kernel_rfl) hE (fun M => tk_pure (.pointer (some ⟨b1, 0, none⟩)) hE rfl rfl rfl rfl (fun _ _ _ e => by cases e) (by kernel_rfl) (fun a hE => ?_))
      refine tW 4 19 (fuel := 9) (by kernel_rfl) hE (fun M => tk_pure (.pointer (some ⟨b1, 0, none⟩)) hE rfl rfl rfl rfl (fun _ _ _ e => by cases e) (by kernel_rfl) (fun a hE => ?_))
      refine tW 5 51 (fuel := 8) (by kernel_rfl) hE (fun M => tk_pure (.pointer (some ⟨b1, 0, none⟩)) hE rfl rfl rfl rfl (fun _ _ _ e => by cases e) (by kernel_rfl) (fun a hE => ?_))
      refine tW 8 307 (fuel := 7) (by kernel_rfl) hE (fun M => tk_pure (.slice A6 (List.length (x5)) c7) hE rfl rfl rfl rfl (fun _ _ _ e => by cases e) (by kernel_rfl) (fun a hE => ?_))
      refine tW 2 311 (fuel := 6) (by kernel_rfl) hE (fun M => g_fieldAddr (fo := 0) (ft := 30) 0 rfl rfl rfl rfl hE rfl rfl (by kernel_rfl) rfl (fun a hE => ?_))
      refine tT 3 319 (fuel := 5) (by kernel_rfl) hE (tk_load 0 (.pointer (some ⟨b2, 0, none⟩)) rfl rfl rfl rfl hE rfl hS rfl rfl (by kernel_rfl) (kL (j := 0) hS rfl List.not_mem_nil) (fun a hE => ?_))
      refine tW 6 383 (fuel := 4) (by kernel_rfl) hE (fun M => g_fieldAddr (fo := 1) (ft := 62) 1 rfl rfl rfl rfl hE rfl rfl (by kernel_rfl) rfl (fun a hE => ?_))
      refine tS (T := [(10, [b2] ++ ids [q13])]) [] [7, 9, 10, 11] 7 511 (fuel := 3) (by kernel_rfl) hE (tk_load 0 (.agg (List.toArray (c_T_log_at (x9)))) rfl rfl rfl rfl hE rfl hS rfl rfl (by kernel_rfl) (kL (j := 0) hS rfl List.not_mem_nil) (fun a hE => ?_))
      obtain ⟨r203, h204, hf⟩ := bind_some hf
      refine oG 9 1023 (fuel := 2) (by kernel_rfl) (op_call rfl rfl rfl rfl hE rfl rfl rfl rfl (by kernel_rfl) (log_at_laid.calls (g := g) h204 (hS.st.fore (L := [])) h8 hG0 hG1) (fun a v w hR hE => ?_))
      obtain ⟨D205, A207, c208, q209, rfl, hS1, h210⟩ := hR
      refine ⟨(hS1.keeps.sub (M' := []) trivial).mono (fun _ h => h), ?_⟩
      have le212 := hS1.dle
      have hS := hS.callR hS1 rfl (.c .n)
      clear hS1
      obtain ⟨D213, q216, le214, hS, h217, h215⟩ := hS.lent h210
      have hS := hS.pk (.c 2 rfl (.c 3 rfl (.c 0 rfl (.c 1 rfl .n)))) rfl
      obtain ⟨r218, h219, hf⟩ := bind_some hf
      refine oG 10 2047 (fuel := 1) (by kernel_rfl) (op_call rfl rfl rfl rfl hE rfl rfl rfl rfl (by kernel_rfl) (disk_Disk_Write.calls (g := g) h219 (hS.st.fore (L := [bx b2 72 (c_T_disk_Disk ((T_disk_Disk.mk (x10) (x16) (x17))) A11 c12), q13])) h215 (h14.mono (Snap.le.trans le212 le214))) (fun a v w hR hE => ?_))
      obtain ⟨D220, A222, c223, q224, rfl, hS1, h225⟩ := hR
      refine ⟨hS1.keeps.mono (fun _ h => h), ?_⟩
      have le227 := hS1.dle
      have hS := hS.callR hS1 rfl (.c (.c .n))
      clear hS1
      refine tW 11 4095 (fuel := 0) (by kernel_rfl) hE (fun M => tk_pure (.int .i64 (r218.1)) hE rfl rfl rfl rfl (fun _ _ _ e => by cases e) (by kernel_rfl) (fun a hE => ?_))
      refine doneG (by kernel_rfl) ?_
      refine wpIn_seq ?_
      refine region_at ?_
      refine segN 2 (j := 2) [(30, .bool ((!decide (r218.1 = (0 : Int)))))] hE (by kernel_rfl) rfl (fun a hE => ?_)
      refine at_end rfl ?_
      refine cond_split hE (b := (!decide (r218.1 = (0 : Int)))) rfl (fun hb => ?_) (fun hb => ?_)
      · replace hf := cond_t hb hf
        clear hb
        refine wpIn_seq ?_
        refine region_at ?_
        refine segN 2 (j := 2) [(4, .int .i64 (r218.1))] hE (by kernel_rfl) rfl (fun a hE => ?_)
        refine at_end rfl ?_
        refine wpIn_ret ?_
        obtain rfl := Option.some.inj hf
        repeat (with_reducible first | refine then_ret ?_ | refine block_ret ?_ | refine qx_ret ?_)
        refine ret_gen ([.int .i64 (r218.1)]) hE (by rw [show Tryd.f14.results.toList = [.tmp 4] from rfl]; exact ⟨_, _, rfl, rfl, rfl⟩) ?_
        have hS := hS.pk (.c 3 rfl (.c 0 rfl (.c 1 rfl .n))) rfl
        exact ⟨_, rfl, D220, A222, c223, q224, rfl, hS, h225⟩
      · replace hf := cond_f hb hf
        clear hb
        refine wpIn_skip ?_
        refine wpIn_seq ?_
        refine region_at ?_
        refine segN 3 (j := 3) [(32, .pointer (some ⟨b1, 0, none⟩)), (34, .pointer (some ⟨b1, 0, none⟩))] hE (by kernel_rfl) rfl (fun a hE => ?_)
        refine at_op (op_tk hE (g_fieldAddr (fo := 1) (ft := 62) 1 rfl rfl rfl rfl hE rfl rfl (by kernel_rfl) rfl (fun a hE => ?_))) rfl
        refine at_op (op_tk hE (tk_load 3 (.agg (List.toArray (c_T_log_at (x9)))) rfl rfl rfl rfl hE rfl hS rfl rfl (by kernel_rfl) (kL (j := 3) hS rfl List.not_mem_nil) (fun a hE => ?_))) rfl
        refine segN 1 (j := 6) [(37, .slice A6 (List.length (x5)) c7)] hE (by kernel_rfl) rfl (fun a hE => ?_)
        have hS := hS.pk (.c 0 rfl (.c 1 rfl (.c 3 rfl .n))) rfl
        obtain ⟨r228, h229, hf⟩ := bind_some hf
        refine at_op (op_call rfl rfl rfl rfl hE rfl rfl rfl rfl (by kernel_rfl) (log_at_behind.calls (g := g) h229 (hS.st.fore (L := [])) (h8.mono (Snap.le.trans (Snap.le.trans le212 le214) le227)) (hG0.mono (Snap.le.trans (Snap.le.trans le212 le214) le227)) (hG1.mono (Snap.le.trans (Snap.le.trans le212 le214) le227))) (fun a v w hR hE => ?_)) rfl
        obtain ⟨D230, rfl, hS1⟩ := hR
        have le232 := hS1.dle
        have hS := hS.callR hS1 rfl .n
        clear hS1
        refine segN 1 (j := 8) [(39, .pointer (some ⟨b1, 0, none⟩))] hE (by kernel_rfl) rfl (fun a hE => ?_)
        refine at_op (op_tk hE (g_fieldAddr (fo := 1) (ft := 62) 1 rfl rfl rfl rfl hE rfl rfl (by kernel_rfl) rfl (fun a hE => ?_))) rfl
        have hS := hS.pk (.c 2 rfl (.c 0 rfl (.c 1 rfl .n))) rfl
        refine at_op (op_store (v := .agg (List.toArray (c_T_log_at (r228)))) ([.pointer (some ⟨b2, 0, none⟩)] ++ ((c_T_log_at (r228)))) rfl rfl rfl rfl hE hS rfl rfl (by kernel_rfl) (by kernel_rfl) (by kernel_rfl) (by kernel_rfl) (by kernel_rfl) (fun a w _ hE hS => ?_)) rfl
        refine at_end rfl ?_
        refine wpIn_seq ?_
        refine region_at ?_
        refine segN 1 (j := 1) [(4, .int .i64 ((0 : Int)))] hE (by kernel_rfl) rfl (fun a hE => ?_)
        refine at_end rfl ?_
        refine wpIn_ret ?_
        obtain rfl := Option.some.inj hf
        repeat (with_reducible first | refine then_ret ?_ | refine block_ret ?_ | refine qx_ret ?_)
        refine ret_gen ([.int .i64 ((0 : Int))]) hE (by rw [show Tryd.f14.results.toList = [.tmp 4] from rfl]; exact ⟨_, _, rfl, rfl, rfl⟩) ?_
        exact ⟨_, rfl, D230, A222, c223, q224, rfl, hS, (h225.mono le232)⟩

set_option maxRecDepth 100000 in
set_option maxHeartbeats 4000000 in
theorem disk_Disk_Sync.calls {K : Nat} {g w0 : World} {D0 : Snap} {x3 : (List Int)} {x9 : Int} {x10 : Int} {b1 : Nat} {A4 : Option Addr} {c5 : Nat} {q6 : Blk} {r : (Int)} (hf : disk_Disk_Sync.f K x3 x9 x10 = some r) (hS0 : St g w0 D0 [bx b1 72 (c_T_disk_Disk ((T_disk_Disk.mk (x3) (x9) (x10))) A4 c5), q6]) (h7 : OwnL (kdInt .u8) 5 D0 A4 c5 (x3) q6) :
    CallsIn (Fw none) 0 Tryd.prog 28 (List.toArray [.pointer (some ⟨b1, 0, none⟩)]) w0 (fun e w' => ∃ v, e = .returned v ∧ ∃ (D1 : Snap) (q11 : Blk), v = .tuple #[] ∧ Stp g w0 D0 [bx b1 72 (c_T_disk_Disk ((T_disk_Disk.mk (x3) (x9) (x10))) A4 c5), q6] w' D1 [bx b1 72 (c_T_disk_Disk ((T_disk_Disk.mk (x3) (r) (x10))) A4 c5), q11] ∧ OwnL (kdInt .u8) 5 D1 A4 c5 (x3) q11) := by
  unfold disk_Disk_Sync.f at hf
  have hS := Stp.refl hS0
  clear hS0
  refine calls_body (n := 12) Tryd.func28 rfl Tryd.ntmps28 rfl (fun a hE => ?_)
  have hE : Env a 12 [] [(0, .pointer (some ⟨b1, 0, none⟩))] := hE
  refine wpIn_seq ?_
  refine region_at ?_
  refine segN 1 (j := 1) [(2, .pointer (some ⟨b1, 0, none⟩))] hE (by kernel_rfl) rfl (fun a hE => ?_)
  refine at_op (op_tk hE (tk_bin (r := .bool true) rfl rfl rfl rfl hE rfl rfl rfl (neptr_run (by kernel_rfl) _) (fun a hE => ?_))) rfl
  refine at_end rfl ?_
  refine wpIn_cond_true (hE.eval rfl) ?_
  refine region_at ?_
  refine segN 3 (j := 3) [(4, .pointer (some ⟨b1, 0, none⟩)), (6, .pointer (some ⟨b1, 0, none⟩))] hE (by kernel_rfl) rfl (fun a hE => ?_)
  refine at_op (op_tk hE (g_fieldAddr (fo := 0) (ft := 33) 0 rfl rfl rfl rfl hE rfl rfl (by kernel_rfl) rfl (fun a hE => ?_))) rfl
  refine at_op (op_tk hE (tk_load 0 (.slice A4 (List.length (x3)) c5) rfl rfl rfl rfl hE rfl hS rfl rfl (by kernel_rfl) (kL (j := 0) hS rfl List.not_mem_nil) (fun a hE => ?_))) rfl
  refine segN 2 (j := 7) [(9, .int .i64 (((List.length (x3) : Nat) : Int))), (10, .pointer (some ⟨b1, 0, none⟩))] hE (by kernel_rfl) rfl (fun a hE => ?_)
  refine at_op (op_tk hE (g_fieldAddr (fo := 1) (ft := 3) 1 rfl rfl rfl rfl hE rfl rfl (by kernel_rfl) rfl (fun a hE => ?_))) rfl
  refine at_op (op_store (v := .int .i64 (((List.length (x3) : Nat) : Int))) (c_T_disk_Disk ((T_disk_Disk.mk (x3) (((List.length (x3) : Nat) : Int)) (x10))) A4 c5) rfl rfl rfl rfl hE hS rfl rfl (by kernel_rfl) (by kernel_rfl) (by kernel_rfl) (by kernel_rfl) (by kernel_rfl) (fun a w _ hE hS => ?_)) rfl
  refine at_end rfl ?_
  obtain rfl := Option.some.inj hf
  repeat (with_reducible first | refine then_ret ?_ | refine block_ret ?_ | refine qx_ret ?_)
  refine ret_genN ([]) hE (by rw [show Tryd.f28.results.toList = [] from rfl]; exact rfl) ?_
  exact ⟨_, rfl, D0, q6, rfl, hS, h7⟩

set_option maxRecDepth 100000 in
set_option maxHeartbeats 4000000 in
theorem log_Log_Append.calls {K : Nat} {g w0 : World} {D0 : Snap} {x5 : (List Int)} {x9 : T_log_at} {x10 : (List Int)} {x16 : Int} {x17 : Int} {b1 : Nat} {b2 : Nat} {A6 : Option Addr} {c7 : Nat} {A11 : Option Addr} {c12 : Nat} {q13 : Blk} {r : (Int × T_log_at × (List Int) × Int)} (hf : log_Log_Append.f K x5 x9 x10 x16 x17 = some r) (hS0 : St g w0 D0 [bx b1 64 ([.pointer (some ⟨b2, 0, none⟩)] ++ ((c_T_log_at (x9)))), bx b2 72 (c_T_disk_Disk ((T_disk_Disk.mk (x10) (x16) (x17))) A11 c12), q13]) (h8 : Sl (kdInt .u8) D0 A6 c7 (x5)) (h14 : OwnL (kdInt .u8) 5 D0 A11 c12 (x10) q13) (hG0 : Cell (kdArr .u32 8) D0 0 0 gl_First) (hG1 : Cell (kdArr .u32 64) D0 1 0 gl_K) :
    CallsIn (Fw none) 0 Tryd.prog 17 (List.toArray [.pointer (some ⟨b1, 0, none⟩), .slice A6 (List.length (x5)) c7]) w0 (fun e w' => ∃ v, e = .returned v ∧ ∃ (D1 : Snap) (A44 : Option Addr) (c45 : Nat) (q46 : Blk), v = .int .i64 (r.1) ∧ Stp g w0 D0 [bx b1 64 ([.pointer (some ⟨b2, 0, none⟩)] ++ ((c_T_log_at (x9)))), bx b2 72 (c_T_disk_Disk ((T_disk_Disk.mk (x10) (x16) (x17))) A11 c12), q13] w' D1 [bx b1 64 ([.pointer (some ⟨b2, 0, none⟩)] ++ ((c_T_log_at ((T_log_at.mk (r.2.1.fCount) (r.2.1.fChain)))))), bx b2 72 (c_T_disk_Disk ((T_disk_Disk.mk (r.2.2.1) (r.2.2.2) (x17))) A44 c45), q46] ∧ OwnL (kdInt .u8) 5 D1 A44 c45 (r.2.2.1) q46) := by
  unfold log_Log_Append.f at hf
  have hS := Stp.refl hS0
  clear hS0
  refine calls_body (n := 17) Tryd.func17 rfl Tryd.ntmps17 rfl (fun a hE => ?_)
  have hE : Env a 17 [] [(0, .pointer (some ⟨b1, 0, none⟩)), (1, .slice A6 (List.length (x5)) c7)] := hE
  refine wpIn_seq ?_
  refine region_at ?_
  refine segN 1 (j := 1) [(4, .int .i64 ((0 : Int)))] hE (by kernel_rfl) rfl (fun a hE => ?_)
  refine at_end rfl ?_
  refine wpIn_seq ?_
  refine region_at ?_
  refine segN 2 (j := 2) [(6, .pointer (some ⟨b1, 0, none⟩)), (7, .slice A6 (List.length (x5)) c7)] hE (by kernel_rfl) rfl (fun a hE => ?_)
  obtain ⟨r49, h50, hf⟩ := bind_some hf
  refine at_op (op_call rfl rfl rfl rfl hE rfl rfl rfl rfl (by kernel_rfl) (log_Log_Put.calls (g := g) h50 (hS.st.fore (L := [bx b1 64 ([.pointer (some ⟨b2, 0, none⟩)] ++ ((c_T_log_at (x9)))), bx b2 72 (c_T_disk_Disk ((T_disk_Disk.mk (x10) (x16) (x17))) A11 c12), q13])) h8 h14 hG0 hG1) (fun a v w hR hE => ?_)) rfl
  obtain ⟨D51, A53, c54, q55, rfl, hS1, h56⟩ := hR
  have le58 := hS1.dle
  have hS := hS.callR hS1 rfl (.c (.c (.c .n)))
  clear hS1
  refine segN 1 (j := 4) [(5, .int .i64 (r49.1))] hE (by kernel_rfl) rfl (fun a hE => ?_)
  refine at_end rfl ?_
  refine wpIn_seq ?_
  refine wpIn_seq ?_
  refine region_at ?_
  refine segN 2 (j := 2) [(10, .bool ((decide (r49.1 = (0 : Int)))))] hE (by kernel_rfl) rfl (fun a hE => ?_)
  refine at_end rfl ?_
  refine cond_split hE (b := (decide (r49.1 = (0 : Int)))) rfl (fun hb => ?_) (fun hb => ?_)
  · replace hf := cond_t hb hf
    clear hb
    refine region_at ?_
    refine segN 2 (j := 2) [(12, .pointer (some ⟨b1, 0, none⟩))] hE (by kernel_rfl) rfl (fun a hE => ?_)
    refine at_op (op_tk hE (g_fieldAddr (fo := 0) (ft := 30) 0 rfl rfl rfl rfl hE rfl rfl (by kernel_rfl) rfl (fun a hE => ?_))) rfl
    refine at_op (op_tk hE (tk_load 0 (.pointer (some ⟨b2, 0, none⟩)) rfl rfl rfl rfl hE rfl hS rfl rfl (by kernel_rfl) (kL (j := 0) hS rfl List.not_mem_nil) (fun a hE => ?_))) rfl
    have hS := hS.pk (.c 1 rfl (.c 2 rfl (.c 0 rfl .n))) rfl
    obtain ⟨r67, h68, hf⟩ := bind_some hf
    refine at_op (op_call rfl rfl rfl rfl hE rfl rfl rfl rfl (by kernel_rfl) (disk_Disk_Sync.calls (g := g) h68 (hS.st.fore (L := [bx b2 72 (c_T_disk_Disk ((T_disk_Disk.mk (r49.2.2) (x16) (x17))) A53 c54), q55])) h56) (fun a v w hR hE => ?_)) rfl
    obtain ⟨D69, q71, rfl, hS1, h72⟩ := hR
    have le74 := hS1.dle
    have hS := hS.callR hS1 rfl (.c (.c .n))
    clear hS1
    refine at_end rfl ?_
    refine wpIn_seq ?_
    refine region_at ?_
    refine segN 2 (j := 2) [(4, .int .i64 (r49.1))] hE (by kernel_rfl) rfl (fun a hE => ?_)
    refine at_end rfl ?_
    refine wpIn_ret ?_
    obtain rfl := Option.some.inj hf
    repeat (with_reducible first | refine then_ret ?_ | refine block_ret ?_ | refine qx_ret ?_)
    refine ret_gen ([.int .i64 (r49.1)]) hE (by rw [show Tryd.f17.results.toList = [.tmp 4] from rfl]; exact ⟨_, _, rfl, rfl, rfl⟩) ?_
    have hS := hS.pk (.c 2 rfl (.c 0 rfl (.c 1 rfl .n))) rfl
    exact ⟨_, rfl, D69, A53, c54, q71, rfl, hS, h72⟩
  · replace hf := cond_f hb hf
    clear hb
    refine wpIn_skip ?_
    refine wpIn_seq ?_
    refine region_at ?_
    refine segN 2 (j := 2) [(4, .int .i64 (r49.1))] hE (by kernel_rfl) rfl (fun a hE => ?_)
    refine at_end rfl ?_
    refine wpIn_ret ?_
    obtain rfl := Option.some.inj hf
    repeat (with_reducible first | refine then_ret ?_ | refine block_ret ?_ | refine qx_ret ?_)
    refine ret_gen ([.int .i64 (r49.1)]) hE (by rw [show Tryd.f17.results.toList = [.tmp 4] from rfl]; exact ⟨_, _, rfl, rfl, rfl⟩) ?_
    exact ⟨_, rfl, D51, A53, c54, q55, rfl, hS, h56⟩

set_option maxRecDepth 100000 in
set_option maxHeartbeats 4000000 in
theorem log_Log_Count.calls {K : Nat} {g w0 : World} {D0 : Snap} {x5 : T_log_at} {x6 : (List Int)} {x12 : Int} {x13 : Int} {b1 : Nat} {b2 : Nat} {A7 : Option Addr} {c8 : Nat} {q9 : Blk} {r : (Int)} (hf : log_Log_Count.f K x5 x6 x12 x13 = some r) (hS0 : St g w0 D0 [bx b1 64 ([.pointer (some ⟨b2, 0, none⟩)] ++ ((c_T_log_at (x5)))), bx b2 72 (c_T_disk_Disk ((T_disk_Disk.mk (x6) (x12) (x13))) A7 c8), q9]) (h10 : OwnL (kdInt .u8) 5 D0 A7 c8 (x6) q9) :
    CallsIn (Fw none) 0 Tryd.prog 21 (List.toArray [.pointer (some ⟨b1, 0, none⟩)]) w0 (fun e w' => ∃ v, e = .returned v ∧ ∃ (D1 : Snap) (q14 : Blk), v = .int .i64 (r) ∧ Stp g w0 D0 [bx b1 64 ([.pointer (some ⟨b2, 0, none⟩)] ++ ((c_T_log_at (x5)))), bx b2 72 (c_T_disk_Disk ((T_disk_Disk.mk (x6) (x12) (x13))) A7 c8), q9] w' D1 [bx b1 64 ([.pointer (some ⟨b2, 0, none⟩)] ++ ((c_T_log_at (x5)))), bx b2 72 (c_T_disk_Disk ((T_disk_Disk.mk (x6) (x12) (x13))) A7 c8), q14] ∧ OwnL (kdInt .u8) 5 D1 A7 c8 (x6) q14) := by
  unfold log_Log_Count.f at hf
  have hS := Stp.refl hS0
  clear hS0
  refine calls_body (n := 10) Tryd.func21 rfl Tryd.ntmps21 rfl (fun a hE => ?_)
  have hE : Env a 10 [] [(0, .pointer (some ⟨b1, 0, none⟩))] := hE
  refine wpIn_seq ?_
  refine region_at ?_
  refine segN 1 (j := 1) [(2, .int .i64 ((0 : Int)))] hE (by kernel_rfl) rfl (fun a hE => ?_)
  refine at_end rfl ?_
  refine wpIn_seq ?_
  refine wpIn_seq ?_
  refine region_at ?_
  refine segN 1 (j := 1) [(3, .pointer (some ⟨b1, 0, none⟩))] hE (by kernel_rfl) rfl (fun a hE => ?_)
  refine at_op (op_tk hE (tk_bin (r := .bool false) rfl rfl rfl rfl hE rfl rfl rfl (eqptr_run (by kernel_rfl) _) (fun a hE => ?_))) rfl
  refine at_end rfl ?_
  refine wpIn_cond_false (hE.eval rfl) ?_
  refine wpIn_skip ?_
  refine wpIn_seq ?_
  refine region_at ?_
  refine segN 2 (j := 2) [(6, .pointer (some ⟨b1, 0, none⟩))] hE (by kernel_rfl) rfl (fun a hE => ?_)
  refine at_op (op_tk hE (g_fieldAddr (fo := 1) (ft := 62) 1 rfl rfl rfl rfl hE rfl rfl (by kernel_rfl) rfl (fun a hE => ?_))) rfl
  refine at_op (op_tk hE (g_fieldAddr (fo := 0) (ft := 3) 1 rfl rfl rfl rfl hE rfl rfl (by kernel_rfl) rfl (fun a hE => ?_))) rfl
  refine at_op (op_tk hE (tk_load 0 (.int .i64 (x5.fCount)) rfl rfl rfl rfl hE rfl hS rfl rfl (by kernel_rfl) (kL (j := 0) hS rfl List.not_mem_nil) (fun a hE => ?_))) rfl
  refine segN 1 (j := 6) [(2, .int .i64 (x5.fCount))] hE (by kernel_rfl) rfl (fun a hE => ?_)
  refine at_end rfl ?_
  refine wpIn_ret ?_
  obtain rfl := Option.some.inj hf
  repeat (with_reducible first | refine then_ret ?_ | refine block_ret ?_ | refine qx_ret ?_)
  refine ret_gen ([.int .i64 (x5.fCount)]) hE (by rw [show Tryd.f21.results.toList = [.tmp 2] from rfl]; exact ⟨_, _, rfl, rfl, rfl⟩) ?_
  exact ⟨_, rfl, D0, q9, rfl, hS, h10⟩

set_option maxRecDepth 100000 in
set_option maxHeartbeats 4000000 in
theorem disk_Disk_Crash.calls {K : Nat} {g w0 : World} {D0 : Snap} {x3 : Int} {x4 : (List Int)} {x10 : Int} {x11 : Int} {b1 : Nat} {A5 : Option Addr} {c6 : Nat} {q7 : Blk} {r : ((List Int) × Int)} (hf : disk_Disk_Crash.f K x3 x4 x10 x11 = some r) (hS0 : St g w0 D0 [bx b1 72 (c_T_disk_Disk ((T_disk_Disk.mk (x4) (x10) (x11))) A5 c6), q7]) (h8 : OwnL (kdInt .u8) 5 D0 A5 c6 (x4) q7) :
    CallsIn (Fw none) 0 Tryd.prog 18 (List.toArray [.pointer (some ⟨b1, 0, none⟩), .int .i64 (x3)]) w0 (fun e w' => ∃ v, e = .returned v ∧ ∃ (D1 : Snap) (A32 : Option Addr) (c33 : Nat) (q34 : Blk), v = .tuple #[] ∧ Stp g w0 D0 [bx b1 72 (c_T_disk_Disk ((T_disk_Disk.mk (x4) (x10) (x11))) A5 c6), q7] w' D1 [bx b1 72 (c_T_disk_Disk ((T_disk_Disk.mk (r.1) (r.2) (x11))) A32 c33), q34] ∧ OwnL (kdInt .u8) 5 D1 A32 c33 (r.1) q34) := by
  unfold disk_Disk_Crash.f at hf
  have hS := Stp.refl hS0
  clear hS0
  refine calls_body (n := 26) Tryd.func18 rfl Tryd.ntmps18 rfl (fun a hE => ?_)
  have hE : Env a 26 [] [(0, .pointer (some ⟨b1, 0, none⟩)), (1, .int .i64 (x3))] := hE
  refine wpIn_seq ?_
  refine region_at ?_
  refine segN 1 (j := 1) [(4, .pointer (some ⟨b1, 0, none⟩))] hE (by kernel_rfl) rfl (fun a hE => ?_)
  refine at_op (op_tk hE (tk_bin (r := .bool true) rfl rfl rfl rfl hE rfl rfl rfl (neptr_run (by kernel_rfl) _) (fun a hE => ?_))) rfl
  refine at_end rfl ?_
  refine wpIn_cond_true (hE.eval rfl) ?_
  refine region_draw (fun j => Keeps (mfOf [(19, [b1] ++ ids [q7])] j)) (by kernel_rfl) ?_
  have hS := hS.drew
  first | generalize w.drew = w at hS ⊢ | generalize w0.drew = w at hS ⊢
  refine tW 0 1 (fuel := 19) (by kernel_rfl) hE (fun M => tk_pure (.pointer (some ⟨b1, 0, none⟩)) hE rfl rfl rfl rfl (fun _ _ _ e => by cases e) (by kernel_rfl) (fun a hE => ?_))
  refine tW 1 3 (fuel := 18) (by kernel_rfl) hE (fun M => tk_pure (.pointer (some ⟨b1, 0, none⟩)) hE rfl rfl rfl rfl (fun _ _ _ e => by cases e) (by kernel_rfl) (fun a hE => ?_))
  refine tW 2 7 (fuel := 17) (by kernel_rfl) hE (fun M => tk_pure (.pointer (some ⟨b1, 0, none⟩)) hE rfl rfl rfl rfl (fun _ _ _ e => by cases e) (by kernel_rfl) (fun a hE => ?_))
  refine tW 5 39 (fuel := 16) (by kernel_rfl) hE (fun M => tk_pure (.int .i64 (x3)) hE rfl rfl rfl rfl (fun _ _ _ e => by cases e) (by kernel_rfl) (fun a hE => ?_))
  refine tW 6 103 (fuel := 15) (by kernel_rfl) hE (fun M => tk_pure (.pointer (some ⟨b1, 0, none⟩)) hE rfl rfl rfl rfl (fun _ _ _ e => by cases e) (by kernel_rfl) (fun a hE => ?_))
  refine tW 7 231 (fuel := 14) (by kernel_rfl) hE (fun M => tk_pure (.pointer (some ⟨b1, 0, none⟩)) hE rfl rfl rfl rfl (fun _ _ _ e => by cases e) (by kernel_rfl) (fun a hE => ?_))
  refine tW 11 2279 (fuel := 13) (by kernel_rfl) hE (fun M => tk_pure (.pointer (some ⟨b1, 0, none⟩)) hE rfl rfl rfl rfl (fun _ _ _ e => by cases e) (by kernel_rfl) (fun a hE => ?_))
  refine tW 12 6375 (fuel := 12) (by kernel_rfl) hE (fun M => tk_pure (.pointer (some ⟨b1, 0, none⟩)) hE rfl rfl rfl rfl (fun _ _ _ e => by cases e) (by kernel_rfl) (fun a hE => ?_))
  refine tW 3 6383 (fuel := 11) (by kernel_rfl) hE (fun M => g_fieldAddr (fo := 1) (ft := 3) 1 rfl rfl rfl rfl hE rfl rfl (by kernel_rfl) rfl (fun a hE => ?_))
  refine tS (T := [(19, [b1] ++ ids [q7])]) [] [4, 18, 19] 4 6399 (fuel := 10) (by kernel_rfl) hE (tk_load 0 (.int .i64 (x10)) rfl rfl rfl rfl hE rfl hS rfl rfl (by kernel_rfl) (kL (j := 0) hS rfl List.not_mem_nil) (fun a hE => ?_))
  refine tW 8 6655 (fuel := 9) (by kernel_rfl) hE (fun M => g_fieldAddr (fo := 0) (ft := 33) 0 rfl rfl rfl rfl hE rfl rfl (by kernel_rfl) rfl (fun a hE => ?_))
  refine tS (T := [(19, [b1] ++ ids [q7])]) [] [9, 10, 15, 16, 17, 18, 19] 9 7167 (fuel := 8) (by kernel_rfl) hE (tk_load 0 (.slice A5 (List.length (x4)) c6) rfl rfl rfl rfl hE rfl hS rfl rfl (by kernel_rfl) (kL (j := 0) hS rfl List.not_mem_nil) (fun a hE => ?_))
  refine tW 10 8191 (fuel := 7) (by kernel_rfl) hE (fun M => tk_pure (.int .i64 (((List.length (x4) : Nat) : Int))) hE rfl rfl rfl rfl (fun _ _ _ e => by cases e) (by kernel_rfl) (fun a hE => ?_))
  refine tW 13 16383 (fuel := 6) (by kernel_rfl) hE (fun M => g_fieldAddr (fo := 1) (ft := 3) 1 rfl rfl rfl rfl hE rfl rfl (by kernel_rfl) rfl (fun a hE => ?_))
  refine tS (T := [(19, [b1] ++ ids [q7])]) [] [14, 15, 16, 17, 18, 19] 14 32767 (fuel := 5) (by kernel_rfl) hE (tk_load 0 (.int .i64 (x10)) rfl rfl rfl rfl hE rfl hS rfl rfl (by kernel_rfl) (kL (j := 0) hS rfl List.not_mem_nil) (fun a hE => ?_))
  refine tW 15 65535 (fuel := 4) (by kernel_rfl) hE (fun M => tk_pure (.int .i64 ((IntKind.wrap .i64 (((List.length (x4) : Nat) : Int) - x10)))) hE rfl rfl rfl rfl (fun _ _ _ e => by cases e) (by kernel_rfl) (fun a hE => ?_))
  refine tW 16 131071 (fuel := 3) (by kernel_rfl) hE (fun M => tk_pure (.int .i64 ((minI x3 (IntKind.wrap .i64 (((List.length (x4) : Nat) : Int) - x10))))) hE rfl rfl rfl rfl (fun _ _ _ e => by cases e) (by kernel_rfl) (fun a hE => ?_))
  refine tW 17 262143 (fuel := 2) (by kernel_rfl) hE (fun M => tk_pure (.int .i64 ((maxI (0 : Int) (minI x3 (IntKind.wrap .i64 (((List.length (x4) : Nat) : Int) - x10)))))) hE rfl rfl rfl rfl (fun _ _ _ e => by cases e) (by kernel_rfl) (fun a hE => ?_))
  refine tW 18 524287 (fuel := 1) (by kernel_rfl) hE (fun M => tk_pure (.int .i64 ((IntKind.wrap .i64 (x10 + (maxI (0 : Int) (minI x3 (IntKind.wrap .i64 (((List.length (x4) : Nat) : Int) - x10)))))))) hE rfl rfl rfl rfl (fun _ _ _ e => by cases e) (by kernel_rfl) (fun a hE => ?_))
  obtain ⟨r47, h48, hf⟩ := bind_some hf
  refine oG 19 1048575 (fuel := 0) (by kernel_rfl) (op_call rfl rfl rfl rfl hE rfl rfl rfl rfl (by kernel_rfl) (disk_Disk_leave.calls (g := g) h48 (hS.st.fore (L := [bx b1 72 (c_T_disk_Disk ((T_disk_Disk.mk (x4) (x10) (x11))) A5 c6), q7])) h8) (fun a v w hR hE => ?_))
  obtain ⟨D49, A51, c52, q53, rfl, hS1, h54⟩ := hR
  refine ⟨hS1.keeps.mono (fun _ h => h), ?_⟩
  have le56 := hS1.dle
  have hS := hS.callR hS1 rfl (.c (.c .n))
  clear hS1
  refine doneG (by kernel_rfl) ?_
  obtain rfl := Option.some.inj hf
  repeat (with_reducible first | refine then_ret ?_ | refine block_ret ?_ | refine qx_ret ?_)
  refine ret_genN ([]) hE (by rw [show Tryd.f18.results.toList = [] from rfl]; exact rfl) ?_
  exact ⟨_, rfl, D49, A51, c52, q53, rfl, hS, h54⟩

set_option maxRecDepth 100000 in
set_option maxHeartbeats 4000000 in
theorem log_Log_Size.calls {K : Nat} {g w0 : World} {D0 : Snap} {x5 : Int} {x6 : T_log_at} {x7 : (List Int)} {x13 : Int} {x14 : Int} {b1 : Nat} {b2 : Nat} {A8 : Option Addr} {c9 : Nat} {q10 : Blk} {r : (Int)} (hf : log_Log_Size.f K x5 x6 x7 x13 x14 = some r) (hS0 : St g w0 D0 [bx b1 64 ([.pointer (some ⟨b2, 0, none⟩)] ++ ((c_T_log_at (x6)))), bx b2 72 (c_T_disk_Disk ((T_disk_Disk.mk (x7) (x13) (x14))) A8 c9), q10]) (h11 : OwnL (kdInt .u8) 5 D0 A8 c9 (x7) q10) :
    CallsIn (Fw none) 0 Tryd.prog 29 (List.toArray [.pointer (some ⟨b1, 0, none⟩), .int .i64 (x5)]) w0 (fun e w' => ∃ v, e = .returned v ∧ ∃ (D1 : Snap) (q35 : Blk), v = .int .i64 (r) ∧ Stp g w0 D0 [bx b1 64 ([.pointer (some ⟨b2, 0, none⟩)] ++ ((c_T_log_at (x6)))), bx b2 72 (c_T_disk_Disk ((T_disk_Disk.mk (x7) (x13) (x14))) A8 c9), q10] w' D1 [bx b1 64 ([.pointer (some ⟨b2, 0, none⟩)] ++ ((c_T_log_at (x6)))), bx b2 72 (c_T_disk_Disk ((T_disk_Disk.mk (x7) (x13) (x14))) A8 c9), q35] ∧ OwnL (kdInt .u8) 5 D1 A8 c9 (x7) q35) := by
  unfold log_Log_Size.f at hf
  have hS := Stp.refl hS0
  clear hS0
  refine calls_body (n := 17) Tryd.func29 rfl Tryd.ntmps29 rfl (fun a hE => ?_)
  have hE : Env a 17 [] [(0, .pointer (some ⟨b1, 0, none⟩)), (1, .int .i64 (x5))] := hE
  refine wpIn_seq ?_
  refine region_at ?_
  refine segN 1 (j := 1) [(4, .int .i64 ((0 : Int)))] hE (by kernel_rfl) rfl (fun a hE => ?_)
  refine at_end rfl ?_
  refine wpIn_seq ?_
  obtain ⟨j56, hj57, hf⟩ := jn_elim hf
  refine seq_join (fun a w => ∃ (y43 : Bool), ∃ (D44 : Snap), Env a 17 [] [(1, .int .i64 (x5)), (10, .bool (y43))] ∧ Stp g w0 D0 [bx b1 64 ([.pointer (some ⟨b2, 0, none⟩)] ++ ((c_T_log_at (x6)))), bx b2 72 (c_T_disk_Disk ((T_disk_Disk.mk (x7) (x13) (x14))) A8 c9), q10] w D44 [bx b1 64 ([.pointer (some ⟨b2, 0, none⟩)] ++ ((c_T_log_at (x6)))), bx b2 72 (c_T_disk_Disk ((T_disk_Disk.mk (x7) (x13) (x14))) A8 c9), q10] ∧ Snap.le D0 D44 ∧ j56 y43 = some r) ?_ ?_
  · clear hj57
    refine region_at ?_
    refine segN 3 (j := 3) [(7, .bool ((decide (x5 < (1 : Int)))))] hE (by kernel_rfl) rfl (fun a hE => ?_)
    cases hb : (decide (x5 < (1 : Int)))
    · replace hf := cond_f hb hf
      have hE := hE.know (t := 7) (b := (decide (x5 < (1 : Int)))) (b' := false) rfl hb
      clear hb
      refine segN 3 (j := 6) [(10, .bool ((decide ((2000 : Int) < x5))))] hE (by kernel_rfl) rfl (fun a hE => ?_)
      refine at_end rfl ?_
      exact ⟨(decide ((2000 : Int) < x5)), D0, hE.weak (by kernel_rfl), hS, Snap.le.refl _, hf⟩
    · replace hf := cond_t hb hf
      have hE := hE.know (t := 7) (b := (decide (x5 < (1 : Int)))) (b' := true) rfl hb
      clear hb
      refine segN 3 (j := 6) [(10, .bool true)] hE (by kernel_rfl) rfl (fun a hE => ?_)
      refine at_end rfl ?_
      exact ⟨true, D0, hE.weak (by kernel_rfl), hS, Snap.le.refl _, hf⟩
  · clear hE hS
    rintro a w ⟨y43, D44, hE, hS, le45, hf⟩
    replace hf := hj57 _ hf
    clear hj57
    refine cond_split hE (b := y43) rfl (fun hb => ?_) (fun hb => ?_)
    · replace hf := cond_t hb hf
      clear hb
      refine wpIn_seq ?_
      refine region_at ?_
      refine segN 1 (j := 1) [(4, .int .i64 ((0 : Int)))] hE (by kernel_rfl) rfl (fun a hE => ?_)
      refine at_end rfl ?_
      refine wpIn_ret ?_
      obtain rfl := Option.some.inj hf
      repeat (with_reducible first | refine then_ret ?_ | refine block_ret ?_ | refine qx_ret ?_)
      refine ret_gen ([.int .i64 ((0 : Int))]) hE (by rw [show Tryd.f29.results.toList = [.tmp 4] from rfl]; exact ⟨_, _, rfl, rfl, rfl⟩) ?_
      exact ⟨_, rfl, D44, q10, rfl, hS, (h11.mono le45)⟩
    · replace hf := cond_f hb hf
      clear hb
      refine wpIn_skip ?_
      refine wpIn_seq ?_
      refine region_at ?_
      refine segN 1 (j := 1) [(11, .int .i64 (x5))] hE (by kernel_rfl) rfl (fun a hE => ?_)
      obtain ⟨r46, h47, hf⟩ := bind_some hf
      refine at_op (op_call rfl rfl rfl rfl hE rfl rfl rfl rfl (by kernel_rfl) (wire_Num.calls (g := g) h47 (hS.st.fore (L := [])) ) (fun a v w hR hE => ?_)) rfl
      obtain ⟨D48, A50, c51, q52, rfl, hS1, h53⟩ := hR
      have le55 := hS1.dle
      have hS := hS.callR hS1 rfl (.c .n)
      clear hS1
      refine segN 5 (j := 7) [(4, .int .i64 ((IntKind.wrap .i64 ((IntKind.wrap .i64 (((List.length (r46) : Nat) : Int) + x5)) + (8 : Int)))))] hE (by kernel_rfl) rfl (fun a hE => ?_)
      refine at_end rfl ?_
      refine wpIn_ret ?_
      obtain rfl := Option.some.inj hf
      repeat (with_reducible first | refine then_ret ?_ | refine block_ret ?_ | refine qx_ret ?_)
      refine ret_gen ([.int .i64 ((IntKind.wrap .i64 ((IntKind.wrap .i64 (((List.length (r46) : Nat) : Int) + x5)) + (8 : Int))))]) hE (by rw [show Tryd.f29.results.toList = [.tmp 4] from rfl]; exact ⟨_, _, rfl, rfl, rfl⟩) ?_
      have hS := hS.pk (.c 1 rfl (.c 2 rfl (.c 3 rfl .n))) rfl
      exact ⟨_, rfl, D48, q10, rfl, hS, (h11.mono (Snap.le.trans le45 le55))⟩

set_option maxRecDepth 100000 in
set_option maxHeartbeats 4000000 in
theorem log_Log_Chain.calls {K : Nat} {g w0 : World} {D0 : Snap} {x5 : T_log_at} {x6 : (List Int)} {x12 : Int} {x13 : Int} {b1 : Nat} {b2 : Nat} {A7 : Option Addr} {c8 : Nat} {q9 : Blk} {r : ((Vector Int 32))} (hf : log_Log_Chain.f K x5 x6 x12 x13 = some r) (hS0 : St g w0 D0 [bx b1 64 ([.pointer (some ⟨b2, 0, none⟩)] ++ ((c_T_log_at (x5)))), bx b2 72 (c_T_disk_Disk ((T_disk_Disk.mk (x6) (x12) (x13))) A7 c8), q9]) (h10 : OwnL (kdInt .u8) 5 D0 A7 c8 (x6) q9) :
    CallsIn (Fw none) 0 Tryd.prog 22 (List.toArray [.pointer (some ⟨b1, 0, none⟩)]) w0 (fun e w' => ∃ v, e = .returned v ∧ ∃ (D1 : Snap) (q16 : Blk), v = .agg (List.toArray (acells .u8 32 (r))) ∧ Stp g w0 D0 [bx b1 64 ([.pointer (some ⟨b2, 0, none⟩)] ++ ((c_T_log_at (x5)))), bx b2 72 (c_T_disk_Disk ((T_disk_Disk.mk (x6) (x12) (x13))) A7 c8), q9] w' D1 [bx b1 64 ([.pointer (some ⟨b2, 0, none⟩)] ++ ((c_T_log_at (x5)))), bx b2 72 (c_T_disk_Disk ((T_disk_Disk.mk (x6) (x12) (x13))) A7 c8), q16] ∧ OwnL (kdInt .u8) 5 D1 A7 c8 (x6) q16) := by
  unfold log_Log_Chain.f at hf
  have hS := Stp.refl hS0
  clear hS0
  refine calls_body (n := 19) Tryd.func22 rfl Tryd.ntmps22 rfl (fun a hE => ?_)
  have hE : Env a 19 [] [(0, .pointer (some ⟨b1, 0, none⟩))] := hE
  refine wpIn_seq ?_
  refine region_at ?_
  refine at_op (op_alloc (z := .agg (List.toArray (acells .u8 32 ((Vector.replicate 32 (0 : Int)))))) rfl rfl rfl rfl hE rfl hS (by kernel_rfl) (fun a b19 w _ hE hS => ?_)) rfl
  refine at_end rfl ?_
  refine wpIn_seq ?_
  refine wpIn_seq ?_
  refine region_at ?_
  refine segN 1 (j := 1) [(3, .pointer (some ⟨b1, 0, none⟩))] hE (by kernel_rfl) rfl (fun a hE => ?_)
  refine at_op (op_tk hE (tk_bin (r := .bool false) rfl rfl rfl rfl hE rfl rfl rfl (eqptr_run (by kernel_rfl) _) (fun a hE => ?_))) rfl
  refine segN 3 (j := 5) [(5, .bool false), (7, .pointer (some ⟨b1, 0, none⟩))] hE (by kernel_rfl) rfl (fun a hE => ?_)
  refine at_op (op_tk hE (g_fieldAddr (fo := 1) (ft := 62) 1 rfl rfl rfl rfl hE rfl rfl (by kernel_rfl) rfl (fun a hE => ?_))) rfl
  refine at_op (op_tk hE (tk_load 1 (.agg (List.toArray (c_T_log_at (x5)))) rfl rfl rfl rfl hE rfl hS rfl rfl (by kernel_rfl) (kL (j := 1) hS rfl List.not_mem_nil) (fun a hE => ?_))) rfl
  refine at_op (op_tk hE (tk_build (c_T_log_at ((T_log_at.mk ((0 : Int)) ((Vector.replicate 32 (0 : Int)))))) rfl rfl rfl rfl hE rfl rfl (by kernel_rfl) (fun a hE => ?_))) rfl
  refine at_op (op_tk hE (tk_bin (r := .bool (((decide (x5.fCount = (0 : Int))) && ((decide (x5.fChain = (Vector.replicate 32 (0 : Int)))) && true)))) rfl rfl rfl rfl hE rfl rfl rfl (eqagg_run (by kernel_rfl) (EqR_struct (fs := structFs Tryd.prog 62) (by kernel_rfl) ⟨.int .i64 (x5.fCount), .int .i64 ((0 : Int)), (decide (x5.fCount = (0 : Int))), _, by kernel_rfl, by kernel_rfl, by kernel_rfl, (EqR_int (by kernel_rfl)), ⟨.agg (List.toArray (acells .u8 32 (x5.fChain))), .agg (List.toArray (acells .u8 32 ((Vector.replicate 32 (0 : Int))))), (decide (x5.fChain = (Vector.replicate 32 (0 : Int)))), _, by kernel_rfl, by kernel_rfl, by kernel_rfl, (EqR_arr (k := .u8) (N := 32) (by kernel_rfl)), rfl, rfl⟩, rfl⟩)) (fun a hE => ?_))) rfl
  refine segN 1 (j := 10) [(12, .bool (((decide (x5.fCount = (0 : Int))) && ((decide (x5.fChain = (Vector.replicate 32 (0 : Int)))) && true))))] hE (by kernel_rfl) rfl (fun a hE => ?_)
  refine at_end rfl ?_
  refine cond_split hE (b := ((decide (x5.fCount = (0 : Int))) && ((decide (x5.fChain = (Vector.replicate 32 (0 : Int)))) && true))) rfl (fun hb => ?_) (fun hb => ?_)
  · replace hf := cond_t hb hf
    clear hb
    refine wpIn_seq ?_
    refine region_at ?_
    refine at_op (op_tk hE (tk_build (acells .u8 32 ((vofL 32 [(0 : Int), (0 : Int), (0 : Int), (0 : Int), (0 : Int), (0 : Int), (0 : Int), (0 : Int), (0 : Int), (0 : Int), (0 : Int), (0 : Int), (0 : Int), (0 : Int), (0 : Int), (0 : Int), (0 : Int), (0 : Int), (0 : Int), (0 : Int), (0 : Int), (0 : Int), (0 : Int), (0 : Int), (0 : Int), (0 : Int), (0 : Int), (0 : Int), (0 : Int), (0 : Int), (0 : Int), (0 : Int)]))) rfl rfl rfl rfl hE rfl rfl (by kernel_rfl) (fun a hE => ?_))) rfl
    refine at_op (op_store (v := .agg (List.toArray (acells .u8 32 ((vofL 32 [(0 : Int), (0 : Int), (0 : Int), (0 : Int), (0 : Int), (0 : Int), (0 : Int), (0 : Int), (0 : Int), (0 : Int), (0 : Int), (0 : Int), (0 : Int), (0 : Int), (0 : Int), (0 : Int), (0 : Int), (0 : Int), (0 : Int), (0 : Int), (0 : Int), (0 : Int), (0 : Int), (0 : Int), (0 : Int), (0 : Int), (0 : Int), (0 : Int), (0 : Int), (0 : Int), (0 : Int), (0 : Int)]))))) (acells .u8 32 ((vofL 32 [(0 : Int), (0 : Int), (0 : Int), (0 : Int), (0 : Int), (0 : Int), (0 : Int), (0 : Int), (0 : Int), (0 : Int), (0 : Int), (0 : Int), (0 : Int), (0 : Int), (0 : Int), (0 : Int), (0 : Int), (0 : Int), (0 : Int), (0 : Int), (0 : Int), (0 : Int), (0 : Int), (0 : Int), (0 : Int), (0 : Int), (0 : Int), (0 : Int), (0 : Int), (0 : Int), (0 : Int), (0 : Int)]))) rfl rfl rfl rfl hE hS rfl rfl (by kernel_rfl) (by kernel_rfl) (by kernel_rfl) (by kernel_rfl) (by kernel_rfl) (fun a w _ hE hS => ?_)) rfl
    refine at_end rfl ?_
    refine wpIn_ret ?_
    obtain rfl := Option.some.inj hf
    repeat (with_reducible first | refine then_ret ?_ | refine block_ret ?_ | refine qx_ret ?_)
    refine ret_gen ([.agg (List.toArray (acells .u8 32 ((vofL 32 [(0 : Int), (0 : Int), (0 : Int), (0 : Int), (0 : Int), (0 : Int), (0 : Int), (0 : Int), (0 : Int), (0 : Int), (0 : Int), (0 : Int), (0 : Int), (0 : Int), (0 : Int), (0 : Int), (0 : Int), (0 : Int), (0 : Int), (0 : Int), (0 : Int), (0 : Int), (0 : Int), (0 : Int), (0 : Int), (0 : Int), (0 : Int), (0 : Int), (0 : Int), (0 : Int), (0 : Int), (0 : Int)]))))]) hE (by rw [show Tryd.f22.results.toList = [.cell 2 48] from rfl]; exact ⟨_, _, _, 0, _, _, rfl, rfl, hS.heapAt (j := 0) rfl, by kernel_rfl, rfl⟩) ?_
    have hS := hS.pk (.c 1 rfl (.c 2 rfl (.c 3 rfl .n))) rfl
    exact ⟨_, rfl, D0, q9, rfl, hS, h10⟩
  · replace hf := cond_f hb hf
    clear hb
    refine wpIn_skip ?_
    refine wpIn_seq ?_
    refine region_at ?_
    refine segN 2 (j := 2) [(15, .pointer (some ⟨b1, 0, none⟩))] hE (by kernel_rfl) rfl (fun a hE => ?_)
    refine at_op (op_tk hE (g_fieldAddr (fo := 1) (ft := 62) 1 rfl rfl rfl rfl hE rfl rfl (by kernel_rfl) rfl (fun a hE => ?_))) rfl
    refine at_op (op_tk hE (g_fieldAddr (fo := 1) (ft := 48) 2 rfl rfl rfl rfl hE rfl rfl (by kernel_rfl) rfl (fun a hE => ?_))) rfl
    refine at_op (op_tk hE (tk_load 1 (.agg (List.toArray (acells .u8 32 (x5.fChain)))) rfl rfl rfl rfl hE rfl hS rfl rfl (by kernel_rfl) (kL (j := 1) hS rfl List.not_mem_nil) (fun a hE => ?_))) rfl
    refine at_op (op_store (v := .agg (List.toArray (acells .u8 32 (x5.fChain)))) (acells .u8 32 (x5.fChain)) rfl rfl rfl rfl hE hS rfl rfl (by kernel_rfl) (by kernel_rfl) (by kernel_rfl) (by kernel_rfl) (by kernel_rfl) (fun a w _ hE hS => ?_)) rfl
    refine at_end rfl ?_
    refine wpIn_ret ?_
    obtain rfl := Option.some.inj hf
    repeat (with_reducible first | refine then_ret ?_ | refine block_ret ?_ | refine qx_ret ?_)
    refine ret_gen ([.agg (List.toArray (acells .u8 32 (x5.fChain)))]) hE (by rw [show Tryd.f22.results.toList = [.cell 2 48] from rfl]; exact ⟨_, _, _, 0, _, _, rfl, rfl, hS.heapAt (j := 0) rfl, by kernel_rfl, rfl⟩) ?_
    have hS := hS.pk (.c 1 rfl (.c 2 rfl (.c 3 rfl .n))) rfl
    exact ⟨_, rfl, D0, q9, rfl, hS, h10⟩

set_option maxRecDepth 100000 in
set_option maxHeartbeats 4000000 in
theorem inspeximuslaw09_alive.calls {K : Nat} {g w0 : World} {D0 : Snap} {r : (Bool)} (hf : inspeximuslaw09_alive.f K = some r) (hS0 : St g w0 D0 []) (hG0 : Cell (kdArr .u32 8) D0 0 0 gl_First) (hG1 : Cell (kdArr .u32 64) D0 1 0 gl_K) :
    CallsIn (Fw none) 0 Tryd.prog 9 (List.toArray []) w0 (fun e w' => ∃ v, e = .returned v ∧ ∃ (D1 : Snap), v = .bool (r) ∧ Stp g w0 D0 [] w' D1 []) := by
  unfold inspeximuslaw09_alive.f at hf
  have hS := Stp.refl hS0
  clear hS0
  refine calls_body (n := 93) Tryd.func9 rfl Tryd.ntmps9 rfl (fun a hE => ?_)
  have hE : Env a 93 [] [] := hE
  refine wpIn_seq ?_
  refine region_at ?_
  refine segN 1 (j := 1) [(0, .bool false)] hE (by kernel_rfl) rfl (fun a hE => ?_)
  refine at_end rfl ?_
  refine wpIn_seq ?_
  refine region_at ?_
  obtain ⟨r218, h219, hf⟩ := bind_some hf
  refine at_op (op_call rfl rfl rfl rfl hE rfl rfl rfl rfl (by kernel_rfl) (disk_New.calls (g := g) h219 (hS.st.fore (L := [])) ) (fun a v w hR hE => ?_)) rfl
  obtain ⟨D220, b222, A224, c225, q226, rfl, hS1, h227⟩ := hR
  have le229 := hS1.dle
  have hS := hS.callR hS1 rfl (.c (.c .n))
  clear hS1
  refine segN 1 (j := 2) [(1, .pointer (some ⟨b222, 0, none⟩))] hE (by kernel_rfl) rfl (fun a hE => ?_)
  refine at_end rfl ?_
  refine wpIn_seq ?_
  refine region_at ?_
  refine segN 1 (j := 1) [(13, .pointer (some ⟨b222, 0, none⟩))] hE (by kernel_rfl) rfl (fun a hE => ?_)
  obtain ⟨r230, h231, hf⟩ := bind_some hf
  refine at_op (op_call rfl rfl rfl rfl hE rfl rfl rfl rfl (by kernel_rfl) (log_Open.calls (g := g) h231 (hS.st.fore (L := [bx b222 72 (c_T_disk_Disk ((T_disk_Disk.mk (r218.1) (r218.2.1) (r218.2.2))) A224 c225), q226])) h227 (hG0.mono le229) (hG1.mono le229)) (fun a v w hR hE => ?_)) rfl
  obtain ⟨D232, b234, A236, c237, q238, A241, c242, q243, rfl, hS1, h239, h244⟩ := hR
  have le246 := hS1.dle
  have hS := hS.callR hS1 rfl (.c (.c (.c (.c .n))))
  clear hS1
  refine segN 7 (j := 9) [(2, .pointer (some ⟨b234, 0, none⟩)), (3, .slice A236 (List.length (r230.1)) c237), (4, .int .i64 (r230.2.1))] hE (by kernel_rfl) rfl (fun a hE => ?_)
  refine at_end rfl ?_
  refine wpIn_seq ?_
  refine region_at ?_
  refine segN 1 (j := 1) [(18, .pointer (some ⟨b234, 0, none⟩))] hE (by kernel_rfl) rfl (fun a hE => ?_)
  refine at_op (op_buildSlice (K := (kdInt .u8)) (e := 5) (cs := [.int .u8 ((97 : Int))] ++ []) ([(97 : Int)] : List Int) rfl rfl rfl rfl hE rfl hS rfl (by kernel_rfl) rfl rfl (by exact (show RL (kdInt .u8) D232 ([(97 : Int)] : List Int) ([.int .u8 ((97 : Int))] ++ []) from ⟨_, _, rfl, rfl, rfl⟩)) (fun a A247 q248 w _ hE h249 hS => ?_)) rfl
  refine at_op (op_lit (T := 5) (l := ([(97 : Int)] : List Int)) rfl rfl rfl rfl hE rfl hS rfl (by kernel_rfl) h249 (by kernel_rfl) (fun a D251 w _ le252 hE h253 hS => ?_)) rfl
  have hS := hS.pk (.c 1 rfl (.c 0 rfl (.c 3 rfl (.c 2 rfl .n)))) rfl
  obtain ⟨r254, h255, hf⟩ := bind_some hf
  refine at_op (op_call rfl rfl rfl rfl hE rfl rfl rfl rfl (by kernel_rfl) (log_Log_Append.calls (g := g) h255 (hS.st.fore (L := [bx b234 64 ([.pointer (some ⟨b222, 0, none⟩)] ++ ((c_T_log_at (r230.2.2.2.2)))), bx b222 72 (c_T_disk_Disk ((T_disk_Disk.mk (r230.2.2.1) (r230.2.2.2.1) (r218.2.2))) A241 c242), q243])) h253 (h244.mono le252) (hG0.mono (Snap.le.trans (Snap.le.trans le229 le246) le252)) (hG1.mono (Snap.le.trans (Snap.le.trans le229 le246) le252))) (fun a v w hR hE => ?_)) rfl
  obtain ⟨D256, A258, c259, q260, rfl, hS1, h261⟩ := hR
  have le263 := hS1.dle
  have hS := hS.callR hS1 rfl (.c (.c (.c .n)))
  clear hS1
  refine segN 1 (j := 5) [(5, .int .i64 (r254.1))] hE (by kernel_rfl) rfl (fun a hE => ?_)
  refine at_end rfl ?_
  refine wpIn_seq ?_
  refine region_at ?_
  refine segN 1 (j := 1) [(22, .pointer (some ⟨b234, 0, none⟩))] hE (by kernel_rfl) rfl (fun a hE => ?_)
  refine at_op (op_buildSlice (K := (kdInt .u8)) (e := 5) (cs := [.int .u8 ((98 : Int))] ++ ([.int .u8 ((99 : Int))] ++ [])) ([(98 : Int), (99 : Int)] : List Int) rfl rfl rfl rfl hE rfl hS rfl (by kernel_rfl) rfl rfl (by exact (show RL (kdInt .u8) D256 ([(98 : Int), (99 : Int)] : List Int) ([.int .u8 ((98 : Int))] ++ ([.int .u8 ((99 : Int))] ++ [])) from ⟨_, _, rfl, rfl, ⟨_, _, rfl, rfl, rfl⟩⟩)) (fun a A264 q265 w _ hE h266 hS => ?_)) rfl
  refine at_op (op_lit (T := 5) (l := ([(98 : Int), (99 : Int)] : List Int)) rfl rfl rfl rfl hE rfl hS rfl (by kernel_rfl) h266 (by kernel_rfl) (fun a D268 w _ le269 hE h270 hS => ?_)) rfl
  obtain ⟨r271, h272, hf⟩ := bind_some hf
  refine at_op (op_call rfl rfl rfl rfl hE rfl rfl rfl rfl (by kernel_rfl) (log_Log_Put.calls (g := g) h272 (hS.st.fore (L := [bx b234 64 ([.pointer (some ⟨b222, 0, none⟩)] ++ ((c_T_log_at (r254.2.1)))), bx b222 72 (c_T_disk_Disk ((T_disk_Disk.mk (r254.2.2.1) (r254.2.2.2) (r218.2.2))) A258 c259), q260])) h270 (h261.mono le269) (hG0.mono (Snap.le.trans (Snap.le.trans (Snap.le.trans (Snap.le.trans le229 le246) le252) le263) le269)) (hG1.mono (Snap.le.trans (Snap.le.trans (Snap.le.trans (Snap.le.trans le229 le246) le252) le263) le269))) (fun a v w hR hE => ?_)) rfl
  obtain ⟨D273, A275, c276, q277, rfl, hS1, h278⟩ := hR
  have le280 := hS1.dle
  have hS := hS.callR hS1 rfl (.c (.c (.c .n)))
  clear hS1
  refine segN 1 (j := 5) [(6, .int .i64 (r271.1))] hE (by kernel_rfl) rfl (fun a hE => ?_)
  refine at_end rfl ?_
  refine wpIn_seq ?_
  refine region_at ?_
  refine segN 1 (j := 1) [(26, .pointer (some ⟨b234, 0, none⟩))] hE (by kernel_rfl) rfl (fun a hE => ?_)
  obtain ⟨r281, h282, hf⟩ := bind_some hf
  refine at_op (op_call rfl rfl rfl rfl hE rfl rfl rfl rfl (by kernel_rfl) (log_Log_Count.calls (g := g) h282 (hS.st.fore (L := [bx b234 64 ([.pointer (some ⟨b222, 0, none⟩)] ++ ((c_T_log_at (r271.2.1)))), bx b222 72 (c_T_disk_Disk ((T_disk_Disk.mk (r271.2.2) (r254.2.2.2) (r218.2.2))) A275 c276), q277])) h278) (fun a v w hR hE => ?_)) rfl
  obtain ⟨D283, q285, rfl, hS1, h286⟩ := hR
  have le288 := hS1.dle
  have hS := hS.callR hS1 rfl (.c (.c (.c .n)))
  clear hS1
  refine segN 1 (j := 3) [(7, .int .i64 (r281))] hE (by kernel_rfl) rfl (fun a hE => ?_)
  refine at_end rfl ?_
  refine wpIn_seq ?_
  refine region_at ?_
  refine segN 1 (j := 1) [(28, .pointer (some ⟨b222, 0, none⟩))] hE (by kernel_rfl) rfl (fun a hE => ?_)
  have hS := hS.pk (.c 1 rfl (.c 2 rfl (.c 0 rfl (.c 3 rfl .n)))) rfl
  obtain ⟨r289, h290, hf⟩ := bind_some hf
  refine at_op (op_call rfl rfl rfl rfl hE rfl rfl rfl rfl (by kernel_rfl) (disk_Disk_Crash.calls (g := g) h290 (hS.st.fore (L := [bx b222 72 (c_T_disk_Disk ((T_disk_Disk.mk (r271.2.2) (r254.2.2.2) (r218.2.2))) A275 c276), q285])) h286) (fun a v w hR hE => ?_)) rfl
  obtain ⟨D291, A293, c294, q295, rfl, hS1, h296⟩ := hR
  have le298 := hS1.dle
  have hS := hS.callR hS1 rfl (.c (.c .n))
  clear hS1
  refine at_end rfl ?_
  refine wpIn_seq ?_
  refine region_at ?_
  refine segN 1 (j := 1) [(31, .pointer (some ⟨b222, 0, none⟩))] hE (by kernel_rfl) rfl (fun a hE => ?_)
  obtain ⟨r299, h300, hf⟩ := bind_some hf
  refine at_op (op_call rfl rfl rfl rfl hE rfl rfl rfl rfl (by kernel_rfl) (log_Open.calls (g := g) h300 (hS.st.fore (L := [bx b222 72 (c_T_disk_Disk ((T_disk_Disk.mk (r289.1) (r289.2) (r218.2.2))) A293 c294), q295])) h296 (hG0.mono (Snap.le.trans (Snap.le.trans (Snap.le.trans (Snap.le.trans (Snap.le.trans (Snap.le.trans (Snap.le.trans le229 le246) le252) le263) le269) le280) le288) le298)) (hG1.mono (Snap.le.trans (Snap.le.trans (Snap.le.trans (Snap.le.trans (Snap.le.trans (Snap.le.trans (Snap.le.trans le229 le246) le252) le263) le269) le280) le288) le298))) (fun a v w hR hE => ?_)) rfl
  obtain ⟨D301, b303, A305, c306, q307, A310, c311, q312, rfl, hS1, h308, h313⟩ := hR
  have le315 := hS1.dle
  have hS := hS.callR hS1 rfl (.c (.c (.c (.c .n))))
  clear hS1
  refine segN 7 (j := 9) [(8, .pointer (some ⟨b303, 0, none⟩)), (9, .slice A305 (List.length (r299.1)) c306), (10, .int .i64 (r299.2.1))] hE (by kernel_rfl) rfl (fun a hE => ?_)
  refine at_end rfl ?_
  obtain ⟨j376, hj377, hf⟩ := jn_elim hf
  refine seq_join (fun a w => ∃ (y373 : Bool), ∃ (D374 : Snap), Env a 93 [] [(0, .bool (y373))] ∧ Stp g w0 D0 [] w D374 [] ∧ Snap.le D301 D374 ∧ j376 y373 = some r) ?_ ?_
  · clear hj377
    refine region_at ?_
    refine segN 3 (j := 3) [(38, .bool ((decide (r230.2.1 = (0 : Int)))))] hE (by kernel_rfl) rfl (fun a hE => ?_)
    cases hb : (decide (r230.2.1 = (0 : Int)))
    · replace hf := cond_f hb hf
      have hE := hE.know (t := 38) (b := (decide (r230.2.1 = (0 : Int)))) (b' := false) rfl hb
      clear hb
      refine segN 55 (j := 58) [(0, .bool false)] hE (by kernel_rfl) rfl (fun a hE => ?_)
      refine at_end rfl ?_
      have hS := hS.pk .n rfl
      exact ⟨false, D301, hE.weak (by kernel_rfl), hS, Snap.le.refl _, hf⟩
    · replace hf := cond_t hb hf
      have hE := hE.know (t := 38) (b := (decide (r230.2.1 = (0 : Int)))) (b' := true) rfl hb
      clear hb
      refine segN 4 (j := 7) [(42, .bool ((decide (r254.1 = (0 : Int)))))] hE (by kernel_rfl) rfl (fun a hE => ?_)
      cases hb : (decide (r254.1 = (0 : Int)))
      · replace hf := cond_f hb hf
        have hE := hE.know (t := 42) (b := (decide (r254.1 = (0 : Int)))) (b' := false) rfl hb
        clear hb
        refine segN 51 (j := 58) [(0, .bool false)] hE (by kernel_rfl) rfl (fun a hE => ?_)
        refine at_end rfl ?_
        have hS := hS.pk .n rfl
        exact ⟨false, D301, hE.weak (by kernel_rfl), hS, Snap.le.refl _, hf⟩
      · replace hf := cond_t hb hf
        have hE := hE.know (t := 42) (b := (decide (r254.1 = (0 : Int)))) (b' := true) rfl hb
        clear hb
        refine segN 4 (j := 11) [(46, .bool ((decide (r271.1 = (0 : Int)))))] hE (by kernel_rfl) rfl (fun a hE => ?_)
        cases hb : (decide (r271.1 = (0 : Int)))
        · replace hf := cond_f hb hf
          have hE := hE.know (t := 46) (b := (decide (r271.1 = (0 : Int)))) (b' := false) rfl hb
          clear hb
          refine segN 47 (j := 58) [(0, .bool false)] hE (by kernel_rfl) rfl (fun a hE => ?_)
          refine at_end rfl ?_
          have hS := hS.pk .n rfl
          exact ⟨false, D301, hE.weak (by kernel_rfl), hS, Snap.le.refl _, hf⟩
        · replace hf := cond_t hb hf
          have hE := hE.know (t := 46) (b := (decide (r271.1 = (0 : Int)))) (b' := true) rfl hb
          clear hb
          refine segN 4 (j := 15) [(50, .bool ((decide (r299.2.1 = (0 : Int)))))] hE (by kernel_rfl) rfl (fun a hE => ?_)
          cases hb : (decide (r299.2.1 = (0 : Int)))
          · replace hf := cond_f hb hf
            have hE := hE.know (t := 50) (b := (decide (r299.2.1 = (0 : Int)))) (b' := false) rfl hb
            clear hb
            refine segN 43 (j := 58) [(0, .bool false)] hE (by kernel_rfl) rfl (fun a hE => ?_)
            refine at_end rfl ?_
            have hS := hS.pk .n rfl
            exact ⟨false, D301, hE.weak (by kernel_rfl), hS, Snap.le.refl _, hf⟩
          · replace hf := cond_t hb hf
            have hE := hE.know (t := 50) (b := (decide (r299.2.1 = (0 : Int)))) (b' := true) rfl hb
            clear hb
            refine segN 5 (j := 20) [(55, .bool ((decide (((List.length (r230.1) : Nat) : Int) = (0 : Int)))))] hE (by kernel_rfl) rfl (fun a hE => ?_)
            cases hb : (decide (((List.length (r230.1) : Nat) : Int) = (0 : Int)))
            · replace hf := cond_f hb hf
              have hE := hE.know (t := 55) (b := (decide (((List.length (r230.1) : Nat) : Int) = (0 : Int)))) (b' := false) rfl hb
              clear hb
              refine segN 38 (j := 58) [(0, .bool false)] hE (by kernel_rfl) rfl (fun a hE => ?_)
              refine at_end rfl ?_
              have hS := hS.pk .n rfl
              exact ⟨false, D301, hE.weak (by kernel_rfl), hS, Snap.le.refl _, hf⟩
            · replace hf := cond_t hb hf
              have hE := hE.know (t := 55) (b := (decide (((List.length (r230.1) : Nat) : Int) = (0 : Int)))) (b' := true) rfl hb
              clear hb
              refine segN 4 (j := 24) [(59, .bool ((decide (r281 = (2 : Int)))))] hE (by kernel_rfl) rfl (fun a hE => ?_)
              cases hb : (decide (r281 = (2 : Int)))
              · replace hf := cond_f hb hf
                have hE := hE.know (t := 59) (b := (decide (r281 = (2 : Int)))) (b' := false) rfl hb
                clear hb
                refine segN 34 (j := 58) [(0, .bool false)] hE (by kernel_rfl) rfl (fun a hE => ?_)
                refine at_end rfl ?_
                have hS := hS.pk .n rfl
                exact ⟨false, D301, hE.weak (by kernel_rfl), hS, Snap.le.refl _, hf⟩
              · replace hf := cond_t hb hf
                have hE := hE.know (t := 59) (b := (decide (r281 = (2 : Int)))) (b' := true) rfl hb
                clear hb
                refine segN 5 (j := 29) [(64, .bool ((decide (((List.length (r299.1) : Nat) : Int) = (1 : Int)))))] hE (by kernel_rfl) rfl (fun a hE => ?_)
                cases hb : (decide (((List.length (r299.1) : Nat) : Int) = (1 : Int)))
                · replace hf := cond_f hb hf
                  have hE := hE.know (t := 64) (b := (decide (((List.length (r299.1) : Nat) : Int) = (1 : Int)))) (b' := false) rfl hb
                  clear hb
                  refine segN 29 (j := 58) [(0, .bool false)] hE (by kernel_rfl) rfl (fun a hE => ?_)
                  refine at_end rfl ?_
                  have hS := hS.pk .n rfl
                  exact ⟨false, D301, hE.weak (by kernel_rfl), hS, Snap.le.refl _, hf⟩
                · replace hf := cond_t hb hf
                  have hE := hE.know (t := 64) (b := (decide (((List.length (r299.1) : Nat) : Int) = (1 : Int)))) (b' := true) rfl hb
                  clear hb
                  refine segN 1 (j := 30) [(65, .slice A305 (List.length (r299.1)) c306)] hE (by kernel_rfl) rfl (fun a hE => ?_)
                  have hS := hS.pk (.c 2 rfl (.c 0 rfl (.c 1 rfl (.c 3 rfl (.c 4 rfl (.c 5 rfl .n)))))) rfl
                  obtain ⟨D378, q381, le379, hS, h382, h380⟩ := hS.lent h308
                  obtain ⟨x383, h384, hf⟩ := bind_some hf
                  refine at_op (op_tk hE (g_index (K := (kdSlice (kdInt .u8))) (e := 33) (by_ := 24) (zl := 1) rfl rfl rfl rfl hE rfl rfl rfl (by kernel_rfl) rfl h380 h384 (fun a b385 o386 hE h387 => ?_))) rfl
                  obtain ⟨cs388, C389, T390, fr391, hr392, hb393, hc394⟩ := h387
                  obtain ⟨A395, c396, rfl, h397⟩ := hr392
                  refine at_op (op_tk hE (tk_loadX (off0 := o386) (off := 0) (c := [.slice A395 (List.length (x383)) c396]) (.slice A395 (List.length (x383)) c396) rfl rfl rfl rfl hE rfl hS rfl hb393 hc394 (by kernel_rfl) (by kernel_rfl) (kD hS dn_nil) (fun a hE => ?_))) rfl
                  refine at_op (op_tk hE (tk_b2s rfl rfl rfl rfl hE rfl hS rfl (by kernel_rfl) h397 (kD hS dn_nil) (fun a hE => ?_))) rfl
                  refine at_op (op_tk hE (tk_bin (r := .bool ((ByteArray.toList (bofL (x383)) == ByteArray.toList (⟨#[97]⟩)))) rfl rfl rfl rfl hE rfl rfl rfl (fun w => bstr_run _ _ w _ rfl (by decide)) (fun a hE => ?_))) rfl
                  refine segN 2 (j := 36) [(71, .bool ((ByteArray.toList (bofL (x383)) == ByteArray.toList (⟨#[97]⟩))))] hE (by kernel_rfl) rfl (fun a hE => ?_)
                  cases hb : (ByteArray.toList (bofL (x383)) == ByteArray.toList (⟨#[97]⟩))
                  · replace hf := cond_f hb hf
                    have hE := hE.know (t := 71) (b := (ByteArray.toList (bofL (x383)) == ByteArray.toList (⟨#[97]⟩))) (b' := false) rfl hb
                    clear hb
                    refine segN 22 (j := 58) [(0, .bool false)] hE (by kernel_rfl) rfl (fun a hE => ?_)
                    refine at_end rfl ?_
                    have hS := hS.pk .n rfl
                    exact ⟨false, D378, hE.weak (by kernel_rfl), hS, le379, hf⟩
                  · replace hf := cond_t hb hf
                    have hE := hE.know (t := 71) (b := (ByteArray.toList (bofL (x383)) == ByteArray.toList (⟨#[97]⟩))) (b' := true) rfl hb
                    clear hb
                    refine segN 1 (j := 37) [(72, .pointer (some ⟨b303, 0, none⟩))] hE (by kernel_rfl) rfl (fun a hE => ?_)
                    have hS := hS.pk (.c 2 rfl (.c 1 rfl (.c 3 rfl (.c 0 rfl (.c 4 rfl (.c 5 rfl .n)))))) rfl
                    obtain ⟨r398, h399, hf⟩ := bind_some hf
                    refine at_op (op_call rfl rfl rfl rfl hE rfl rfl rfl rfl (by kernel_rfl) (log_Log_Count.calls (g := g) h399 (hS.st.fore (L := [bx b303 64 ([.pointer (some ⟨b222, 0, none⟩)] ++ ((c_T_log_at (r299.2.2.2.2)))), bx b222 72 (c_T_disk_Disk ((T_disk_Disk.mk (r299.2.2.1) (r299.2.2.2.1) (r218.2.2))) A310 c311), q312])) (h313.mono le379)) (fun a v w hR hE => ?_)) rfl
                    obtain ⟨D400, q402, rfl, hS1, h403⟩ := hR
                    have le405 := hS1.dle
                    have hS := hS.callR hS1 rfl (.c (.c (.c .n)))
                    clear hS1
                    refine segN 3 (j := 41) [(76, .bool ((decide (r398 = (1 : Int)))))] hE (by kernel_rfl) rfl (fun a hE => ?_)
                    cases hb : (decide (r398 = (1 : Int)))
                    · replace hf := cond_f hb hf
                      have hE := hE.know (t := 76) (b := (decide (r398 = (1 : Int)))) (b' := false) rfl hb
                      clear hb
                      refine segN 17 (j := 58) [(0, .bool false)] hE (by kernel_rfl) rfl (fun a hE => ?_)
                      refine at_end rfl ?_
                      have hS := hS.pk .n rfl
                      exact ⟨false, D400, hE.weak (by kernel_rfl), hS, (Snap.le.trans le379 le405), hf⟩
                    · replace hf := cond_t hb hf
                      have hE := hE.know (t := 76) (b := (decide (r398 = (1 : Int)))) (b' := true) rfl hb
                      clear hb
                      refine segN 1 (j := 42) [(77, .pointer (some ⟨b222, 0, none⟩))] hE (by kernel_rfl) rfl (fun a hE => ?_)
                      have hS := hS.pk (.c 1 rfl (.c 2 rfl (.c 0 rfl (.c 3 rfl (.c 4 rfl (.c 5 rfl .n)))))) rfl
                      obtain ⟨r406, h407, hf⟩ := bind_some hf
                      refine at_op (op_call rfl rfl rfl rfl hE rfl rfl rfl rfl (by kernel_rfl) (disk_Disk_Bytes.calls (g := g) h407 (hS.st.fore (L := [bx b222 72 (c_T_disk_Disk ((T_disk_Disk.mk (r299.2.2.1) (r299.2.2.2.1) (r218.2.2))) A310 c311), q402])) h403) (fun a v w hR hE => ?_)) rfl
                      obtain ⟨D408, A410, c411, q412, q415, rfl, hS1, h413, h416⟩ := hR
                      have le418 := hS1.dle
                      have hS := hS.callR hS1 rfl (.c (.c (.c .n)))
                      clear hS1
                      refine segN 4 (j := 47) [(82, .bool ((decide (((List.length (r406) : Nat) : Int) = (10 : Int)))))] hE (by kernel_rfl) rfl (fun a hE => ?_)
                      cases hb : (decide (((List.length (r406) : Nat) : Int) = (10 : Int)))
                      · replace hf := cond_f hb hf
                        have hE := hE.know (t := 82) (b := (decide (((List.length (r406) : Nat) : Int) = (10 : Int)))) (b' := false) rfl hb
                        clear hb
                        refine segN 11 (j := 58) [(0, .bool false)] hE (by kernel_rfl) rfl (fun a hE => ?_)
                        refine at_end rfl ?_
                        have hS := hS.pk .n rfl
                        exact ⟨false, D408, hE.weak (by kernel_rfl), hS, (Snap.le.trans (Snap.le.trans le379 le405) le418), hf⟩
                      · replace hf := cond_t hb hf
                        have hE := hE.know (t := 82) (b := (decide (((List.length (r406) : Nat) : Int) = (10 : Int)))) (b' := true) rfl hb
                        clear hb
                        refine segN 1 (j := 48) [(83, .pointer (some ⟨b303, 0, none⟩))] hE (by kernel_rfl) rfl (fun a hE => ?_)
                        have hS := hS.pk (.c 3 rfl (.c 0 rfl (.c 2 rfl (.c 4 rfl (.c 5 rfl (.c 6 rfl .n)))))) rfl
                        obtain ⟨r419, h420, hf⟩ := bind_some hf
                        refine at_op (op_call rfl rfl rfl rfl hE rfl rfl rfl rfl (by kernel_rfl) (log_Log_Size.calls (g := g) h420 (hS.st.fore (L := [bx b303 64 ([.pointer (some ⟨b222, 0, none⟩)] ++ ((c_T_log_at (r299.2.2.2.2)))), bx b222 72 (c_T_disk_Disk ((T_disk_Disk.mk (r299.2.2.1) (r299.2.2.2.1) (r218.2.2))) A310 c311), q415])) h416) (fun a v w hR hE => ?_)) rfl
                        obtain ⟨D421, q423, rfl, hS1, h424⟩ := hR
                        have le426 := hS1.dle
                        have hS := hS.callR hS1 rfl (.c (.c (.c .n)))
                        clear hS1
                        refine segN 3 (j := 52) [(87, .bool ((decide (r419 = (10 : Int)))))] hE (by kernel_rfl) rfl (fun a hE => ?_)
                        cases hb : (decide (r419 = (10 : Int)))
                        · replace hf := cond_f hb hf
                          have hE := hE.know (t := 87) (b := (decide (r419 = (10 : Int)))) (b' := false) rfl hb
                          clear hb
                          refine segN 6 (j := 58) [(0, .bool false)] hE (by kernel_rfl) rfl (fun a hE => ?_)
                          refine at_end rfl ?_
                          have hS := hS.pk .n rfl
                          exact ⟨false, D421, hE.weak (by kernel_rfl), hS, (Snap.le.trans (Snap.le.trans (Snap.le.trans le379 le405) le418) le426), hf⟩
                        · replace hf := cond_t hb hf
                          have hE := hE.know (t := 87) (b := (decide (r419 = (10 : Int)))) (b' := true) rfl hb
                          clear hb
                          refine segN 1 (j := 53) [(88, .pointer (some ⟨b303, 0, none⟩))] hE (by kernel_rfl) rfl (fun a hE => ?_)
                          obtain ⟨r427, h428, hf⟩ := bind_some hf
                          refine at_op (op_call rfl rfl rfl rfl hE rfl rfl rfl rfl (by kernel_rfl) (log_Log_Chain.calls (g := g) h428 (hS.st.fore (L := [bx b303 64 ([.pointer (some ⟨b222, 0, none⟩)] ++ ((c_T_log_at (r299.2.2.2.2)))), bx b222 72 (c_T_disk_Disk ((T_disk_Disk.mk (r299.2.2.1) (r299.2.2.2.1) (r218.2.2))) A310 c311), q423])) h424) (fun a v w hR hE => ?_)) rfl
                          obtain ⟨D429, q431, rfl, hS1, h432⟩ := hR
                          have le434 := hS1.dle
                          have hS := hS.callR hS1 rfl (.c (.c (.c .n)))
                          clear hS1
                          refine at_op (op_tk hE (tk_build (acells .u8 32 ((vofL 32 [(0 : Int), (0 : Int), (0 : Int), (0 : Int), (0 : Int), (0 : Int), (0 : Int), (0 : Int), (0 : Int), (0 : Int), (0 : Int), (0 : Int), (0 : Int), (0 : Int), (0 : Int), (0 : Int), (0 : Int), (0 : Int), (0 : Int), (0 : Int), (0 : Int), (0 : Int), (0 : Int), (0 : Int), (0 : Int), (0 : Int), (0 : Int), (0 : Int), (0 : Int), (0 : Int), (0 : Int), (0 : Int)]))) rfl rfl rfl rfl hE rfl rfl (by kernel_rfl) (fun a hE => ?_))) rfl
                          refine at_op (op_tk hE (tk_bin (r := .bool ((!(decide (r427 = (vofL 32 [(0 : Int), (0 : Int), (0 : Int), (0 : Int), (0 : Int), (0 : Int), (0 : Int), (0 : Int), (0 : Int), (0 : Int), (0 : Int), (0 : Int), (0 : Int), (0 : Int), (0 : Int), (0 : Int), (0 : Int), (0 : Int), (0 : Int), (0 : Int), (0 : Int), (0 : Int), (0 : Int), (0 : Int), (0 : Int), (0 : Int), (0 : Int), (0 : Int), (0 : Int), (0 : Int), (0 : Int), (0 : Int)])))))) rfl rfl rfl rfl hE rfl rfl rfl (neagg_run (by kernel_rfl) (EqR_arr (k := .u8) (N := 32) (by kernel_rfl))) (fun a hE => ?_))) rfl
                          refine segN 2 (j := 58) [(0, .bool ((!(decide (r427 = (vofL 32 [(0 : Int), (0 : Int), (0 : Int), (0 : Int), (0 : Int), (0 : Int), (0 : Int), (0 : Int), (0 : Int), (0 : Int), (0 : Int), (0 : Int), (0 : Int), (0 : Int), (0 : Int), (0 : Int), (0 : Int), (0 : Int), (0 : Int), (0 : Int), (0 : Int), (0 : Int), (0 : Int), (0 : Int), (0 : Int), (0 : Int), (0 : Int), (0 : Int), (0 : Int), (0 : Int), (0 : Int), (0 : Int)]))))))] hE (by kernel_rfl) rfl (fun a hE => ?_)
                          refine at_end rfl ?_
                          have hS := hS.pk .n rfl
                          exact ⟨(!(decide (r427 = (vofL 32 [(0 : Int), (0 : Int), (0 : Int), (0 : Int), (0 : Int), (0 : Int), (0 : Int), (0 : Int), (0 : Int), (0 : Int), (0 : Int), (0 : Int), (0 : Int), (0 : Int), (0 : Int), (0 : Int), (0 : Int), (0 : Int), (0 : Int), (0 : Int), (0 : Int), (0 : Int), (0 : Int), (0 : Int), (0 : Int), (0 : Int), (0 : Int), (0 : Int), (0 : Int), (0 : Int), (0 : Int), (0 : Int)])))), D429, hE.weak (by kernel_rfl), hS, (Snap.le.trans (Snap.le.trans (Snap.le.trans (Snap.le.trans le379 le405) le418) le426) le434), hf⟩
  · clear hE hS
    rintro a w ⟨y373, D374, hE, hS, le375, hf⟩
    replace hf := hj377 _ hf
    clear hj377
    refine wpIn_ret ?_
    obtain rfl := Option.some.inj hf
    repeat (with_reducible first | refine then_ret ?_ | refine block_ret ?_ | refine qx_ret ?_)
    refine ret_gen ([.bool (y373)]) hE (by rw [show Tryd.f9.results.toList = [.tmp 0] from rfl]; exact ⟨_, _, rfl, rfl, rfl⟩) ?_
    exact ⟨_, rfl, D374, rfl, hS⟩

set_option maxRecDepth 100000 in
set_option maxHeartbeats 4000000 in
theorem inspeximusref01_Bytes.calls {K : Nat} {g w0 : World} {D0 : Snap} {x1 : (List Int)} {x5 : (List Int)} {A2 : Option Addr} {c3 : Nat} {A6 : Option Addr} {c7 : Nat} {r : (Bool)} (hf : inspeximusref01_Bytes.f K x1 x5 = some r) (hS0 : St g w0 D0 []) (h4 : Sl (kdInt .u8) D0 A2 c3 (x1)) (h8 : Sl (kdInt .u8) D0 A6 c7 (x5)) :
    CallsIn (Fw none) 0 Tryd.prog 24 (List.toArray [.slice A2 (List.length (x1)) c3, .slice A6 (List.length (x5)) c7]) w0 (fun e w' => ∃ v, e = .returned v ∧ ∃ (D1 : Snap), v = .bool (r) ∧ Stp g w0 D0 [] w' D1 []) := by
  unfold inspeximusref01_Bytes.f at hf
  have hS := Stp.refl hS0
  clear hS0
  refine calls_body (n := 26) Tryd.func24 rfl Tryd.ntmps24 rfl (fun a hE => ?_)
  have hE : Env a 26 [] [(0, .slice A2 (List.length (x1)) c3), (1, .slice A6 (List.length (x5)) c7)] := hE
  refine wpIn_seq ?_
  refine region_at ?_
  refine segN 1 (j := 1) [(4, .bool false)] hE (by kernel_rfl) rfl (fun a hE => ?_)
  refine at_end rfl ?_
  refine wpIn_seq ?_
  refine wpIn_seq ?_
  refine region_at ?_
  refine segN 5 (j := 5) [(10, .bool ((!decide (((List.length (x1) : Nat) : Int) = ((List.length (x5) : Nat) : Int)))))] hE (by kernel_rfl) rfl (fun a hE => ?_)
  refine at_end rfl ?_
  refine cond_split hE (b := (!decide (((List.length (x1) : Nat) : Int) = ((List.length (x5) : Nat) : Int)))) rfl (fun hb => ?_) (fun hb => ?_)
  · replace hf := cond_t hb hf
    clear hb
    refine wpIn_seq ?_
    refine region_at ?_
    refine segN 1 (j := 1) [(4, .bool false)] hE (by kernel_rfl) rfl (fun a hE => ?_)
    refine at_end rfl ?_
    refine wpIn_ret ?_
    obtain rfl := Option.some.inj hf
    repeat (with_reducible first | refine then_ret ?_ | refine block_ret ?_ | refine qx_ret ?_)
    refine ret_gen ([.bool false]) hE (by rw [show Tryd.f24.results.toList = [.tmp 4] from rfl]; exact ⟨_, _, rfl, rfl, rfl⟩) ?_
    exact ⟨_, rfl, D0, rfl, hS⟩
  · replace hf := cond_f hb hf
    clear hb
    refine wpIn_skip ?_
    refine wpIn_seq ?_
    refine wpIn_seq ?_
    refine region_at ?_
    refine segN 1 (j := 1) [(5, .int .i64 ((0 : Int)))] hE (by kernel_rfl) rfl (fun a hE => ?_)
    refine at_end rfl ?_
    obtain ⟨s1152, hf, hs1153⟩ := bind_some hf
    refine block_loop (fun a w => ∃ (z1149 : Unit), ∃ (D1150 : Snap), Env a 26 [] [] ∧ Stp g w0 D0 [] w D1150 [] ∧ Snap.le D0 D1150 ∧ (Sum.inr z1149) = s1152) (fun k a w => ∃ (y1047 : Int), ∃ (D1048 : Snap), Env a 26 [] [(0, .slice A2 (List.length (x1)) c3), (1, .slice A6 (List.length (x5)) c7), (5, .int .i64 (y1047))] ∧ Stp g w0 D0 [] w D1048 [] ∧ Snap.le D0 D1048 ∧ inspeximusref01_Bytes_l1.l K x1 x5 k y1047 = some s1152) K ?_ ?_ ?_
    · exact ⟨(0 : Int), D0, hE.weak (by kernel_rfl), hS, Snap.le.refl _, hf⟩
    · clear hE hS hf
      rintro a w ⟨z1149, D1150, hE, hS, le1151, rfl⟩
      have hf := hs1153
      clear hs1153
      refine wpIn_seq ?_
      refine region_at ?_
      refine segN 1 (j := 1) [(4, .bool true)] hE (by kernel_rfl) rfl (fun a hE => ?_)
      refine at_end rfl ?_
      refine wpIn_ret ?_
      obtain rfl := Option.some.inj hf
      repeat (with_reducible first | refine then_ret ?_ | refine block_ret ?_ | refine qx_ret ?_)
      refine ret_gen ([.bool true]) hE (by rw [show Tryd.f24.results.toList = [.tmp 4] from rfl]; exact ⟨_, _, rfl, rfl, rfl⟩) ?_
      exact ⟨_, rfl, D1150, rfl, hS⟩
    · clear hE hS hf
      rintro k a w ⟨y1047, D1048, hE, hS, le1049, hf⟩
      obtain ⟨k, rfl, hf⟩ := inspeximusref01_Bytes_l1.some _ _ hf
      refine ⟨k, rfl, ?_⟩
      unfold inspeximusref01_Bytes_l1.b at hf
      refine wpIn_seq ?_
      refine wpIn_seq ?_
      refine region_at ?_
      refine segN 4 (j := 4) [(14, .bool ((decide (y1047 < ((List.length (x1) : Nat) : Int)))))] hE (by kernel_rfl) rfl (fun a hE => ?_)
      refine at_end rfl ?_
      refine cond_split hE (b := (decide (y1047 < ((List.length (x1) : Nat) : Int)))) rfl (fun hb => ?_) (fun hb => ?_)
      · replace hf := cond_t hb hf
        clear hb
        refine wpIn_skip ?_
        refine wpIn_seq ?_
        refine wpIn_block ?_
        refine wpIn_seq ?_
        refine region_draw (fun j => Keeps (mfOf [] j)) (by kernel_rfl) ?_
        have hS := hS.drew
        first | generalize w.drew = w at hS ⊢ | generalize w0.drew = w at hS ⊢
        refine tW 0 1 (fuel := 8) (by kernel_rfl) hE (fun M => tk_pure (.slice A2 (List.length (x1)) c3) hE rfl rfl rfl rfl (fun _ _ _ e => by cases e) (by kernel_rfl) (fun a hE => ?_))
        refine tW 1 3 (fuel := 7) (by kernel_rfl) hE (fun M => tk_pure (.int .i64 (y1047)) hE rfl rfl rfl rfl (fun _ _ _ e => by cases e) (by kernel_rfl) (fun a hE => ?_))
        refine tW 4 19 (fuel := 6) (by kernel_rfl) hE (fun M => tk_pure (.slice A6 (List.length (x5)) c7) hE rfl rfl rfl rfl (fun _ _ _ e => by cases e) (by kernel_rfl) (fun a hE => ?_))
        refine tW 5 51 (fuel := 5) (by kernel_rfl) hE (fun M => tk_pure (.int .i64 (y1047)) hE rfl rfl rfl rfl (fun _ _ _ e => by cases e) (by kernel_rfl) (fun a hE => ?_))
        obtain ⟨x1226, h1227, hf⟩ := bind_some hf
        refine tW 2 55 (fuel := 4) (by kernel_rfl) hE (fun M => g_index (K := (kdInt .u8)) (e := 5) (by_ := 1) (zl := 1) rfl rfl rfl rfl hE rfl rfl rfl (by kernel_rfl) rfl (h4.mono le1049) h1227 (fun a b1228 o1229 hE h1230 => ?_))
        obtain ⟨cs1231, C1232, T1233, fr1234, hr1235, hb1236, hc1237⟩ := h1230
        obtain rfl := hr1235
        refine tT 3 63 (fuel := 3) (by kernel_rfl) hE (tk_loadX (off0 := o1229) (off := 0) (c := [.int .u8 (x1226)]) (.int .u8 (x1226)) rfl rfl rfl rfl hE rfl hS rfl hb1236 hc1237 (by kernel_rfl) (by kernel_rfl) (kD hS dn_nil) (fun a hE => ?_))
        obtain ⟨x1238, h1239, hf⟩ := bind_some hf
        refine tW 6 127 (fuel := 2) (by kernel_rfl) hE (fun M => g_index (K := (kdInt .u8)) (e := 5) (by_ := 1) (zl := 1) rfl rfl rfl rfl hE rfl rfl rfl (by kernel_rfl) rfl (h8.mono le1049) h1239 (fun a b1240 o1241 hE h1242 => ?_))
        obtain ⟨cs1243, C1244, T1245, fr1246, hr1247, hb1248, hc1249⟩ := h1242
        obtain rfl := hr1247
        refine tT 7 255 (fuel := 1) (by kernel_rfl) hE (tk_loadX (off0 := o1241) (off := 0) (c := [.int .u8 (x1238)]) (.int .u8 (x1238)) rfl rfl rfl rfl hE rfl hS rfl hb1248 hc1249 (by kernel_rfl) (by kernel_rfl) (kD hS dn_nil) (fun a hE => ?_))
        refine tW 8 511 (fuel := 0) (by kernel_rfl) hE (fun M => tk_pure (.bool ((!decide (x1226 = x1238)))) hE rfl rfl rfl rfl (fun _ _ _ e => by cases e) (by kernel_rfl) (fun a hE => ?_))
        refine doneG (by kernel_rfl) ?_
        refine cond_split hE (b := (!decide (x1226 = x1238))) rfl (fun hb => ?_) (fun hb => ?_)
        · replace hf := cond_t hb hf
          clear hb
          refine wpIn_seq ?_
          refine region_at ?_
          refine segN 1 (j := 1) [(4, .bool false)] hE (by kernel_rfl) rfl (fun a hE => ?_)
          refine at_end rfl ?_
          refine wpIn_ret ?_
          obtain rfl := Option.some.inj hf
          replace hf := hs1153
          obtain rfl := Option.some.inj hf
          repeat (with_reducible first | refine then_ret ?_ | refine block_ret ?_ | refine qx_ret ?_)
          refine ret_gen ([.bool false]) hE (by rw [show Tryd.f24.results.toList = [.tmp 4] from rfl]; exact ⟨_, _, rfl, rfl, rfl⟩) ?_
          exact ⟨_, rfl, D1048, rfl, hS⟩
        · replace hf := cond_f hb hf
          clear hb
          refine wpIn_skip ?_
          refine region_at ?_
          refine segN 3 (j := 3) [(5, .int .i64 ((IntKind.wrap .i64 (y1047 + (1 : Int)))))] hE (by kernel_rfl) rfl (fun a hE => ?_)
          refine at_end rfl ?_
          exact ⟨(IntKind.wrap .i64 (y1047 + (1 : Int))), D1048, hE.weak (by kernel_rfl), hS, le1049, hf⟩
      · replace hf := cond_f hb hf
        clear hb
        refine wpIn_exit ?_
        obtain rfl := Option.some.inj hf
        exact ⟨(), D1048, hE.weak (by kernel_rfl), hS, le1049, rfl⟩

set_option maxRecDepth 100000 in
set_option maxHeartbeats 4000000 in
theorem inspeximusref09_Same.calls {K : Nat} {g w0 : World} {D0 : Snap} {x1 : (List (List Int))} {x5 : (List (List Int))} {A2 : Option Addr} {c3 : Nat} {A6 : Option Addr} {c7 : Nat} {r : (Bool)} (hf : inspeximusref09_Same.f K x1 x5 = some r) (hS0 : St g w0 D0 []) (h4 : Sl (kdSlice (kdInt .u8)) D0 A2 c3 (x1)) (h8 : Sl (kdSlice (kdInt .u8)) D0 A6 c7 (x5)) :
    CallsIn (Fw none) 0 Tryd.prog 20 (List.toArray [.slice A2 (List.length (x1)) c3, .slice A6 (List.length (x5)) c7]) w0 (fun e w' => ∃ v, e = .returned v ∧ ∃ (D1 : Snap), v = .bool (r) ∧ Stp g w0 D0 [] w' D1 []) := by
  unfold inspeximusref09_Same.f at hf
  have hS := Stp.refl hS0
  clear hS0
  refine calls_body (n := 27) Tryd.func20 rfl Tryd.ntmps20 rfl (fun a hE => ?_)
  have hE : Env a 27 [] [(0, .slice A2 (List.length (x1)) c3), (1, .slice A6 (List.length (x5)) c7)] := hE
  refine wpIn_seq ?_
  refine region_at ?_
  refine segN 1 (j := 1) [(4, .bool false)] hE (by kernel_rfl) rfl (fun a hE => ?_)
  refine at_end rfl ?_
  refine wpIn_seq ?_
  refine wpIn_seq ?_
  refine region_at ?_
  refine segN 5 (j := 5) [(10, .bool ((!decide (((List.length (x1) : Nat) : Int) = ((List.length (x5) : Nat) : Int)))))] hE (by kernel_rfl) rfl (fun a hE => ?_)
  refine at_end rfl ?_
  refine cond_split hE (b := (!decide (((List.length (x1) : Nat) : Int) = ((List.length (x5) : Nat) : Int)))) rfl (fun hb => ?_) (fun hb => ?_)
  · replace hf := cond_t hb hf
    clear hb
    refine wpIn_seq ?_
    refine region_at ?_
    refine segN 1 (j := 1) [(4, .bool false)] hE (by kernel_rfl) rfl (fun a hE => ?_)
    refine at_end rfl ?_
    refine wpIn_ret ?_
    obtain rfl := Option.some.inj hf
    repeat (with_reducible first | refine then_ret ?_ | refine block_ret ?_ | refine qx_ret ?_)
    refine ret_gen ([.bool false]) hE (by rw [show Tryd.f20.results.toList = [.tmp 4] from rfl]; exact ⟨_, _, rfl, rfl, rfl⟩) ?_
    exact ⟨_, rfl, D0, rfl, hS⟩
  · replace hf := cond_f hb hf
    clear hb
    refine wpIn_skip ?_
    refine wpIn_seq ?_
    refine wpIn_seq ?_
    refine region_at ?_
    refine segN 1 (j := 1) [(5, .int .i64 ((0 : Int)))] hE (by kernel_rfl) rfl (fun a hE => ?_)
    refine at_end rfl ?_
    obtain ⟨s1636, hf, hs1637⟩ := bind_some hf
    refine block_loop (fun a w => ∃ (z1633 : Unit), ∃ (D1634 : Snap), Env a 27 [] [] ∧ Stp g w0 D0 [] w D1634 [] ∧ Snap.le D0 D1634 ∧ (Sum.inr z1633) = s1636) (fun k a w => ∃ (y1487 : Int), ∃ (D1488 : Snap), Env a 27 [] [(0, .slice A2 (List.length (x1)) c3), (1, .slice A6 (List.length (x5)) c7), (5, .int .i64 (y1487))] ∧ Stp g w0 D0 [] w D1488 [] ∧ Snap.le D0 D1488 ∧ inspeximusref09_Same_l1.l K x1 x5 k y1487 = some s1636) K ?_ ?_ ?_
    · exact ⟨(0 : Int), D0, hE.weak (by kernel_rfl), hS, Snap.le.refl _, hf⟩
    · clear hE hS hf
      rintro a w ⟨z1633, D1634, hE, hS, le1635, rfl⟩
      have hf := hs1637
      clear hs1637
      refine wpIn_seq ?_
      refine region_at ?_
      refine segN 1 (j := 1) [(4, .bool true)] hE (by kernel_rfl) rfl (fun a hE => ?_)
      refine at_end rfl ?_
      refine wpIn_ret ?_
      obtain rfl := Option.some.inj hf
      repeat (with_reducible first | refine then_ret ?_ | refine block_ret ?_ | refine qx_ret ?_)
      refine ret_gen ([.bool true]) hE (by rw [show Tryd.f20.results.toList = [.tmp 4] from rfl]; exact ⟨_, _, rfl, rfl, rfl⟩) ?_
      exact ⟨_, rfl, D1634, rfl, hS⟩
    · clear hE hS hf
      rintro k a w ⟨y1487, D1488, hE, hS, le1489, hf⟩
      obtain ⟨k, rfl, hf⟩ := inspeximusref09_Same_l1.some _ _ hf
      refine ⟨k, rfl, ?_⟩
      unfold inspeximusref09_Same_l1.b at hf
      refine wpIn_seq ?_
      refine wpIn_seq ?_
      refine region_at ?_
      refine segN 4 (j := 4) [(14, .bool ((decide (y1487 < ((List.length (x1) : Nat) : Int)))))] hE (by kernel_rfl) rfl (fun a hE => ?_)
      refine at_end rfl ?_
      refine cond_split hE (b := (decide (y1487 < ((List.length (x1) : Nat) : Int)))) rfl (fun hb => ?_) (fun hb => ?_)
      · replace hf := cond_t hb hf
        clear hb
        refine wpIn_skip ?_
        refine wpIn_seq ?_
        refine wpIn_block ?_
        refine wpIn_seq ?_
        refine region_draw (fun j => Keeps (mfOf [] j)) (by kernel_rfl) ?_
        have hS := hS.drew
        first | generalize w.drew = w at hS ⊢ | generalize w0.drew = w at hS ⊢
        refine tW 0 1 (fuel := 9) (by kernel_rfl) hE (fun M => tk_pure (.slice A2 (List.length (x1)) c3) hE rfl rfl rfl rfl (fun _ _ _ e => by cases e) (by kernel_rfl) (fun a hE => ?_))
        refine tW 1 3 (fuel := 8) (by kernel_rfl) hE (fun M => tk_pure (.int .i64 (y1487)) hE rfl rfl rfl rfl (fun _ _ _ e => by cases e) (by kernel_rfl) (fun a hE => ?_))
        refine tW 4 19 (fuel := 7) (by kernel_rfl) hE (fun M => tk_pure (.slice A6 (List.length (x5)) c7) hE rfl rfl rfl rfl (fun _ _ _ e => by cases e) (by kernel_rfl) (fun a hE => ?_))
        refine tW 5 51 (fuel := 6) (by kernel_rfl) hE (fun M => tk_pure (.int .i64 (y1487)) hE rfl rfl rfl rfl (fun _ _ _ e => by cases e) (by kernel_rfl) (fun a hE => ?_))
        obtain ⟨x1743, h1744, hf⟩ := bind_some hf
        refine tW 2 55 (fuel := 5) (by kernel_rfl) hE (fun M => g_index (K := (kdSlice (kdInt .u8))) (e := 33) (by_ := 24) (zl := 1) rfl rfl rfl rfl hE rfl rfl rfl (by kernel_rfl) rfl (h4.mono le1489) h1744 (fun a b1745 o1746 hE h1747 => ?_))
        obtain ⟨cs1748, C1749, T1750, fr1751, hr1752, hb1753, hc1754⟩ := h1747
        obtain ⟨A1755, c1756, rfl, h1757⟩ := hr1752
        refine tT 3 63 (fuel := 4) (by kernel_rfl) hE (tk_loadX (off0 := o1746) (off := 0) (c := [.slice A1755 (List.length (x1743)) c1756]) (.slice A1755 (List.length (x1743)) c1756) rfl rfl rfl rfl hE rfl hS rfl hb1753 hc1754 (by kernel_rfl) (by kernel_rfl) (kD hS dn_nil) (fun a hE => ?_))
        obtain ⟨x1758, h1759, hf⟩ := bind_some hf
        refine tW 6 127 (fuel := 3) (by kernel_rfl) hE (fun M => g_index (K := (kdSlice (kdInt .u8))) (e := 33) (by_ := 24) (zl := 1) rfl rfl rfl rfl hE rfl rfl rfl (by kernel_rfl) rfl (h8.mono le1489) h1759 (fun a b1760 o1761 hE h1762 => ?_))
        obtain ⟨cs1763, C1764, T1765, fr1766, hr1767, hb1768, hc1769⟩ := h1762
        obtain ⟨A1770, c1771, rfl, h1772⟩ := hr1767
        refine tT 7 255 (fuel := 2) (by kernel_rfl) hE (tk_loadX (off0 := o1761) (off := 0) (c := [.slice A1770 (List.length (x1758)) c1771]) (.slice A1770 (List.length (x1758)) c1771) rfl rfl rfl rfl hE rfl hS rfl hb1768 hc1769 (by kernel_rfl) (by kernel_rfl) (kD hS dn_nil) (fun a hE => ?_))
        obtain ⟨r1773, h1774, hf⟩ := bind_some hf
        refine oG 8 511 (fuel := 1) (by kernel_rfl) (op_call rfl rfl rfl rfl hE rfl rfl rfl rfl (by kernel_rfl) (inspeximusref01_Bytes.calls (g := g) h1774 (hS.st.fore (L := [])) h1757 h1772) (fun a v w hR hE => ?_))
        obtain ⟨D1775, rfl, hS1⟩ := hR
        refine ⟨(hS1.keeps.sub (M' := []) trivial).mono (fun _ h => h), ?_⟩
        have le1777 := hS1.dle
        have hS := hS.callR hS1 rfl .n
        clear hS1
        refine tW 9 1023 (fuel := 0) (by kernel_rfl) hE (fun M => tk_pure (.bool ((!r1773))) hE rfl rfl rfl rfl (fun _ _ _ e => by cases e) (by kernel_rfl) (fun a hE => ?_))
        refine doneG (by kernel_rfl) ?_
        refine cond_split hE (b := (!r1773)) rfl (fun hb => ?_) (fun hb => ?_)
        · replace hf := cond_t hb hf
          clear hb
          refine wpIn_seq ?_
          refine region_at ?_
          refine segN 1 (j := 1) [(4, .bool false)] hE (by kernel_rfl) rfl (fun a hE => ?_)
          refine at_end rfl ?_
          refine wpIn_ret ?_
          obtain rfl := Option.some.inj hf
          replace hf := hs1637
          obtain rfl := Option.some.inj hf
          repeat (with_reducible first | refine then_ret ?_ | refine block_ret ?_ | refine qx_ret ?_)
          refine ret_gen ([.bool false]) hE (by rw [show Tryd.f20.results.toList = [.tmp 4] from rfl]; exact ⟨_, _, rfl, rfl, rfl⟩) ?_
          exact ⟨_, rfl, D1775, rfl, hS⟩
        · replace hf := cond_f hb hf
          clear hb
          refine wpIn_skip ?_
          refine region_at ?_
          refine segN 3 (j := 3) [(5, .int .i64 ((IntKind.wrap .i64 (y1487 + (1 : Int)))))] hE (by kernel_rfl) rfl (fun a hE => ?_)
          refine at_end rfl ?_
          exact ⟨(IntKind.wrap .i64 (y1487 + (1 : Int))), D1775, hE.weak (by kernel_rfl), hS, (Snap.le.trans le1489 le1777), hf⟩
      · replace hf := cond_f hb hf
        clear hb
        refine wpIn_exit ?_
        obtain rfl := Option.some.inj hf
        exact ⟨(), D1488, hE.weak (by kernel_rfl), hS, le1489, rfl⟩

set_option maxRecDepth 100000 in
set_option maxHeartbeats 4000000 in
theorem inspeximuslaw09_LogCrash.calls {K : Nat} {g w0 : World} {D0 : Snap} {x1 : (List (List Int))} {x5 : (List (List Int))} {x9 : Int} {A2 : Option Addr} {c3 : Nat} {A6 : Option Addr} {c7 : Nat} {r : (Bool)} (hf : inspeximuslaw09_LogCrash.f K x1 x5 x9 = some r) (hS0 : St g w0 D0 []) (h4 : Sl (kdSlice (kdInt .u8)) D0 A2 c3 (x1)) (h8 : Sl (kdSlice (kdInt .u8)) D0 A6 c7 (x5)) (hG0 : Cell (kdArr .u32 8) D0 0 0 gl_First) (hG1 : Cell (kdArr .u32 64) D0 1 0 gl_K) :
    CallsIn (Fw none) 0 Tryd.prog 4 (List.toArray [.slice A2 (List.length (x1)) c3, .slice A6 (List.length (x5)) c7, .int .i64 (x9)]) w0 (fun e w' => ∃ v, e = .returned v ∧ ∃ (D1 : Snap), v = .bool (r) ∧ Stp g w0 D0 [] w' D1 []) := by
  unfold inspeximuslaw09_LogCrash.f at hf
  have hS := Stp.refl hS0
  clear hS0
  refine calls_body (n := 151) Tryd.func4 rfl Tryd.ntmps4 rfl (fun a hE => ?_)
  have hE : Env a 151 [] [(0, .slice A2 (List.length (x1)) c3), (1, .slice A6 (List.length (x5)) c7), (2, .int .i64 (x9))] := hE
  refine wpIn_seq ?_
  refine region_at ?_
  refine segN 1 (j := 1) [(6, .bool false)] hE (by kernel_rfl) rfl (fun a hE => ?_)
  refine at_end rfl ?_
  refine wpIn_seq ?_
  refine wpIn_seq ?_
  refine region_at ?_
  obtain ⟨r8370, h8371, hf⟩ := bind_some hf
  refine at_op (op_call rfl rfl rfl rfl hE rfl rfl rfl rfl (by kernel_rfl) (inspeximuslaw09_alive.calls (g := g) h8371 (hS.st.fore (L := [])) hG0 hG1) (fun a v w hR hE => ?_)) rfl
  obtain ⟨D8372, rfl, hS1⟩ := hR
  have le8374 := hS1.dle
  have hS := hS.callR hS1 rfl .n
  clear hS1
  refine segN 1 (j := 2) [(18, .bool ((!r8370)))] hE (by kernel_rfl) rfl (fun a hE => ?_)
  refine at_end rfl ?_
  refine cond_split hE (b := (!r8370)) rfl (fun hb => ?_) (fun hb => ?_)
  · replace hf := cond_t hb hf
    clear hb
    refine wpIn_seq ?_
    refine region_at ?_
    refine segN 1 (j := 1) [(6, .bool false)] hE (by kernel_rfl) rfl (fun a hE => ?_)
    refine at_end rfl ?_
    refine wpIn_ret ?_
    obtain rfl := Option.some.inj hf
    repeat (with_reducible first | refine then_ret ?_ | refine block_ret ?_ | refine qx_ret ?_)
    refine ret_gen ([.bool false]) hE (by rw [show Tryd.f4.results.toList = [.tmp 6] from rfl]; exact ⟨_, _, rfl, rfl, rfl⟩) ?_
    exact ⟨_, rfl, D8372, rfl, hS⟩
  · replace hf := cond_f hb hf
    clear hb
    refine wpIn_skip ?_
    refine wpIn_seq ?_
    obtain ⟨j16718, hj16719, hf⟩ := jn_elim hf
    refine seq_join (fun a w => ∃ (y8380 : Bool), ∃ (D8381 : Snap), Env a 151 [] [(0, .slice A2 (List.length (x1)) c3), (1, .slice A6 (List.length (x5)) c7), (2, .int .i64 (x9)), (26, .bool (y8380))] ∧ Stp g w0 D0 [] w D8381 [] ∧ Snap.le D8372 D8381 ∧ j16718 y8380 = some r) ?_ ?_
    · clear hj16719
      refine region_at ?_
      refine segN 4 (j := 4) [(22, .bool ((decide ((15 : Int) < ((List.length (x1) : Nat) : Int)))))] hE (by kernel_rfl) rfl (fun a hE => ?_)
      cases hb : (decide ((15 : Int) < ((List.length (x1) : Nat) : Int)))
      · replace hf := cond_f hb hf
        have hE := hE.know (t := 22) (b := (decide ((15 : Int) < ((List.length (x1) : Nat) : Int)))) (b' := false) rfl hb
        clear hb
        refine segN 4 (j := 8) [(26, .bool ((decide ((15 : Int) < ((List.length (x5) : Nat) : Int)))))] hE (by kernel_rfl) rfl (fun a hE => ?_)
        refine at_end rfl ?_
        exact ⟨(decide ((15 : Int) < ((List.length (x5) : Nat) : Int))), D8372, hE.weak (by kernel_rfl), hS, Snap.le.refl _, hf⟩
      · replace hf := cond_t hb hf
        have hE := hE.know (t := 22) (b := (decide ((15 : Int) < ((List.length (x1) : Nat) : Int)))) (b' := true) rfl hb
        clear hb
        refine segN 4 (j := 8) [(26, .bool true)] hE (by kernel_rfl) rfl (fun a hE => ?_)
        refine at_end rfl ?_
        exact ⟨true, D8372, hE.weak (by kernel_rfl), hS, Snap.le.refl _, hf⟩
    · clear hE hS
      rintro a w ⟨y8380, D8381, hE, hS, le8382, hf⟩
      replace hf := hj16719 _ hf
      clear hj16719
      refine cond_split hE (b := y8380) rfl (fun hb => ?_) (fun hb => ?_)
      · replace hf := cond_t hb hf
        clear hb
        refine wpIn_seq ?_
        refine region_at ?_
        refine segN 1 (j := 1) [(6, .bool true)] hE (by kernel_rfl) rfl (fun a hE => ?_)
        refine at_end rfl ?_
        refine wpIn_ret ?_
        obtain rfl := Option.some.inj hf
        repeat (with_reducible first | refine then_ret ?_ | refine block_ret ?_ | refine qx_ret ?_)
        refine ret_gen ([.bool true]) hE (by rw [show Tryd.f4.results.toList = [.tmp 6] from rfl]; exact ⟨_, _, rfl, rfl, rfl⟩) ?_
        exact ⟨_, rfl, D8381, rfl, hS⟩
      · replace hf := cond_f hb hf
        clear hb
        refine wpIn_skip ?_
        refine wpIn_seq ?_
        refine region_at ?_
        obtain ⟨r8383, h8384, hf⟩ := bind_some hf
        refine at_op (op_call rfl rfl rfl rfl hE rfl rfl rfl rfl (by kernel_rfl) (disk_New.calls (g := g) h8384 (hS.st.fore (L := [])) ) (fun a v w hR hE => ?_)) rfl
        obtain ⟨D8385, b8387, A8389, c8390, q8391, rfl, hS1, h8392⟩ := hR
        have le8394 := hS1.dle
        have hS := hS.callR hS1 rfl (.c (.c .n))
        clear hS1
        refine segN 1 (j := 2) [(7, .pointer (some ⟨b8387, 0, none⟩))] hE (by kernel_rfl) rfl (fun a hE => ?_)
        refine at_end rfl ?_
        refine wpIn_seq ?_
        refine region_at ?_
        refine segN 1 (j := 1) [(29, .pointer (some ⟨b8387, 0, none⟩))] hE (by kernel_rfl) rfl (fun a hE => ?_)
        obtain ⟨r8395, h8396, hf⟩ := bind_some hf
        refine at_op (op_call rfl rfl rfl rfl hE rfl rfl rfl rfl (by kernel_rfl) (log_Open.calls (g := g) h8396 (hS.st.fore (L := [bx b8387 72 (c_T_disk_Disk ((T_disk_Disk.mk (r8383.1) (r8383.2.1) (r8383.2.2))) A8389 c8390), q8391])) h8392 (hG0.mono (Snap.le.trans (Snap.le.trans le8374 le8382) le8394)) (hG1.mono (Snap.le.trans (Snap.le.trans le8374 le8382) le8394))) (fun a v w hR hE => ?_)) rfl
        obtain ⟨D8397, b8399, A8401, c8402, q8403, A8406, c8407, q8408, rfl, hS1, h8404, h8409⟩ := hR
        have le8411 := hS1.dle
        have hS := hS.callR hS1 rfl (.c (.c (.c (.c .n))))
        clear hS1
        refine segN 7 (j := 9) [(8, .pointer (some ⟨b8399, 0, none⟩))] hE (by kernel_rfl) rfl (fun a hE => ?_)
        refine at_end rfl ?_
        refine wpIn_seq ?_
        refine region_at ?_
        refine segN 1 (j := 1) [(11, .slice none 0 0)] hE (by kernel_rfl) rfl (fun a hE => ?_)
        refine at_end rfl ?_
        refine wpIn_seq ?_
        refine wpIn_seq ?_
        refine region_at ?_
        refine segN 1 (j := 1) [(12, .int .i64 ((0 : Int)))] hE (by kernel_rfl) rfl (fun a hE => ?_)
        refine at_end rfl ?_
        obtain ⟨s11864, hf, hs11865⟩ := bind_some hf
        have hS := hS.nils
        have hS := hS.pk (.c 1 rfl (.c 2 rfl (.c 0 rfl (.c 4 rfl .n)))) rfl
        refine block_loop (fun a w => ∃ (z11851 : (List (List Int)) × (List Int) × Int × T_log_at), ∃ (A11854 : Option Addr), ∃ (c11855 : Nat), ∃ (q11856 : Blk), ∃ (A11859 : Option Addr), ∃ (c11860 : Nat), ∃ (q11861 : Blk), ∃ (D11852 : Snap), Env a 151 [] [(0, .slice A2 (List.length (x1)) c3), (1, .slice A6 (List.length (x5)) c7), (2, .int .i64 (x9)), (7, .pointer (some ⟨b8387, 0, none⟩)), (8, .pointer (some ⟨b8399, 0, none⟩)), (11, .slice A11854 (List.length (z11851.1)) c11855)] ∧ Stp g w0 D0 [] w D11852 [bx b8387 72 (c_T_disk_Disk ((T_disk_Disk.mk (z11851.2.1) (z11851.2.2.1) (r8383.2.2))) A11859 c11860), bx b8399 64 ([.pointer (some ⟨b8387, 0, none⟩)] ++ ((c_T_log_at (z11851.2.2.2)))), q11856, q11861] ∧ Snap.le D8397 D11852 ∧ OwnD (kdSlice (kdInt .u8)) 33 D11852 A11854 c11855 (z11851.1) q11856 ∧ OwnL (kdInt .u8) 5 D11852 A11859 c11860 (z11851.2.1) q11861 ∧ (Sum.inr z11851) = s11864) (fun k a w => ∃ (y11163 : (List (List Int)) × Int × (List Int) × Int × T_log_at), ∃ (A11166 : Option Addr), ∃ (c11167 : Nat), ∃ (q11168 : Blk), ∃ (A11171 : Option Addr), ∃ (c11172 : Nat), ∃ (q11173 : Blk), ∃ (D11164 : Snap), Env a 151 [] [(0, .slice A2 (List.length (x1)) c3), (1, .slice A6 (List.length (x5)) c7), (2, .int .i64 (x9)), (7, .pointer (some ⟨b8387, 0, none⟩)), (8, .pointer (some ⟨b8399, 0, none⟩)), (11, .slice A11166 (List.length (y11163.1)) c11167), (12, .int .i64 (y11163.2.1))] ∧ Stp g w0 D0 [] w D11164 [bx b8387 72 (c_T_disk_Disk ((T_disk_Disk.mk (y11163.2.2.1) (y11163.2.2.2.1) (r8383.2.2))) A11171 c11172), bx b8399 64 ([.pointer (some ⟨b8387, 0, none⟩)] ++ ((c_T_log_at (y11163.2.2.2.2)))), q11168, q11173] ∧ Snap.le D8397 D11164 ∧ OwnD (kdSlice (kdInt .u8)) 33 D11164 A11166 c11167 (y11163.1) q11168 ∧ OwnL (kdInt .u8) 5 D11164 A11171 c11172 (y11163.2.2.1) q11173 ∧ inspeximuslaw09_LogCrash_l1.l K x1 r8383 k y11163 = some s11864) K ?_ ?_ ?_
        · exact ⟨(([] : List (List Int)), (0 : Int), r8395.2.2.1, r8395.2.2.2.1, r8395.2.2.2.2), none, 0, none, A8406, c8407, q8408, D8397, hE.weak (by kernel_rfl), hS, Snap.le.refl _, (OwnD.nil (kdSlice (kdInt .u8)) 33 D8397), h8409, hf⟩
        · clear hE hS hf
          rintro a w ⟨z11851, A11854, c11855, q11856, A11859, c11860, q11861, D11852, hE, hS, le11853, h11857, h11862, rfl⟩
          have hf := hs11865
          clear hs11865
          refine wpIn_seq ?_
          refine wpIn_seq ?_
          refine region_at ?_
          refine segN 1 (j := 1) [(13, .int .i64 ((0 : Int)))] hE (by kernel_rfl) rfl (fun a hE => ?_)
          refine at_end rfl ?_
          obtain ⟨s15980, hf, hs15981⟩ := bind_some hf
          refine block_loop (fun a w => ∃ (z15967 : (List (List Int)) × (List Int)), ∃ (A15970 : Option Addr), ∃ (c15971 : Nat), ∃ (q15972 : Blk), ∃ (A15975 : Option Addr), ∃ (c15976 : Nat), ∃ (q15977 : Blk), ∃ (D15968 : Snap), Env a 151 [] [(0, .slice A2 (List.length (x1)) c3), (2, .int .i64 (x9)), (7, .pointer (some ⟨b8387, 0, none⟩)), (11, .slice A15970 (List.length (z15967.1)) c15971)] ∧ Stp g w0 D0 [] w D15968 [bx b8387 72 (c_T_disk_Disk ((T_disk_Disk.mk (z15967.2) (z11851.2.2.1) (r8383.2.2))) A15975 c15976), q15972, q15977] ∧ Snap.le D11852 D15968 ∧ OwnD (kdSlice (kdInt .u8)) 33 D15968 A15970 c15971 (z15967.1) q15972 ∧ OwnL (kdInt .u8) 5 D15968 A15975 c15976 (z15967.2) q15977 ∧ (Sum.inr z15967) = s15980) (fun k a w => ∃ (y15279 : (List (List Int)) × Int × (List Int) × T_log_at), ∃ (A15282 : Option Addr), ∃ (c15283 : Nat), ∃ (q15284 : Blk), ∃ (A15287 : Option Addr), ∃ (c15288 : Nat), ∃ (q15289 : Blk), ∃ (D15280 : Snap), Env a 151 [] [(0, .slice A2 (List.length (x1)) c3), (1, .slice A6 (List.length (x5)) c7), (2, .int .i64 (x9)), (7, .pointer (some ⟨b8387, 0, none⟩)), (8, .pointer (some ⟨b8399, 0, none⟩)), (11, .slice A15282 (List.length (y15279.1)) c15283), (13, .int .i64 (y15279.2.1))] ∧ Stp g w0 D0 [] w D15280 [bx b8387 72 (c_T_disk_Disk ((T_disk_Disk.mk (y15279.2.2.1) (z11851.2.2.1) (r8383.2.2))) A15287 c15288), bx b8399 64 ([.pointer (some ⟨b8387, 0, none⟩)] ++ ((c_T_log_at (y15279.2.2.2)))), q15284, q15289] ∧ Snap.le D11852 D15280 ∧ OwnD (kdSlice (kdInt .u8)) 33 D15280 A15282 c15283 (y15279.1) q15284 ∧ OwnL (kdInt .u8) 5 D15280 A15287 c15288 (y15279.2.2.1) q15289 ∧ inspeximuslaw09_LogCrash_l2.l K x5 r8383 z11851 k y15279 = some s15980) K ?_ ?_ ?_
          · exact ⟨(z11851.1, (0 : Int), z11851.2.1, z11851.2.2.2), A11854, c11855, q11856, A11859, c11860, q11861, D11852, hE.weak (by kernel_rfl), hS, Snap.le.refl _, h11857, h11862, hf⟩
          · clear hE hS hf
            rintro a w ⟨z15967, A15970, c15971, q15972, A15975, c15976, q15977, D15968, hE, hS, le15969, h15973, h15978, rfl⟩
            have hf := hs15981
            clear hs15981
            refine wpIn_seq ?_
            refine region_at ?_
            refine segN 2 (j := 2) [(118, .pointer (some ⟨b8387, 0, none⟩)), (119, .int .i64 (x9))] hE (by kernel_rfl) rfl (fun a hE => ?_)
            have hS := hS.pk (.c 0 rfl (.c 2 rfl (.c 1 rfl .n))) rfl
            obtain ⟨r16644, h16645, hf⟩ := bind_some hf
            refine at_op (op_call rfl rfl rfl rfl hE rfl rfl rfl rfl (by kernel_rfl) (disk_Disk_Crash.calls (g := g) h16645 (hS.st.fore (L := [bx b8387 72 (c_T_disk_Disk ((T_disk_Disk.mk (z15967.2) (z11851.2.2.1) (r8383.2.2))) A15975 c15976), q15977])) h15978) (fun a v w hR hE => ?_)) rfl
            obtain ⟨D16646, A16648, c16649, q16650, rfl, hS1, h16651⟩ := hR
            have le16653 := hS1.dle
            have hS := hS.callR hS1 rfl (.c (.c .n))
            clear hS1
            refine at_end rfl ?_
            refine wpIn_seq ?_
            refine region_at ?_
            refine segN 1 (j := 1) [(122, .pointer (some ⟨b8387, 0, none⟩))] hE (by kernel_rfl) rfl (fun a hE => ?_)
            obtain ⟨r16654, h16655, hf⟩ := bind_some hf
            refine at_op (op_call rfl rfl rfl rfl hE rfl rfl rfl rfl (by kernel_rfl) (log_Open.calls (g := g) h16655 (hS.st.fore (L := [bx b8387 72 (c_T_disk_Disk ((T_disk_Disk.mk (r16644.1) (r16644.2) (r8383.2.2))) A16648 c16649), q16650])) h16651 (hG0.mono (Snap.le.trans (Snap.le.trans (Snap.le.trans (Snap.le.trans (Snap.le.trans (Snap.le.trans le8374 le8382) le8394) le8411) le11853) le15969) le16653)) (hG1.mono (Snap.le.trans (Snap.le.trans (Snap.le.trans (Snap.le.trans (Snap.le.trans (Snap.le.trans le8374 le8382) le8394) le8411) le11853) le15969) le16653))) (fun a v w hR hE => ?_)) rfl
            obtain ⟨D16656, b16658, A16660, c16661, q16662, A16665, c16666, q16667, rfl, hS1, h16663, h16668⟩ := hR
            have le16670 := hS1.dle
            have hS := hS.callR hS1 rfl (.c (.c (.c (.c .n))))
            clear hS1
            refine segN 7 (j := 9) [(15, .slice A16660 (List.length (r16654.1)) c16661), (16, .int .i64 (r16654.2.1))] hE (by kernel_rfl) rfl (fun a hE => ?_)
            refine at_end rfl ?_
            obtain ⟨j16692, hj16693, hf⟩ := jn_elim hf
            refine seq_join (fun a w => ∃ (y16689 : Bool), ∃ (D16690 : Snap), Env a 151 [] [(6, .bool (y16689))] ∧ Stp g w0 D0 [] w D16690 [] ∧ Snap.le D16656 D16690 ∧ j16692 y16689 = some r) ?_ ?_
            · clear hj16693
              refine region_at ?_
              refine segN 3 (j := 3) [(129, .bool ((decide (r16654.2.1 = (0 : Int)))))] hE (by kernel_rfl) rfl (fun a hE => ?_)
              cases hb : (decide (r16654.2.1 = (0 : Int)))
              · replace hf := cond_f hb hf
                have hE := hE.know (t := 129) (b := (decide (r16654.2.1 = (0 : Int)))) (b' := false) rfl hb
                clear hb
                refine segN 22 (j := 25) [(6, .bool false)] hE (by kernel_rfl) rfl (fun a hE => ?_)
                refine at_end rfl ?_
                have hS := hS.pk .n rfl
                exact ⟨false, D16656, hE.weak (by kernel_rfl), hS, Snap.le.refl _, hf⟩
              · replace hf := cond_t hb hf
                have hE := hE.know (t := 129) (b := (decide (r16654.2.1 = (0 : Int)))) (b' := true) rfl hb
                clear hb
                refine segN 7 (j := 10) [(136, .bool ((decide (((List.length (x1) : Nat) : Int) ≤ ((List.length (r16654.1) : Nat) : Int)))))] hE (by kernel_rfl) rfl (fun a hE => ?_)
                cases hb : (decide (((List.length (x1) : Nat) : Int) ≤ ((List.length (r16654.1) : Nat) : Int)))
                · replace hf := cond_f hb hf
                  have hE := hE.know (t := 136) (b := (decide (((List.length (x1) : Nat) : Int) ≤ ((List.length (r16654.1) : Nat) : Int)))) (b' := false) rfl hb
                  clear hb
                  refine segN 15 (j := 25) [(6, .bool false)] hE (by kernel_rfl) rfl (fun a hE => ?_)
                  refine at_end rfl ?_
                  have hS := hS.pk .n rfl
                  exact ⟨false, D16656, hE.weak (by kernel_rfl), hS, Snap.le.refl _, hf⟩
                · replace hf := cond_t hb hf
                  have hE := hE.know (t := 136) (b := (decide (((List.length (x1) : Nat) : Int) ≤ ((List.length (r16654.1) : Nat) : Int)))) (b' := true) rfl hb
                  clear hb
                  refine segN 7 (j := 17) [(143, .bool ((decide (((List.length (r16654.1) : Nat) : Int) ≤ ((List.length (z15967.1) : Nat) : Int)))))] hE (by kernel_rfl) rfl (fun a hE => ?_)
                  cases hb : (decide (((List.length (r16654.1) : Nat) : Int) ≤ ((List.length (z15967.1) : Nat) : Int)))
                  · replace hf := cond_f hb hf
                    have hE := hE.know (t := 143) (b := (decide (((List.length (r16654.1) : Nat) : Int) ≤ ((List.length (z15967.1) : Nat) : Int)))) (b' := false) rfl hb
                    clear hb
                    refine segN 8 (j := 25) [(6, .bool false)] hE (by kernel_rfl) rfl (fun a hE => ?_)
                    refine at_end rfl ?_
                    have hS := hS.pk .n rfl
                    exact ⟨false, D16656, hE.weak (by kernel_rfl), hS, Snap.le.refl _, hf⟩
                  · replace hf := cond_t hb hf
                    have hE := hE.know (t := 143) (b := (decide (((List.length (r16654.1) : Nat) : Int) ≤ ((List.length (z15967.1) : Nat) : Int)))) (b' := true) rfl hb
                    clear hb
                    refine segN 4 (j := 21) [(144, .slice A16660 (List.length (r16654.1)) c16661), (145, .slice A15970 (List.length (z15967.1)) c15971), (147, .int .i64 (((List.length (r16654.1) : Nat) : Int)))] hE (by kernel_rfl) rfl (fun a hE => ?_)
                    obtain ⟨l16694, h16695, hf⟩ := bind_some hf
                    refine at_op (op_tk hE (op_prefixO (K := (kdSlice (kdInt .u8))) (T := 33) (by_ := 24) (zl := 1) rfl rfl rfl rfl hE rfl rfl (by kernel_rfl) ⟨_, rfl⟩ (h15973.mono (Snap.le.trans le16653 le16670)) h16695 (fun a hE h16696 => ?_))) rfl
                    have hS := hS.pk (.c 2 rfl (.c 0 rfl (.c 1 rfl (.c 3 rfl (.c 4 rfl .n))))) rfl
                    obtain ⟨D16697, q16700, le16698, hS, h16701, h16699⟩ := hS.lent h16663
                    have hS := hS.pk (.c 4 rfl (.c 0 rfl (.c 1 rfl (.c 2 rfl (.c 3 rfl .n))))) rfl
                    obtain ⟨D16702, q16705, le16703, hS, h16706, h16704⟩ := hS.lent (h16696.mono le16698)
                    obtain ⟨r16707, h16708, hf⟩ := bind_some hf
                    refine at_op (op_call rfl rfl rfl rfl hE rfl rfl rfl rfl (by kernel_rfl) (inspeximusref09_Same.calls (g := g) h16708 (hS.st.fore (L := [])) (h16699.mono le16703) h16704) (fun a v w hR hE => ?_)) rfl
                    obtain ⟨D16709, rfl, hS1⟩ := hR
                    have le16711 := hS1.dle
                    have hS := hS.callR hS1 rfl .n
                    clear hS1
                    refine segN 2 (j := 25) [(6, .bool (r16707))] hE (by kernel_rfl) rfl (fun a hE => ?_)
                    refine at_end rfl ?_
                    have hS := hS.pk .n rfl
                    exact ⟨r16707, D16709, hE.weak (by kernel_rfl), hS, (Snap.le.trans (Snap.le.trans le16698 le16703) le16711), hf⟩
            · clear hE hS
              rintro a w ⟨y16689, D16690, hE, hS, le16691, hf⟩
              replace hf := hj16693 _ hf
              clear hj16693
              refine wpIn_ret ?_
              obtain rfl := Option.some.inj hf
              repeat (with_reducible first | refine then_ret ?_ | refine block_ret ?_ | refine qx_ret ?_)
              refine ret_gen ([.bool (y16689)]) hE (by rw [show Tryd.f4.results.toList = [.tmp 6] from rfl]; exact ⟨_, _, rfl, rfl, rfl⟩) ?_
              exact ⟨_, rfl, D16690, rfl, hS⟩
          · clear hE hS hf
            rintro k a w ⟨y15279, A15282, c15283, q15284, A15287, c15288, q15289, D15280, hE, hS, le15281, h15285, h15290, hf⟩
            obtain ⟨k, rfl, hf⟩ := inspeximuslaw09_LogCrash_l2.some _ _ _ hf
            refine ⟨k, rfl, ?_⟩
            unfold inspeximuslaw09_LogCrash_l2.b at hf
            refine wpIn_seq ?_
            refine wpIn_seq ?_
            refine region_at ?_
            refine segN 4 (j := 4) [(79, .bool ((decide (y15279.2.1 < ((List.length (x5) : Nat) : Int)))))] hE (by kernel_rfl) rfl (fun a hE => ?_)
            refine at_end rfl ?_
            refine cond_split hE (b := (decide (y15279.2.1 < ((List.length (x5) : Nat) : Int)))) rfl (fun hb => ?_) (fun hb => ?_)
            · replace hf := cond_t hb hf
              clear hb
              refine wpIn_skip ?_
              refine wpIn_seq ?_
              refine wpIn_block ?_
              refine wpIn_seq ?_
              obtain ⟨j16602, hj16603, hf⟩ := jn_elim hf
              refine seq_join (fun a w => ∃ (y16503 : Bool × (List Int) × T_log_at), ∃ (A16506 : Option Addr), ∃ (c16507 : Nat), ∃ (q16508 : Blk), ∃ (D16504 : Snap), Env a 151 [] [(0, .slice A2 (List.length (x1)) c3), (1, .slice A6 (List.length (x5)) c7), (2, .int .i64 (x9)), (7, .pointer (some ⟨b8387, 0, none⟩)), (8, .pointer (some ⟨b8399, 0, none⟩)), (11, .slice A15282 (List.length (y15279.1)) c15283), (13, .int .i64 (y15279.2.1)), (96, .bool (y16503.1))] ∧ Stp g w0 D0 [] w D16504 [bx b8387 72 (c_T_disk_Disk ((T_disk_Disk.mk (y16503.2.1) (z11851.2.2.1) (r8383.2.2))) A16506 c16507), bx b8399 64 ([.pointer (some ⟨b8387, 0, none⟩)] ++ ((c_T_log_at (y16503.2.2)))), q15284, q16508] ∧ Snap.le D15280 D16504 ∧ OwnL (kdInt .u8) 5 D16504 A16506 c16507 (y16503.2.1) q16508 ∧ j16602 y16503 = some s15980) ?_ ?_
              · clear hj16603
                refine region_at ?_
                refine segN 2 (j := 2) [(82, .slice A6 (List.length (x5)) c7), (83, .int .i64 (y15279.2.1))] hE (by kernel_rfl) rfl (fun a hE => ?_)
                obtain ⟨x16604, h16605, hf⟩ := bind_some hf
                refine at_op (op_tk hE (g_index (K := (kdSlice (kdInt .u8))) (e := 33) (by_ := 24) (zl := 1) rfl rfl rfl rfl hE rfl rfl rfl (by kernel_rfl) rfl (h8.mono (Snap.le.trans (Snap.le.trans (Snap.le.trans (Snap.le.trans (Snap.le.trans le8374 le8382) le8394) le8411) le11853) le15281)) h16605 (fun a b16606 o16607 hE h16608 => ?_))) rfl
                obtain ⟨cs16609, C16610, T16611, fr16612, hr16613, hb16614, hc16615⟩ := h16608
                obtain ⟨A16616, c16617, rfl, h16618⟩ := hr16613
                refine at_op (op_tk hE (tk_loadX (off0 := o16607) (off := 0) (c := [.slice A16616 (List.length (x16604)) c16617]) (.slice A16616 (List.length (x16604)) c16617) rfl rfl rfl rfl hE rfl hS rfl hb16614 hc16615 (by kernel_rfl) (by kernel_rfl) (kD hS dn_nil) (fun a hE => ?_))) rfl
                refine segN 3 (j := 7) [(88, .bool ((decide ((200 : Int) < ((List.length (x16604) : Nat) : Int)))))] hE (by kernel_rfl) rfl (fun a hE => ?_)
                cases hb : (decide ((200 : Int) < ((List.length (x16604) : Nat) : Int)))
                · replace hf := cond_f hb hf
                  have hE := hE.know (t := 88) (b := (decide ((200 : Int) < ((List.length (x16604) : Nat) : Int)))) (b' := false) rfl hb
                  clear hb
                  refine segN 3 (j := 10) [(89, .pointer (some ⟨b8399, 0, none⟩)), (90, .slice A6 (List.length (x5)) c7), (91, .int .i64 (y15279.2.1))] hE (by kernel_rfl) rfl (fun a hE => ?_)
                  obtain ⟨x16619, h16620, hf⟩ := bind_some hf
                  refine at_op (op_tk hE (g_index (K := (kdSlice (kdInt .u8))) (e := 33) (by_ := 24) (zl := 1) rfl rfl rfl rfl hE rfl rfl rfl (by kernel_rfl) rfl (h8.mono (Snap.le.trans (Snap.le.trans (Snap.le.trans (Snap.le.trans (Snap.le.trans le8374 le8382) le8394) le8411) le11853) le15281)) h16620 (fun a b16621 o16622 hE h16623 => ?_))) rfl
                  obtain ⟨cs16624, C16625, T16626, fr16627, hr16628, hb16629, hc16630⟩ := h16623
                  obtain ⟨A16631, c16632, rfl, h16633⟩ := hr16628
                  refine at_op (op_tk hE (tk_loadX (off0 := o16622) (off := 0) (c := [.slice A16631 (List.length (x16619)) c16632]) (.slice A16631 (List.length (x16619)) c16632) rfl rfl rfl rfl hE rfl hS rfl hb16629 hc16630 (by kernel_rfl) (by kernel_rfl) (kD hS dn_nil) (fun a hE => ?_))) rfl
                  have hS := hS.pk (.c 1 rfl (.c 0 rfl (.c 3 rfl (.c 2 rfl .n)))) rfl
                  obtain ⟨r16634, h16635, hf⟩ := bind_some hf
                  refine at_op (op_call rfl rfl rfl rfl hE rfl rfl rfl rfl (by kernel_rfl) (log_Log_Put.calls (g := g) h16635 (hS.st.fore (L := [bx b8399 64 ([.pointer (some ⟨b8387, 0, none⟩)] ++ ((c_T_log_at (y15279.2.2.2)))), bx b8387 72 (c_T_disk_Disk ((T_disk_Disk.mk (y15279.2.2.1) (z11851.2.2.1) (r8383.2.2))) A15287 c15288), q15289])) h16633 h15290 (hG0.mono (Snap.le.trans (Snap.le.trans (Snap.le.trans (Snap.le.trans (Snap.le.trans le8374 le8382) le8394) le8411) le11853) le15281)) (hG1.mono (Snap.le.trans (Snap.le.trans (Snap.le.trans (Snap.le.trans (Snap.le.trans le8374 le8382) le8394) le8411) le11853) le15281))) (fun a v w hR hE => ?_)) rfl
                  obtain ⟨D16636, A16638, c16639, q16640, rfl, hS1, h16641⟩ := hR
                  have le16643 := hS1.dle
                  have hS := hS.callR hS1 rfl (.c (.c (.c .n)))
                  clear hS1
                  refine segN 2 (j := 15) [(96, .bool ((!decide (r16634.1 = (0 : Int)))))] hE (by kernel_rfl) rfl (fun a hE => ?_)
                  refine at_end rfl ?_
                  have hS := hS.pk (.c 1 rfl (.c 0 rfl (.c 3 rfl (.c 2 rfl .n)))) rfl
                  exact ⟨((!decide (r16634.1 = (0 : Int))), r16634.2.2, r16634.2.1), A16638, c16639, q16640, D16636, hE.weak (by kernel_rfl), hS, le16643, h16641, hf⟩
                · replace hf := cond_t hb hf
                  have hE := hE.know (t := 88) (b := (decide ((200 : Int) < ((List.length (x16604) : Nat) : Int)))) (b' := true) rfl hb
                  clear hb
                  refine segN 8 (j := 15) [(96, .bool true)] hE (by kernel_rfl) rfl (fun a hE => ?_)
                  refine at_end rfl ?_
                  exact ⟨(true, y15279.2.2.1, y15279.2.2.2), A15287, c15288, q15289, D15280, hE.weak (by kernel_rfl), hS, Snap.le.refl _, h15290, hf⟩
              · clear hE hS
                rintro a w ⟨y16503, A16506, c16507, q16508, D16504, hE, hS, le16505, h16509, hf⟩
                replace hf := hj16603 _ hf
                clear hj16603
                refine cond_split hE (b := y16503.1) rfl (fun hb => ?_) (fun hb => ?_)
                · replace hf := cond_t hb hf
                  clear hb
                  refine wpIn_seq ?_
                  refine region_at ?_
                  refine segN 2 (j := 2) [(97, .slice A6 (List.length (x5)) c7), (98, .int .i64 (y15279.2.1))] hE (by kernel_rfl) rfl (fun a hE => ?_)
                  obtain ⟨x16541, h16542, hf⟩ := bind_some hf
                  refine at_op (op_tk hE (g_index (K := (kdSlice (kdInt .u8))) (e := 33) (by_ := 24) (zl := 1) rfl rfl rfl rfl hE rfl rfl rfl (by kernel_rfl) rfl (h8.mono (Snap.le.trans (Snap.le.trans (Snap.le.trans (Snap.le.trans (Snap.le.trans (Snap.le.trans le8374 le8382) le8394) le8411) le11853) le15281) le16505)) h16542 (fun a b16543 o16544 hE h16545 => ?_))) rfl
                  obtain ⟨cs16546, C16547, T16548, fr16549, hr16550, hb16551, hc16552⟩ := h16545
                  obtain ⟨A16553, c16554, rfl, h16555⟩ := hr16550
                  refine at_op (op_tk hE (tk_loadX (off0 := o16544) (off := 0) (c := [.slice A16553 (List.length (x16541)) c16554]) (.slice A16553 (List.length (x16541)) c16554) rfl rfl rfl rfl hE rfl hS rfl hb16551 hc16552 (by kernel_rfl) (by kernel_rfl) (kD hS dn_nil) (fun a hE => ?_))) rfl
                  refine segN 3 (j := 7) [(103, .bool ((decide ((200 : Int) < ((List.length (x16541) : Nat) : Int)))))] hE (by kernel_rfl) rfl (fun a hE => ?_)
                  cases hb : (decide ((200 : Int) < ((List.length (x16541) : Nat) : Int)))
                  · replace hf := cond_f hb hf
                    have hE := hE.know (t := 103) (b := (decide ((200 : Int) < ((List.length (x16541) : Nat) : Int)))) (b' := false) rfl hb
                    clear hb
                    refine segN 2 (j := 9) [(104, .slice A6 (List.length (x5)) c7), (105, .int .i64 (y15279.2.1))] hE (by kernel_rfl) rfl (fun a hE => ?_)
                    obtain ⟨x16556, h16557, hf⟩ := bind_some hf
                    refine at_op (op_tk hE (g_index (K := (kdSlice (kdInt .u8))) (e := 33) (by_ := 24) (zl := 1) rfl rfl rfl rfl hE rfl rfl rfl (by kernel_rfl) rfl (h8.mono (Snap.le.trans (Snap.le.trans (Snap.le.trans (Snap.le.trans (Snap.le.trans (Snap.le.trans le8374 le8382) le8394) le8411) le11853) le15281) le16505)) h16557 (fun a b16558 o16559 hE h16560 => ?_))) rfl
                    obtain ⟨cs16561, C16562, T16563, fr16564, hr16565, hb16566, hc16567⟩ := h16560
                    obtain ⟨A16568, c16569, rfl, h16570⟩ := hr16565
                    refine at_op (op_tk hE (tk_loadX (off0 := o16559) (off := 0) (c := [.slice A16568 (List.length (x16556)) c16569]) (.slice A16568 (List.length (x16556)) c16569) rfl rfl rfl rfl hE rfl hS rfl hb16566 hc16567 (by kernel_rfl) (by kernel_rfl) (kD hS dn_nil) (fun a hE => ?_))) rfl
                    refine segN 4 (j := 15) [(6, .bool ((decide (((List.length (x16556) : Nat) : Int) = (0 : Int)))))] hE (by kernel_rfl) rfl (fun a hE => ?_)
                    refine at_end rfl ?_
                    refine wpIn_ret ?_
                    obtain rfl := Option.some.inj hf
                    replace hf := hs15981
                    obtain rfl := Option.some.inj hf
                    repeat (with_reducible first | refine then_ret ?_ | refine block_ret ?_ | refine qx_ret ?_)
                    refine ret_gen ([.bool ((decide (((List.length (x16556) : Nat) : Int) = (0 : Int))))]) hE (by rw [show Tryd.f4.results.toList = [.tmp 6] from rfl]; exact ⟨_, _, rfl, rfl, rfl⟩) ?_
                    have hS := hS.pk .n rfl
                    exact ⟨_, rfl, D16504, rfl, hS⟩
                  · replace hf := cond_t hb hf
                    have hE := hE.know (t := 103) (b := (decide ((200 : Int) < ((List.length (x16541) : Nat) : Int)))) (b' := true) rfl hb
                    clear hb
                    refine segN 8 (j := 15) [(6, .bool true)] hE (by kernel_rfl) rfl (fun a hE => ?_)
                    refine at_end rfl ?_
                    refine wpIn_ret ?_
                    obtain rfl := Option.some.inj hf
                    replace hf := hs15981
                    obtain rfl := Option.some.inj hf
                    repeat (with_reducible first | refine then_ret ?_ | refine block_ret ?_ | refine qx_ret ?_)
                    refine ret_gen ([.bool true]) hE (by rw [show Tryd.f4.results.toList = [.tmp 6] from rfl]; exact ⟨_, _, rfl, rfl, rfl⟩) ?_
                    have hS := hS.pk .n rfl
                    exact ⟨_, rfl, D16504, rfl, hS⟩
                · replace hf := cond_f hb hf
                  clear hb
                  refine wpIn_skip ?_
                  refine region_at ?_
                  refine segN 3 (j := 3) [(111, .slice A15282 (List.length (y15279.1)) c15283), (112, .slice A6 (List.length (x5)) c7), (113, .int .i64 (y15279.2.1))] hE (by kernel_rfl) rfl (fun a hE => ?_)
                  obtain ⟨x16571, h16572, hf⟩ := bind_some hf
                  refine at_op (op_tk hE (g_index (K := (kdSlice (kdInt .u8))) (e := 33) (by_ := 24) (zl := 1) rfl rfl rfl rfl hE rfl rfl rfl (by kernel_rfl) rfl (h8.mono (Snap.le.trans (Snap.le.trans (Snap.le.trans (Snap.le.trans (Snap.le.trans (Snap.le.trans le8374 le8382) le8394) le8411) le11853) le15281) le16505)) h16572 (fun a b16573 o16574 hE h16575 => ?_))) rfl
                  obtain ⟨cs16576, C16577, T16578, fr16579, hr16580, hb16581, hc16582⟩ := h16575
                  obtain ⟨A16583, c16584, rfl, h16585⟩ := hr16580
                  refine at_op (op_tk hE (tk_loadX (off0 := o16574) (off := 0) (c := [.slice A16583 (List.length (x16571)) c16584]) (.slice A16583 (List.length (x16571)) c16584) rfl rfl rfl rfl hE rfl hS rfl hb16581 hc16582 (by kernel_rfl) (by kernel_rfl) (kD hS dn_nil) (fun a hE => ?_))) rfl
                  refine at_op (op_buildSlice (K := (kdSlice (kdInt .u8))) (e := 33) (cs := [.slice A16583 (List.length (x16571)) c16584] ++ []) ([x16571] : List (List Int)) rfl rfl rfl rfl hE rfl hS rfl (by kernel_rfl) rfl rfl (by exact (show RL (kdSlice (kdInt .u8)) D16504 ([x16571] : List (List Int)) ([.slice A16583 (List.length (x16571)) c16584] ++ []) from ⟨_, _, rfl, (kslice h16585), rfl⟩)) (fun a A16586 q16587 w _ hE h16588 hS => ?_)) rfl
                  obtain ⟨D16590, q16593, le16591, hS, h16594, h16592⟩ := hS.lent h16588
                  have hS := hS.pk (.c 3 rfl (.c 0 rfl (.c 1 rfl (.c 2 rfl (.c 4 rfl .n))))) rfl
                  obtain ⟨l16595, h16596, hf⟩ := bind_some hf
                  refine at_op (g_append (K := (kdSlice (kdInt .u8))) (e := 33) (bytes := 24) (l := y15279.1) (m := ([x16571] : List (List Int))) rfl rfl rfl rfl hE rfl hS rfl rfl (by kernel_rfl) rfl rfl (h15285.mono (Snap.le.trans le16505 le16591)) h16592 h16596 (fun a A16597 c16598 q16599 w _ hE h16600 hS => ?_)) rfl
                  refine segN 1 (j := 8) [(11, .slice A16597 (List.length (l16595)) c16598)] hE (by kernel_rfl) rfl (fun a hE => ?_)
                  refine at_end rfl ?_
                  refine region_at ?_
                  refine segN 3 (j := 3) [(13, .int .i64 ((IntKind.wrap .i64 (y15279.2.1 + (1 : Int)))))] hE (by kernel_rfl) rfl (fun a hE => ?_)
                  refine at_end rfl ?_
                  have hS := hS.pk (.c 2 rfl (.c 3 rfl (.c 0 rfl (.c 4 rfl .n)))) rfl
                  exact ⟨(l16595, (IntKind.wrap .i64 (y15279.2.1 + (1 : Int))), y16503.2.1, y16503.2.2), A16597, c16598, q16599, A16506, c16507, q16508, D16590, hE.weak (by kernel_rfl), hS, (Snap.le.trans (Snap.le.trans le15281 le16505) le16591), h16600, (h16509.mono le16591), hf⟩
            · replace hf := cond_f hb hf
              clear hb
              refine wpIn_exit ?_
              obtain rfl := Option.some.inj hf
              have hS := hS.pk (.c 0 rfl (.c 2 rfl (.c 3 rfl .n))) rfl
              exact ⟨(y15279.1, y15279.2.2.1), A15282, c15283, q15284, A15287, c15288, q15289, D15280, hE.weak (by kernel_rfl), hS, le15281, h15285, h15290, rfl⟩
        · clear hE hS hf
          rintro k a w ⟨y11163, A11166, c11167, q11168, A11171, c11172, q11173, D11164, hE, hS, le11165, h11169, h11174, hf⟩
          obtain ⟨k, rfl, hf⟩ := inspeximuslaw09_LogCrash_l1.some _ _ hf
          refine ⟨k, rfl, ?_⟩
          unfold inspeximuslaw09_LogCrash_l1.b at hf
          refine wpIn_seq ?_
          refine wpIn_seq ?_
          refine region_at ?_
          refine segN 4 (j := 4) [(37, .bool ((decide (y11163.2.1 < ((List.length (x1) : Nat) : Int)))))] hE (by kernel_rfl) rfl (fun a hE => ?_)
          refine at_end rfl ?_
          refine cond_split hE (b := (decide (y11163.2.1 < ((List.length (x1) : Nat) : Int)))) rfl (fun hb => ?_) (fun hb => ?_)
          · replace hf := cond_t hb hf
            clear hb
            refine wpIn_skip ?_
            refine wpIn_seq ?_
            refine wpIn_block ?_
            refine wpIn_seq ?_
            obtain ⟨j12486, hj12487, hf⟩ := jn_elim hf
            refine seq_join (fun a w => ∃ (y12387 : Bool × (List Int) × Int × T_log_at), ∃ (A12390 : Option Addr), ∃ (c12391 : Nat), ∃ (q12392 : Blk), ∃ (D12388 : Snap), Env a 151 [] [(0, .slice A2 (List.length (x1)) c3), (1, .slice A6 (List.length (x5)) c7), (2, .int .i64 (x9)), (7, .pointer (some ⟨b8387, 0, none⟩)), (8, .pointer (some ⟨b8399, 0, none⟩)), (11, .slice A11166 (List.length (y11163.1)) c11167), (12, .int .i64 (y11163.2.1)), (54, .bool (y12387.1))] ∧ Stp g w0 D0 [] w D12388 [bx b8387 72 (c_T_disk_Disk ((T_disk_Disk.mk (y12387.2.1) (y12387.2.2.1) (r8383.2.2))) A12390 c12391), bx b8399 64 ([.pointer (some ⟨b8387, 0, none⟩)] ++ ((c_T_log_at (y12387.2.2.2)))), q11168, q12392] ∧ Snap.le D11164 D12388 ∧ OwnL (kdInt .u8) 5 D12388 A12390 c12391 (y12387.2.1) q12392 ∧ j12486 y12387 = some s11864) ?_ ?_
            · clear hj12487
              refine region_at ?_
              refine segN 2 (j := 2) [(40, .slice A2 (List.length (x1)) c3), (41, .int .i64 (y11163.2.1))] hE (by kernel_rfl) rfl (fun a hE => ?_)
              obtain ⟨x12488, h12489, hf⟩ := bind_some hf
              refine at_op (op_tk hE (g_index (K := (kdSlice (kdInt .u8))) (e := 33) (by_ := 24) (zl := 1) rfl rfl rfl rfl hE rfl rfl rfl (by kernel_rfl) rfl (h4.mono (Snap.le.trans (Snap.le.trans (Snap.le.trans (Snap.le.trans le8374 le8382) le8394) le8411) le11165)) h12489 (fun a b12490 o12491 hE h12492 => ?_))) rfl
              obtain ⟨cs12493, C12494, T12495, fr12496, hr12497, hb12498, hc12499⟩ := h12492
              obtain ⟨A12500, c12501, rfl, h12502⟩ := hr12497
              refine at_op (op_tk hE (tk_loadX (off0 := o12491) (off := 0) (c := [.slice A12500 (List.length (x12488)) c12501]) (.slice A12500 (List.length (x12488)) c12501) rfl rfl rfl rfl hE rfl hS rfl hb12498 hc12499 (by kernel_rfl) (by kernel_rfl) (kD hS dn_nil) (fun a hE => ?_))) rfl
              refine segN 3 (j := 7) [(46, .bool ((decide ((200 : Int) < ((List.length (x12488) : Nat) : Int)))))] hE (by kernel_rfl) rfl (fun a hE => ?_)
              cases hb : (decide ((200 : Int) < ((List.length (x12488) : Nat) : Int)))
              · replace hf := cond_f hb hf
                have hE := hE.know (t := 46) (b := (decide ((200 : Int) < ((List.length (x12488) : Nat) : Int)))) (b' := false) rfl hb
                clear hb
                refine segN 3 (j := 10) [(47, .pointer (some ⟨b8399, 0, none⟩)), (48, .slice A2 (List.length (x1)) c3), (49, .int .i64 (y11163.2.1))] hE (by kernel_rfl) rfl (fun a hE => ?_)
                obtain ⟨x12503, h12504, hf⟩ := bind_some hf
                refine at_op (op_tk hE (g_index (K := (kdSlice (kdInt .u8))) (e := 33) (by_ := 24) (zl := 1) rfl rfl rfl rfl hE rfl rfl rfl (by kernel_rfl) rfl (h4.mono (Snap.le.trans (Snap.le.trans (Snap.le.trans (Snap.le.trans le8374 le8382) le8394) le8411) le11165)) h12504 (fun a b12505 o12506 hE h12507 => ?_))) rfl
                obtain ⟨cs12508, C12509, T12510, fr12511, hr12512, hb12513, hc12514⟩ := h12507
                obtain ⟨A12515, c12516, rfl, h12517⟩ := hr12512
                refine at_op (op_tk hE (tk_loadX (off0 := o12506) (off := 0) (c := [.slice A12515 (List.length (x12503)) c12516]) (.slice A12515 (List.length (x12503)) c12516) rfl rfl rfl rfl hE rfl hS rfl hb12513 hc12514 (by kernel_rfl) (by kernel_rfl) (kD hS dn_nil) (fun a hE => ?_))) rfl
                have hS := hS.pk (.c 1 rfl (.c 0 rfl (.c 3 rfl (.c 2 rfl .n)))) rfl
                obtain ⟨r12518, h12519, hf⟩ := bind_some hf
                refine at_op (op_call rfl rfl rfl rfl hE rfl rfl rfl rfl (by kernel_rfl) (log_Log_Append.calls (g := g) h12519 (hS.st.fore (L := [bx b8399 64 ([.pointer (some ⟨b8387, 0, none⟩)] ++ ((c_T_log_at (y11163.2.2.2.2)))), bx b8387 72 (c_T_disk_Disk ((T_disk_Disk.mk (y11163.2.2.1) (y11163.2.2.2.1) (r8383.2.2))) A11171 c11172), q11173])) h12517 h11174 (hG0.mono (Snap.le.trans (Snap.le.trans (Snap.le.trans (Snap.le.trans le8374 le8382) le8394) le8411) le11165)) (hG1.mono (Snap.le.trans (Snap.le.trans (Snap.le.trans (Snap.le.trans le8374 le8382) le8394) le8411) le11165))) (fun a v w hR hE => ?_)) rfl
                obtain ⟨D12520, A12522, c12523, q12524, rfl, hS1, h12525⟩ := hR
                have le12527 := hS1.dle
                have hS := hS.callR hS1 rfl (.c (.c (.c .n)))
                clear hS1
                refine segN 2 (j := 15) [(54, .bool ((!decide (r12518.1 = (0 : Int)))))] hE (by kernel_rfl) rfl (fun a hE => ?_)
                refine at_end rfl ?_
                have hS := hS.pk (.c 1 rfl (.c 0 rfl (.c 3 rfl (.c 2 rfl .n)))) rfl
                exact ⟨((!decide (r12518.1 = (0 : Int))), r12518.2.2.1, r12518.2.2.2, r12518.2.1), A12522, c12523, q12524, D12520, hE.weak (by kernel_rfl), hS, le12527, h12525, hf⟩
              · replace hf := cond_t hb hf
                have hE := hE.know (t := 46) (b := (decide ((200 : Int) < ((List.length (x12488) : Nat) : Int)))) (b' := true) rfl hb
                clear hb
                refine segN 8 (j := 15) [(54, .bool true)] hE (by kernel_rfl) rfl (fun a hE => ?_)
                refine at_end rfl ?_
                exact ⟨(true, y11163.2.2.1, y11163.2.2.2.1, y11163.2.2.2.2), A11171, c11172, q11173, D11164, hE.weak (by kernel_rfl), hS, Snap.le.refl _, h11174, hf⟩
            · clear hE hS
              rintro a w ⟨y12387, A12390, c12391, q12392, D12388, hE, hS, le12389, h12393, hf⟩
              replace hf := hj12487 _ hf
              clear hj12487
              refine cond_split hE (b := y12387.1) rfl (fun hb => ?_) (fun hb => ?_)
              · replace hf := cond_t hb hf
                clear hb
                refine wpIn_seq ?_
                refine region_at ?_
                refine segN 2 (j := 2) [(55, .slice A2 (List.length (x1)) c3), (56, .int .i64 (y11163.2.1))] hE (by kernel_rfl) rfl (fun a hE => ?_)
                obtain ⟨x12425, h12426, hf⟩ := bind_some hf
                refine at_op (op_tk hE (g_index (K := (kdSlice (kdInt .u8))) (e := 33) (by_ := 24) (zl := 1) rfl rfl rfl rfl hE rfl rfl rfl (by kernel_rfl) rfl (h4.mono (Snap.le.trans (Snap.le.trans (Snap.le.trans (Snap.le.trans (Snap.le.trans le8374 le8382) le8394) le8411) le11165) le12389)) h12426 (fun a b12427 o12428 hE h12429 => ?_))) rfl
                obtain ⟨cs12430, C12431, T12432, fr12433, hr12434, hb12435, hc12436⟩ := h12429
                obtain ⟨A12437, c12438, rfl, h12439⟩ := hr12434
                refine at_op (op_tk hE (tk_loadX (off0 := o12428) (off := 0) (c := [.slice A12437 (List.length (x12425)) c12438]) (.slice A12437 (List.length (x12425)) c12438) rfl rfl rfl rfl hE rfl hS rfl hb12435 hc12436 (by kernel_rfl) (by kernel_rfl) (kD hS dn_nil) (fun a hE => ?_))) rfl
                refine segN 3 (j := 7) [(61, .bool ((decide ((200 : Int) < ((List.length (x12425) : Nat) : Int)))))] hE (by kernel_rfl) rfl (fun a hE => ?_)
                cases hb : (decide ((200 : Int) < ((List.length (x12425) : Nat) : Int)))
                · replace hf := cond_f hb hf
                  have hE := hE.know (t := 61) (b := (decide ((200 : Int) < ((List.length (x12425) : Nat) : Int)))) (b' := false) rfl hb
                  clear hb
                  refine segN 2 (j := 9) [(62, .slice A2 (List.length (x1)) c3), (63, .int .i64 (y11163.2.1))] hE (by kernel_rfl) rfl (fun a hE => ?_)
                  obtain ⟨x12440, h12441, hf⟩ := bind_some hf
                  refine at_op (op_tk hE (g_index (K := (kdSlice (kdInt .u8))) (e := 33) (by_ := 24) (zl := 1) rfl rfl rfl rfl hE rfl rfl rfl (by kernel_rfl) rfl (h4.mono (Snap.le.trans (Snap.le.trans (Snap.le.trans (Snap.le.trans (Snap.le.trans le8374 le8382) le8394) le8411) le11165) le12389)) h12441 (fun a b12442 o12443 hE h12444 => ?_))) rfl
                  obtain ⟨cs12445, C12446, T12447, fr12448, hr12449, hb12450, hc12451⟩ := h12444
                  obtain ⟨A12452, c12453, rfl, h12454⟩ := hr12449
                  refine at_op (op_tk hE (tk_loadX (off0 := o12443) (off := 0) (c := [.slice A12452 (List.length (x12440)) c12453]) (.slice A12452 (List.length (x12440)) c12453) rfl rfl rfl rfl hE rfl hS rfl hb12450 hc12451 (by kernel_rfl) (by kernel_rfl) (kD hS dn_nil) (fun a hE => ?_))) rfl
                  refine segN 4 (j := 15) [(6, .bool ((decide (((List.length (x12440) : Nat) : Int) = (0 : Int)))))] hE (by kernel_rfl) rfl (fun a hE => ?_)
                  refine at_end rfl ?_
                  refine wpIn_ret ?_
                  obtain rfl := Option.some.inj hf
                  replace hf := hs11865
                  obtain rfl := Option.some.inj hf
                  repeat (with_reducible first | refine then_ret ?_ | refine block_ret ?_ | refine qx_ret ?_)
                  refine ret_gen ([.bool ((decide (((List.length (x12440) : Nat) : Int) = (0 : Int))))]) hE (by rw [show Tryd.f4.results.toList = [.tmp 6] from rfl]; exact ⟨_, _, rfl, rfl, rfl⟩) ?_
                  have hS := hS.pk .n rfl
                  exact ⟨_, rfl, D12388, rfl, hS⟩
                · replace hf := cond_t hb hf
                  have hE := hE.know (t := 61) (b := (decide ((200 : Int) < ((List.length (x12425) : Nat) : Int)))) (b' := true) rfl hb
                  clear hb
                  refine segN 8 (j := 15) [(6, .bool true)] hE (by kernel_rfl) rfl (fun a hE => ?_)
                  refine at_end rfl ?_
                  refine wpIn_ret ?_
                  obtain rfl := Option.some.inj hf
                  replace hf := hs11865
                  obtain rfl := Option.some.inj hf
                  repeat (with_reducible first | refine then_ret ?_ | refine block_ret ?_ | refine qx_ret ?_)
                  refine ret_gen ([.bool true]) hE (by rw [show Tryd.f4.results.toList = [.tmp 6] from rfl]; exact ⟨_, _, rfl, rfl, rfl⟩) ?_
                  have hS := hS.pk .n rfl
                  exact ⟨_, rfl, D12388, rfl, hS⟩
              · replace hf := cond_f hb hf
                clear hb
                refine wpIn_skip ?_
                refine region_at ?_
                refine segN 3 (j := 3) [(69, .slice A11166 (List.length (y11163.1)) c11167), (70, .slice A2 (List.length (x1)) c3), (71, .int .i64 (y11163.2.1))] hE (by kernel_rfl) rfl (fun a hE => ?_)
                obtain ⟨x12455, h12456, hf⟩ := bind_some hf
                refine at_op (op_tk hE (g_index (K := (kdSlice (kdInt .u8))) (e := 33) (by_ := 24) (zl := 1) rfl rfl rfl rfl hE rfl rfl rfl (by kernel_rfl) rfl (h4.mono (Snap.le.trans (Snap.le.trans (Snap.le.trans (Snap.le.trans (Snap.le.trans le8374 le8382) le8394) le8411) le11165) le12389)) h12456 (fun a b12457 o12458 hE h12459 => ?_))) rfl
                obtain ⟨cs12460, C12461, T12462, fr12463, hr12464, hb12465, hc12466⟩ := h12459
                obtain ⟨A12467, c12468, rfl, h12469⟩ := hr12464
                refine at_op (op_tk hE (tk_loadX (off0 := o12458) (off := 0) (c := [.slice A12467 (List.length (x12455)) c12468]) (.slice A12467 (List.length (x12455)) c12468) rfl rfl rfl rfl hE rfl hS rfl hb12465 hc12466 (by kernel_rfl) (by kernel_rfl) (kD hS dn_nil) (fun a hE => ?_))) rfl
                refine at_op (op_buildSlice (K := (kdSlice (kdInt .u8))) (e := 33) (cs := [.slice A12467 (List.length (x12455)) c12468] ++ []) ([x12455] : List (List Int)) rfl rfl rfl rfl hE rfl hS rfl (by kernel_rfl) rfl rfl (by exact (show RL (kdSlice (kdInt .u8)) D12388 ([x12455] : List (List Int)) ([.slice A12467 (List.length (x12455)) c12468] ++ []) from ⟨_, _, rfl, (kslice h12469), rfl⟩)) (fun a A12470 q12471 w _ hE h12472 hS => ?_)) rfl
                obtain ⟨D12474, q12477, le12475, hS, h12478, h12476⟩ := hS.lent h12472
                have hS := hS.pk (.c 3 rfl (.c 0 rfl (.c 1 rfl (.c 2 rfl (.c 4 rfl .n))))) rfl
                obtain ⟨l12479, h12480, hf⟩ := bind_some hf
                refine at_op (g_append (K := (kdSlice (kdInt .u8))) (e := 33) (bytes := 24) (l := y11163.1) (m := ([x12455] : List (List Int))) rfl rfl rfl rfl hE rfl hS rfl rfl (by kernel_rfl) rfl rfl (h11169.mono (Snap.le.trans le12389 le12475)) h12476 h12480 (fun a A12481 c12482 q12483 w _ hE h12484 hS => ?_)) rfl
                refine segN 1 (j := 8) [(11, .slice A12481 (List.length (l12479)) c12482)] hE (by kernel_rfl) rfl (fun a hE => ?_)
                refine at_end rfl ?_
                refine region_at ?_
                refine segN 3 (j := 3) [(12, .int .i64 ((IntKind.wrap .i64 (y11163.2.1 + (1 : Int)))))] hE (by kernel_rfl) rfl (fun a hE => ?_)
                refine at_end rfl ?_
                have hS := hS.pk (.c 2 rfl (.c 3 rfl (.c 0 rfl (.c 4 rfl .n)))) rfl
                exact ⟨(l12479, (IntKind.wrap .i64 (y11163.2.1 + (1 : Int))), y12387.2.1, y12387.2.2.1, y12387.2.2.2), A12481, c12482, q12483, A12390, c12391, q12392, D12474, hE.weak (by kernel_rfl), hS, (Snap.le.trans (Snap.le.trans le11165 le12389) le12475), h12484, (h12393.mono le12475), hf⟩
          · replace hf := cond_f hb hf
            clear hb
            refine wpIn_exit ?_
            obtain rfl := Option.some.inj hf
            exact ⟨(y11163.1, y11163.2.2.1, y11163.2.2.2.1, y11163.2.2.2.2), A11166, c11167, q11168, A11171, c11172, q11173, D11164, hE.weak (by kernel_rfl), hS, le11165, h11169, h11174, rfl⟩

end Go.Proofs.YthnfokfankaenaaDoor
