/-
  Proved, text by text: a call of a function of the cut comes to what its plain function computes.
  Conditions: those that each theorem names.
-/
import Derived.Test.YthnfokfankaenaaDoorProg
import Derived.Test.YthnfokfankaenaaDoorLLogTornW0
set_option linter.unusedVariables false
namespace Go.Proofs.YthnfokfankaenaaDoor
open Go Go.Sep

set_option maxRecDepth 100000 in
set_option maxHeartbeats 4000000 in
theorem log_read.calls {K : Nat} {g w0 : World} {D0 : Snap} {x1 : (List Int)} {x5 : Int} {x6 : T_log_at} {A2 : Option Addr} {c3 : Nat} {r : (T_log_entry × Bool)} (hf : log_read.f K x1 x5 x6 = some r) (hS0 : St g w0 D0 []) (h4 : Sl (kdInt .u8) D0 A2 c3 (x1)) (hG0 : Cell (kdArr .u32 8) D0 0 0 gl_First) (hG1 : Cell (kdArr .u32 64) D0 1 0 gl_K) :
    CallsIn (Fw none) 0 Tryd.prog 43 (List.toArray [.slice A2 (List.length (x1)) c3, .int .i64 (x5), .agg (List.toArray (c_T_log_at (x6)))]) w0 (fun e w' => ∃ v, e = .returned v ∧ ∃ (D1 : Snap) (A122 : Option Addr) (c123 : Nat), v = .tuple #[.agg (List.toArray (c_T_log_entry ((T_log_entry.mk (r.1.fB) ((T_log_at.mk (r.1.fEnd.fCount) (r.1.fEnd.fChain))) (r.1.fNext))) A122 c123)), .bool (r.2)] ∧ Stp g w0 D0 [] w' D1 [] ∧ Sl (kdInt .u8) D1 A122 c123 (r.1.fB)) := by
  unfold log_read.f at hf
  have hS := Stp.refl hS0
  clear hS0
  refine calls_body (n := 45) Tryd.func43 rfl Tryd.ntmps43 rfl (fun a hE => ?_)
  have hE : Env a 45 [] [(0, .slice A2 (List.length (x1)) c3), (1, .int .i64 (x5)), (2, .agg (List.toArray (c_T_log_at (x6))))] := hE
  refine wpIn_seq ?_
  refine region_at ?_
  refine at_op (op_box rfl rfl rfl rfl hE rfl hS rfl (fun a b125 w _ hE hS => ?_)) rfl
  refine at_op (op_alloc (z := .agg (List.toArray (c_T_log_entry (z_T_log_entry) none 0))) rfl rfl rfl rfl hE rfl hS (by kernel_rfl) (fun a b127 w _ hE hS => ?_)) rfl
  refine segN 1 (j := 3) [(7, .bool false)] hE (by kernel_rfl) rfl (fun a hE => ?_)
  refine at_end rfl ?_
  refine wpIn_seq ?_
  refine region_at ?_
  refine segN 2 (j := 2) [(11, .slice A2 (List.length (x1)) c3), (12, .int .i64 (x5))] hE (by kernel_rfl) rfl (fun a hE => ?_)
  obtain ⟨l129, h130, hf⟩ := bind_some hf
  refine at_op (op_tk hE (g_slice (K := (kdInt .u8)) (e := 5) (by_ := 1) (zl := 1) rfl rfl rfl rfl hE rfl rfl (by kernel_rfl) ⟨_, rfl⟩ rfl h4 h130 (fun a A131 c132 hE h133 => ?_))) rfl
  obtain ⟨r134, h135, hf⟩ := bind_some hf
  refine at_op (op_call rfl rfl rfl rfl hE rfl rfl rfl rfl (by kernel_rfl) (wire_Read.calls (g := g) h135 (hS.st.fore (L := [])) h133) (fun a v w hR hE => ?_)) rfl
  obtain ⟨D136, b138, A140, c141, rfl, hS1, h142⟩ := hR
  have le143 := hS1.dle
  have hS := hS.callR hS1 rfl (.c .n)
  clear hS1
  refine segN 1 (j := 5) [(8, .pointer (some ⟨b138, 0, none⟩))] hE (by kernel_rfl) rfl (fun a hE => ?_)
  refine at_end rfl ?_
  refine wpIn_seq ?_
  refine region_at ?_
  refine segN 1 (j := 1) [(15, .pointer (some ⟨b138, 0, none⟩))] hE (by kernel_rfl) rfl (fun a hE => ?_)
  obtain ⟨r144, h145, hf⟩ := bind_some hf
  refine at_op (op_call rfl rfl rfl rfl hE rfl rfl rfl rfl (by kernel_rfl) (wire_Reader_Bytes.calls (g := g) h145 (hS.st.fore (L := [bx b138 102 (c_T_wire_Reader (r134) A140 c141)])) h142) (fun a v w hR hE => ?_)) rfl
  obtain ⟨D146, A148, c149, q150, A153, c154, rfl, hS1, h151, h155⟩ := hR
  have le156 := hS1.dle
  have hS := hS.callR hS1 rfl (.c (.c .n))
  clear hS1
  refine segN 1 (j := 3) [(9, .slice A148 (List.length (r144.1)) c149)] hE (by kernel_rfl) rfl (fun a hE => ?_)
  refine at_end rfl ?_
  refine wpIn_seq ?_
  obtain ⟨j233, hj234, hf⟩ := jn_elim hf
  refine seq_join (fun a w => ∃ (y177 : Bool), ∃ (D178 : Snap), Env a 45 [] [(0, .slice A2 (List.length (x1)) c3), (1, .int .i64 (x5)), (5, .pointer (some ⟨b125, 0, none⟩)), (6, .pointer (some ⟨b127, 0, none⟩)), (9, .slice A148 (List.length (r144.1)) c149), (24, .bool (y177))] ∧ Stp g w0 D0 [] w D178 [bx b125 62 (c_T_log_at (x6)), bx b127 69 (c_T_log_entry (z_T_log_entry) none 0), q150] ∧ Snap.le D146 D178 ∧ j233 y177 = some r) ?_ ?_
  · clear hj234
    refine region_at ?_
    refine segN 1 (j := 1) [(17, .pointer (some ⟨b138, 0, none⟩))] hE (by kernel_rfl) rfl (fun a hE => ?_)
    obtain ⟨r235, h236, hf⟩ := bind_some hf
    refine at_op (op_call rfl rfl rfl rfl hE rfl rfl rfl rfl (by kernel_rfl) (wire_Reader_Bad.calls (g := g) h236 (hS.st.fore (L := [bx b138 102 (c_T_wire_Reader (r144.2) A153 c154)])) h155) (fun a v w hR hE => ?_)) rfl
    obtain ⟨D237, rfl, hS1⟩ := hR
    have le239 := hS1.dle
    have hS := hS.callR hS1 rfl (.c .n)
    clear hS1
    refine segN 2 (j := 4) [(20, .bool ((!decide (r235 = (0 : Int)))))] hE (by kernel_rfl) rfl (fun a hE => ?_)
    cases hb : (!decide (r235 = (0 : Int)))
    · replace hf := cond_f hb hf
      have hE := hE.know (t := 20) (b := (!decide (r235 = (0 : Int)))) (b' := false) rfl hb
      clear hb
      refine segN 4 (j := 8) [(24, .bool ((decide (((List.length (r144.1) : Nat) : Int) = (0 : Int)))))] hE (by kernel_rfl) rfl (fun a hE => ?_)
      refine at_end rfl ?_
      have hS := hS.pk (.c 3 rfl (.c 2 rfl (.c 1 rfl .n))) rfl
      exact ⟨(decide (((List.length (r144.1) : Nat) : Int) = (0 : Int))), D237, hE.weak (by kernel_rfl), hS, le239, hf⟩
    · replace hf := cond_t hb hf
      have hE := hE.know (t := 20) (b := (!decide (r235 = (0 : Int)))) (b' := true) rfl hb
      clear hb
      refine segN 4 (j := 8) [(24, .bool true)] hE (by kernel_rfl) rfl (fun a hE => ?_)
      refine at_end rfl ?_
      have hS := hS.pk (.c 3 rfl (.c 2 rfl (.c 1 rfl .n))) rfl
      exact ⟨true, D237, hE.weak (by kernel_rfl), hS, le239, hf⟩
  · clear hE hS
    rintro a w ⟨y177, D178, hE, hS, le179, hf⟩
    replace hf := hj234 _ hf
    clear hj234
    refine cond_split hE (b := y177) rfl (fun hb => ?_) (fun hb => ?_)
    · replace hf := cond_t hb hf
      clear hb
      refine wpIn_seq ?_
      refine region_at ?_
      refine at_op (op_tk hE (tk_build (c_T_log_entry (z_T_log_entry) none 0) rfl rfl rfl rfl hE rfl rfl (by kernel_rfl) (fun a hE => ?_))) rfl
      have hS := hS.pk (.c 1 rfl (.c 0 rfl (.c 2 rfl .n))) rfl
      refine at_op (op_store (v := .agg (List.toArray (c_T_log_entry (z_T_log_entry) none 0))) (c_T_log_entry (z_T_log_entry) none 0) rfl rfl rfl rfl hE hS rfl rfl (by kernel_rfl) (by kernel_rfl) (by kernel_rfl) (by kernel_rfl) (by kernel_rfl) (fun a w _ hE hS => ?_)) rfl
      refine segN 1 (j := 3) [(7, .bool false)] hE (by kernel_rfl) rfl (fun a hE => ?_)
      refine at_end rfl ?_
      refine wpIn_ret ?_
      obtain rfl := Option.some.inj hf
      repeat (with_reducible first | refine then_ret ?_ | refine block_ret ?_ | refine qx_ret ?_)
      refine ret_gen ([.agg (List.toArray (c_T_log_entry (z_T_log_entry) none 0)), .bool false]) hE (by rw [show Tryd.f43.results.toList = [.cell 6 69, .tmp 7] from rfl]; exact ⟨_, _, _, 0, _, _, rfl, rfl, hS.heapAt (j := 0) rfl, by kernel_rfl, ⟨_, _, rfl, rfl, rfl⟩⟩) ?_
      have hS := hS.pk .n rfl
      exact ⟨_, rfl, D178, none, 0, rfl, hS, (Sl.nil (kdInt .u8) D178)⟩
    · replace hf := cond_f hb hf
      clear hb
      refine wpIn_skip ?_
      refine wpIn_seq ?_
      refine region_at ?_
      refine at_op (op_tk hE (tk_load 0 (.agg (List.toArray (c_T_log_at (x6)))) rfl rfl rfl rfl hE rfl hS rfl rfl (by kernel_rfl) (kL (j := 0) hS rfl List.not_mem_nil) (fun a hE => ?_))) rfl
      refine segN 1 (j := 2) [(27, .slice A148 (List.length (r144.1)) c149)] hE (by kernel_rfl) rfl (fun a hE => ?_)
      have hS := hS.pk (.c 2 rfl (.c 0 rfl (.c 1 rfl .n))) rfl
      obtain ⟨D180, q183, le181, hS, h184, h182⟩ := hS.lent (h151.mono le179)
      obtain ⟨r185, h186, hf⟩ := bind_some hf
      refine at_op (op_call rfl rfl rfl rfl hE rfl rfl rfl rfl (by kernel_rfl) (log_at_laid.calls (g := g) h186 (hS.st.fore (L := [])) h182 (hG0.mono (Snap.le.trans (Snap.le.trans (Snap.le.trans le143 le156) le179) le181)) (hG1.mono (Snap.le.trans (Snap.le.trans (Snap.le.trans le143 le156) le179) le181))) (fun a v w hR hE => ?_)) rfl
      obtain ⟨D187, A189, c190, q191, rfl, hS1, h192⟩ := hR
      have le194 := hS1.dle
      have hS := hS.callR hS1 rfl (.c .n)
      clear hS1
      refine segN 1 (j := 4) [(10, .slice A189 (List.length (r185)) c190)] hE (by kernel_rfl) rfl (fun a hE => ?_)
      refine at_end rfl ?_
      refine wpIn_seq ?_
      refine wpIn_seq ?_
      refine region_at ?_
      refine segN 2 (j := 2) [(29, .slice A2 (List.length (x1)) c3), (30, .int .i64 (x5))] hE (by kernel_rfl) rfl (fun a hE => ?_)
      obtain ⟨l210, h211, hf⟩ := bind_some hf
      refine at_op (op_tk hE (g_slice (K := (kdInt .u8)) (e := 5) (by_ := 1) (zl := 1) rfl rfl rfl rfl hE rfl rfl (by kernel_rfl) ⟨_, rfl⟩ rfl (h4.mono (Snap.le.trans (Snap.le.trans (Snap.le.trans (Snap.le.trans le143 le156) le179) le181) le194)) h211 (fun a A212 c213 hE h214 => ?_))) rfl
      refine segN 1 (j := 4) [(32, .slice A189 (List.length (r185)) c190)] hE (by kernel_rfl) rfl (fun a hE => ?_)
      obtain ⟨D215, q218, le216, hS, h219, h217⟩ := hS.lent h192
      obtain ⟨r220, h221, hf⟩ := bind_some hf
      refine at_op (op_call rfl rfl rfl rfl hE rfl rfl rfl rfl (by kernel_rfl) (bytes_HasPrefix.calls (g := g) h221 (hS.st.fore (L := [])) (h214.mono le216) h217) (fun a v w hR hE => ?_)) rfl
      obtain ⟨D222, rfl, hS1⟩ := hR
      have le224 := hS1.dle
      have hS := hS.callR hS1 rfl .n
      clear hS1
      refine segN 1 (j := 6) [(34, .bool ((!r220)))] hE (by kernel_rfl) rfl (fun a hE => ?_)
      refine at_end rfl ?_
      refine cond_split hE (b := (!r220)) rfl (fun hb => ?_) (fun hb => ?_)
      · replace hf := cond_t hb hf
        clear hb
        refine wpIn_seq ?_
        refine region_at ?_
        refine at_op (op_tk hE (tk_build (c_T_log_entry (z_T_log_entry) none 0) rfl rfl rfl rfl hE rfl rfl (by kernel_rfl) (fun a hE => ?_))) rfl
        have hS := hS.pk (.c 3 rfl (.c 0 rfl (.c 1 rfl (.c 2 rfl .n)))) rfl
        refine at_op (op_store (v := .agg (List.toArray (c_T_log_entry (z_T_log_entry) none 0))) (c_T_log_entry (z_T_log_entry) none 0) rfl rfl rfl rfl hE hS rfl rfl (by kernel_rfl) (by kernel_rfl) (by kernel_rfl) (by kernel_rfl) (by kernel_rfl) (fun a w _ hE hS => ?_)) rfl
        refine segN 1 (j := 3) [(7, .bool false)] hE (by kernel_rfl) rfl (fun a hE => ?_)
        refine at_end rfl ?_
        refine wpIn_ret ?_
        obtain rfl := Option.some.inj hf
        repeat (with_reducible first | refine then_ret ?_ | refine block_ret ?_ | refine qx_ret ?_)
        refine ret_gen ([.agg (List.toArray (c_T_log_entry (z_T_log_entry) none 0)), .bool false]) hE (by rw [show Tryd.f43.results.toList = [.cell 6 69, .tmp 7] from rfl]; exact ⟨_, _, _, 0, _, _, rfl, rfl, hS.heapAt (j := 0) rfl, by kernel_rfl, ⟨_, _, rfl, rfl, rfl⟩⟩) ?_
        have hS := hS.pk .n rfl
        exact ⟨_, rfl, D222, none, 0, rfl, hS, (Sl.nil (kdInt .u8) D222)⟩
      · replace hf := cond_f hb hf
        clear hb
        refine wpIn_skip ?_
        refine wpIn_seq ?_
        refine region_at ?_
        refine segN 1 (j := 1) [(36, .slice A148 (List.length (r144.1)) c149)] hE (by kernel_rfl) rfl (fun a hE => ?_)
        refine at_op (op_tk hE (tk_load 2 (.agg (List.toArray (c_T_log_at (x6)))) rfl rfl rfl rfl hE rfl hS rfl rfl (by kernel_rfl) (kL (j := 2) hS rfl List.not_mem_nil) (fun a hE => ?_))) rfl
        refine segN 1 (j := 3) [(38, .slice A148 (List.length (r144.1)) c149)] hE (by kernel_rfl) rfl (fun a hE => ?_)
        obtain ⟨r225, h226, hf⟩ := bind_some hf
        refine at_op (op_call rfl rfl rfl rfl hE rfl rfl rfl rfl (by kernel_rfl) (log_at_behind.calls (g := g) h226 (hS.st.fore (L := [])) (h182.mono (Snap.le.trans (Snap.le.trans le194 le216) le224)) (hG0.mono (Snap.le.trans (Snap.le.trans (Snap.le.trans (Snap.le.trans (Snap.le.trans (Snap.le.trans le143 le156) le179) le181) le194) le216) le224)) (hG1.mono (Snap.le.trans (Snap.le.trans (Snap.le.trans (Snap.le.trans (Snap.le.trans (Snap.le.trans le143 le156) le179) le181) le194) le216) le224))) (fun a v w hR hE => ?_)) rfl
        obtain ⟨D227, rfl, hS1⟩ := hR
        have le229 := hS1.dle
        have hS := hS.callR hS1 rfl .n
        clear hS1
        refine segN 4 (j := 8) [(43, .int .i64 ((IntKind.wrap .i64 (x5 + ((List.length (r185) : Nat) : Int)))))] hE (by kernel_rfl) rfl (fun a hE => ?_)
        refine at_op (op_tk hE (tk_build (c_T_log_entry ((T_log_entry.mk (r144.1) (r225) ((IntKind.wrap .i64 (x5 + ((List.length (r185) : Nat) : Int)))))) A148 c149) rfl rfl rfl rfl hE rfl rfl (by kernel_rfl) (fun a hE => ?_))) rfl
        have hS := hS.pk (.c 3 rfl (.c 0 rfl (.c 1 rfl (.c 2 rfl .n)))) rfl
        obtain ⟨v230, hv231, hf⟩ := bind_some hf
        replace hv231 := Option.some.inj hv231
        refine at_op (op_store (v := .agg (List.toArray (c_T_log_entry ((T_log_entry.mk (r144.1) (r225) ((IntKind.wrap .i64 (x5 + ((List.length (r185) : Nat) : Int)))))) A148 c149))) (c_T_log_entry (v230) A148 c149) rfl rfl rfl rfl hE hS rfl rfl (by kernel_rfl) (by kernel_rfl) (by kernel_rfl) (by kernel_rfl) (by rw [← hv231]; kernel_rfl) (fun a w _ hE hS => ?_)) rfl
        have h232 : Sl (kdInt .u8) D180 A148 c149 (v230.fB) := by rw [← hv231]; exact h182
        refine segN 1 (j := 11) [(7, .bool true)] hE (by kernel_rfl) rfl (fun a hE => ?_)
        refine at_end rfl ?_
        refine wpIn_ret ?_
        obtain rfl := Option.some.inj hf
        repeat (with_reducible first | refine then_ret ?_ | refine block_ret ?_ | refine qx_ret ?_)
        refine ret_gen ([.agg (List.toArray (c_T_log_entry (v230) A148 c149)), .bool true]) hE (by rw [show Tryd.f43.results.toList = [.cell 6 69, .tmp 7] from rfl]; exact ⟨_, _, _, 0, _, _, rfl, rfl, hS.heapAt (j := 0) rfl, by kernel_rfl, ⟨_, _, rfl, rfl, rfl⟩⟩) ?_
        have hS := hS.pk .n rfl
        exact ⟨_, rfl, D227, A148, c149, rfl, hS, (h232.mono (Snap.le.trans (Snap.le.trans (Snap.le.trans le194 le216) le224) le229))⟩

set_option maxRecDepth 100000 in
set_option maxHeartbeats 4000000 in
theorem disk_Disk_leave.calls {K : Nat} {g w0 : World} {D0 : Snap} {x3 : Int} {x4 : (List Int)} {x10 : Int} {x11 : Int} {b1 : Nat} {A5 : Option Addr} {c6 : Nat} {q7 : Blk} {r : ((List Int) × Int)} (hf : disk_Disk_leave.f K x3 x4 x10 x11 = some r) (hS0 : St g w0 D0 [bx b1 72 (c_T_disk_Disk ((T_disk_Disk.mk (x4) (x10) (x11))) A5 c6), q7]) (h8 : OwnL (kdInt .u8) 5 D0 A5 c6 (x4) q7) :
    CallsIn (Fw none) 0 Tryd.prog 39 (List.toArray [.pointer (some ⟨b1, 0, none⟩), .int .i64 (x3)]) w0 (fun e w' => ∃ v, e = .returned v ∧ ∃ (D1 : Snap) (A23 : Option Addr) (c24 : Nat) (q25 : Blk), v = .tuple #[] ∧ Stp g w0 D0 [bx b1 72 (c_T_disk_Disk ((T_disk_Disk.mk (x4) (x10) (x11))) A5 c6), q7] w' D1 [bx b1 72 (c_T_disk_Disk ((T_disk_Disk.mk (r.1) (r.2) (x11))) A23 c24), q25] ∧ OwnL (kdInt .u8) 5 D1 A23 c24 (r.1) q25) := by
  unfold disk_Disk_leave.f at hf
  have hS := Stp.refl hS0
  clear hS0
  refine calls_body (n := 18) Tryd.func39 rfl Tryd.ntmps39 rfl (fun a hE => ?_)
  have hE : Env a 18 [] [(0, .pointer (some ⟨b1, 0, none⟩)), (1, .int .i64 (x3))] := hE
  refine wpIn_seq ?_
  refine region_at ?_
  refine segN 3 (j := 3) [(4, .pointer (some ⟨b1, 0, none⟩)), (6, .pointer (some ⟨b1, 0, none⟩))] hE (by kernel_rfl) rfl (fun a hE => ?_)
  refine at_op (op_tk hE (g_fieldAddr (fo := 0) (ft := 33) 0 rfl rfl rfl rfl hE rfl rfl (by kernel_rfl) rfl (fun a hE => ?_))) rfl
  refine at_op (op_tk hE (tk_load 0 (.slice A5 (List.length (x4)) c6) rfl rfl rfl rfl hE rfl hS rfl rfl (by kernel_rfl) (kL (j := 0) hS rfl List.not_mem_nil) (fun a hE => ?_))) rfl
  refine segN 2 (j := 7) [(9, .int .i64 (x3)), (10, .int .i64 (x3))] hE (by kernel_rfl) rfl (fun a hE => ?_)
  have hS := hS.pk (.c 1 rfl (.c 0 rfl .n)) rfl
  obtain ⟨D28, q31, le29, hS, h32, h30⟩ := hS.lent h8
  obtain ⟨l33, h34, hf⟩ := bind_some hf
  refine at_op (op_tk hE (tk_sliceFull (K := (kdInt .u8)) (e := 5) (by_ := 1) (zl0 := 1) rfl rfl rfl rfl hE rfl rfl (by kernel_rfl) rfl rfl rfl h30 h34 (fun a A35 hE h36 => ?_))) rfl
  have h38 := OwnL.full 5 h36 rfl
  have hS := hS.nils
  refine segN 1 (j := 9) [(12, .pointer (some ⟨b1, 0, none⟩))] hE (by kernel_rfl) rfl (fun a hE => ?_)
  refine at_op (op_tk hE (g_fieldAddr (fo := 0) (ft := 33) 0 rfl rfl rfl rfl hE rfl rfl (by kernel_rfl) rfl (fun a hE => ?_))) rfl
  have hS := hS.pk (.c 2 rfl (.c 0 rfl (.c 1 rfl .n))) rfl
  refine at_op (op_store (v := .slice A35 (List.length (l33)) (List.length (l33))) (c_T_disk_Disk ((T_disk_Disk.mk (l33) (x10) (x11))) A35 ((List.length (l33)))) rfl rfl rfl rfl hE hS rfl rfl (by kernel_rfl) (by kernel_rfl) (by kernel_rfl) (by kernel_rfl) (by kernel_rfl) (fun a w _ hE hS => ?_)) rfl
  refine at_end rfl ?_
  refine region_at ?_
  refine segN 3 (j := 3) [(15, .int .i64 (x3)), (16, .pointer (some ⟨b1, 0, none⟩))] hE (by kernel_rfl) rfl (fun a hE => ?_)
  refine at_op (op_tk hE (g_fieldAddr (fo := 1) (ft := 3) 1 rfl rfl rfl rfl hE rfl rfl (by kernel_rfl) rfl (fun a hE => ?_))) rfl
  refine at_op (op_store (v := .int .i64 (x3)) (c_T_disk_Disk ((T_disk_Disk.mk (l33) (x3) (x11))) A35 ((List.length (l33)))) rfl rfl rfl rfl hE hS rfl rfl (by kernel_rfl) (by kernel_rfl) (by kernel_rfl) (by kernel_rfl) (by kernel_rfl) (fun a w _ hE hS => ?_)) rfl
  refine at_end rfl ?_
  obtain rfl := Option.some.inj hf
  repeat (with_reducible first | refine then_ret ?_ | refine block_ret ?_ | refine qx_ret ?_)
  refine ret_genN ([]) hE (by rw [show Tryd.f39.results.toList = [] from rfl]; exact rfl) ?_
  have hS := hS.pk (.c 0 rfl (.c 1 rfl .n)) rfl
  exact ⟨_, rfl, D28, A35, (List.length (l33)), none, rfl, hS, h38⟩

set_option maxRecDepth 100000 in
set_option maxHeartbeats 4000000 in
theorem disk_Disk_Cut.calls {K : Nat} {g w0 : World} {D0 : Snap} {x3 : Int} {x4 : (List Int)} {x10 : Int} {x11 : Int} {b1 : Nat} {A5 : Option Addr} {c6 : Nat} {q7 : Blk} {r : (Int × (List Int) × Int)} (hf : disk_Disk_Cut.f K x3 x4 x10 x11 = some r) (hS0 : St g w0 D0 [bx b1 72 (c_T_disk_Disk ((T_disk_Disk.mk (x4) (x10) (x11))) A5 c6), q7]) (h8 : OwnL (kdInt .u8) 5 D0 A5 c6 (x4) q7) :
    CallsIn (Fw none) 0 Tryd.prog 32 (List.toArray [.pointer (some ⟨b1, 0, none⟩), .int .i64 (x3)]) w0 (fun e w' => ∃ v, e = .returned v ∧ ∃ (D1 : Snap) (A32 : Option Addr) (c33 : Nat) (q34 : Blk), v = .int .i64 (r.1) ∧ Stp g w0 D0 [bx b1 72 (c_T_disk_Disk ((T_disk_Disk.mk (x4) (x10) (x11))) A5 c6), q7] w' D1 [bx b1 72 (c_T_disk_Disk ((T_disk_Disk.mk (r.2.1) (r.2.2) (x11))) A32 c33), q34] ∧ OwnL (kdInt .u8) 5 D1 A32 c33 (r.2.1) q34) := by
  unfold disk_Disk_Cut.f at hf
  have hS := Stp.refl hS0
  clear hS0
  refine calls_body (n := 23) Tryd.func32 rfl Tryd.ntmps32 rfl (fun a hE => ?_)
  have hE : Env a 23 [] [(0, .pointer (some ⟨b1, 0, none⟩)), (1, .int .i64 (x3))] := hE
  refine wpIn_seq ?_
  refine region_at ?_
  refine segN 1 (j := 1) [(4, .int .i64 ((0 : Int)))] hE (by kernel_rfl) rfl (fun a hE => ?_)
  refine at_end rfl ?_
  refine wpIn_seq ?_
  obtain ⟨j55, hj56, hf⟩ := jn_elim hf
  refine seq_join (fun a w => ∃ (y42 : Bool), ∃ (D43 : Snap), Env a 23 [] [(0, .pointer (some ⟨b1, 0, none⟩)), (1, .int .i64 (x3)), (19, .bool (y42))] ∧ Stp g w0 D0 [bx b1 72 (c_T_disk_Disk ((T_disk_Disk.mk (x4) (x10) (x11))) A5 c6), q7] w D43 [bx b1 72 (c_T_disk_Disk ((T_disk_Disk.mk (x4) (x10) (x11))) A5 c6), q7] ∧ Snap.le D0 D43 ∧ j55 y42 = some r) ?_ ?_
  · clear hj56
    refine region_at ?_
    refine segN 1 (j := 1) [(5, .pointer (some ⟨b1, 0, none⟩))] hE (by kernel_rfl) rfl (fun a hE => ?_)
    refine at_op (op_tk hE (tk_bin (r := .bool false) rfl rfl rfl rfl hE rfl rfl rfl (eqptr_run (by kernel_rfl) _) (fun a hE => ?_))) rfl
    refine segN 5 (j := 7) [(11, .bool ((decide (x3 < (0 : Int)))))] hE (by kernel_rfl) rfl (fun a hE => ?_)
    cases hb : (decide (x3 < (0 : Int)))
    · replace hf := cond_f hb hf
      have hE := hE.know (t := 11) (b := (decide (x3 < (0 : Int)))) (b' := false) rfl hb
      clear hb
      refine segN 3 (j := 10) [(12, .int .i64 (x3)), (14, .pointer (some ⟨b1, 0, none⟩))] hE (by kernel_rfl) rfl (fun a hE => ?_)
      refine at_op (op_tk hE (g_fieldAddr (fo := 0) (ft := 33) 0 rfl rfl rfl rfl hE rfl rfl (by kernel_rfl) rfl (fun a hE => ?_))) rfl
      refine at_op (op_tk hE (tk_load 0 (.slice A5 (List.length (x4)) c6) rfl rfl rfl rfl hE rfl hS rfl rfl (by kernel_rfl) (kL (j := 0) hS rfl List.not_mem_nil) (fun a hE => ?_))) rfl
      refine segN 3 (j := 15) [(19, .bool ((decide (((List.length (x4) : Nat) : Int) < x3))))] hE (by kernel_rfl) rfl (fun a hE => ?_)
      refine at_end rfl ?_
      exact ⟨(decide (((List.length (x4) : Nat) : Int) < x3)), D0, hE.weak (by kernel_rfl), hS, Snap.le.refl _, hf⟩
    · replace hf := cond_t hb hf
      have hE := hE.know (t := 11) (b := (decide (x3 < (0 : Int)))) (b' := true) rfl hb
      clear hb
      refine segN 8 (j := 15) [(19, .bool true)] hE (by kernel_rfl) rfl (fun a hE => ?_)
      refine at_end rfl ?_
      exact ⟨true, D0, hE.weak (by kernel_rfl), hS, Snap.le.refl _, hf⟩
  · clear hE hS
    rintro a w ⟨y42, D43, hE, hS, le44, hf⟩
    replace hf := hj56 _ hf
    clear hj56
    refine cond_split hE (b := y42) rfl (fun hb => ?_) (fun hb => ?_)
    · replace hf := cond_t hb hf
      clear hb
      refine wpIn_seq ?_
      refine region_at ?_
      refine segN 1 (j := 1) [(4, .int .i64 ((1 : Int)))] hE (by kernel_rfl) rfl (fun a hE => ?_)
      refine at_end rfl ?_
      refine wpIn_ret ?_
      obtain rfl := Option.some.inj hf
      repeat (with_reducible first | refine then_ret ?_ | refine block_ret ?_ | refine qx_ret ?_)
      refine ret_gen ([.int .i64 ((1 : Int))]) hE (by rw [show Tryd.f32.results.toList = [.tmp 4] from rfl]; exact ⟨_, _, rfl, rfl, rfl⟩) ?_
      exact ⟨_, rfl, D43, A5, c6, q7, rfl, hS, (h8.mono le44)⟩
    · replace hf := cond_f hb hf
      clear hb
      refine wpIn_skip ?_
      refine wpIn_seq ?_
      refine region_at ?_
      refine segN 2 (j := 2) [(20, .pointer (some ⟨b1, 0, none⟩)), (21, .int .i64 (x3))] hE (by kernel_rfl) rfl (fun a hE => ?_)
      obtain ⟨r45, h46, hf⟩ := bind_some hf
      refine at_op (op_call rfl rfl rfl rfl hE rfl rfl rfl rfl (by kernel_rfl) (disk_Disk_leave.calls (g := g) h46 (hS.st.fore (L := [bx b1 72 (c_T_disk_Disk ((T_disk_Disk.mk (x4) (x10) (x11))) A5 c6), q7])) (h8.mono le44)) (fun a v w hR hE => ?_)) rfl
      obtain ⟨D47, A49, c50, q51, rfl, hS1, h52⟩ := hR
      have le54 := hS1.dle
      have hS := hS.callR hS1 rfl (.c (.c .n))
      clear hS1
      refine at_end rfl ?_
      refine wpIn_seq ?_
      refine region_at ?_
      refine segN 1 (j := 1) [(4, .int .i64 ((0 : Int)))] hE (by kernel_rfl) rfl (fun a hE => ?_)
      refine at_end rfl ?_
      refine wpIn_ret ?_
      obtain rfl := Option.some.inj hf
      repeat (with_reducible first | refine then_ret ?_ | refine block_ret ?_ | refine qx_ret ?_)
      refine ret_gen ([.int .i64 ((0 : Int))]) hE (by rw [show Tryd.f32.results.toList = [.tmp 4] from rfl]; exact ⟨_, _, rfl, rfl, rfl⟩) ?_
      exact ⟨_, rfl, D47, A49, c50, q51, rfl, hS, h52⟩

set_option maxRecDepth 100000 in
set_option maxHeartbeats 4000000 in
theorem log_Open.calls {K : Nat} {g w0 : World} {D0 : Snap} {x3 : (List Int)} {x9 : Int} {x10 : Int} {b1 : Nat} {A4 : Option Addr} {c5 : Nat} {q6 : Blk} {r : ((List (List Int)) × Int × (List Int) × Int × T_log_at)} (hf : log_Open.f K x3 x9 x10 = some r) (hS0 : St g w0 D0 [bx b1 72 (c_T_disk_Disk ((T_disk_Disk.mk (x3) (x9) (x10))) A4 c5), q6]) (h7 : OwnL (kdInt .u8) 5 D0 A4 c5 (x3) q6) (hG0 : Cell (kdArr .u32 8) D0 0 0 gl_First) (hG1 : Cell (kdArr .u32 64) D0 1 0 gl_K) :
    CallsIn (Fw none) 0 Tryd.prog 11 (List.toArray [.pointer (some ⟨b1, 0, none⟩)]) w0 (fun e w' => ∃ v, e = .returned v ∧ ∃ (D1 : Snap) (b1225 : Nat) (A1227 : Option Addr) (c1228 : Nat) (q1229 : Blk) (A1232 : Option Addr) (c1233 : Nat) (q1234 : Blk), v = .tuple #[.pointer (some ⟨b1225, 0, none⟩), .slice A1227 (List.length (r.1)) c1228, .int .i64 (r.2.1)] ∧ Stp g w0 D0 [bx b1 72 (c_T_disk_Disk ((T_disk_Disk.mk (x3) (x9) (x10))) A4 c5), q6] w' D1 [bx b1 72 (c_T_disk_Disk ((T_disk_Disk.mk (r.2.2.1) (r.2.2.2.1) (x10))) A1232 c1233), bx b1225 64 ([.pointer (some ⟨b1, 0, none⟩)] ++ ((c_T_log_at ((T_log_at.mk (r.2.2.2.2.fCount) (r.2.2.2.2.fChain)))))), q1229, q1234] ∧ OwnL (kdSlice (kdInt .u8)) 33 D1 A1227 c1228 (r.1) q1229 ∧ OwnL (kdInt .u8) 5 D1 A1232 c1233 (r.2.2.1) q1234) := by
  unfold log_Open.f at hf
  have hS := Stp.refl hS0
  clear hS0
  refine calls_bodyM (n := 35) Tryd.func11 rfl Tryd.ntmps11 rfl (fun a hE => ?_)
  have hE : Env a 35 [] [(0, .pointer (some ⟨b1, 0, none⟩))] := hE
  refine wpIn_seq ?_
  refine region_at ?_
  refine segN 3 (j := 3) [(2, .pointer none), (3, .slice none 0 0), (4, .int .i64 ((0 : Int)))] hE (by kernel_rfl) rfl (fun a hE => ?_)
  refine at_end rfl ?_
  refine wpIn_seq ?_
  refine wpIn_seq ?_
  refine region_at ?_
  refine segN 1 (j := 1) [(9, .pointer (some ⟨b1, 0, none⟩))] hE (by kernel_rfl) rfl (fun a hE => ?_)
  refine at_op (op_tk hE (tk_bin (r := .bool false) rfl rfl rfl rfl hE rfl rfl rfl (eqptr_run (by kernel_rfl) _) (fun a hE => ?_))) rfl
  refine at_end rfl ?_
  refine wpIn_cond_false (hE.eval rfl) ?_
  refine wpIn_skip ?_
  refine wpIn_seq ?_
  refine region_at ?_
  refine segN 1 (j := 1) [(11, .pointer (some ⟨b1, 0, none⟩))] hE (by kernel_rfl) rfl (fun a hE => ?_)
  refine at_op (op_tk hE (tk_build ([.pointer (some ⟨b1, 0, none⟩)] ++ ((c_T_log_at ((T_log_at.mk ((0 : Int)) ((Vector.replicate 32 (0 : Int)))))))) rfl rfl rfl rfl hE rfl rfl (by kernel_rfl) (fun a hE => ?_))) rfl
  refine at_op (op_box rfl rfl rfl rfl hE rfl hS rfl (fun a b1237 w _ hE hS => ?_)) rfl
  refine at_op (op_alloc (z := .pointer none) rfl rfl rfl rfl hE rfl hS (by kernel_rfl) (fun a b1239 w _ hE hS => ?_)) rfl
  refine at_op (op_store (v := .pointer (some ⟨b1237, 0, none⟩)) ([.pointer (some ⟨b1237, 0, none⟩)]) rfl rfl rfl rfl hE hS rfl rfl (by kernel_rfl) (by kernel_rfl) (by kernel_rfl) (by kernel_rfl) (by kernel_rfl) (fun a w _ hE hS => ?_)) rfl
  refine at_end rfl ?_
  refine wpIn_seq ?_
  refine region_at ?_
  refine at_op (op_alloc (z := .slice none 0 0) rfl rfl rfl rfl hE rfl hS (by kernel_rfl) (fun a b1241 w _ hE hS => ?_)) rfl
  refine at_end rfl ?_
  refine wpIn_seq ?_
  refine region_at ?_
  refine at_op (op_alloc (z := .int .i64 ((0 : Int))) rfl rfl rfl rfl hE rfl hS (by kernel_rfl) (fun a b1243 w _ hE hS => ?_)) rfl
  refine at_op (op_store (v := .int .i64 ((0 : Int))) ([.int .i64 ((0 : Int))]) rfl rfl rfl rfl hE hS rfl rfl (by kernel_rfl) (by kernel_rfl) (by kernel_rfl) (by kernel_rfl) (by kernel_rfl) (fun a w _ hE hS => ?_)) rfl
  refine at_end rfl ?_
  refine wpIn_seq ?_
  refine wpIn_seq ?_
  refine region_at ?_
  refine segN 1 (j := 1) [(14, .pointer (some ⟨b1, 0, none⟩))] hE (by kernel_rfl) rfl (fun a hE => ?_)
  have hS := hS.pk (.c 4 rfl (.c 5 rfl (.c 0 rfl (.c 1 rfl (.c 2 rfl (.c 3 rfl .n)))))) rfl
  obtain ⟨r1843, h1844, hf⟩ := bind_some hf
  refine at_op (op_call rfl rfl rfl rfl hE rfl rfl rfl rfl (by kernel_rfl) (disk_Disk_Bytes.calls (g := g) h1844 (hS.st.fore (L := [bx b1 72 (c_T_disk_Disk ((T_disk_Disk.mk (x3) (x9) (x10))) A4 c5), q6])) h7) (fun a v w hR hE => ?_)) rfl
  obtain ⟨D1845, A1847, c1848, q1849, q1852, rfl, hS1, h1850, h1853⟩ := hR
  have le1855 := hS1.dle
  have hS := hS.callR hS1 rfl (.c (.c (.c .n)))
  clear hS1
  have hS := hS.pk (.c 1 rfl (.c 0 rfl (.c 2 rfl (.c 3 rfl (.c 4 rfl (.c 5 rfl (.c 6 rfl .n))))))) rfl
  obtain ⟨D1856, q1859, le1857, hS, h1860, h1858⟩ := hS.lent h1850
  obtain ⟨r1861, h1862, hf⟩ := bind_some hf
  refine at_op (op_call rfl rfl rfl rfl hE rfl rfl rfl rfl (by kernel_rfl) (log_entries.calls (g := g) h1862 (hS.st.fore (L := [])) h1858) (fun a v w hR hE => ?_)) rfl
  obtain ⟨D1863, b1865, A1867, c1868, rfl, hS1, h1869⟩ := hR
  have le1870 := hS1.dle
  have hS := hS.callR hS1 rfl (.c .n)
  clear hS1
  refine at_end rfl ?_
  refine wpIn_block ?_
  have hEo1877 := hE
  refine range_in2 (captured := #[.pointer (some ⟨b1865, 0, none⟩)]) hE hS rfl (by kernel_rfl) (fun fn1876 l1874 d1875 w q1872 hq1873 hS => ?_)
  refine calls_body (n := 25) Tryd.func42 rfl Tryd.ntmps42 rfl (fun a hE => ?_)
  have hE : Env a 25 [] [(0, .func (.yield l1874) #[] #[]), (1, .pointer (some ⟨b1865, 0, none⟩))] := hE
  refine wpIn_seq ?_
  refine region_at ?_
  refine at_op (op_tk hE (tk_build (c_T_log_entry (z_T_log_entry) none 0) rfl rfl rfl rfl hE rfl rfl (by kernel_rfl) (fun a hE => ?_))) rfl
  refine at_op (op_alloc (z := .agg (List.toArray (c_T_log_entry (z_T_log_entry) none 0))) rfl rfl rfl rfl hE rfl hS (by kernel_rfl) (fun a b1878 w _ hE hS => ?_)) rfl
  refine at_op (op_store (v := .agg (List.toArray (c_T_log_entry (z_T_log_entry) none 0))) (c_T_log_entry (z_T_log_entry) none 0) rfl rfl rfl rfl hE hS rfl rfl (by kernel_rfl) (by kernel_rfl) (by kernel_rfl) (by kernel_rfl) (by kernel_rfl) (fun a w _ hE hS => ?_)) rfl
  refine at_end rfl ?_
  obtain ⟨s2316, hf, hs2317⟩ := bind_some hf
  have hS := hS.nils
  have hS := hS.pk (.c 6 rfl (.c 10 rfl (.c 9 rfl (.c 8 rfl (.c 4 rfl (.c 1 rfl (.c 11 rfl (.c 2 rfl (.c 3 rfl (.c 7 rfl (.c 0 rfl .n))))))))))) rfl
  refine block_loopR (fun _ _ => False) (fun a w => ∃ (z2308 : (List (List Int)) × Int × T_log_at), ∃ (A2311 : Option Addr), ∃ (c2312 : Nat), ∃ (q2313 : Blk), ∃ (D2309 : Snap), Env a 25 [] [] ∧ Stp g w0 D0 [bx b1 72 (c_T_disk_Disk ((T_disk_Disk.mk (x3) (x9) (x10))) A4 c5), q6] w D2309 [bx b1 72 (c_T_disk_Disk ((T_disk_Disk.mk (x3) (x9) (x10))) A4 c5), bx b1239 25 ([.pointer (some ⟨b1237, 0, none⟩)]), bx b1241 26 ([.slice A2311 (List.length (z2308.1)) c2312]), bx b1243 3 ([.int .i64 (z2308.2.1)]), bx b1865 33 ([.slice A1867 (List.length (r1861)) c1868]), bx b1237 64 ([.pointer (some ⟨b1, 0, none⟩)] ++ ((c_T_log_at (z2308.2.2)))), q1872 .ready none, dk d1875, q1852, q2313] ∧ Snap.le D1863 D2309 ∧ OwnL (kdSlice (kdInt .u8)) 33 D2309 A2311 c2312 (z2308.1) q2313 ∧ z2308 = s2316) (fun k a w => ∃ (y2164 : (List (List Int)) × Int × T_log_entry × T_log_at), ∃ (A2167 : Option Addr), ∃ (c2168 : Nat), ∃ (q2169 : Blk), ∃ (A2172 : Option Addr), ∃ (c2173 : Nat), ∃ (D2165 : Snap), Env a 25 [] [(0, .func (.yield l1874) #[] #[]), (1, .pointer (some ⟨b1865, 0, none⟩)), (3, .pointer (some ⟨b1878, 0, none⟩))] ∧ Stp g w0 D0 [bx b1 72 (c_T_disk_Disk ((T_disk_Disk.mk (x3) (x9) (x10))) A4 c5), q6] w D2165 [bx b1 72 (c_T_disk_Disk ((T_disk_Disk.mk (x3) (x9) (x10))) A4 c5), bx b1239 25 ([.pointer (some ⟨b1237, 0, none⟩)]), bx b1241 26 ([.slice A2167 (List.length (y2164.1)) c2168]), bx b1243 3 ([.int .i64 (y2164.2.1)]), bx b1865 33 ([.slice A1867 (List.length (r1861)) c1868]), bx b1878 69 (c_T_log_entry (y2164.2.2.1) A2172 c2173), bx b1237 64 ([.pointer (some ⟨b1, 0, none⟩)] ++ ((c_T_log_at (y2164.2.2.2)))), q1872 .ready none, dk d1875, q1852, q2169] ∧ Snap.le D1863 D2165 ∧ OwnL (kdSlice (kdInt .u8)) 33 D2165 A2167 c2168 (y2164.1) q2169 ∧ Sl (kdInt .u8) D2165 A2172 c2173 (y2164.2.2.1.fB) ∧ log_Open_l1.l K r1861 k y2164 = some s2316) K ?_ ?_ ?_ ?_
  · exact ⟨(([] : List (List Int)), (0 : Int), z_T_log_entry, (T_log_at.mk ((0 : Int)) ((Vector.replicate 32 (0 : Int))))), none, 0, none, none, 0, D1863, hE.weak (by kernel_rfl), hS, Snap.le.refl _, (OwnD.nil (kdSlice (kdInt .u8)) 33 D1863), (Sl.nil (kdInt .u8) D1863), hf⟩
  · intro _ _ h; exact h.elim
  · clear hE hS hf
    rintro a w ⟨z2308, A2311, c2312, q2313, D2309, hE, hS, le2310, h2314, rfl⟩
    have hf := hs2317
    clear hs2317
    repeat (with_reducible first | refine then_ret ?_ | refine block_ret ?_ | refine qx_ret ?_)
    refine ret_gen ([]) hE (by rw [show Tryd.f42.results.toList = [] from rfl]; rfl) ?_
    have hS := hS.pk (.c 6 rfl (.c 0 rfl (.c 1 rfl (.c 2 rfl (.c 3 rfl (.c 4 rfl (.c 5 rfl (.c 7 rfl (.c 8 rfl (.c 9 rfl .n)))))))))) rfl
    refine range_done2 hq1873 hS hEo1877 (fun w a hS hE => ?_)
    refine wpIn_seq ?_
    refine region_at ?_
    refine segN 1 (j := 1) [(30, .pointer (some ⟨b1, 0, none⟩))] hE (by kernel_rfl) rfl (fun a hE => ?_)
    refine at_op (op_tk hE (tk_load 3 (.int .i64 (z2308.2.1)) rfl rfl rfl rfl hE rfl hS rfl rfl (by kernel_rfl) (kL (j := 3) hS rfl List.not_mem_nil) (fun a hE => ?_))) rfl
    have hS := hS.pk (.c 0 rfl (.c 7 rfl (.c 1 rfl (.c 2 rfl (.c 3 rfl (.c 4 rfl (.c 5 rfl (.c 6 rfl (.c 8 rfl .n))))))))) rfl
    obtain ⟨r2441, h2442, hf⟩ := bind_some hf
    refine at_op (op_call rfl rfl rfl rfl hE rfl rfl rfl rfl (by kernel_rfl) (disk_Disk_Cut.calls (g := g) h2442 (hS.st.fore (L := [bx b1 72 (c_T_disk_Disk ((T_disk_Disk.mk (x3) (x9) (x10))) A4 c5), q1852])) (h1853.mono (Snap.le.trans (Snap.le.trans le1857 le1870) le2310))) (fun a v w hR hE => ?_)) rfl
    obtain ⟨D2443, A2445, c2446, q2447, rfl, hS1, h2448⟩ := hR
    have le2450 := hS1.dle
    have hS := hS.callR hS1 rfl (.c (.c .n))
    clear hS1
    refine at_end rfl ?_
    refine wpIn_seq ?_
    refine region_draw (fun j => Keeps (mfOf [] j)) (by kernel_rfl) ?_
    have hS := hS.drew
    first | generalize w.drew = w at hS ⊢ | generalize w0.drew = w at hS ⊢
    refine tT 0 1 (fuel := 4) (by kernel_rfl) hE (tk_load 2 (.pointer (some ⟨b1237, 0, none⟩)) rfl rfl rfl rfl hE rfl hS rfl rfl (by kernel_rfl) (kL (j := 2) hS rfl List.not_mem_nil) (fun a hE => ?_))
    refine tW 2 5 (fuel := 3) (by kernel_rfl) hE (fun M => tk_pure (.pointer (some ⟨b1237, 0, none⟩)) hE rfl rfl rfl rfl (fun _ _ _ e => by cases e) (by kernel_rfl) (fun a hE => ?_))
    refine tT 1 7 (fuel := 2) (by kernel_rfl) hE (tk_load 3 (.slice A2311 (List.length (z2308.1)) c2312) rfl rfl rfl rfl hE rfl hS rfl rfl (by kernel_rfl) (kL (j := 3) hS rfl List.not_mem_nil) (fun a hE => ?_))
    refine tW 3 15 (fuel := 1) (by kernel_rfl) hE (fun M => tk_pure (.slice A2311 (List.length (z2308.1)) c2312) hE rfl rfl rfl rfl (fun _ _ _ e => by cases e) (by kernel_rfl) (fun a hE => ?_))
    refine tW 4 31 (fuel := 0) (by kernel_rfl) hE (fun M => tk_pure (.int .i64 ((0 : Int))) hE rfl rfl rfl rfl (fun _ _ _ e => by cases e) (by kernel_rfl) (fun a hE => ?_))
    refine doneG (by kernel_rfl) ?_
    refine wpIn_ret ?_
    have hS := hS.pk (.c 7 rfl (.c 0 rfl (.c 1 rfl (.c 2 rfl (.c 3 rfl (.c 4 rfl (.c 5 rfl (.c 6 rfl (.c 8 rfl .n))))))))) rfl
    obtain rfl := Option.some.inj hf
    repeat (with_reducible first | refine then_ret ?_ | refine block_ret ?_ | refine qx_ret ?_)
    refine ret_M1 ([.pointer (some ⟨b1237, 0, none⟩), .slice A2311 (List.length (z2308.1)) c2312, .int .i64 ((0 : Int))]) hE hS (fun w hS => ⟨by rw [show Tryd.f11.results.toList = [.tmp 2, .tmp 3, .tmp 4] from rfl]; exact ⟨_, _, rfl, rfl, ⟨_, _, rfl, rfl, ⟨_, _, rfl, rfl, rfl⟩⟩⟩, ?_⟩)
    have hS := hS.pk (.c 0 rfl (.c 6 rfl (.c 7 rfl (.c 1 rfl .n)))) rfl
    exact ⟨_, rfl, D2443, b1237, A2311, c2312, q2313, A2445, c2446, q2447, rfl, hS, (h2314.mono le2450), h2448⟩
  · clear hE hS hf
    rintro k a w ⟨y2164, A2167, c2168, q2169, A2172, c2173, D2165, hE, hS, le2166, h2170, h2174, hf⟩
    obtain ⟨k, rfl, hf⟩ := log_Open_l1.some _ hf
    refine ⟨k, rfl, ?_⟩
    unfold log_Open_l1.b at hf
    refine wpIn_block ?_
    refine wpIn_seq ?_
    refine region_at ?_
    refine at_op (op_tk hE (tk_load 4 (.slice A1867 (List.length (r1861)) c1868) rfl rfl rfl rfl hE rfl hS rfl rfl (by kernel_rfl) (kL (j := 4) hS rfl List.not_mem_nil) (fun a hE => ?_))) rfl
    refine at_op (op_tk hE (g_fieldAddr (fo := 34) (ft := 3) 34 rfl rfl rfl rfl hE rfl rfl (by kernel_rfl) rfl (fun a hE => ?_))) rfl
    refine at_op (op_tk hE (tk_load 5 (.int .i64 (y2164.2.2.1.fNext)) rfl rfl rfl rfl hE rfl hS rfl rfl (by kernel_rfl) (kL (j := 5) hS rfl List.not_mem_nil) (fun a hE => ?_))) rfl
    refine at_op (op_tk hE (g_fieldAddr (fo := 1) (ft := 62) 1 rfl rfl rfl rfl hE rfl rfl (by kernel_rfl) rfl (fun a hE => ?_))) rfl
    refine at_op (op_tk hE (tk_load 5 (.agg (List.toArray (c_T_log_at (y2164.2.2.1.fEnd)))) rfl rfl rfl rfl hE rfl hS rfl rfl (by kernel_rfl) (kL (j := 5) hS rfl List.not_mem_nil) (fun a hE => ?_))) rfl
    obtain ⟨r2318, h2319, hf⟩ := bind_some hf
    refine at_op (op_call rfl rfl rfl rfl hE rfl rfl rfl rfl (by kernel_rfl) (log_read.calls (g := g) h2319 (hS.st.fore (L := [])) (h1869.mono le2166) (hG0.mono (Snap.le.trans (Snap.le.trans (Snap.le.trans le1855 le1857) le1870) le2166)) (hG1.mono (Snap.le.trans (Snap.le.trans (Snap.le.trans le1855 le1857) le1870) le2166))) (fun a v w hR hE => ?_)) rfl
    obtain ⟨D2320, A2322, c2323, rfl, hS1, h2324⟩ := hR
    have le2325 := hS1.dle
    have hS := hS.callR hS1 rfl .n
    clear hS1
    refine segN 3 (j := 9) [(14, .agg (List.toArray (c_T_log_entry (r2318.1) A2322 c2323))), (15, .bool (r2318.2))] hE (by kernel_rfl) rfl (fun a hE => ?_)
    refine at_op (op_alloc (z := .agg (List.toArray (c_T_log_entry (z_T_log_entry) none 0))) rfl rfl rfl rfl hE rfl hS (by kernel_rfl) (fun a b2326 w _ hE hS => ?_)) rfl
    refine at_op (op_store (v := .agg (List.toArray (c_T_log_entry (r2318.1) A2322 c2323))) (c_T_log_entry (r2318.1) A2322 c2323) rfl rfl rfl rfl hE hS rfl rfl (by kernel_rfl) (by kernel_rfl) (by kernel_rfl) (by kernel_rfl) (by kernel_rfl) (fun a w _ hE hS => ?_)) rfl
    refine segN 1 (j := 12) [(5, .bool (r2318.2))] hE (by kernel_rfl) rfl (fun a hE => ?_)
    refine at_end rfl ?_
    refine wpIn_seq ?_
    obtain ⟨j2415, hj2416, hf⟩ := jn_elim hf
    refine seq_join (fun a w => ∃ (y2407 : Bool × (List (List Int)) × Int × T_log_at), ∃ (A2410 : Option Addr), ∃ (c2411 : Nat), ∃ (q2412 : Blk), ∃ (D2408 : Snap), Env a 25 [] [(0, .func (.yield l1874) #[] #[]), (1, .pointer (some ⟨b1865, 0, none⟩)), (3, .pointer (some ⟨b1878, 0, none⟩)), (4, .pointer (some ⟨b2326, 0, none⟩)), (23, .bool (y2407.1))] ∧ Stp g w0 D0 [bx b1 72 (c_T_disk_Disk ((T_disk_Disk.mk (x3) (x9) (x10))) A4 c5), q6] w D2408 [bx b1 72 (c_T_disk_Disk ((T_disk_Disk.mk (x3) (x9) (x10))) A4 c5), bx b1239 25 ([.pointer (some ⟨b1237, 0, none⟩)]), bx b1241 26 ([.slice A2410 (List.length (y2407.2.1)) c2411]), bx b1243 3 ([.int .i64 (y2407.2.2.1)]), bx b1865 33 ([.slice A1867 (List.length (r1861)) c1868]), bx b1878 69 (c_T_log_entry (y2164.2.2.1) A2172 c2173), bx b2326 69 (c_T_log_entry (r2318.1) A2322 c2323), bx b1237 64 ([.pointer (some ⟨b1, 0, none⟩)] ++ ((c_T_log_at (y2407.2.2.2)))), q1872 .ready none, dk d1875, q1852, q2412] ∧ Snap.le D2320 D2408 ∧ OwnL (kdSlice (kdInt .u8)) 33 D2408 A2410 c2411 (y2407.2.1) q2412 ∧ j2415 y2407 = some s2316) ?_ ?_
    · clear hj2416
      refine region_at ?_
      refine segN 3 (j := 3) [(18, .bool ((!r2318.2)))] hE (by kernel_rfl) rfl (fun a hE => ?_)
      cases hb : (!r2318.2)
      · replace hf := cond_f hb hf
        have hE := hE.know (t := 18) (b := (!r2318.2)) (b' := false) rfl hb
        clear hb
        refine segN 1 (j := 4) [(19, .func (.yield l1874) #[] #[])] hE (by kernel_rfl) rfl (fun a hE => ?_)
        refine at_op (op_tk hE (tk_load 0 (.agg (List.toArray (c_T_log_entry (r2318.1) A2322 c2323))) rfl rfl rfl rfl hE rfl hS rfl rfl (by kernel_rfl) (kL (j := 0) hS rfl List.not_mem_nil) (fun a hE => ?_))) rfl
        have hS := hS.pk (.c 8 rfl (.c 0 rfl (.c 1 rfl (.c 2 rfl (.c 3 rfl (.c 4 rfl (.c 5 rfl (.c 6 rfl (.c 7 rfl (.c 9 rfl (.c 10 rfl (.c 11 rfl .n)))))))))))) rfl
        refine at_op (op_yield2 (args := [.agg (List.toArray (c_T_log_entry (r2318.1) A2322 c2323))]) hq1873 rfl rfl rfl rfl hE rfl rfl rfl hS hEo1877 rfl (by kernel_rfl) (fun a hE => ?_)) rfl
        refine region_at ?_
        refine at_op (op_alloc (z := .agg (List.toArray (c_T_log_entry (z_T_log_entry) none 0))) rfl rfl rfl rfl hE rfl hS (by kernel_rfl) (fun a b2417 w _ hE hS => ?_)) rfl
        refine at_op (op_store (v := .agg (List.toArray (c_T_log_entry (r2318.1) A2322 c2323))) (c_T_log_entry (r2318.1) A2322 c2323) rfl rfl rfl rfl hE hS rfl rfl (by kernel_rfl) (by kernel_rfl) (by kernel_rfl) (by kernel_rfl) (by kernel_rfl) (fun a w _ hE hS => ?_)) rfl
        refine at_end rfl ?_
        have hS := hS.pk (.c 1 rfl (.c 0 rfl (.c 2 rfl (.c 3 rfl (.c 4 rfl (.c 5 rfl (.c 6 rfl (.c 7 rfl (.c 8 rfl (.c 9 rfl (.c 10 rfl (.c 11 rfl (.c 12 rfl .n))))))))))))) rfl
        refine begin_in2 hq1873 hS (fun w hS => ?_)
        refine wpIn_block ?_
        refine wpIn_seq ?_
        refine region_at ?_
        refine at_op (op_tk hE (tk_load 5 (.slice A2167 (List.length (y2164.1)) c2168) rfl rfl rfl rfl hE rfl hS rfl rfl (by kernel_rfl) (kL (j := 5) hS rfl List.not_mem_nil) (fun a hE => ?_))) rfl
        refine at_op (op_tk hE (g_fieldAddr (fo := 0) (ft := 33) 0 rfl rfl rfl rfl hE rfl rfl (by kernel_rfl) rfl (fun a hE => ?_))) rfl
        refine at_op (op_tk hE (tk_load 1 (.slice A2322 (List.length (r2318.1.fB)) c2323) rfl rfl rfl rfl hE rfl hS rfl rfl (by kernel_rfl) (kL (j := 1) hS rfl List.not_mem_nil) (fun a hE => ?_))) rfl
        refine at_op (op_buildSlice (K := (kdSlice (kdInt .u8))) (e := 33) (cs := [.slice A2322 (List.length (r2318.1.fB)) c2323] ++ []) ([r2318.1.fB] : List (List Int)) rfl rfl rfl rfl hE rfl hS rfl (by kernel_rfl) rfl rfl (by exact (show RL (kdSlice (kdInt .u8)) D2320 ([r2318.1.fB] : List (List Int)) ([.slice A2322 (List.length (r2318.1.fB)) c2323] ++ []) from ⟨_, _, rfl, (kslice h2324), rfl⟩)) (fun a A2419 q2420 w _ hE h2421 hS => ?_)) rfl
        obtain ⟨D2423, q2426, le2424, hS, h2427, h2425⟩ := hS.lent h2421
        have hS := hS.pk (.c 13 rfl (.c 0 rfl (.c 1 rfl (.c 2 rfl (.c 3 rfl (.c 4 rfl (.c 5 rfl (.c 6 rfl (.c 7 rfl (.c 8 rfl (.c 9 rfl (.c 10 rfl (.c 11 rfl (.c 12 rfl .n)))))))))))))) rfl
        obtain ⟨D2428, q2431, le2429, hS, h2432, h2430⟩ := hS.lent (h2170.mono (Snap.le.trans le2325 le2424))
        obtain ⟨l2433, h2434, hf⟩ := bind_some hf
        refine at_op (g_append (K := (kdSlice (kdInt .u8))) (e := 33) (bytes := 24) (l := y2164.1) (m := ([r2318.1.fB] : List (List Int))) rfl rfl rfl rfl hE rfl hS rfl rfl (by kernel_rfl) rfl rfl h2432 (h2425.mono le2429) h2434 (fun a A2435 c2436 q2437 w _ hE h2438 hS => ?_)) rfl
        have hS := hS.pk (.c 7 rfl (.c 0 rfl (.c 1 rfl (.c 2 rfl (.c 3 rfl (.c 4 rfl (.c 5 rfl (.c 6 rfl (.c 8 rfl (.c 9 rfl (.c 10 rfl (.c 11 rfl (.c 12 rfl (.c 13 rfl .n)))))))))))))) rfl
        refine at_op (op_store (v := .slice A2435 (List.length (l2433)) c2436) ([.slice A2435 (List.length (l2433)) c2436]) rfl rfl rfl rfl hE hS rfl rfl (by kernel_rfl) (by kernel_rfl) (by kernel_rfl) (by kernel_rfl) (by kernel_rfl) (fun a w _ hE hS => ?_)) rfl
        refine at_end rfl ?_
        refine region_draw (fun j => Keeps (mfOf [(7, [b1237]), (8, [b1243])] j)) (by kernel_rfl) ?_
        have hS := hS.drew
        first | generalize w.drew = w at hS ⊢ | generalize w0.drew = w at hS ⊢
        refine tT 0 1 (fuel := 8) (by kernel_rfl) hE (tk_load 7 (.pointer (some ⟨b1237, 0, none⟩)) rfl rfl rfl rfl hE rfl hS rfl rfl (by kernel_rfl) (kL (j := 7) hS rfl List.not_mem_nil) (fun a hE => ?_))
        refine tW 1 3 (fuel := 7) (by kernel_rfl) hE (fun M => g_fieldAddr (fo := 1) (ft := 62) 1 rfl rfl rfl rfl hE rfl rfl (by kernel_rfl) rfl (fun a hE => ?_))
        refine tT 2 7 (fuel := 6) (by kernel_rfl) hE (tk_load 4 (.agg (List.toArray (c_T_log_at (r2318.1.fEnd)))) rfl rfl rfl rfl hE rfl hS rfl rfl (by kernel_rfl) (kL (j := 4) hS rfl List.not_mem_nil) (fun a hE => ?_))
        refine tW 5 39 (fuel := 5) (by kernel_rfl) hE (fun M => tk_pure (.pointer (some ⟨b1237, 0, none⟩)) hE rfl rfl rfl rfl (fun _ _ _ e => by cases e) (by kernel_rfl) (fun a hE => ?_))
        refine tW 3 47 (fuel := 4) (by kernel_rfl) hE (fun M => g_fieldAddr (fo := 34) (ft := 3) 34 rfl rfl rfl rfl hE rfl rfl (by kernel_rfl) rfl (fun a hE => ?_))
        refine tN (T := [(7, [b1237]), (8, [b1243])]) [7] 4 63 (fuel := 3) (by kernel_rfl) hE (tk_load 4 (.int .i64 (r2318.1.fNext)) rfl rfl rfl rfl hE rfl hS rfl rfl (by kernel_rfl) (kL (j := 4) hS rfl (show b2417 ∉ [b1237] from (nm_cons (hS.ne (i := 4) (j := 11) (by decide) rfl rfl) List.not_mem_nil))) (fun a hE => ?_))
        refine tW 6 127 (fuel := 2) (by kernel_rfl) hE (fun M => g_fieldAddr (fo := 1) (ft := 62) 1 rfl rfl rfl rfl hE rfl rfl (by kernel_rfl) rfl (fun a hE => ?_))
        have hS := hS.pk (.c 11 rfl (.c 0 rfl (.c 1 rfl (.c 2 rfl (.c 3 rfl (.c 4 rfl (.c 5 rfl (.c 6 rfl (.c 7 rfl (.c 8 rfl (.c 9 rfl (.c 10 rfl (.c 12 rfl (.c 13 rfl .n)))))))))))))) rfl
        refine oG 7 255 (fuel := 1) (by kernel_rfl) (op_store (v := .agg (List.toArray (c_T_log_at (r2318.1.fEnd)))) ([.pointer (some ⟨b1, 0, none⟩)] ++ ((c_T_log_at (r2318.1.fEnd)))) rfl rfl rfl rfl hE hS rfl rfl (by kernel_rfl) (by kernel_rfl) (by kernel_rfl) (by kernel_rfl) (by kernel_rfl) (fun a w hkp hE hS => ⟨hkp.mono (fun _ h => h), ?_⟩))
        clear hkp
        have hS := hS.pk (.c 9 rfl (.c 0 rfl (.c 1 rfl (.c 2 rfl (.c 3 rfl (.c 4 rfl (.c 5 rfl (.c 6 rfl (.c 7 rfl (.c 8 rfl (.c 10 rfl (.c 11 rfl (.c 12 rfl (.c 13 rfl .n)))))))))))))) rfl
        refine oG 8 511 (fuel := 0) (by kernel_rfl) (op_store (v := .int .i64 (r2318.1.fNext)) ([.int .i64 (r2318.1.fNext)]) rfl rfl rfl rfl hE hS rfl rfl (by kernel_rfl) (by kernel_rfl) (by kernel_rfl) (by kernel_rfl) (by kernel_rfl) (fun a w hkp hE hS => ⟨hkp.mono (fun _ h => h), ?_⟩))
        clear hkp
        refine doneG (by kernel_rfl) ?_
        have hS := hS.pk (.c 5 rfl (.c 0 rfl (.c 1 rfl (.c 2 rfl (.c 3 rfl (.c 4 rfl (.c 6 rfl (.c 7 rfl (.c 8 rfl (.c 9 rfl (.c 10 rfl (.c 11 rfl (.c 12 rfl (.c 13 rfl .n)))))))))))))) rfl
        refine round_normal2 (a1 := a) hq1873 hS (fun w a hS hE => ?_)
        refine segN 2 (j := 8) [(23, .bool false)] hE (by kernel_rfl) rfl (fun a hE => ?_)
        refine at_end rfl ?_
        have hS := hS.pk (.c 8 rfl (.c 9 rfl (.c 3 rfl (.c 1 rfl (.c 10 rfl (.c 11 rfl (.c 7 rfl (.c 2 rfl (.c 0 rfl (.c 12 rfl (.c 13 rfl (.c 4 rfl .n)))))))))))) rfl
        exact ⟨(false, l2433, r2318.1.fNext, r2318.1.fEnd), A2435, c2436, q2437, D2428, hE.weak (by kernel_rfl), hS, (Snap.le.trans le2424 le2429), h2438, hf⟩
      · replace hf := cond_t hb hf
        have hE := hE.know (t := 18) (b := (!r2318.2)) (b' := true) rfl hb
        clear hb
        refine segN 5 (j := 8) [(23, .bool true)] hE (by kernel_rfl) rfl (fun a hE => ?_)
        refine at_end rfl ?_
        have hS := hS.pk (.c 1 rfl (.c 2 rfl (.c 3 rfl (.c 4 rfl (.c 5 rfl (.c 6 rfl (.c 0 rfl (.c 7 rfl (.c 8 rfl (.c 9 rfl (.c 10 rfl (.c 11 rfl .n)))))))))))) rfl
        exact ⟨(true, y2164.1, y2164.2.1, y2164.2.2.2), A2167, c2168, q2169, D2320, hE.weak (by kernel_rfl), hS, Snap.le.refl _, (h2170.mono le2325), hf⟩
    · clear hE hS
      rintro a w ⟨y2407, A2410, c2411, q2412, D2408, hE, hS, le2409, h2413, hf⟩
      replace hf := hj2416 _ hf
      clear hj2416
      refine cond_split hE (b := y2407.1) rfl (fun hb => ?_) (fun hb => ?_)
      · replace hf := cond_t hb hf
        clear hb
        refine wpIn_ret ?_
        obtain rfl := Option.some.inj hf
        have hS := hS.pk (.c 0 rfl (.c 1 rfl (.c 2 rfl (.c 3 rfl (.c 4 rfl (.c 7 rfl (.c 8 rfl (.c 9 rfl (.c 10 rfl (.c 11 rfl .n)))))))))) rfl
        exact ⟨(y2407.2.1, y2407.2.2.1, y2407.2.2.2), A2410, c2411, q2412, D2408, hE.weak (by kernel_rfl), hS, (Snap.le.trans (Snap.le.trans le2166 le2325) le2409), h2413, rfl⟩
      · replace hf := cond_f hb hf
        clear hb
        refine wpIn_skip ?_
        refine region_at ?_
        refine at_op (op_tk hE (tk_load 6 (.agg (List.toArray (c_T_log_entry (r2318.1) A2322 c2323))) rfl rfl rfl rfl hE rfl hS rfl rfl (by kernel_rfl) (kL (j := 6) hS rfl List.not_mem_nil) (fun a hE => ?_))) rfl
        have hS := hS.pk (.c 5 rfl (.c 0 rfl (.c 1 rfl (.c 2 rfl (.c 3 rfl (.c 4 rfl (.c 6 rfl (.c 7 rfl (.c 8 rfl (.c 9 rfl (.c 10 rfl (.c 11 rfl .n)))))))))))) rfl
        refine at_op (op_store (v := .agg (List.toArray (c_T_log_entry (r2318.1) A2322 c2323))) (c_T_log_entry (r2318.1) A2322 c2323) rfl rfl rfl rfl hE hS rfl rfl (by kernel_rfl) (by kernel_rfl) (by kernel_rfl) (by kernel_rfl) (by kernel_rfl) (fun a w _ hE hS => ?_)) rfl
        refine at_end rfl ?_
        have hS := hS.pk (.c 1 rfl (.c 2 rfl (.c 3 rfl (.c 4 rfl (.c 5 rfl (.c 0 rfl (.c 7 rfl (.c 8 rfl (.c 9 rfl (.c 10 rfl (.c 11 rfl .n))))))))))) rfl
        exact ⟨(y2407.2.1, y2407.2.2.1, r2318.1, y2407.2.2.2), A2410, c2411, q2412, A2322, c2323, D2408, hE.weak (by kernel_rfl), hS, (Snap.le.trans (Snap.le.trans le2166 le2325) le2409), h2413, (h2324.mono le2409), hf⟩

set_option maxRecDepth 100000 in
set_option maxHeartbeats 4000000 in
theorem disk_Disk_Write.calls {K : Nat} {g w0 : World} {D0 : Snap} {x3 : (List Int)} {x7 : (List Int)} {x13 : Int} {x14 : Int} {b1 : Nat} {A4 : Option Addr} {c5 : Nat} {A8 : Option Addr} {c9 : Nat} {q10 : Blk} {r : (Int × (List Int))} (hf : disk_Disk_Write.f K x3 x7 x13 x14 = some r) (hS0 : St g w0 D0 [bx b1 72 (c_T_disk_Disk ((T_disk_Disk.mk (x7) (x13) (x14))) A8 c9), q10]) (h6 : Sl (kdInt .u8) D0 A4 c5 (x3)) (h11 : OwnL (kdInt .u8) 5 D0 A8 c9 (x7) q10) :
    CallsIn (Fw none) 0 Tryd.prog 27 (List.toArray [.pointer (some ⟨b1, 0, none⟩), .slice A4 (List.length (x3)) c5]) w0 (fun e w' => ∃ v, e = .returned v ∧ ∃ (D1 : Snap) (A27 : Option Addr) (c28 : Nat) (q29 : Blk), v = .int .i64 (r.1) ∧ Stp g w0 D0 [bx b1 72 (c_T_disk_Disk ((T_disk_Disk.mk (x7) (x13) (x14))) A8 c9), q10] w' D1 [bx b1 72 (c_T_disk_Disk ((T_disk_Disk.mk (r.2) (x13) (x14))) A27 c28), q29] ∧ OwnL (kdInt .u8) 5 D1 A27 c28 (r.2) q29) := by
  unfold disk_Disk_Write.f at hf
  have hS := Stp.refl hS0
  clear hS0
  refine calls_body (n := 31) Tryd.func27 rfl Tryd.ntmps27 rfl (fun a hE => ?_)
  have hE : Env a 31 [] [(0, .pointer (some ⟨b1, 0, none⟩)), (1, .slice A4 (List.length (x3)) c5)] := hE
  refine wpIn_seq ?_
  refine region_at ?_
  refine segN 1 (j := 1) [(4, .int .i64 ((0 : Int)))] hE (by kernel_rfl) rfl (fun a hE => ?_)
  refine at_end rfl ?_
  refine wpIn_seq ?_
  refine wpIn_block ?_
  refine wpIn_seq ?_
  refine region_at ?_
  refine segN 1 (j := 1) [(6, .pointer (some ⟨b1, 0, none⟩))] hE (by kernel_rfl) rfl (fun a hE => ?_)
  refine at_op (op_tk hE (tk_bin (r := .bool false) rfl rfl rfl rfl hE rfl rfl rfl (eqptr_run (by kernel_rfl) _) (fun a hE => ?_))) rfl
  refine segN 1 (j := 3) [(5, .bool false)] hE (by kernel_rfl) rfl (fun a hE => ?_)
  refine at_end rfl ?_
  refine wpIn_cond_false (hE.eval rfl) ?_
  refine wpIn_seq ?_
  refine region_draw (fun j => Keeps (mfOf [] j)) (by kernel_rfl) ?_
  have hS := hS.drew
  first | generalize w.drew = w at hS ⊢ | generalize w0.drew = w at hS ⊢
  refine tW 0 1 (fuel := 13) (by kernel_rfl) hE (fun M => tk_pure (.slice A4 (List.length (x3)) c5) hE rfl rfl rfl rfl (fun _ _ _ e => by cases e) (by kernel_rfl) (fun a hE => ?_))
  refine tW 1 3 (fuel := 12) (by kernel_rfl) hE (fun M => tk_pure (.int .i64 (((List.length (x3) : Nat) : Int))) hE rfl rfl rfl rfl (fun _ _ _ e => by cases e) (by kernel_rfl) (fun a hE => ?_))
  refine tW 2 7 (fuel := 11) (by kernel_rfl) hE (fun M => tk_pure (.pointer (some ⟨b1, 0, none⟩)) hE rfl rfl rfl rfl (fun _ _ _ e => by cases e) (by kernel_rfl) (fun a hE => ?_))
  refine tW 3 15 (fuel := 10) (by kernel_rfl) hE (fun M => tk_pure (.pointer (some ⟨b1, 0, none⟩)) hE rfl rfl rfl rfl (fun _ _ _ e => by cases e) (by kernel_rfl) (fun a hE => ?_))
  refine tW 6 79 (fuel := 9) (by kernel_rfl) hE (fun M => tk_pure (.pointer (some ⟨b1, 0, none⟩)) hE rfl rfl rfl rfl (fun _ _ _ e => by cases e) (by kernel_rfl) (fun a hE => ?_))
  refine tW 7 207 (fuel := 8) (by kernel_rfl) hE (fun M => tk_pure (.pointer (some ⟨b1, 0, none⟩)) hE rfl rfl rfl rfl (fun _ _ _ e => by cases e) (by kernel_rfl) (fun a hE => ?_))
  refine tW 4 223 (fuel := 7) (by kernel_rfl) hE (fun M => g_fieldAddr (fo := 2) (ft := 3) 2 rfl rfl rfl rfl hE rfl rfl (by kernel_rfl) rfl (fun a hE => ?_))
  refine tT 5 255 (fuel := 6) (by kernel_rfl) hE (tk_load 0 (.int .i64 (x14)) rfl rfl rfl rfl hE rfl hS rfl rfl (by kernel_rfl) (kL (j := 0) hS rfl List.not_mem_nil) (fun a hE => ?_))
  refine tW 8 511 (fuel := 5) (by kernel_rfl) hE (fun M => g_fieldAddr (fo := 0) (ft := 33) 0 rfl rfl rfl rfl hE rfl rfl (by kernel_rfl) rfl (fun a hE => ?_))
  refine tT 9 1023 (fuel := 4) (by kernel_rfl) hE (tk_load 0 (.slice A8 (List.length (x7)) c9) rfl rfl rfl rfl hE rfl hS rfl rfl (by kernel_rfl) (kL (j := 0) hS rfl List.not_mem_nil) (fun a hE => ?_))
  refine tW 10 2047 (fuel := 3) (by kernel_rfl) hE (fun M => tk_pure (.int .i64 (((List.length (x7) : Nat) : Int))) hE rfl rfl rfl rfl (fun _ _ _ e => by cases e) (by kernel_rfl) (fun a hE => ?_))
  refine tW 11 4095 (fuel := 2) (by kernel_rfl) hE (fun M => tk_pure (.int .i64 ((IntKind.wrap .i64 (x14 - ((List.length (x7) : Nat) : Int))))) hE rfl rfl rfl rfl (fun _ _ _ e => by cases e) (by kernel_rfl) (fun a hE => ?_))
  refine tW 12 8191 (fuel := 1) (by kernel_rfl) hE (fun M => tk_pure (.bool ((decide ((IntKind.wrap .i64 (x14 - ((List.length (x7) : Nat) : Int))) < ((List.length (x3) : Nat) : Int))))) hE rfl rfl rfl rfl (fun _ _ _ e => by cases e) (by kernel_rfl) (fun a hE => ?_))
  refine tW 13 16383 (fuel := 0) (by kernel_rfl) hE (fun M => tk_pure (.bool ((decide ((IntKind.wrap .i64 (x14 - ((List.length (x7) : Nat) : Int))) < ((List.length (x3) : Nat) : Int))))) hE rfl rfl rfl rfl (fun _ _ _ e => by cases e) (by kernel_rfl) (fun a hE => ?_))
  refine doneG (by kernel_rfl) ?_
  refine cond_split hE (b := (decide ((IntKind.wrap .i64 (x14 - ((List.length (x7) : Nat) : Int))) < ((List.length (x3) : Nat) : Int)))) rfl (fun hb => ?_) (fun hb => ?_)
  · replace hf := cond_t hb hf
    clear hb
    refine wpIn_seq ?_
    refine region_at ?_
    refine segN 1 (j := 1) [(4, .int .i64 ((5 : Int)))] hE (by kernel_rfl) rfl (fun a hE => ?_)
    refine at_end rfl ?_
    refine wpIn_ret ?_
    obtain rfl := Option.some.inj hf
    repeat (with_reducible first | refine then_ret ?_ | refine block_ret ?_ | refine qx_ret ?_)
    refine ret_gen ([.int .i64 ((5 : Int))]) hE (by rw [show Tryd.f27.results.toList = [.tmp 4] from rfl]; exact ⟨_, _, rfl, rfl, rfl⟩) ?_
    exact ⟨_, rfl, D0, A8, c9, q10, rfl, hS, h11⟩
  · replace hf := cond_f hb hf
    clear hb
    refine wpIn_skip ?_
    refine wpIn_seq ?_
    refine region_at ?_
    refine segN 3 (j := 3) [(22, .pointer (some ⟨b1, 0, none⟩)), (24, .pointer (some ⟨b1, 0, none⟩))] hE (by kernel_rfl) rfl (fun a hE => ?_)
    refine at_op (op_tk hE (g_fieldAddr (fo := 0) (ft := 33) 0 rfl rfl rfl rfl hE rfl rfl (by kernel_rfl) rfl (fun a hE => ?_))) rfl
    refine at_op (op_tk hE (tk_load 0 (.slice A8 (List.length (x7)) c9) rfl rfl rfl rfl hE rfl hS rfl rfl (by kernel_rfl) (kL (j := 0) hS rfl List.not_mem_nil) (fun a hE => ?_))) rfl
    refine segN 1 (j := 6) [(27, .slice A4 (List.length (x3)) c5)] hE (by kernel_rfl) rfl (fun a hE => ?_)
    have hS := hS.pk (.c 1 rfl (.c 0 rfl .n)) rfl
    obtain ⟨D32, q35, le33, hS, h36, h34⟩ := hS.lent h11
    obtain ⟨l37, h38, hf⟩ := bind_some hf
    refine at_op (g_append (K := (kdInt .u8)) (e := 5) (bytes := 1) (l := x7) (m := x3) rfl rfl rfl rfl hE rfl hS rfl rfl (by kernel_rfl) rfl rfl h36 (h6.mono le33) h38 (fun a A39 c40 q41 w _ hE h42 hS => ?_)) rfl
    refine segN 1 (j := 8) [(29, .pointer (some ⟨b1, 0, none⟩))] hE (by kernel_rfl) rfl (fun a hE => ?_)
    refine at_op (op_tk hE (g_fieldAddr (fo := 0) (ft := 33) 0 rfl rfl rfl rfl hE rfl rfl (by kernel_rfl) rfl (fun a hE => ?_))) rfl
    have hS := hS.pk (.c 1 rfl (.c 0 rfl .n)) rfl
    refine at_op (op_store (v := .slice A39 (List.length (l37)) c40) (c_T_disk_Disk ((T_disk_Disk.mk (l37) (x13) (x14))) A39 c40) rfl rfl rfl rfl hE hS rfl rfl (by kernel_rfl) (by kernel_rfl) (by kernel_rfl) (by kernel_rfl) (by kernel_rfl) (fun a w _ hE hS => ?_)) rfl
    refine at_end rfl ?_
    refine wpIn_seq ?_
    refine region_at ?_
    refine segN 1 (j := 1) [(4, .int .i64 ((0 : Int)))] hE (by kernel_rfl) rfl (fun a hE => ?_)
    refine at_end rfl ?_
    refine wpIn_ret ?_
    obtain rfl := Option.some.inj hf
    repeat (with_reducible first | refine then_ret ?_ | refine block_ret ?_ | refine qx_ret ?_)
    refine ret_gen ([.int .i64 ((0 : Int))]) hE (by rw [show Tryd.f27.results.toList = [.tmp 4] from rfl]; exact ⟨_, _, rfl, rfl, rfl⟩) ?_
    exact ⟨_, rfl, D32, A39, c40, q41, rfl, hS, h42⟩

set_option maxRecDepth 100000 in
set_option maxHeartbeats 4000000 in
theorem log_Log_Put.calls {K : Nat} {g w0 : World} {D0 : Snap} {x5 : (List Int)} {x9 : T_log_at} {x10 : (List Int)} {x16 : Int} {x17 : Int} {b1 : Nat} {b2 : Nat} {A6 : Option Addr} {c7 : Nat} {A11 : Option Addr} {c12 : Nat} {q13 : Blk} {r : (Int × T_log_at × (List Int))} (hf : log_Log_Put.f K x5 x9 x10 x16 x17 = some r) (hS0 : St g w0 D0 [bx b1 64 ([.pointer (some ⟨b2, 0, none⟩)] ++ ((c_T_log_at (x9)))), bx b2 72 (c_T_disk_Disk ((T_disk_Disk.mk (x10) (x16) (x17))) A11 c12), q13]) (h8 : Sl (kdInt .u8) D0 A6 c7 (x5)) (h14 : OwnL (kdInt .u8) 5 D0 A11 c12 (x10) q13) (hG0 : Cell (kdArr .u32 8) D0 0 0 gl_First) (hG1 : Cell (kdArr .u32 64) D0 1 0 gl_K) :
    CallsIn (Fw none) 0 Tryd.prog 14 (List.toArray [.pointer (some ⟨b1, 0, none⟩), .slice A6 (List.length (x5)) c7]) w0 (fun e w' => ∃ v, e = .returned v ∧ ∃ (D1 : Snap) (A123 : Option Addr) (c124 : Nat) (q125 : Blk), v = .int .i64 (r.1) ∧ Stp g w0 D0 [bx b1 64 ([.pointer (some ⟨b2, 0, none⟩)] ++ ((c_T_log_at (x9)))), bx b2 72 (c_T_disk_Disk ((T_disk_Disk.mk (x10) (x16) (x17))) A11 c12), q13] w' D1 [bx b1 64 ([.pointer (some ⟨b2, 0, none⟩)] ++ ((c_T_log_at ((T_log_at.mk (r.2.1.fCount) (r.2.1.fChain)))))), bx b2 72 (c_T_disk_Disk ((T_disk_Disk.mk (r.2.2) (x16) (x17))) A123 c124), q125] ∧ OwnL (kdInt .u8) 5 D1 A123 c124 (r.2.2) q125) := by
  unfold log_Log_Put.f at hf
  have hS := Stp.refl hS0
  clear hS0
  refine calls_body (n := 41) Tryd.func14 rfl Tryd.ntmps14 rfl (fun a hE => ?_)
  have hE : Env a 41 [] [(0, .pointer (some ⟨b1, 0, none⟩)), (1, .slice A6 (List.length (x5)) c7)] := hE
  refine wpIn_seq ?_
  refine region_at ?_
  refine segN 1 (j := 1) [(4, .int .i64 ((0 : Int)))] hE (by kernel_rfl) rfl (fun a hE => ?_)
  refine at_end rfl ?_
  refine wpIn_seq ?_
  refine wpIn_block ?_
  refine wpIn_seq ?_
  refine region_at ?_
  refine segN 1 (j := 1) [(7, .pointer (some ⟨b1, 0, none⟩))] hE (by kernel_rfl) rfl (fun a hE => ?_)
  refine at_op (op_tk hE (tk_bin (r := .bool false) rfl rfl rfl rfl hE rfl rfl rfl (eqptr_run (by kernel_rfl) _) (fun a hE => ?_))) rfl
  refine segN 6 (j := 8) [(6, .bool ((decide (((List.length (x5) : Nat) : Int) = (0 : Int)))))] hE (by kernel_rfl) rfl (fun a hE => ?_)
  refine at_end rfl ?_
  refine cond_split hE (b := (decide (((List.length (x5) : Nat) : Int) = (0 : Int)))) rfl (fun hb => ?_) (fun hb => ?_)
  · replace hf := cond_t hb hf
    clear hb
    refine wpIn_seq ?_
    refine region_at ?_
    refine segN 1 (j := 1) [(4, .int .i64 ((1 : Int)))] hE (by kernel_rfl) rfl (fun a hE => ?_)
    refine at_end rfl ?_
    refine wpIn_ret ?_
    obtain rfl := Option.some.inj hf
    repeat (with_reducible first | refine then_ret ?_ | refine block_ret ?_ | refine qx_ret ?_)
    refine ret_gen ([.int .i64 ((1 : Int))]) hE (by rw [show Tryd.f14.results.toList = [.tmp 4] from rfl]; exact ⟨_, _, rfl, rfl, rfl⟩) ?_
    exact ⟨_, rfl, D0, A11, c12, q13, rfl, hS, h14⟩
  · replace hf := cond_f hb hf
    clear hb
    refine wpIn_seq ?_
    refine region_at ?_
    refine segN 4 (j := 4) [(14, .bool ((decide ((2000 : Int) < ((List.length (x5) : Nat) : Int)))))] hE (by kernel_rfl) rfl (fun a hE => ?_)
    refine at_end rfl ?_
    refine cond_split hE (b := (decide ((2000 : Int) < ((List.length (x5) : Nat) : Int)))) rfl (fun hb => ?_) (fun hb => ?_)
    · replace hf := cond_t hb hf
      clear hb
      refine wpIn_seq ?_
      refine region_at ?_
      refine segN 1 (j := 1) [(4, .int .i64 ((4 : Int)))] hE (by kernel_rfl) rfl (fun a hE => ?_)
      refine at_end rfl ?_
      refine wpIn_ret ?_
      obtain rfl := Option.some.inj hf
      repeat (with_reducible first | refine then_ret ?_ | refine block_ret ?_ | refine qx_ret ?_)
      refine ret_gen ([.int .i64 ((4 : Int))]) hE (by rw [show Tryd.f14.results.toList = [.tmp 4] from rfl]; exact ⟨_, _, rfl, rfl, rfl⟩) ?_
      exact ⟨_, rfl, D0, A11, c12, q13, rfl, hS, h14⟩
    · replace hf := cond_f hb hf
      clear hb
      refine wpIn_skip ?_
      refine wpIn_seq ?_
      refine wpIn_seq ?_
      refine region_draw (fun j => Keeps (mfOf [(10, [b2] ++ ids [q13])] j)) (by kernel_rfl) ?_
      have hS := hS.drew
      first | generalize w.drew = w at hS ⊢ | generalize w0.drew = w at hS ⊢
      refine tW 0 1 (fuel := 11) (by kernel_rfl) hE (fun M => tk_pure (.pointer (some ⟨b1, 0, none⟩)) hE rfl rfl rfl rfl (fun _ _ _ e => by cases e) (by kernel_rfl) (fun a hE => ?_))
      refine tW 1 3 (fuel := 10) (by kernel_rfl) hE (fun M => tk_pure (.pointer (some ⟨b1, 0, none⟩)) hE rfl rfl rfl rfl (fun _ _ _ e => by cases e) (by kernel_rfl) (fun a hE => ?_))
      refine tW 4 19 (fuel := 9) (by kernel_rfl) hE (fun M => tk_pure (.pointer (some ⟨b1, 0, none⟩)) hE rfl rfl rfl rfl (fun _ _ _ e => by cases e) (by kernel_rfl) (fun a hE => ?_))
      refine tW 5 51 (fuel := 8) (by kernel_rfl) hE (fun M => tk_pure (.pointer (some ⟨b1, 0, none⟩)) hE rfl rfl rfl rfl (fun _ _ _ e => by cases e) (by kernel_rfl) (fun a hE => ?_))
      refine tW 8 307 (fuel := 7) (by kernel_rfl) hE (fun M => tk_pure (.slice A6 (List.length (x5)) c7) hE rfl rfl rfl rfl (fun _ _ _ e => by cases e) (by kernel_rfl) (fun a hE => ?_))
      refine tW 2 311 (fuel := 6) (by kernel_rfl) hE (fun M => g_fieldAddr (fo := 0) (ft := 30) 0 rfl rfl rfl rfl hE rfl rfl (by kernel_rfl) rfl (fun a hE => ?_))
      refine tT 3 319 (fuel := 5) (by kernel_rfl) hE (tk_load 0 (.pointer (some ⟨b2, 0, none⟩)) rfl rfl rfl rfl hE rfl hS rfl rfl (by kernel_rfl) (kL (j := 0) hS rfl List.not_mem_nil) (fun a hE => ?_))
      refine tW 6 383 (fuel := 4) (by kernel_rfl) hE (fun M => g_fieldAddr (fo := 1) (ft := 62) 1 rfl rfl rfl rfl hE rfl rfl (by kernel_rfl) rfl (fun a hE => ?_))
      refine tS (T := [(10, [b2] ++ ids [q13])]) [] [7, 9, 10, 11] 7 511 (fuel := 3) (by kernel_rfl) hE (tk_load 0 (.agg (List.toArray (c_T_log_at (x9)))) rfl rfl rfl rfl hE rfl hS rfl rfl (by kernel_rfl) (kL (j := 0) hS rfl List.not_mem_nil) (fun a hE => ?_))
      obtain ⟨r203, h204, hf⟩ := bind_some hf
      refine oG 9 1023 (fuel := 2) (by kernel_rfl) (op_call rfl rfl rfl rfl hE rfl rfl rfl rfl (by kernel_rfl) (log_at_laid.calls (g := g) h204 (hS.st.fore (L := [])) h8 hG0 hG1) (fun a v w hR hE => ?_))
      obtain ⟨D205, A207, c208, q209, rfl, hS1, h210⟩ := hR
      refine ⟨(hS1.keeps.sub (M' := []) trivial).mono (fun _ h => h), ?_⟩
      have le212 := hS1.dle
      have hS := hS.callR hS1 rfl (.c .n)
      clear hS1
      obtain ⟨D213, q216, le214, hS, h217, h215⟩ := hS.lent h210
      have hS := hS.pk (.c 2 rfl (.c 3 rfl (.c 0 rfl (.c 1 rfl .n)))) rfl
      obtain ⟨r218, h219, hf⟩ := bind_some hf
      refine oG 10 2047 (fuel := 1) (by kernel_rfl) (op_call rfl rfl rfl rfl hE rfl rfl rfl rfl (by kernel_rfl) (disk_Disk_Write.calls (g := g) h219 (hS.st.fore (L := [bx b2 72 (c_T_disk_Disk ((T_disk_Disk.mk (x10) (x16) (x17))) A11 c12), q13])) h215 (h14.mono (Snap.le.trans le212 le214))) (fun a v w hR hE => ?_))
      obtain ⟨D220, A222, c223, q224, rfl, hS1, h225⟩ := hR
      refine ⟨hS1.keeps.mono (fun _ h => h), ?_⟩
      have le227 := hS1.dle
      have hS := hS.callR hS1 rfl (.c (.c .n))
      clear hS1
      refine tW 11 4095 (fuel := 0) (by kernel_rfl) hE (fun M => tk_pure (.int .i64 (r218.1)) hE rfl rfl rfl rfl (fun _ _ _ e => by cases e) (by kernel_rfl) (fun a hE => ?_))
      refine doneG (by kernel_rfl) ?_
      refine wpIn_seq ?_
      refine region_at ?_
      refine segN 2 (j := 2) [(30, .bool ((!decide (r218.1 = (0 : Int)))))] hE (by kernel_rfl) rfl (fun a hE => ?_)
      refine at_end rfl ?_
      refine cond_split hE (b := (!decide (r218.1 = (0 : Int)))) rfl (fun hb => ?_) (fun hb => ?_)
      · replace hf := cond_t hb hf
        clear hb
        refine wpIn_seq ?_
        refine region_at ?_
        refine segN 2 (j := 2) [(4, .int .i64 (r218.1))] hE (by kernel_rfl) rfl (fun a hE => ?_)
        refine at_end rfl ?_
        refine wpIn_ret ?_
        obtain rfl := Option.some.inj hf
        repeat (with_reducible first | refine then_ret ?_ | refine block_ret ?_ | refine qx_ret ?_)
        refine ret_gen ([.int .i64 (r218.1)]) hE (by rw [show Tryd.f14.results.toList = [.tmp 4] from rfl]; exact ⟨_, _, rfl, rfl, rfl⟩) ?_
        have hS := hS.pk (.c 3 rfl (.c 0 rfl (.c 1 rfl .n))) rfl
        exact ⟨_, rfl, D220, A222, c223, q224, rfl, hS, h225⟩
      · replace hf := cond_f hb hf
        clear hb
        refine wpIn_skip ?_
        refine wpIn_seq ?_
        refine region_at ?_
        refine segN 3 (j := 3) [(32, .pointer (some ⟨b1, 0, none⟩)), (34, .pointer (some ⟨b1, 0, none⟩))] hE (by kernel_rfl) rfl (fun a hE => ?_)
        refine at_op (op_tk hE (g_fieldAddr (fo := 1) (ft := 62) 1 rfl rfl rfl rfl hE rfl rfl (by kernel_rfl) rfl (fun a hE => ?_))) rfl
        refine at_op (op_tk hE (tk_load 3 (.agg (List.toArray (c_T_log_at (x9)))) rfl rfl rfl rfl hE rfl hS rfl rfl (by kernel_rfl) (kL (j := 3) hS rfl List.not_mem_nil) (fun a hE => ?_))) rfl
        refine segN 1 (j := 6) [(37, .slice A6 (List.length (x5)) c7)] hE (by kernel_rfl) rfl (fun a hE => ?_)
        have hS := hS.pk (.c 0 rfl (.c 1 rfl (.c 3 rfl .n))) rfl
        obtain ⟨r228, h229, hf⟩ := bind_some hf
        refine at_op (op_call rfl rfl rfl rfl hE rfl rfl rfl rfl (by kernel_rfl) (log_at_behind.calls (g := g) h229 (hS.st.fore (L := [])) (h8.mono (Snap.le.trans (Snap.le.trans le212 le214) le227)) (hG0.mono (Snap.le.trans (Snap.le.trans le212 le214) le227)) (hG1.mono (Snap.le.trans (Snap.le.trans le212 le214) le227))) (fun a v w hR hE => ?_)) rfl
        obtain ⟨D230, rfl, hS1⟩ := hR
        have le232 := hS1.dle
        have hS := hS.callR hS1 rfl .n
        clear hS1
        refine segN 1 (j := 8) [(39, .pointer (some ⟨b1, 0, none⟩))] hE (by kernel_rfl) rfl (fun a hE => ?_)
        refine at_op (op_tk hE (g_fieldAddr (fo := 1) (ft := 62) 1 rfl rfl rfl rfl hE rfl rfl (by kernel_rfl) rfl (fun a hE => ?_))) rfl
        have hS := hS.pk (.c 2 rfl (.c 0 rfl (.c 1 rfl .n))) rfl
        refine at_op (op_store (v := .agg (List.toArray (c_T_log_at (r228)))) ([.pointer (some ⟨b2, 0, none⟩)] ++ ((c_T_log_at (r228)))) rfl rfl rfl rfl hE hS rfl rfl (by kernel_rfl) (by kernel_rfl) (by kernel_rfl) (by kernel_rfl) (by kernel_rfl) (fun a w _ hE hS => ?_)) rfl
        refine at_end rfl ?_
        refine wpIn_seq ?_
        refine region_at ?_
        refine segN 1 (j := 1) [(4, .int .i64 ((0 : Int)))] hE (by kernel_rfl) rfl (fun a hE => ?_)
        refine at_end rfl ?_
        refine wpIn_ret ?_
        obtain rfl := Option.some.inj hf
        repeat (with_reducible first | refine then_ret ?_ | refine block_ret ?_ | refine qx_ret ?_)
        refine ret_gen ([.int .i64 ((0 : Int))]) hE (by rw [show Tryd.f14.results.toList = [.tmp 4] from rfl]; exact ⟨_, _, rfl, rfl, rfl⟩) ?_
        exact ⟨_, rfl, D230, A222, c223, q224, rfl, hS, (h225.mono le232)⟩

set_option maxRecDepth 100000 in
set_option maxHeartbeats 4000000 in
theorem disk_Disk_Sync.calls {K : Nat} {g w0 : World} {D0 : Snap} {x3 : (List Int)} {x9 : Int} {x10 : Int} {b1 : Nat} {A4 : Option Addr} {c5 : Nat} {q6 : Blk} {r : (Int)} (hf : disk_Disk_Sync.f K x3 x9 x10 = some r) (hS0 : St g w0 D0 [bx b1 72 (c_T_disk_Disk ((T_disk_Disk.mk (x3) (x9) (x10))) A4 c5), q6]) (h7 : OwnL (kdInt .u8) 5 D0 A4 c5 (x3) q6) :
    CallsIn (Fw none) 0 Tryd.prog 28 (List.toArray [.pointer (some ⟨b1, 0, none⟩)]) w0 (fun e w' => ∃ v, e = .returned v ∧ ∃ (D1 : Snap) (q11 : Blk), v = .tuple #[] ∧ Stp g w0 D0 [bx b1 72 (c_T_disk_Disk ((T_disk_Disk.mk (x3) (x9) (x10))) A4 c5), q6] w' D1 [bx b1 72 (c_T_disk_Disk ((T_disk_Disk.mk (x3) (r) (x10))) A4 c5), q11] ∧ OwnL (kdInt .u8) 5 D1 A4 c5 (x3) q11) := by
  unfold disk_Disk_Sync.f at hf
  have hS := Stp.refl hS0
  clear hS0
  refine calls_body (n := 12) Tryd.func28 rfl Tryd.ntmps28 rfl (fun a hE => ?_)
  have hE : Env a 12 [] [(0, .pointer (some ⟨b1, 0, none⟩))] := hE
  refine wpIn_seq ?_
  refine region_at ?_
  refine segN 1 (j := 1) [(2, .pointer (some ⟨b1, 0, none⟩))] hE (by kernel_rfl) rfl (fun a hE => ?_)
  refine at_op (op_tk hE (tk_bin (r := .bool true) rfl rfl rfl rfl hE rfl rfl rfl (neptr_run (by kernel_rfl) _) (fun a hE => ?_))) rfl
  refine at_end rfl ?_
  refine wpIn_cond_true (hE.eval rfl) ?_
  refine region_at ?_
  refine segN 3 (j := 3) [(4, .pointer (some ⟨b1, 0, none⟩)), (6, .pointer (some ⟨b1, 0, none⟩))] hE (by kernel_rfl) rfl (fun a hE => ?_)
  refine at_op (op_tk hE (g_fieldAddr (fo := 0) (ft := 33) 0 rfl rfl rfl rfl hE rfl rfl (by kernel_rfl) rfl (fun a hE => ?_))) rfl
  refine at_op (op_tk hE (tk_load 0 (.slice A4 (List.length (x3)) c5) rfl rfl rfl rfl hE rfl hS rfl rfl (by kernel_rfl) (kL (j := 0) hS rfl List.not_mem_nil) (fun a hE => ?_))) rfl
  refine segN 2 (j := 7) [(9, .int .i64 (((List.length (x3) : Nat) : Int))), (10, .pointer (some ⟨b1, 0, none⟩))] hE (by kernel_rfl) rfl (fun a hE => ?_)
  refine at_op (op_tk hE (g_fieldAddr (fo := 1) (ft := 3) 1 rfl rfl rfl rfl hE rfl rfl (by kernel_rfl) rfl (fun a hE => ?_))) rfl
  refine at_op (op_store (v := .int .i64 (((List.length (x3) : Nat) : Int))) (c_T_disk_Disk ((T_disk_Disk.mk (x3) (((List.length (x3) : Nat) : Int)) (x10))) A4 c5) rfl rfl rfl rfl hE hS rfl rfl (by kernel_rfl) (by kernel_rfl) (by kernel_rfl) (by kernel_rfl) (by kernel_rfl) (fun a w _ hE hS => ?_)) rfl
  refine at_end rfl ?_
  obtain rfl := Option.some.inj hf
  repeat (with_reducible first | refine then_ret ?_ | refine block_ret ?_ | refine qx_ret ?_)
  refine ret_genN ([]) hE (by rw [show Tryd.f28.results.toList = [] from rfl]; exact rfl) ?_
  exact ⟨_, rfl, D0, q6, rfl, hS, h7⟩

set_option maxRecDepth 100000 in
set_option maxHeartbeats 4000000 in
theorem log_Log_Append.calls {K : Nat} {g w0 : World} {D0 : Snap} {x5 : (List Int)} {x9 : T_log_at} {x10 : (List Int)} {x16 : Int} {x17 : Int} {b1 : Nat} {b2 : Nat} {A6 : Option Addr} {c7 : Nat} {A11 : Option Addr} {c12 : Nat} {q13 : Blk} {r : (Int × T_log_at × (List Int) × Int)} (hf : log_Log_Append.f K x5 x9 x10 x16 x17 = some r) (hS0 : St g w0 D0 [bx b1 64 ([.pointer (some ⟨b2, 0, none⟩)] ++ ((c_T_log_at (x9)))), bx b2 72 (c_T_disk_Disk ((T_disk_Disk.mk (x10) (x16) (x17))) A11 c12), q13]) (h8 : Sl (kdInt .u8) D0 A6 c7 (x5)) (h14 : OwnL (kdInt .u8) 5 D0 A11 c12 (x10) q13) (hG0 : Cell (kdArr .u32 8) D0 0 0 gl_First) (hG1 : Cell (kdArr .u32 64) D0 1 0 gl_K) :
    CallsIn (Fw none) 0 Tryd.prog 17 (List.toArray [.pointer (some ⟨b1, 0, none⟩), .slice A6 (List.length (x5)) c7]) w0 (fun e w' => ∃ v, e = .returned v ∧ ∃ (D1 : Snap) (A44 : Option Addr) (c45 : Nat) (q46 : Blk), v = .int .i64 (r.1) ∧ Stp g w0 D0 [bx b1 64 ([.pointer (some ⟨b2, 0, none⟩)] ++ ((c_T_log_at (x9)))), bx b2 72 (c_T_disk_Disk ((T_disk_Disk.mk (x10) (x16) (x17))) A11 c12), q13] w' D1 [bx b1 64 ([.pointer (some ⟨b2, 0, none⟩)] ++ ((c_T_log_at ((T_log_at.mk (r.2.1.fCount) (r.2.1.fChain)))))), bx b2 72 (c_T_disk_Disk ((T_disk_Disk.mk (r.2.2.1) (r.2.2.2) (x17))) A44 c45), q46] ∧ OwnL (kdInt .u8) 5 D1 A44 c45 (r.2.2.1) q46) := by
  unfold log_Log_Append.f at hf
  have hS := Stp.refl hS0
  clear hS0
  refine calls_body (n := 17) Tryd.func17 rfl Tryd.ntmps17 rfl (fun a hE => ?_)
  have hE : Env a 17 [] [(0, .pointer (some ⟨b1, 0, none⟩)), (1, .slice A6 (List.length (x5)) c7)] := hE
  refine wpIn_seq ?_
  refine region_at ?_
  refine segN 1 (j := 1) [(4, .int .i64 ((0 : Int)))] hE (by kernel_rfl) rfl (fun a hE => ?_)
  refine at_end rfl ?_
  refine wpIn_seq ?_
  refine region_at ?_
  refine segN 2 (j := 2) [(6, .pointer (some ⟨b1, 0, none⟩)), (7, .slice A6 (List.length (x5)) c7)] hE (by kernel_rfl) rfl (fun a hE => ?_)
  obtain ⟨r49, h50, hf⟩ := bind_some hf
  refine at_op (op_call rfl rfl rfl rfl hE rfl rfl rfl rfl (by kernel_rfl) (log_Log_Put.calls (g := g) h50 (hS.st.fore (L := [bx b1 64 ([.pointer (some ⟨b2, 0, none⟩)] ++ ((c_T_log_at (x9)))), bx b2 72 (c_T_disk_Disk ((T_disk_Disk.mk (x10) (x16) (x17))) A11 c12), q13])) h8 h14 hG0 hG1) (fun a v w hR hE => ?_)) rfl
  obtain ⟨D51, A53, c54, q55, rfl, hS1, h56⟩ := hR
  have le58 := hS1.dle
  have hS := hS.callR hS1 rfl (.c (.c (.c .n)))
  clear hS1
  refine segN 1 (j := 4) [(5, .int .i64 (r49.1))] hE (by kernel_rfl) rfl (fun a hE => ?_)
  refine at_end rfl ?_
  refine wpIn_seq ?_
  refine wpIn_seq ?_
  refine region_at ?_
  refine segN 2 (j := 2) [(10, .bool ((decide (r49.1 = (0 : Int)))))] hE (by kernel_rfl) rfl (fun a hE => ?_)
  refine at_end rfl ?_
  refine cond_split hE (b := (decide (r49.1 = (0 : Int)))) rfl (fun hb => ?_) (fun hb => ?_)
  · replace hf := cond_t hb hf
    clear hb
    refine region_at ?_
    refine segN 2 (j := 2) [(12, .pointer (some ⟨b1, 0, none⟩))] hE (by kernel_rfl) rfl (fun a hE => ?_)
    refine at_op (op_tk hE (g_fieldAddr (fo := 0) (ft := 30) 0 rfl rfl rfl rfl hE rfl rfl (by kernel_rfl) rfl (fun a hE => ?_))) rfl
    refine at_op (op_tk hE (tk_load 0 (.pointer (some ⟨b2, 0, none⟩)) rfl rfl rfl rfl hE rfl hS rfl rfl (by kernel_rfl) (kL (j := 0) hS rfl List.not_mem_nil) (fun a hE => ?_))) rfl
    have hS := hS.pk (.c 1 rfl (.c 2 rfl (.c 0 rfl .n))) rfl
    obtain ⟨r67, h68, hf⟩ := bind_some hf
    refine at_op (op_call rfl rfl rfl rfl hE rfl rfl rfl rfl (by kernel_rfl) (disk_Disk_Sync.calls (g := g) h68 (hS.st.fore (L := [bx b2 72 (c_T_disk_Disk ((T_disk_Disk.mk (r49.2.2) (x16) (x17))) A53 c54), q55])) h56) (fun a v w hR hE => ?_)) rfl
    obtain ⟨D69, q71, rfl, hS1, h72⟩ := hR
    have le74 := hS1.dle
    have hS := hS.callR hS1 rfl (.c (.c .n))
    clear hS1
    refine at_end rfl ?_
    refine wpIn_seq ?_
    refine region_at ?_
    refine segN 2 (j := 2) [(4, .int .i64 (r49.1))] hE (by kernel_rfl) rfl (fun a hE => ?_)
    refine at_end rfl ?_
    refine wpIn_ret ?_
    obtain rfl := Option.some.inj hf
    repeat (with_reducible first | refine then_ret ?_ | refine block_ret ?_ | refine qx_ret ?_)
    refine ret_gen ([.int .i64 (r49.1)]) hE (by rw [show Tryd.f17.results.toList = [.tmp 4] from rfl]; exact ⟨_, _, rfl, rfl, rfl⟩) ?_
    have hS := hS.pk (.c 2 rfl (.c 0 rfl (.c 1 rfl .n))) rfl
    exact ⟨_, rfl, D69, A53, c54, q71, rfl, hS, h72⟩
  · replace hf := cond_f hb hf
    clear hb
    refine wpIn_skip ?_
    refine wpIn_seq ?_
    refine region_at ?_
    refine segN 2 (j := 2) [(4, .int .i64 (r49.1))] hE (by kernel_rfl) rfl (fun a hE => ?_)
    refine at_end rfl ?_
    refine wpIn_ret ?_
    obtain rfl := Option.some.inj hf
    repeat (with_reducible first | refine then_ret ?_ | refine block_ret ?_ | refine qx_ret ?_)
    refine ret_gen ([.int .i64 (r49.1)]) hE (by rw [show Tryd.f17.results.toList = [.tmp 4] from rfl]; exact ⟨_, _, rfl, rfl, rfl⟩) ?_
    exact ⟨_, rfl, D51, A53, c54, q55, rfl, hS, h56⟩

set_option maxRecDepth 100000 in
set_option maxHeartbeats 4000000 in
theorem log_Log_Count.calls {K : Nat} {g w0 : World} {D0 : Snap} {x5 : T_log_at} {x6 : (List Int)} {x12 : Int} {x13 : Int} {b1 : Nat} {b2 : Nat} {A7 : Option Addr} {c8 : Nat} {q9 : Blk} {r : (Int)} (hf : log_Log_Count.f K x5 x6 x12 x13 = some r) (hS0 : St g w0 D0 [bx b1 64 ([.pointer (some ⟨b2, 0, none⟩)] ++ ((c_T_log_at (x5)))), bx b2 72 (c_T_disk_Disk ((T_disk_Disk.mk (x6) (x12) (x13))) A7 c8), q9]) (h10 : OwnL (kdInt .u8) 5 D0 A7 c8 (x6) q9) :
    CallsIn (Fw none) 0 Tryd.prog 21 (List.toArray [.pointer (some ⟨b1, 0, none⟩)]) w0 (fun e w' => ∃ v, e = .returned v ∧ ∃ (D1 : Snap) (q14 : Blk), v = .int .i64 (r) ∧ Stp g w0 D0 [bx b1 64 ([.pointer (some ⟨b2, 0, none⟩)] ++ ((c_T_log_at (x5)))), bx b2 72 (c_T_disk_Disk ((T_disk_Disk.mk (x6) (x12) (x13))) A7 c8), q9] w' D1 [bx b1 64 ([.pointer (some ⟨b2, 0, none⟩)] ++ ((c_T_log_at (x5)))), bx b2 72 (c_T_disk_Disk ((T_disk_Disk.mk (x6) (x12) (x13))) A7 c8), q14] ∧ OwnL (kdInt .u8) 5 D1 A7 c8 (x6) q14) := by
  unfold log_Log_Count.f at hf
  have hS := Stp.refl hS0
  clear hS0
  refine calls_body (n := 10) Tryd.func21 rfl Tryd.ntmps21 rfl (fun a hE => ?_)
  have hE : Env a 10 [] [(0, .pointer (some ⟨b1, 0, none⟩))] := hE
  refine wpIn_seq ?_
  refine region_at ?_
  refine segN 1 (j := 1) [(2, .int .i64 ((0 : Int)))] hE (by kernel_rfl) rfl (fun a hE => ?_)
  refine at_end rfl ?_
  refine wpIn_seq ?_
  refine wpIn_seq ?_
  refine region_at ?_
  refine segN 1 (j := 1) [(3, .pointer (some ⟨b1, 0, none⟩))] hE (by kernel_rfl) rfl (fun a hE => ?_)
  refine at_op (op_tk hE (tk_bin (r := .bool false) rfl rfl rfl rfl hE rfl rfl rfl (eqptr_run (by kernel_rfl) _) (fun a hE => ?_))) rfl
  refine at_end rfl ?_
  refine wpIn_cond_false (hE.eval rfl) ?_
  refine wpIn_skip ?_
  refine wpIn_seq ?_
  refine region_at ?_
  refine segN 2 (j := 2) [(6, .pointer (some ⟨b1, 0, none⟩))] hE (by kernel_rfl) rfl (fun a hE => ?_)
  refine at_op (op_tk hE (g_fieldAddr (fo := 1) (ft := 62) 1 rfl rfl rfl rfl hE rfl rfl (by kernel_rfl) rfl (fun a hE => ?_))) rfl
  refine at_op (op_tk hE (g_fieldAddr (fo := 0) (ft := 3) 1 rfl rfl rfl rfl hE rfl rfl (by kernel_rfl) rfl (fun a hE => ?_))) rfl
  refine at_op (op_tk hE (tk_load 0 (.int .i64 (x5.fCount)) rfl rfl rfl rfl hE rfl hS rfl rfl (by kernel_rfl) (kL (j := 0) hS rfl List.not_mem_nil) (fun a hE => ?_))) rfl
  refine segN 1 (j := 6) [(2, .int .i64 (x5.fCount))] hE (by kernel_rfl) rfl (fun a hE => ?_)
  refine at_end rfl ?_
  refine wpIn_ret ?_
  obtain rfl := Option.some.inj hf
  repeat (with_reducible first | refine then_ret ?_ | refine block_ret ?_ | refine qx_ret ?_)
  refine ret_gen ([.int .i64 (x5.fCount)]) hE (by rw [show Tryd.f21.results.toList = [.tmp 2] from rfl]; exact ⟨_, _, rfl, rfl, rfl⟩) ?_
  exact ⟨_, rfl, D0, q9, rfl, hS, h10⟩

set_option maxRecDepth 100000 in
set_option maxHeartbeats 4000000 in
theorem disk_Disk_Crash.calls {K : Nat} {g w0 : World} {D0 : Snap} {x3 : Int} {x4 : (List Int)} {x10 : Int} {x11 : Int} {b1 : Nat} {A5 : Option Addr} {c6 : Nat} {q7 : Blk} {r : ((List Int) × Int)} (hf : disk_Disk_Crash.f K x3 x4 x10 x11 = some r) (hS0 : St g w0 D0 [bx b1 72 (c_T_disk_Disk ((T_disk_Disk.mk (x4) (x10) (x11))) A5 c6), q7]) (h8 : OwnL (kdInt .u8) 5 D0 A5 c6 (x4) q7) :
    CallsIn (Fw none) 0 Tryd.prog 18 (List.toArray [.pointer (some ⟨b1, 0, none⟩), .int .i64 (x3)]) w0 (fun e w' => ∃ v, e = .returned v ∧ ∃ (D1 : Snap) (A32 : Option Addr) (c33 : Nat) (q34 : Blk), v = .tuple #[] ∧ Stp g w0 D0 [bx b1 72 (c_T_disk_Disk ((T_disk_Disk.mk (x4) (x10) (x11))) A5 c6), q7] w' D1 [bx b1 72 (c_T_disk_Disk ((T_disk_Disk.mk (r.1) (r.2) (x11))) A32 c33), q34] ∧ OwnL (kdInt .u8) 5 D1 A32 c33 (r.1) q34) := by
  unfold disk_Disk_Crash.f at hf
  have hS := Stp.refl hS0
  clear hS0
  refine calls_body (n := 26) Tryd.func18 rfl Tryd.ntmps18 rfl (fun a hE => ?_)
  have hE : Env a 26 [] [(0, .pointer (some ⟨b1, 0, none⟩)), (1, .int .i64 (x3))] := hE
  refine wpIn_seq ?_
  refine region_at ?_
  refine segN 1 (j := 1) [(4, .pointer (some ⟨b1, 0, none⟩))] hE (by kernel_rfl) rfl (fun a hE => ?_)
  refine at_op (op_tk hE (tk_bin (r := .bool true) rfl rfl rfl rfl hE rfl rfl rfl (neptr_run (by kernel_rfl) _) (fun a hE => ?_))) rfl
  refine at_end rfl ?_
  refine wpIn_cond_true (hE.eval rfl) ?_
  refine region_draw (fun j => Keeps (mfOf [(19, [b1] ++ ids [q7])] j)) (by kernel_rfl) ?_
  have hS := hS.drew
  first | generalize w.drew = w at hS ⊢ | generalize w0.drew = w at hS ⊢
  refine tW 0 1 (fuel := 19) (by kernel_rfl) hE (fun M => tk_pure (.pointer (some ⟨b1, 0, none⟩)) hE rfl rfl rfl rfl (fun _ _ _ e => by cases e) (by kernel_rfl) (fun a hE => ?_))
  refine tW 1 3 (fuel := 18) (by kernel_rfl) hE (fun M => tk_pure (.pointer (some ⟨b1, 0, none⟩)) hE rfl rfl rfl rfl (fun _ _ _ e => by cases e) (by kernel_rfl) (fun a hE => ?_))
  refine tW 2 7 (fuel := 17) (by kernel_rfl) hE (fun M => tk_pure (.pointer (some ⟨b1, 0, none⟩)) hE rfl rfl rfl rfl (fun _ _ _ e => by cases e) (by kernel_rfl) (fun a hE => ?_))
  refine tW 5 39 (fuel := 16) (by kernel_rfl) hE (fun M => tk_pure (.int .i64 (x3)) hE rfl rfl rfl rfl (fun _ _ _ e => by cases e) (by kernel_rfl) (fun a hE => ?_))
  refine tW 6 103 (fuel := 15) (by kernel_rfl) hE (fun M => tk_pure (.pointer (some ⟨b1, 0, none⟩)) hE rfl rfl rfl rfl (fun _ _ _ e => by cases e) (by kernel_rfl) (fun a hE => ?_))
  refine tW 7 231 (fuel := 14) (by kernel_rfl) hE (fun M => tk_pure (.pointer (some ⟨b1, 0, none⟩)) hE rfl rfl rfl rfl (fun _ _ _ e => by cases e) (by kernel_rfl) (fun a hE => ?_))
  refine tW 11 2279 (fuel := 13) (by kernel_rfl) hE (fun M => tk_pure (.pointer (some ⟨b1, 0, none⟩)) hE rfl rfl rfl rfl (fun _ _ _ e => by cases e) (by kernel_rfl) (fun a hE => ?_))
  refine tW 12 6375 (fuel := 12) (by kernel_rfl) hE (fun M => tk_pure (.pointer (some ⟨b1, 0, none⟩)) hE rfl rfl rfl rfl (fun _ _ _ e => by cases e) (by kernel_rfl) (fun a hE => ?_))
  refine tW 3 6383 (fuel := 11) (by kernel_rfl) hE (fun M => g_fieldAddr (fo := 1) (ft := 3) 1 rfl rfl rfl rfl hE rfl rfl (by kernel_rfl) rfl (fun a hE => ?_))
  refine tS (T := [(19, [b1] ++ ids [q7])]) [] [4, 18, 19] 4 6399 (fuel := 10) (by kernel_rfl) hE (tk_load 0 (.int .i64 (x10)) rfl rfl rfl rfl hE rfl hS rfl rfl (by kernel_rfl) (kL (j := 0) hS rfl List.not_mem_nil) (fun a hE => ?_))
  refine tW 8 6655 (fuel := 9) (by kernel_rfl) hE (fun M => g_fieldAddr (fo := 0) (ft := 33) 0 rfl rfl rfl rfl hE rfl rfl (by kernel_rfl) rfl (fun a hE => ?_))
  refine tS (T := [(19, [b1] ++ ids [q7])]) [] [9, 10, 15, 16, 17, 18, 19] 9 7167 (fuel := 8) (by kernel_rfl) hE (tk_load 0 (.slice A5 (List.length (x4)) c6) rfl rfl rfl rfl hE rfl hS rfl rfl (by kernel_rfl) (kL (j := 0) hS rfl List.not_mem_nil) (fun a hE => ?_))
  refine tW 10 8191 (fuel := 7) (by kernel_rfl) hE (fun M => tk_pure (.int .i64 (((List.length (x4) : Nat) : Int))) hE rfl rfl rfl rfl (fun _ _ _ e => by cases e) (by kernel_rfl) (fun a hE => ?_))
  refine tW 13 16383 (fuel := 6) (by kernel_rfl) hE (fun M => g_fieldAddr (fo := 1) (ft := 3) 1 rfl rfl rfl rfl hE rfl rfl (by kernel_rfl) rfl (fun a hE => ?_))
  refine tS (T := [(19, [b1] ++ ids [q7])]) [] [14, 15, 16, 17, 18, 19] 14 32767 (fuel := 5) (by kernel_rfl) hE (tk_load 0 (.int .i64 (x10)) rfl rfl rfl rfl hE rfl hS rfl rfl (by kernel_rfl) (kL (j := 0) hS rfl List.not_mem_nil) (fun a hE => ?_))
  refine tW 15 65535 (fuel := 4) (by kernel_rfl) hE (fun M => tk_pure (.int .i64 ((IntKind.wrap .i64 (((List.length (x4) : Nat) : Int) - x10)))) hE rfl rfl rfl rfl (fun _ _ _ e => by cases e) (by kernel_rfl) (fun a hE => ?_))
  refine tW 16 131071 (fuel := 3) (by kernel_rfl) hE (fun M => tk_pure (.int .i64 ((minI x3 (IntKind.wrap .i64 (((List.length (x4) : Nat) : Int) - x10))))) hE rfl rfl rfl rfl (fun _ _ _ e => by cases e) (by kernel_rfl) (fun a hE => ?_))
  refine tW 17 262143 (fuel := 2) (by kernel_rfl) hE (fun M => tk_pure (.int .i64 ((maxI (0 : Int) (minI x3 (IntKind.wrap .i64 (((List.length (x4) : Nat) : Int) - x10)))))) hE rfl rfl rfl rfl (fun _ _ _ e => by cases e) (by kernel_rfl) (fun a hE => ?_))
  refine tW 18 524287 (fuel := 1) (by kernel_rfl) hE (fun M => tk_pure (.int .i64 ((IntKind.wrap .i64 (x10 + (maxI (0 : Int) (minI x3 (IntKind.wrap .i64 (((List.length (x4) : Nat) : Int) - x10)))))))) hE rfl rfl rfl rfl (fun _ _ _ e => by cases e) (by kernel_rfl) (fun a hE => ?_))
  obtain ⟨r47, h48, hf⟩ := bind_some hf
  refine oG 19 1048575 (fuel := 0) (by kernel_rfl) (op_call rfl rfl rfl rfl hE rfl rfl rfl rfl (by kernel_rfl) (disk_Disk_leave.calls (g := g) h48 (hS.st.fore (L := [bx b1 72 (c_T_disk_Disk ((T_disk_Disk.mk (x4) (x10) (x11))) A5 c6), q7])) h8) (fun a v w hR hE => ?_))
  obtain ⟨D49, A51, c52, q53, rfl, hS1, h54⟩ := hR
  refine ⟨hS1.keeps.mono (fun _ h => h), ?_⟩
  have le56 := hS1.dle
  have hS := hS.callR hS1 rfl (.c (.c .n))
  clear hS1
  refine doneG (by kernel_rfl) ?_
  obtain rfl := Option.some.inj hf
  repeat (with_reducible first | refine then_ret ?_ | refine block_ret ?_ | refine qx_ret ?_)
  refine ret_genN ([]) hE (by rw [show Tryd.f18.results.toList = [] from rfl]; exact rfl) ?_
  exact ⟨_, rfl, D49, A51, c52, q53, rfl, hS, h54⟩

set_option maxRecDepth 100000 in
set_option maxHeartbeats 4000000 in
theorem log_Log_Size.calls {K : Nat} {g w0 : World} {D0 : Snap} {x5 : Int} {x6 : T_log_at} {x7 : (List Int)} {x13 : Int} {x14 : Int} {b1 : Nat} {b2 : Nat} {A8 : Option Addr} {c9 : Nat} {q10 : Blk} {r : (Int)} (hf : log_Log_Size.f K x5 x6 x7 x13 x14 = some r) (hS0 : St g w0 D0 [bx b1 64 ([.pointer (some ⟨b2, 0, none⟩)] ++ ((c_T_log_at (x6)))), bx b2 72 (c_T_disk_Disk ((T_disk_Disk.mk (x7) (x13) (x14))) A8 c9), q10]) (h11 : OwnL (kdInt .u8) 5 D0 A8 c9 (x7) q10) :
    CallsIn (Fw none) 0 Tryd.prog 29 (List.toArray [.pointer (some ⟨b1, 0, none⟩), .int .i64 (x5)]) w0 (fun e w' => ∃ v, e = .returned v ∧ ∃ (D1 : Snap) (q35 : Blk), v = .int .i64 (r) ∧ Stp g w0 D0 [bx b1 64 ([.pointer (some ⟨b2, 0, none⟩)] ++ ((c_T_log_at (x6)))), bx b2 72 (c_T_disk_Disk ((T_disk_Disk.mk (x7) (x13) (x14))) A8 c9), q10] w' D1 [bx b1 64 ([.pointer (some ⟨b2, 0, none⟩)] ++ ((c_T_log_at (x6)))), bx b2 72 (c_T_disk_Disk ((T_disk_Disk.mk (x7) (x13) (x14))) A8 c9), q35] ∧ OwnL (kdInt .u8) 5 D1 A8 c9 (x7) q35) := by
  unfold log_Log_Size.f at hf
  have hS := Stp.refl hS0
  clear hS0
  refine calls_body (n := 17) Tryd.func29 rfl Tryd.ntmps29 rfl (fun a hE => ?_)
  have hE : Env a 17 [] [(0, .pointer (some ⟨b1, 0, none⟩)), (1, .int .i64 (x5))] := hE
  refine wpIn_seq ?_
  refine region_at ?_
  refine segN 1 (j := 1) [(4, .int .i64 ((0 : Int)))] hE (by kernel_rfl) rfl (fun a hE => ?_)
  refine at_end rfl ?_
  refine wpIn_seq ?_
  obtain ⟨j56, hj57, hf⟩ := jn_elim hf
  refine seq_join (fun a w => ∃ (y43 : Bool), ∃ (D44 : Snap), Env a 17 [] [(1, .int .i64 (x5)), (10, .bool (y43))] ∧ Stp g w0 D0 [bx b1 64 ([.pointer (some ⟨b2, 0, none⟩)] ++ ((c_T_log_at (x6)))), bx b2 72 (c_T_disk_Disk ((T_disk_Disk.mk (x7) (x13) (x14))) A8 c9), q10] w D44 [bx b1 64 ([.pointer (some ⟨b2, 0, none⟩)] ++ ((c_T_log_at (x6)))), bx b2 72 (c_T_disk_Disk ((T_disk_Disk.mk (x7) (x13) (x14))) A8 c9), q10] ∧ Snap.le D0 D44 ∧ j56 y43 = some r) ?_ ?_
  · clear hj57
    refine region_at ?_
    refine segN 3 (j := 3) [(7, .bool ((decide (x5 < (1 : Int)))))] hE (by kernel_rfl) rfl (fun a hE => ?_)
    cases hb : (decide (x5 < (1 : Int)))
    · replace hf := cond_f hb hf
      have hE := hE.know (t := 7) (b := (decide (x5 < (1 : Int)))) (b' := false) rfl hb
      clear hb
      refine segN 3 (j := 6) [(10, .bool ((decide ((2000 : Int) < x5))))] hE (by kernel_rfl) rfl (fun a hE => ?_)
      refine at_end rfl ?_
      exact ⟨(decide ((2000 : Int) < x5)), D0, hE.weak (by kernel_rfl), hS, Snap.le.refl _, hf⟩
    · replace hf := cond_t hb hf
      have hE := hE.know (t := 7) (b := (decide (x5 < (1 : Int)))) (b' := true) rfl hb
      clear hb
      refine segN 3 (j := 6) [(10, .bool true)] hE (by kernel_rfl) rfl (fun a hE => ?_)
      refine at_end rfl ?_
      exact ⟨true, D0, hE.weak (by kernel_rfl), hS, Snap.le.refl _, hf⟩
  · clear hE hS
    rintro a w ⟨y43, D44, hE, hS, le45, hf⟩
    replace hf := hj57 _ hf
    clear hj57
    refine cond_split hE (b := y43) rfl (fun hb => ?_) (fun hb => ?_)
    · replace hf := cond_t hb hf
      clear hb
      refine wpIn_seq ?_
      refine region_at ?_
      refine segN 1 (j := 1) [(4, .int .i64 ((0 : Int)))] hE (by kernel_rfl) rfl (fun a hE => ?_)
      refine at_end rfl ?_
      refine wpIn_ret ?_
      obtain rfl := Option.some.inj hf
      repeat (with_reducible first | refine then_ret ?_ | refine block_ret ?_ | refine qx_ret ?_)
      refine ret_gen ([.int .i64 ((0 : Int))]) hE (by rw [show Tryd.f29.results.toList = [.tmp 4] from rfl]; exact ⟨_, _, rfl, rfl, rfl⟩) ?_
      exact ⟨_, rfl, D44, q10, rfl, hS, (h11.mono le45)⟩
    · replace hf := cond_f hb hf
      clear hb
      refine wpIn_skip ?_
      refine wpIn_seq ?_
      refine region_at ?_
      refine segN 1 (j := 1) [(11, .int .i64 (x5))] hE (by kernel_rfl) rfl (fun a hE => ?_)
      obtain ⟨r46, h47, hf⟩ := bind_some hf
      refine at_op (op_call rfl rfl rfl rfl hE rfl rfl rfl rfl (by kernel_rfl) (wire_Num.calls (g := g) h47 (hS.st.fore (L := [])) ) (fun a v w hR hE => ?_)) rfl
      obtain ⟨D48, A50, c51, q52, rfl, hS1, h53⟩ := hR
      have le55 := hS1.dle
      have hS := hS.callR hS1 rfl (.c .n)
      clear hS1
      refine segN 5 (j := 7) [(4, .int .i64 ((IntKind.wrap .i64 ((IntKind.wrap .i64 (((List.length (r46) : Nat) : Int) + x5)) + (8 : Int)))))] hE (by kernel_rfl) rfl (fun a hE => ?_)
      refine at_end rfl ?_
      refine wpIn_ret ?_
      obtain rfl := Option.some.inj hf
      repeat (with_reducible first | refine then_ret ?_ | refine block_ret ?_ | refine qx_ret ?_)
      refine ret_gen ([.int .i64 ((IntKind.wrap .i64 ((IntKind.wrap .i64 (((List.length (r46) : Nat) : Int) + x5)) + (8 : Int))))]) hE (by rw [show Tryd.f29.results.toList = [.tmp 4] from rfl]; exact ⟨_, _, rfl, rfl, rfl⟩) ?_
      have hS := hS.pk (.c 1 rfl (.c 2 rfl (.c 3 rfl .n))) rfl
      exact ⟨_, rfl, D48, q10, rfl, hS, (h11.mono (Snap.le.trans le45 le55))⟩

set_option maxRecDepth 100000 in
set_option maxHeartbeats 4000000 in
theorem log_Log_Chain.calls {K : Nat} {g w0 : World} {D0 : Snap} {x5 : T_log_at} {x6 : (List Int)} {x12 : Int} {x13 : Int} {b1 : Nat} {b2 : Nat} {A7 : Option Addr} {c8 : Nat} {q9 : Blk} {r : ((Vector Int 32))} (hf : log_Log_Chain.f K x5 x6 x12 x13 = some r) (hS0 : St g w0 D0 [bx b1 64 ([.pointer (some ⟨b2, 0, none⟩)] ++ ((c_T_log_at (x5)))), bx b2 72 (c_T_disk_Disk ((T_disk_Disk.mk (x6) (x12) (x13))) A7 c8), q9]) (h10 : OwnL (kdInt .u8) 5 D0 A7 c8 (x6) q9) :
    CallsIn (Fw none) 0 Tryd.prog 22 (List.toArray [.pointer (some ⟨b1, 0, none⟩)]) w0 (fun e w' => ∃ v, e = .returned v ∧ ∃ (D1 : Snap) (q16 : Blk), v = .agg (List.toArray (acells .u8 32 (r))) ∧ Stp g w0 D0 [bx b1 64 ([.pointer (some ⟨b2, 0, none⟩)] ++ ((c_T_log_at (x5)))), bx b2 72 (c_T_disk_Disk ((T_disk_Disk.mk (x6) (x12) (x13))) A7 c8), q9] w' D1 [bx b1 64 ([.pointer (some ⟨b2, 0, none⟩)] ++ ((c_T_log_at (x5)))), bx b2 72 (c_T_disk_Disk ((T_disk_Disk.mk (x6) (x12) (x13))) A7 c8), q16] ∧ OwnL (kdInt .u8) 5 D1 A7 c8 (x6) q16) := by
  unfold log_Log_Chain.f at hf
  have hS := Stp.refl hS0
  clear hS0
  refine calls_body (n := 19) Tryd.func22 rfl Tryd.ntmps22 rfl (fun a hE => ?_)
  have hE : Env a 19 [] [(0, .pointer (some ⟨b1, 0, none⟩))] := hE
  refine wpIn_seq ?_
  refine region_at ?_
  refine at_op (op_alloc (z := .agg (List.toArray (acells .u8 32 ((Vector.replicate 32 (0 : Int)))))) rfl rfl rfl rfl hE rfl hS (by kernel_rfl) (fun a b19 w _ hE hS => ?_)) rfl
  refine at_end rfl ?_
  refine wpIn_seq ?_
  refine wpIn_seq ?_
  refine region_at ?_
  refine segN 1 (j := 1) [(3, .pointer (some ⟨b1, 0, none⟩))] hE (by kernel_rfl) rfl (fun a hE => ?_)
  refine at_op (op_tk hE (tk_bin (r := .bool false) rfl rfl rfl rfl hE rfl rfl rfl (eqptr_run (by kernel_rfl) _) (fun a hE => ?_))) rfl
  refine segN 3 (j := 5) [(5, .bool false), (7, .pointer (some ⟨b1, 0, none⟩))] hE (by kernel_rfl) rfl (fun a hE => ?_)
  refine at_op (op_tk hE (g_fieldAddr (fo := 1) (ft := 62) 1 rfl rfl rfl rfl hE rfl rfl (by kernel_rfl) rfl (fun a hE => ?_))) rfl
  refine at_op (op_tk hE (tk_load 1 (.agg (List.toArray (c_T_log_at (x5)))) rfl rfl rfl rfl hE rfl hS rfl rfl (by kernel_rfl) (kL (j := 1) hS rfl List.not_mem_nil) (fun a hE => ?_))) rfl
  refine at_op (op_tk hE (tk_build (c_T_log_at ((T_log_at.mk ((0 : Int)) ((Vector.replicate 32 (0 : Int)))))) rfl rfl rfl rfl hE rfl rfl (by kernel_rfl) (fun a hE => ?_))) rfl
  refine at_op (op_tk hE (tk_bin (r := .bool (((decide (x5.fCount = (0 : Int))) && ((decide (x5.fChain = (Vector.replicate 32 (0 : Int)))) && true)))) rfl rfl rfl rfl hE rfl rfl rfl (eqagg_run (by kernel_rfl) (EqR_struct (fs := structFs Tryd.prog 62) (by kernel_rfl) ⟨.int .i64 (x5.fCount), .int .i64 ((0 : Int)), (decide (x5.fCount = (0 : Int))), _, by kernel_rfl, by kernel_rfl, by kernel_rfl, (EqR_int (by kernel_rfl)), ⟨.agg (List.toArray (acells .u8 32 (x5.fChain))), .agg (List.toArray (acells .u8 32 ((Vector.replicate 32 (0 : Int))))), (decide (x5.fChain = (Vector.replicate 32 (0 : Int)))), _, by kernel_rfl, by kernel_rfl, by kernel_rfl, (EqR_arr (k := .u8) (N := 32) (by kernel_rfl)), rfl, rfl⟩, rfl⟩)) (fun a hE => ?_))) rfl
  refine segN 1 (j := 10) [(12, .bool (((decide (x5.fCount = (0 : Int))) && ((decide (x5.fChain = (Vector.replicate 32 (0 : Int)))) && true))))] hE (by kernel_rfl) rfl (fun a hE => ?_)
  refine at_end rfl ?_
  refine cond_split hE (b := ((decide (x5.fCount = (0 : Int))) && ((decide (x5.fChain = (Vector.replicate 32 (0 : Int)))) && true))) rfl (fun hb => ?_) (fun hb => ?_)
  · replace hf := cond_t hb hf
    clear hb
    refine wpIn_seq ?_
    refine region_at ?_
    refine at_op (op_tk hE (tk_build (acells .u8 32 ((vofL 32 [(0 : Int), (0 : Int), (0 : Int), (0 : Int), (0 : Int), (0 : Int), (0 : Int), (0 : Int), (0 : Int), (0 : Int), (0 : Int), (0 : Int), (0 : Int), (0 : Int), (0 : Int), (0 : Int), (0 : Int), (0 : Int), (0 : Int), (0 : Int), (0 : Int), (0 : Int), (0 : Int), (0 : Int), (0 : Int), (0 : Int), (0 : Int), (0 : Int), (0 : Int), (0 : Int), (0 : Int), (0 : Int)]))) rfl rfl rfl rfl hE rfl rfl (by kernel_rfl) (fun a hE => ?_))) rfl
    refine at_op (op_store (v := .agg (List.toArray (acells .u8 32 ((vofL 32 [(0 : Int), (0 : Int), (0 : Int), (0 : Int), (0 : Int), (0 : Int), (0 : Int), (0 : Int), (0 : Int), (0 : Int), (0 : Int), (0 : Int), (0 : Int), (0 : Int), (0 : Int), (0 : Int), (0 : Int), (0 : Int), (0 : Int), (0 : Int), (0 : Int), (0 : Int), (0 : Int), (0 : Int), (0 : Int), (0 : Int), (0 : Int), (0 : Int), (0 : Int), (0 : Int), (0 : Int), (0 : Int)]))))) (acells .u8 32 ((vofL 32 [(0 : Int), (0 : Int), (0 : Int), (0 : Int), (0 : Int), (0 : Int), (0 : Int), (0 : Int), (0 : Int), (0 : Int), (0 : Int), (0 : Int), (0 : Int), (0 : Int), (0 : Int), (0 : Int), (0 : Int), (0 : Int), (0 : Int), (0 : Int), (0 : Int), (0 : Int), (0 : Int), (0 : Int), (0 : Int), (0 : Int), (0 : Int), (0 : Int), (0 : Int), (0 : Int), (0 : Int), (0 : Int)]))) rfl rfl rfl rfl hE hS rfl rfl (by kernel_rfl) (by kernel_rfl) (by kernel_rfl) (by kernel_rfl) (by kernel_rfl) (fun a w _ hE hS => ?_)) rfl
    refine at_end rfl ?_
    refine wpIn_ret ?_
    obtain rfl := Option.some.inj hf
    repeat (with_reducible first | refine then_ret ?_ | refine block_ret ?_ | refine qx_ret ?_)
    refine ret_gen ([.agg (List.toArray (acells .u8 32 ((vofL 32 [(0 : Int), (0 : Int), (0 : Int), (0 : Int), (0 : Int), (0 : Int), (0 : Int), (0 : Int), (0 : Int), (0 : Int), (0 : Int), (0 : Int), (0 : Int), (0 : Int), (0 : Int), (0 : Int), (0 : Int), (0 : Int), (0 : Int), (0 : Int), (0 : Int), (0 : Int), (0 : Int), (0 : Int), (0 : Int), (0 : Int), (0 : Int), (0 : Int), (0 : Int), (0 : Int), (0 : Int), (0 : Int)]))))]) hE (by rw [show Tryd.f22.results.toList = [.cell 2 48] from rfl]; exact ⟨_, _, _, 0, _, _, rfl, rfl, hS.heapAt (j := 0) rfl, by kernel_rfl, rfl⟩) ?_
    have hS := hS.pk (.c 1 rfl (.c 2 rfl (.c 3 rfl .n))) rfl
    exact ⟨_, rfl, D0, q9, rfl, hS, h10⟩
  · replace hf := cond_f hb hf
    clear hb
    refine wpIn_skip ?_
    refine wpIn_seq ?_
    refine region_at ?_
    refine segN 2 (j := 2) [(15, .pointer (some ⟨b1, 0, none⟩))] hE (by kernel_rfl) rfl (fun a hE => ?_)
    refine at_op (op_tk hE (g_fieldAddr (fo := 1) (ft := 62) 1 rfl rfl rfl rfl hE rfl rfl (by kernel_rfl) rfl (fun a hE => ?_))) rfl
    refine at_op (op_tk hE (g_fieldAddr (fo := 1) (ft := 48) 2 rfl rfl rfl rfl hE rfl rfl (by kernel_rfl) rfl (fun a hE => ?_))) rfl
    refine at_op (op_tk hE (tk_load 1 (.agg (List.toArray (acells .u8 32 (x5.fChain)))) rfl rfl rfl rfl hE rfl hS rfl rfl (by kernel_rfl) (kL (j := 1) hS rfl List.not_mem_nil) (fun a hE => ?_))) rfl
    refine at_op (op_store (v := .agg (List.toArray (acells .u8 32 (x5.fChain)))) (acells .u8 32 (x5.fChain)) rfl rfl rfl rfl hE hS rfl rfl (by kernel_rfl) (by kernel_rfl) (by kernel_rfl) (by kernel_rfl) (by kernel_rfl) (fun a w _ hE hS => ?_)) rfl
    refine at_end rfl ?_
    refine wpIn_ret ?_
    obtain rfl := Option.some.inj hf
    repeat (with_reducible first | refine then_ret ?_ | refine block_ret ?_ | refine qx_ret ?_)
    refine ret_gen ([.agg (List.toArray (acells .u8 32 (x5.fChain)))]) hE (by rw [show Tryd.f22.results.toList = [.cell 2 48] from rfl]; exact ⟨_, _, _, 0, _, _, rfl, rfl, hS.heapAt (j := 0) rfl, by kernel_rfl, rfl⟩) ?_
    have hS := hS.pk (.c 1 rfl (.c 2 rfl (.c 3 rfl .n))) rfl
    exact ⟨_, rfl, D0, q9, rfl, hS, h10⟩

set_option maxRecDepth 100000 in
set_option maxHeartbeats 4000000 in
theorem inspeximuslaw09_alive.calls {K : Nat} {g w0 : World} {D0 : Snap} {r : (Bool)} (hf : inspeximuslaw09_alive.f K = some r) (hS0 : St g w0 D0 []) (hG0 : Cell (kdArr .u32 8) D0 0 0 gl_First) (hG1 : Cell (kdArr .u32 64) D0 1 0 gl_K) :
    CallsIn (Fw none) 0 Tryd.prog 9 (List.toArray []) w0 (fun e w' => ∃ v, e = .returned v ∧ ∃ (D1 : Snap), v = .bool (r) ∧ Stp g w0 D0 [] w' D1 []) := by
  unfold inspeximuslaw09_alive.f at hf
  have hS := Stp.refl hS0
  clear hS0
  refine calls_body (n := 93) Tryd.func9 rfl Tryd.ntmps9 rfl (fun a hE => ?_)
  have hE : Env a 93 [] [] := hE
  refine wpIn_seq ?_
  refine region_at ?_
  refine segN 1 (j := 1) [(0, .bool false)] hE (by kernel_rfl) rfl (fun a hE => ?_)
  refine at_end rfl ?_
  refine wpIn_seq ?_
  refine region_at ?_
  obtain ⟨r218, h219, hf⟩ := bind_some hf
  refine at_op (op_call rfl rfl rfl rfl hE rfl rfl rfl rfl (by kernel_rfl) (disk_New.calls (g := g) h219 (hS.st.fore (L := [])) ) (fun a v w hR hE => ?_)) rfl
  obtain ⟨D220, b222, A224, c225, q226, rfl, hS1, h227⟩ := hR
  have le229 := hS1.dle
  have hS := hS.callR hS1 rfl (.c (.c .n))
  clear hS1
  refine segN 1 (j := 2) [(1, .pointer (some ⟨b222, 0, none⟩))] hE (by kernel_rfl) rfl (fun a hE => ?_)
  refine at_end rfl ?_
  refine wpIn_seq ?_
  refine region_at ?_
  refine segN 1 (j := 1) [(13, .pointer (some ⟨b222, 0, none⟩))] hE (by kernel_rfl) rfl (fun a hE => ?_)
  obtain ⟨r230, h231, hf⟩ := bind_some hf
  refine at_op (op_call rfl rfl rfl rfl hE rfl rfl rfl rfl (by kernel_rfl) (log_Open.calls (g := g) h231 (hS.st.fore (L := [bx b222 72 (c_T_disk_Disk ((T_disk_Disk.mk (r218.1) (r218.2.1) (r218.2.2))) A224 c225), q226])) h227 (hG0.mono le229) (hG1.mono le229)) (fun a v w hR hE => ?_)) rfl
  obtain ⟨D232, b234, A236, c237, q238, A241, c242, q243, rfl, hS1, h239, h244⟩ := hR
  have le246 := hS1.dle
  have hS := hS.callR hS1 rfl (.c (.c (.c (.c .n))))
  clear hS1
  refine segN 7 (j := 9) [(2, .pointer (some ⟨b234, 0, none⟩)), (3, .slice A236 (List.length (r230.1)) c237), (4, .int .i64 (r230.2.1))] hE (by kernel_rfl) rfl (fun a hE => ?_)
  refine at_end rfl ?_
  refine wpIn_seq ?_
  refine region_at ?_
  refine segN 1 (j := 1) [(18, .pointer (some ⟨b234, 0, none⟩))] hE (by kernel_rfl) rfl (fun a hE => ?_)
  refine at_op (op_buildSlice (K := (kdInt .u8)) (e := 5) (cs := [.int .u8 ((97 : Int))] ++ []) ([(97 : Int)] : List Int) rfl rfl rfl rfl hE rfl hS rfl (by kernel_rfl) rfl rfl (by exact (show RL (kdInt .u8) D232 ([(97 : Int)] : List Int) ([.int .u8 ((97 : Int))] ++ []) from ⟨_, _, rfl, rfl, rfl⟩)) (fun a A247 q248 w _ hE h249 hS => ?_)) rfl
  refine at_op (op_lit (T := 5) (l := ([(97 : Int)] : List Int)) rfl rfl rfl rfl hE rfl hS rfl (by kernel_rfl) h249 (by kernel_rfl) (fun a D251 w _ le252 hE h253 hS => ?_)) rfl
  have hS := hS.pk (.c 1 rfl (.c 0 rfl (.c 3 rfl (.c 2 rfl .n)))) rfl
  obtain ⟨r254, h255, hf⟩ := bind_some hf
  refine at_op (op_call rfl rfl rfl rfl hE rfl rfl rfl rfl (by kernel_rfl) (log_Log_Append.calls (g := g) h255 (hS.st.fore (L := [bx b234 64 ([.pointer (some ⟨b222, 0, none⟩)] ++ ((c_T_log_at (r230.2.2.2.2)))), bx b222 72 (c_T_disk_Disk ((T_disk_Disk.mk (r230.2.2.1) (r230.2.2.2.1) (r218.2.2))) A241 c242), q243])) h253 (h244.mono le252) (hG0.mono (Snap.le.trans (Snap.le.trans le229 le246) le252)) (hG1.mono (Snap.le.trans (Snap.le.trans le229 le246) le252))) (fun a v w hR hE => ?_)) rfl
  obtain ⟨D256, A258, c259, q260, rfl, hS1, h261⟩ := hR
  have le263 := hS1.dle
  have hS := hS.callR hS1 rfl (.c (.c (.c .n)))
  clear hS1
  refine segN 1 (j := 5) [(5, .int .i64 (r254.1))] hE (by kernel_rfl) rfl (fun a hE => ?_)
  refine at_end rfl ?_
  refine wpIn_seq ?_
  refine region_at ?_
  refine segN 1 (j := 1) [(22, .pointer (some ⟨b234, 0, none⟩))] hE (by kernel_rfl) rfl (fun a hE => ?_)
  refine at_op (op_buildSlice (K := (kdInt .u8)) (e := 5) (cs := [.int .u8 ((98 : Int))] ++ ([.int .u8 ((99 : Int))] ++ [])) ([(98 : Int), (99 : Int)] : List Int) rfl rfl rfl rfl hE rfl hS rfl (by kernel_rfl) rfl rfl (by exact (show RL (kdInt .u8) D256 ([(98 : Int), (99 : Int)] : List Int) ([.int .u8 ((98 : Int))] ++ ([.int .u8 ((99 : Int))] ++ [])) from ⟨_, _, rfl, rfl, ⟨_, _, rfl, rfl, rfl⟩⟩)) (fun a A264 q265 w _ hE h266 hS => ?_)) rfl
  refine at_op (op_lit (T := 5) (l := ([(98 : Int), (99 : Int)] : List Int)) rfl rfl rfl rfl hE rfl hS rfl (by kernel_rfl) h266 (by kernel_rfl) (fun a D268 w _ le269 hE h270 hS => ?_)) rfl
  obtain ⟨r271, h272, hf⟩ := bind_some hf
  refine at_op (op_call rfl rfl rfl rfl hE rfl rfl rfl rfl (by kernel_rfl) (log_Log_Put.calls (g := g) h272 (hS.st.fore (L := [bx b234 64 ([.pointer (some ⟨b222, 0, none⟩)] ++ ((c_T_log_at (r254.2.1)))), bx b222 72 (c_T_disk_Disk ((T_disk_Disk.mk (r254.2.2.1) (r254.2.2.2) (r218.2.2))) A258 c259), q260])) h270 (h261.mono le269) (hG0.mono (Snap.le.trans (Snap.le.trans (Snap.le.trans (Snap.le.trans le229 le246) le252) le263) le269)) (hG1.mono (Snap.le.trans (Snap.le.trans (Snap.le.trans (Snap.le.trans le229 le246) le252) le263) le269))) (fun a v w hR hE => ?_)) rfl
  obtain ⟨D273, A275, c276, q277, rfl, hS1, h278⟩ := hR
  have le280 := hS1.dle
  have hS := hS.callR hS1 rfl (.c (.c (.c .n)))
  clear hS1
  refine segN 1 (j := 5) [(6, .int .i64 (r271.1))] hE (by kernel_rfl) rfl (fun a hE => ?_)
  refine at_end rfl ?_
  refine wpIn_seq ?_
  refine region_at ?_
  refine segN 1 (j := 1) [(26, .pointer (some ⟨b234, 0, none⟩))] hE (by kernel_rfl) rfl (fun a hE => ?_)
  obtain ⟨r281, h282, hf⟩ := bind_some hf
  refine at_op (op_call rfl rfl rfl rfl hE rfl rfl rfl rfl (by kernel_rfl) (log_Log_Count.calls (g := g) h282 (hS.st.fore (L := [bx b234 64 ([.pointer (some ⟨b222, 0, none⟩)] ++ ((c_T_log_at (r271.2.1)))), bx b222 72 (c_T_disk_Disk ((T_disk_Disk.mk (r271.2.2) (r254.2.2.2) (r218.2.2))) A275 c276), q277])) h278) (fun a v w hR hE => ?_)) rfl
  obtain ⟨D283, q285, rfl, hS1, h286⟩ := hR
  have le288 := hS1.dle
  have hS := hS.callR hS1 rfl (.c (.c (.c .n)))
  clear hS1
  refine segN 1 (j := 3) [(7, .int .i64 (r281))] hE (by kernel_rfl) rfl (fun a hE => ?_)
  refine at_end rfl ?_
  refine wpIn_seq ?_
  refine region_at ?_
  refine segN 1 (j := 1) [(28, .pointer (some ⟨b222, 0, none⟩))] hE (by kernel_rfl) rfl (fun a hE => ?_)
  have hS := hS.pk (.c 1 rfl (.c 2 rfl (.c 0 rfl (.c 3 rfl .n)))) rfl
  obtain ⟨r289, h290, hf⟩ := bind_some hf
  refine at_op (op_call rfl rfl rfl rfl hE rfl rfl rfl rfl (by kernel_rfl) (disk_Disk_Crash.calls (g := g) h290 (hS.st.fore (L := [bx b222 72 (c_T_disk_Disk ((T_disk_Disk.mk (r271.2.2) (r254.2.2.2) (r218.2.2))) A275 c276), q285])) h286) (fun a v w hR hE => ?_)) rfl
  obtain ⟨D291, A293, c294, q295, rfl, hS1, h296⟩ := hR
  have le298 := hS1.dle
  have hS := hS.callR hS1 rfl (.c (.c .n))
  clear hS1
  refine at_end rfl ?_
  refine wpIn_seq ?_
  refine region_at ?_
  refine segN 1 (j := 1) [(31, .pointer (some ⟨b222, 0, none⟩))] hE (by kernel_rfl) rfl (fun a hE => ?_)
  obtain ⟨r299, h300, hf⟩ := bind_some hf
  refine at_op (op_call rfl rfl rfl rfl hE rfl rfl rfl rfl (by kernel_rfl) (log_Open.calls (g := g) h300 (hS.st.fore (L := [bx b222 72 (c_T_disk_Disk ((T_disk_Disk.mk (r289.1) (r289.2) (r218.2.2))) A293 c294), q295])) h296 (hG0.mono (Snap.le.trans (Snap.le.trans (Snap.le.trans (Snap.le.trans (Snap.le.trans (Snap.le.trans (Snap.le.trans le229 le246) le252) le263) le269) le280) le288) le298)) (hG1.mono (Snap.le.trans (Snap.le.trans (Snap.le.trans (Snap.le.trans (Snap.le.trans (Snap.le.trans (Snap.le.trans le229 le246) le252) le263) le269) le280) le288) le298))) (fun a v w hR hE => ?_)) rfl
  obtain ⟨D301, b303, A305, c306, q307, A310, c311, q312, rfl, hS1, h308, h313⟩ := hR
  have le315 := hS1.dle
  have hS := hS.callR hS1 rfl (.c (.c (.c (.c .n))))
  clear hS1
  refine segN 7 (j := 9) [(8, .pointer (some ⟨b303, 0, none⟩)), (9, .slice A305 (List.length (r299.1)) c306), (10, .int .i64 (r299.2.1))] hE (by kernel_rfl) rfl (fun a hE => ?_)
  refine at_end rfl ?_
  obtain ⟨j376, hj377, hf⟩ := jn_elim hf
  refine seq_join (fun a w => ∃ (y373 : Bool), ∃ (D374 : Snap), Env a 93 [] [(0, .bool (y373))] ∧ Stp g w0 D0 [] w D374 [] ∧ Snap.le D301 D374 ∧ j376 y373 = some r) ?_ ?_
  · clear hj377
    refine region_at ?_
    refine segN 3 (j := 3) [(38, .bool ((decide (r230.2.1 = (0 : Int)))))] hE (by kernel_rfl) rfl (fun a hE => ?_)
    cases hb : (decide (r230.2.1 = (0 : Int)))
    · replace hf := cond_f hb hf
      have hE := hE.know (t := 38) (b := (decide (r230.2.1 = (0 : Int)))) (b' := false) rfl hb
      clear hb
      refine segN 55 (j := 58) [(0, .bool false)] hE (by kernel_rfl) rfl (fun a hE => ?_)
      refine at_end rfl ?_
      have hS := hS.pk .n rfl
      exact ⟨false, D301, hE.weak (by kernel_rfl), hS, Snap.le.refl _, hf⟩
    · replace hf := cond_t hb hf
      have hE := hE.know (t := 38) (b := (decide (r230.2.1 = (0 : Int)))) (b' := true) rfl hb
      clear hb
      refine segN 4 (j := 7) [(42, .bool ((decide (r254.1 = (0 : Int)))))] hE (by kernel_rfl) rfl (fun a hE => ?_)
      cases hb : (decide (r254.1 = (0 : Int)))
      · replace hf := cond_f hb hf
        have hE := hE.know (t := 42) (b := (decide (r254.1 = (0 : Int)))) (b' := false) rfl hb
        clear hb
        refine segN 51 (j := 58) [(0, .bool false)] hE (by kernel_rfl) rfl (fun a hE => ?_)
        refine at_end rfl ?_
        have hS := hS.pk .n rfl
        exact ⟨false, D301, hE.weak (by kernel_rfl), hS, Snap.le.refl _, hf⟩
      · replace hf := cond_t hb hf
        have hE := hE.know (t := 42) (b := (decide (r254.1 = (0 : Int)))) (b' := true) rfl hb
        clear hb
        refine segN 4 (j := 11) [(46, .bool ((decide (r271.1 = (0 : Int)))))] hE (by kernel_rfl) rfl (fun a hE => ?_)
        cases hb : (decide (r271.1 = (0 : Int)))
        · replace hf := cond_f hb hf
          have hE := hE.know (t := 46) (b := (decide (r271.1 = (0 : Int)))) (b' := false) rfl hb
          clear hb
          refine segN 47 (j := 58) [(0, .bool false)] hE (by kernel_rfl) rfl (fun a hE => ?_)
          refine at_end rfl ?_
          have hS := hS.pk .n rfl
          exact ⟨false, D301, hE.weak (by kernel_rfl), hS, Snap.le.refl _, hf⟩
        · replace hf := cond_t hb hf
          have hE := hE.know (t := 46) (b := (decide (r271.1 = (0 : Int)))) (b' := true) rfl hb
          clear hb
          refine segN 4 (j := 15) [(50, .bool ((decide (r299.2.1 = (0 : Int)))))] hE (by kernel_rfl) rfl (fun a hE => ?_)
          cases hb : (decide (r299.2.1 = (0 : Int)))
          · replace hf := cond_f hb hf
            have hE := hE.know (t := 50) (b := (decide (r299.2.1 = (0 : Int)))) (b' := false) rfl hb
            clear hb
            refine segN 43 (j := 58) [(0, .bool false)] hE (by kernel_rfl) rfl (fun a hE => ?_)
            refine at_end rfl ?_
            have hS := hS.pk .n rfl
            exact ⟨false, D301, hE.weak (by kernel_rfl), hS, Snap.le.refl _, hf⟩
          · replace hf := cond_t hb hf
            have hE := hE.know (t := 50) (b := (decide (r299.2.1 = (0 : Int)))) (b' := true) rfl hb
            clear hb
            refine segN 5 (j := 20) [(55, .bool ((decide (((List.length (r230.1) : Nat) : Int) = (0 : Int)))))] hE (by kernel_rfl) rfl (fun a hE => ?_)
            cases hb : (decide (((List.length (r230.1) : Nat) : Int) = (0 : Int)))
            · replace hf := cond_f hb hf
              have hE := hE.know (t := 55) (b := (decide (((List.length (r230.1) : Nat) : Int) = (0 : Int)))) (b' := false) rfl hb
              clear hb
              refine segN 38 (j := 58) [(0, .bool false)] hE (by kernel_rfl) rfl (fun a hE => ?_)
              refine at_end rfl ?_
              have hS := hS.pk .n rfl
              exact ⟨false, D301, hE.weak (by kernel_rfl), hS, Snap.le.refl _, hf⟩
            · replace hf := cond_t hb hf
              have hE := hE.know (t := 55) (b := (decide (((List.length (r230.1) : Nat) : Int) = (0 : Int)))) (b' := true) rfl hb
              clear hb
              refine segN 4 (j := 24) [(59, .bool ((decide (r281 = (2 : Int)))))] hE (by kernel_rfl) rfl (fun a hE => ?_)
              cases hb : (decide (r281 = (2 : Int)))
              · replace hf := cond_f hb hf
                have hE := hE.know (t := 59) (b := (decide (r281 = (2 : Int)))) (b' := false) rfl hb
                clear hb
                refine segN 34 (j := 58) [(0, .bool false)] hE (by kernel_rfl) rfl (fun a hE => ?_)
                refine at_end rfl ?_
                have hS := hS.pk .n rfl
                exact ⟨false, D301, hE.weak (by kernel_rfl), hS, Snap.le.refl _, hf⟩
              · replace hf := cond_t hb hf
                have hE := hE.know (t := 59) (b := (decide (r281 = (2 : Int)))) (b' := true) rfl hb
                clear hb
                refine segN 5 (j := 29) [(64, .bool ((decide (((List.length (r299.1) : Nat) : Int) = (1 : Int)))))] hE (by kernel_rfl) rfl (fun a hE => ?_)
                cases hb : (decide (((List.length (r299.1) : Nat) : Int) = (1 : Int)))
                · replace hf := cond_f hb hf
                  have hE := hE.know (t := 64) (b := (decide (((List.length (r299.1) : Nat) : Int) = (1 : Int)))) (b' := false) rfl hb
                  clear hb
                  refine segN 29 (j := 58) [(0, .bool false)] hE (by kernel_rfl) rfl (fun a hE => ?_)
                  refine at_end rfl ?_
                  have hS := hS.pk .n rfl
                  exact ⟨false, D301, hE.weak (by kernel_rfl), hS, Snap.le.refl _, hf⟩
                · replace hf := cond_t hb hf
                  have hE := hE.know (t := 64) (b := (decide (((List.length (r299.1) : Nat) : Int) = (1 : Int)))) (b' := true) rfl hb
                  clear hb
                  refine segN 1 (j := 30) [(65, .slice A305 (List.length (r299.1)) c306)] hE (by kernel_rfl) rfl (fun a hE => ?_)
                  have hS := hS.pk (.c 2 rfl (.c 0 rfl (.c 1 rfl (.c 3 rfl (.c 4 rfl (.c 5 rfl .n)))))) rfl
                  obtain ⟨D378, q381, le379, hS, h382, h380⟩ := hS.lent h308
                  obtain ⟨x383, h384, hf⟩ := bind_some hf
                  refine at_op (op_tk hE (g_index (K := (kdSlice (kdInt .u8))) (e := 33) (by_ := 24) (zl := 1) rfl rfl rfl rfl hE rfl rfl rfl (by kernel_rfl) rfl h380 h384 (fun a b385 o386 hE h387 => ?_))) rfl
                  obtain ⟨cs388, C389, T390, fr391, hr392, hb393, hc394⟩ := h387
                  obtain ⟨A395, c396, rfl, h397⟩ := hr392
                  refine at_op (op_tk hE (tk_loadX (off0 := o386) (off := 0) (c := [.slice A395 (List.length (x383)) c396]) (.slice A395 (List.length (x383)) c396) rfl rfl rfl rfl hE rfl hS rfl hb393 hc394 (by kernel_rfl) (by kernel_rfl) (kD hS dn_nil) (fun a hE => ?_))) rfl
                  refine at_op (op_tk hE (tk_b2s rfl rfl rfl rfl hE rfl hS rfl (by kernel_rfl) h397 (kD hS dn_nil) (fun a hE => ?_))) rfl
                  refine at_op (op_tk hE (tk_bin (r := .bool ((ByteArray.toList (bofL (x383)) == ByteArray.toList (⟨#[97]⟩)))) rfl rfl rfl rfl hE rfl rfl rfl (fun w => bstr_run _ _ w _ rfl (by decide)) (fun a hE => ?_))) rfl
                  refine segN 2 (j := 36) [(71, .bool ((ByteArray.toList (bofL (x383)) == ByteArray.toList (⟨#[97]⟩))))] hE (by kernel_rfl) rfl (fun a hE => ?_)
                  cases hb : (ByteArray.toList (bofL (x383)) == ByteArray.toList (⟨#[97]⟩))
                  · replace hf := cond_f hb hf
                    have hE := hE.know (t := 71) (b := (ByteArray.toList (bofL (x383)) == ByteArray.toList (⟨#[97]⟩))) (b' := false) rfl hb
                    clear hb
                    refine segN 22 (j := 58) [(0, .bool false)] hE (by kernel_rfl) rfl (fun a hE => ?_)
                    refine at_end rfl ?_
                    have hS := hS.pk .n rfl
                    exact ⟨false, D378, hE.weak (by kernel_rfl), hS, le379, hf⟩
                  · replace hf := cond_t hb hf
                    have hE := hE.know (t := 71) (b := (ByteArray.toList (bofL (x383)) == ByteArray.toList (⟨#[97]⟩))) (b' := true) rfl hb
                    clear hb
                    refine segN 1 (j := 37) [(72, .pointer (some ⟨b303, 0, none⟩))] hE (by kernel_rfl) rfl (fun a hE => ?_)
                    have hS := hS.pk (.c 2 rfl (.c 1 rfl (.c 3 rfl (.c 0 rfl (.c 4 rfl (.c 5 rfl .n)))))) rfl
                    obtain ⟨r398, h399, hf⟩ := bind_some hf
                    refine at_op (op_call rfl rfl rfl rfl hE rfl rfl rfl rfl (by kernel_rfl) (log_Log_Count.calls (g := g) h399 (hS.st.fore (L := [bx b303 64 ([.pointer (some ⟨b222, 0, none⟩)] ++ ((c_T_log_at (r299.2.2.2.2)))), bx b222 72 (c_T_disk_Disk ((T_disk_Disk.mk (r299.2.2.1) (r299.2.2.2.1) (r218.2.2))) A310 c311), q312])) (h313.mono le379)) (fun a v w hR hE => ?_)) rfl
                    obtain ⟨D400, q402, rfl, hS1, h403⟩ := hR
                    have le405 := hS1.dle
                    have hS := hS.callR hS1 rfl (.c (.c (.c .n)))
                    clear hS1
                    refine segN 3 (j := 41) [(76, .bool ((decide (r398 = (1 : Int)))))] hE (by kernel_rfl) rfl (fun a hE => ?_)
                    cases hb : (decide (r398 = (1 : Int)))
                    · replace hf := cond_f hb hf
                      have hE := hE.know (t := 76) (b := (decide (r398 = (1 : Int)))) (b' := false) rfl hb
                      clear hb
                      refine segN 17 (j := 58) [(0, .bool false)] hE (by kernel_rfl) rfl (fun a hE => ?_)
                      refine at_end rfl ?_
                      have hS := hS.pk .n rfl
                      exact ⟨false, D400, hE.weak (by kernel_rfl), hS, (Snap.le.trans le379 le405), hf⟩
                    · replace hf := cond_t hb hf
                      have hE := hE.know (t := 76) (b := (decide (r398 = (1 : Int)))) (b' := true) rfl hb
                      clear hb
                      refine segN 1 (j := 42) [(77, .pointer (some ⟨b222, 0, none⟩))] hE (by kernel_rfl) rfl (fun a hE => ?_)
                      have hS := hS.pk (.c 1 rfl (.c 2 rfl (.c 0 rfl (.c 3 rfl (.c 4 rfl (.c 5 rfl .n)))))) rfl
                      obtain ⟨r406, h407, hf⟩ := bind_some hf
                      refine at_op (op_call rfl rfl rfl rfl hE rfl rfl rfl rfl (by kernel_rfl) (disk_Disk_Bytes.calls (g := g) h407 (hS.st.fore (L := [bx b222 72 (c_T_disk_Disk ((T_disk_Disk.mk (r299.2.2.1) (r299.2.2.2.1) (r218.2.2))) A310 c311), q402])) h403) (fun a v w hR hE => ?_)) rfl
                      obtain ⟨D408, A410, c411, q412, q415, rfl, hS1, h413, h416⟩ := hR
                      have le418 := hS1.dle
                      have hS := hS.callR hS1 rfl (.c (.c (.c .n)))
                      clear hS1
                      refine segN 4 (j := 47) [(82, .bool ((decide (((List.length (r406) : Nat) : Int) = (10 : Int)))))] hE (by kernel_rfl) rfl (fun a hE => ?_)
                      cases hb : (decide (((List.length (r406) : Nat) : Int) = (10 : Int)))
                      · replace hf := cond_f hb hf
                        have hE := hE.know (t := 82) (b := (decide (((List.length (r406) : Nat) : Int) = (10 : Int)))) (b' := false) rfl hb
                        clear hb
                        refine segN 11 (j := 58) [(0, .bool false)] hE (by kernel_rfl) rfl (fun a hE => ?_)
                        refine at_end rfl ?_
                        have hS := hS.pk .n rfl
                        exact ⟨false, D408, hE.weak (by kernel_rfl), hS, (Snap.le.trans (Snap.le.trans le379 le405) le418), hf⟩
                      · replace hf := cond_t hb hf
                        have hE := hE.know (t := 82) (b := (decide (((List.length (r406) : Nat) : Int) = (10 : Int)))) (b' := true) rfl hb
                        clear hb
                        refine segN 1 (j := 48) [(83, .pointer (some ⟨b303, 0, none⟩))] hE (by kernel_rfl) rfl (fun a hE => ?_)
                        have hS := hS.pk (.c 3 rfl (.c 0 rfl (.c 2 rfl (.c 4 rfl (.c 5 rfl (.c 6 rfl .n)))))) rfl
                        obtain ⟨r419, h420, hf⟩ := bind_some hf
                        refine at_op (op_call rfl rfl rfl rfl hE rfl rfl rfl rfl (by kernel_rfl) (log_Log_Size.calls (g := g) h420 (hS.st.fore (L := [bx b303 64 ([.pointer (some ⟨b222, 0, none⟩)] ++ ((c_T_log_at (r299.2.2.2.2)))), bx b222 72 (c_T_disk_Disk ((T_disk_Disk.mk (r299.2.2.1) (r299.2.2.2.1) (r218.2.2))) A310 c311), q415])) h416) (fun a v w hR hE => ?_)) rfl
                        obtain ⟨D421, q423, rfl, hS1, h424⟩ := hR
                        have le426 := hS1.dle
                        have hS := hS.callR hS1 rfl (.c (.c (.c .n)))
                        clear hS1
                        refine segN 3 (j := 52) [(87, .bool ((decide (r419 = (10 : Int)))))] hE (by kernel_rfl) rfl (fun a hE => ?_)
                        cases hb : (decide (r419 = (10 : Int)))
                        · replace hf := cond_f hb hf
                          have hE := hE.know (t := 87) (b := (decide (r419 = (10 : Int)))) (b' := false) rfl hb
                          clear hb
                          refine segN 6 (j := 58) [(0, .bool false)] hE (by kernel_rfl) rfl (fun a hE => ?_)
                          refine at_end rfl ?_
                          have hS := hS.pk .n rfl
                          exact ⟨false, D421, hE.weak (by kernel_rfl), hS, (Snap.le.trans (Snap.le.trans (Snap.le.trans le379 le405) le418) le426), hf⟩
                        · replace hf := cond_t hb hf
                          have hE := hE.know (t := 87) (b := (decide (r419 = (10 : Int)))) (b' := true) rfl hb
                          clear hb
                          refine segN 1 (j := 53) [(88, .pointer (some ⟨b303, 0, none⟩))] hE (by kernel_rfl) rfl (fun a hE => ?_)
                          obtain ⟨r427, h428, hf⟩ := bind_some hf
                          refine at_op (op_call rfl rfl rfl rfl hE rfl rfl rfl rfl (by kernel_rfl) (log_Log_Chain.calls (g := g) h428 (hS.st.fore (L := [bx b303 64 ([.pointer (some ⟨b222, 0, none⟩)] ++ ((c_T_log_at (r299.2.2.2.2)))), bx b222 72 (c_T_disk_Disk ((T_disk_Disk.mk (r299.2.2.1) (r299.2.2.2.1) (r218.2.2))) A310 c311), q423])) h424) (fun a v w hR hE => ?_)) rfl
                          obtain ⟨D429, q431, rfl, hS1, h432⟩ := hR
                          have le434 := hS1.dle
                          have hS := hS.callR hS1 rfl (.c (.c (.c .n)))
                          clear hS1
                          refine at_op (op_tk hE (tk_build (acells .u8 32 ((vofL 32 [(0 : Int), (0 : Int), (0 : Int), (0 : Int), (0 : Int), (0 : Int), (0 : Int), (0 : Int), (0 : Int), (0 : Int), (0 : Int), (0 : Int), (0 : Int), (0 : Int), (0 : Int), (0 : Int), (0 : Int), (0 : Int), (0 : Int), (0 : Int), (0 : Int), (0 : Int), (0 : Int), (0 : Int), (0 : Int), (0 : Int), (0 : Int), (0 : Int), (0 : Int), (0 : Int), (0 : Int), (0 : Int)]))) rfl rfl rfl rfl hE rfl rfl (by kernel_rfl) (fun a hE => ?_))) rfl
                          refine at_op (op_tk hE (tk_bin (r := .bool ((!(decide (r427 = (vofL 32 [(0 : Int), (0 : Int), (0 : Int), (0 : Int), (0 : Int), (0 : Int), (0 : Int), (0 : Int), (0 : Int), (0 : Int), (0 : Int), (0 : Int), (0 : Int), (0 : Int), (0 : Int), (0 : Int), (0 : Int), (0 : Int), (0 : Int), (0 : Int), (0 : Int), (0 : Int), (0 : Int), (0 : Int), (0 : Int), (0 : Int), (0 : Int), (0 : Int), (0 : Int), (0 : Int), (0 : Int), (0 : Int)])))))) rfl rfl rfl rfl hE rfl rfl rfl (neagg_run (by kernel_rfl) (EqR_arr (k := .u8) (N := 32) (by kernel_rfl))) (fun a hE => ?_))) rfl
                          refine segN 2 (j := 58) [(0, .bool ((!(decide (r427 = (vofL 32 [(0 : Int), (0 : Int), (0 : Int), (0 : Int), (0 : Int), (0 : Int), (0 : Int), (0 : Int), (0 : Int), (0 : Int), (0 : Int), (0 : Int), (0 : Int), (0 : Int), (0 : Int), (0 : Int), (0 : Int), (0 : Int), (0 : Int), (0 : Int), (0 : Int), (0 : Int), (0 : Int), (0 : Int), (0 : Int), (0 : Int), (0 : Int), (0 : Int), (0 : Int), (0 : Int), (0 : Int), (0 : Int)]))))))] hE (by kernel_rfl) rfl (fun a hE => ?_)
                          refine at_end rfl ?_
                          have hS := hS.pk .n rfl
                          exact ⟨(!(decide (r427 = (vofL 32 [(0 : Int), (0 : Int), (0 : Int), (0 : Int), (0 : Int), (0 : Int), (0 : Int), (0 : Int), (0 : Int), (0 : Int), (0 : Int), (0 : Int), (0 : Int), (0 : Int), (0 : Int), (0 : Int), (0 : Int), (0 : Int), (0 : Int), (0 : Int), (0 : Int), (0 : Int), (0 : Int), (0 : Int), (0 : Int), (0 : Int), (0 : Int), (0 : Int), (0 : Int), (0 : Int), (0 : Int), (0 : Int)])))), D429, hE.weak (by kernel_rfl), hS, (Snap.le.trans (Snap.le.trans (Snap.le.trans (Snap.le.trans le379 le405) le418) le426) le434), hf⟩
  · clear hE hS
    rintro a w ⟨y373, D374, hE, hS, le375, hf⟩
    replace hf := hj377 _ hf
    clear hj377
    refine wpIn_ret ?_
    obtain rfl := Option.some.inj hf
    repeat (with_reducible first | refine then_ret ?_ | refine block_ret ?_ | refine qx_ret ?_)
    refine ret_gen ([.bool (y373)]) hE (by rw [show Tryd.f9.results.toList = [.tmp 0] from rfl]; exact ⟨_, _, rfl, rfl, rfl⟩) ?_
    exact ⟨_, rfl, D374, rfl, hS⟩

set_option maxRecDepth 100000 in
set_option maxHeartbeats 4000000 in
theorem inspeximusref01_Bytes.calls {K : Nat} {g w0 : World} {D0 : Snap} {x1 : (List Int)} {x5 : (List Int)} {A2 : Option Addr} {c3 : Nat} {A6 : Option Addr} {c7 : Nat} {r : (Bool)} (hf : inspeximusref01_Bytes.f K x1 x5 = some r) (hS0 : St g w0 D0 []) (h4 : Sl (kdInt .u8) D0 A2 c3 (x1)) (h8 : Sl (kdInt .u8) D0 A6 c7 (x5)) :
    CallsIn (Fw none) 0 Tryd.prog 24 (List.toArray [.slice A2 (List.length (x1)) c3, .slice A6 (List.length (x5)) c7]) w0 (fun e w' => ∃ v, e = .returned v ∧ ∃ (D1 : Snap), v = .bool (r) ∧ Stp g w0 D0 [] w' D1 []) := by
  unfold inspeximusref01_Bytes.f at hf
  have hS := Stp.refl hS0
  clear hS0
  refine calls_body (n := 26) Tryd.func24 rfl Tryd.ntmps24 rfl (fun a hE => ?_)
  have hE : Env a 26 [] [(0, .slice A2 (List.length (x1)) c3), (1, .slice A6 (List.length (x5)) c7)] := hE
  refine wpIn_seq ?_
  refine region_at ?_
  refine segN 1 (j := 1) [(4, .bool false)] hE (by kernel_rfl) rfl (fun a hE => ?_)
  refine at_end rfl ?_
  refine wpIn_seq ?_
  refine wpIn_seq ?_
  refine region_at ?_
  refine segN 5 (j := 5) [(10, .bool ((!decide (((List.length (x1) : Nat) : Int) = ((List.length (x5) : Nat) : Int)))))] hE (by kernel_rfl) rfl (fun a hE => ?_)
  refine at_end rfl ?_
  refine cond_split hE (b := (!decide (((List.length (x1) : Nat) : Int) = ((List.length (x5) : Nat) : Int)))) rfl (fun hb => ?_) (fun hb => ?_)
  · replace hf := cond_t hb hf
    clear hb
    refine wpIn_seq ?_
    refine region_at ?_
    refine segN 1 (j := 1) [(4, .bool false)] hE (by kernel_rfl) rfl (fun a hE => ?_)
    refine at_end rfl ?_
    refine wpIn_ret ?_
    obtain rfl := Option.some.inj hf
    repeat (with_reducible first | refine then_ret ?_ | refine block_ret ?_ | refine qx_ret ?_)
    refine ret_gen ([.bool false]) hE (by rw [show Tryd.f24.results.toList = [.tmp 4] from rfl]; exact ⟨_, _, rfl, rfl, rfl⟩) ?_
    exact ⟨_, rfl, D0, rfl, hS⟩
  · replace hf := cond_f hb hf
    clear hb
    refine wpIn_skip ?_
    refine wpIn_seq ?_
    refine wpIn_seq ?_
    refine region_at ?_
    refine segN 1 (j := 1) [(5, .int .i64 ((0 : Int)))] hE (by kernel_rfl) rfl (fun a hE => ?_)
    refine at_end rfl ?_
    obtain ⟨s1152, hf, hs1153⟩ := bind_some hf
    refine block_loop (fun a w => ∃ (z1149 : Unit), ∃ (D1150 : Snap), Env a 26 [] [] ∧ Stp g w0 D0 [] w D1150 [] ∧ Snap.le D0 D1150 ∧ (Sum.inr z1149) = s1152) (fun k a w => ∃ (y1047 : Int), ∃ (D1048 : Snap), Env a 26 [] [(0, .slice A2 (List.length (x1)) c3), (1, .slice A6 (List.length (x5)) c7), (5, .int .i64 (y1047))] ∧ Stp g w0 D0 [] w D1048 [] ∧ Snap.le D0 D1048 ∧ inspeximusref01_Bytes_l1.l K x1 x5 k y1047 = some s1152) K ?_ ?_ ?_
    · exact ⟨(0 : Int), D0, hE.weak (by kernel_rfl), hS, Snap.le.refl _, hf⟩
    · clear hE hS hf
      rintro a w ⟨z1149, D1150, hE, hS, le1151, rfl⟩
      have hf := hs1153
      clear hs1153
      refine wpIn_seq ?_
      refine region_at ?_
      refine segN 1 (j := 1) [(4, .bool true)] hE (by kernel_rfl) rfl (fun a hE => ?_)
      refine at_end rfl ?_
      refine wpIn_ret ?_
      obtain rfl := Option.some.inj hf
      repeat (with_reducible first | refine then_ret ?_ | refine block_ret ?_ | refine qx_ret ?_)
      refine ret_gen ([.bool true]) hE (by rw [show Tryd.f24.results.toList = [.tmp 4] from rfl]; exact ⟨_, _, rfl, rfl, rfl⟩) ?_
      exact ⟨_, rfl, D1150, rfl, hS⟩
    · clear hE hS hf
      rintro k a w ⟨y1047, D1048, hE, hS, le1049, hf⟩
      obtain ⟨k, rfl, hf⟩ := inspeximusref01_Bytes_l1.some _ _ hf
      refine ⟨k, rfl, ?_⟩
      unfold inspeximusref01_Bytes_l1.b at hf
      refine wpIn_seq ?_
      refine wpIn_seq ?_
      refine region_at ?_
      refine segN 4 (j := 4) [(14, .bool ((decide (y1047 < ((List.length (x1) : Nat) : Int)))))] hE (by kernel_rfl) rfl (fun a hE => ?_)
      refine at_end rfl ?_
      refine cond_split hE (b := (decide (y1047 < ((List.length (x1) : Nat) : Int)))) rfl (fun hb => ?_) (fun hb => ?_)
      · replace hf := cond_t hb hf
        clear hb
        refine wpIn_skip ?_
        refine wpIn_seq ?_
        refine wpIn_block ?_
        refine wpIn_seq ?_
        refine region_draw (fun j => Keeps (mfOf [] j)) (by kernel_rfl) ?_
        have hS := hS.drew
        first | generalize w.drew = w at hS ⊢ | generalize w0.drew = w at hS ⊢
        refine tW 0 1 (fuel := 8) (by kernel_rfl) hE (fun M => tk_pure (.slice A2 (List.length (x1)) c3) hE rfl rfl rfl rfl (fun _ _ _ e => by cases e) (by kernel_rfl) (fun a hE => ?_))
        refine tW 1 3 (fuel := 7) (by kernel_rfl) hE (fun M => tk_pure (.int .i64 (y1047)) hE rfl rfl rfl rfl (fun _ _ _ e => by cases e) (by kernel_rfl) (fun a hE => ?_))
        refine tW 4 19 (fuel := 6) (by kernel_rfl) hE (fun M => tk_pure (.slice A6 (List.length (x5)) c7) hE rfl rfl rfl rfl (fun _ _ _ e => by cases e) (by kernel_rfl) (fun a hE => ?_))
        refine tW 5 51 (fuel := 5) (by kernel_rfl) hE (fun M => tk_pure (.int .i64 (y1047)) hE rfl rfl rfl rfl (fun _ _ _ e => by cases e) (by kernel_rfl) (fun a hE => ?_))
        obtain ⟨x1226, h1227, hf⟩ := bind_some hf
        refine tW 2 55 (fuel := 4) (by kernel_rfl) hE (fun M => g_index (K := (kdInt .u8)) (e := 5) (by_ := 1) (zl := 1) rfl rfl rfl rfl hE rfl rfl rfl (by kernel_rfl) rfl (h4.mono le1049) h1227 (fun a b1228 o1229 hE h1230 => ?_))
        obtain ⟨cs1231, C1232, T1233, fr1234, hr1235, hb1236, hc1237⟩ := h1230
        obtain rfl := hr1235
        refine tT 3 63 (fuel := 3) (by kernel_rfl) hE (tk_loadX (off0 := o1229) (off := 0) (c := [.int .u8 (x1226)]) (.int .u8 (x1226)) rfl rfl rfl rfl hE rfl hS rfl hb1236 hc1237 (by kernel_rfl) (by kernel_rfl) (kD hS dn_nil) (fun a hE => ?_))
        obtain ⟨x1238, h1239, hf⟩ := bind_some hf
        refine tW 6 127 (fuel := 2) (by kernel_rfl) hE (fun M => g_index (K := (kdInt .u8)) (e := 5) (by_ := 1) (zl := 1) rfl rfl rfl rfl hE rfl rfl rfl (by kernel_rfl) rfl (h8.mono le1049) h1239 (fun a b1240 o1241 hE h1242 => ?_))
        obtain ⟨cs1243, C1244, T1245, fr1246, hr1247, hb1248, hc1249⟩ := h1242
        obtain rfl := hr1247
        refine tT 7 255 (fuel := 1) (by kernel_rfl) hE (tk_loadX (off0 := o1241) (off := 0) (c := [.int .u8 (x1238)]) (.int .u8 (x1238)) rfl rfl rfl rfl hE rfl hS rfl hb1248 hc1249 (by kernel_rfl) (by kernel_rfl) (kD hS dn_nil) (fun a hE => ?_))
        refine tW 8 511 (fuel := 0) (by kernel_rfl) hE (fun M => tk_pure (.bool ((!decide (x1226 = x1238)))) hE rfl rfl rfl rfl (fun _ _ _ e => by cases e) (by kernel_rfl) (fun a hE => ?_))
        refine doneG (by kernel_rfl) ?_
        refine cond_split hE (b := (!decide (x1226 = x1238))) rfl (fun hb => ?_) (fun hb => ?_)
        · replace hf := cond_t hb hf
          clear hb
          refine wpIn_seq ?_
          refine region_at ?_
          refine segN 1 (j := 1) [(4, .bool false)] hE (by kernel_rfl) rfl (fun a hE => ?_)
          refine at_end rfl ?_
          refine wpIn_ret ?_
          obtain rfl := Option.some.inj hf
          replace hf := hs1153
          obtain rfl := Option.some.inj hf
          repeat (with_reducible first | refine then_ret ?_ | refine block_ret ?_ | refine qx_ret ?_)
          refine ret_gen ([.bool false]) hE (by rw [show Tryd.f24.results.toList = [.tmp 4] from rfl]; exact ⟨_, _, rfl, rfl, rfl⟩) ?_
          exact ⟨_, rfl, D1048, rfl, hS⟩
        · replace hf := cond_f hb hf
          clear hb
          refine wpIn_skip ?_
          refine region_at ?_
          refine segN 3 (j := 3) [(5, .int .i64 ((IntKind.wrap .i64 (y1047 + (1 : Int)))))] hE (by kernel_rfl) rfl (fun a hE => ?_)
          refine at_end rfl ?_
          exact ⟨(IntKind.wrap .i64 (y1047 + (1 : Int))), D1048, hE.weak (by kernel_rfl), hS, le1049, hf⟩
      · replace hf := cond_f hb hf
        clear hb
        refine wpIn_exit ?_
        obtain rfl := Option.some.inj hf
        exact ⟨(), D1048, hE.weak (by kernel_rfl), hS, le1049, rfl⟩

set_option maxRecDepth 100000 in
set_option maxHeartbeats 4000000 in
theorem inspeximusref09_Same.calls {K : Nat} {g w0 : World} {D0 : Snap} {x1 : (List (List Int))} {x5 : (List (List Int))} {A2 : Option Addr} {c3 : Nat} {A6 : Option Addr} {c7 : Nat} {r : (Bool)} (hf : inspeximusref09_Same.f K x1 x5 = some r) (hS0 : St g w0 D0 []) (h4 : Sl (kdSlice (kdInt .u8)) D0 A2 c3 (x1)) (h8 : Sl (kdSlice (kdInt .u8)) D0 A6 c7 (x5)) :
    CallsIn (Fw none) 0 Tryd.prog 20 (List.toArray [.slice A2 (List.length (x1)) c3, .slice A6 (List.length (x5)) c7]) w0 (fun e w' => ∃ v, e = .returned v ∧ ∃ (D1 : Snap), v = .bool (r) ∧ Stp g w0 D0 [] w' D1 []) := by
  unfold inspeximusref09_Same.f at hf
  have hS := Stp.refl hS0
  clear hS0
  refine calls_body (n := 27) Tryd.func20 rfl Tryd.ntmps20 rfl (fun a hE => ?_)
  have hE : Env a 27 [] [(0, .slice A2 (List.length (x1)) c3), (1, .slice A6 (List.length (x5)) c7)] := hE
  refine wpIn_seq ?_
  refine region_at ?_
  refine segN 1 (j := 1) [(4, .bool false)] hE (by kernel_rfl) rfl (fun a hE => ?_)
  refine at_end rfl ?_
  refine wpIn_seq ?_
  refine wpIn_seq ?_
  refine region_at ?_
  refine segN 5 (j := 5) [(10, .bool ((!decide (((List.length (x1) : Nat) : Int) = ((List.length (x5) : Nat) : Int)))))] hE (by kernel_rfl) rfl (fun a hE => ?_)
  refine at_end rfl ?_
  refine cond_split hE (b := (!decide (((List.length (x1) : Nat) : Int) = ((List.length (x5) : Nat) : Int)))) rfl (fun hb => ?_) (fun hb => ?_)
  · replace hf := cond_t hb hf
    clear hb
    refine wpIn_seq ?_
    refine region_at ?_
    refine segN 1 (j := 1) [(4, .bool false)] hE (by kernel_rfl) rfl (fun a hE => ?_)
    refine at_end rfl ?_
    refine wpIn_ret ?_
    obtain rfl := Option.some.inj hf
    repeat (with_reducible first | refine then_ret ?_ | refine block_ret ?_ | refine qx_ret ?_)
    refine ret_gen ([.bool false]) hE (by rw [show Tryd.f20.results.toList = [.tmp 4] from rfl]; exact ⟨_, _, rfl, rfl, rfl⟩) ?_
    exact ⟨_, rfl, D0, rfl, hS⟩
  · replace hf := cond_f hb hf
    clear hb
    refine wpIn_skip ?_
    refine wpIn_seq ?_
    refine wpIn_seq ?_
    refine region_at ?_
    refine segN 1 (j := 1) [(5, .int .i64 ((0 : Int)))] hE (by kernel_rfl) rfl (fun a hE => ?_)
    refine at_end rfl ?_
    obtain ⟨s1636, hf, hs1637⟩ := bind_some hf
    refine block_loop (fun a w => ∃ (z1633 : Unit), ∃ (D1634 : Snap), Env a 27 [] [] ∧ Stp g w0 D0 [] w D1634 [] ∧ Snap.le D0 D1634 ∧ (Sum.inr z1633) = s1636) (fun k a w => ∃ (y1487 : Int), ∃ (D1488 : Snap), Env a 27 [] [(0, .slice A2 (List.length (x1)) c3), (1, .slice A6 (List.length (x5)) c7), (5, .int .i64 (y1487))] ∧ Stp g w0 D0 [] w D1488 [] ∧ Snap.le D0 D1488 ∧ inspeximusref09_Same_l1.l K x1 x5 k y1487 = some s1636) K ?_ ?_ ?_
    · exact ⟨(0 : Int), D0, hE.weak (by kernel_rfl), hS, Snap.le.refl _, hf⟩
    · clear hE hS hf
      rintro a w ⟨z1633, D1634, hE, hS, le1635, rfl⟩
      have hf := hs1637
      clear hs1637
      refine wpIn_seq ?_
      refine region_at ?_
      refine segN 1 (j := 1) [(4, .bool true)] hE (by kernel_rfl) rfl (fun a hE => ?_)
      refine at_end rfl ?_
      refine wpIn_ret ?_
      obtain rfl := Option.some.inj hf
      repeat (with_reducible first | refine then_ret ?_ | refine block_ret ?_ | refine qx_ret ?_)
      refine ret_gen ([.bool true]) hE (by rw [show Tryd.f20.results.toList = [.tmp 4] from rfl]; exact ⟨_, _, rfl, rfl, rfl⟩) ?_
      exact ⟨_, rfl, D1634, rfl, hS⟩
    · clear hE hS hf
      rintro k a w ⟨y1487, D1488, hE, hS, le1489, hf⟩
      obtain ⟨k, rfl, hf⟩ := inspeximusref09_Same_l1.some _ _ hf
      refine ⟨k, rfl, ?_⟩
      unfold inspeximusref09_Same_l1.b at hf
      refine wpIn_seq ?_
      refine wpIn_seq ?_
      refine region_at ?_
      refine segN 4 (j := 4) [(14, .bool ((decide (y1487 < ((List.length (x1) : Nat) : Int)))))] hE (by kernel_rfl) rfl (fun a hE => ?_)
      refine at_end rfl ?_
      refine cond_split hE (b := (decide (y1487 < ((List.length (x1) : Nat) : Int)))) rfl (fun hb => ?_) (fun hb => ?_)
      · replace hf := cond_t hb hf
        clear hb
        refine wpIn_skip ?_
        refine wpIn_seq ?_
        refine wpIn_block ?_
        refine wpIn_seq ?_
        refine region_draw (fun j => Keeps (mfOf [] j)) (by kernel_rfl) ?_
        have hS := hS.drew
        first | generalize w.drew = w at hS ⊢ | generalize w0.drew = w at hS ⊢
        refine tW 0 1 (fuel := 9) (by kernel_rfl) hE (fun M => tk_pure (.slice A2 (List.length (x1)) c3) hE rfl rfl rfl rfl (fun _ _ _ e => by cases e) (by kernel_rfl) (fun a hE => ?_))
        refine tW 1 3 (fuel := 8) (by kernel_rfl) hE (fun M => tk_pure (.int .i64 (y1487)) hE rfl rfl rfl rfl (fun _ _ _ e => by cases e) (by kernel_rfl) (fun a hE => ?_))
        refine tW 4 19 (fuel := 7) (by kernel_rfl) hE (fun M => tk_pure (.slice A6 (List.length (x5)) c7) hE rfl rfl rfl rfl (fun _ _ _ e => by cases e) (by kernel_rfl) (fun a hE => ?_))
        refine tW 5 51 (fuel := 6) (by kernel_rfl) hE (fun M => tk_pure (.int .i64 (y1487)) hE rfl rfl rfl rfl (fun _ _ _ e => by cases e) (by kernel_rfl) (fun a hE => ?_))
        obtain ⟨x1743, h1744, hf⟩ := bind_some hf
        refine tW 2 55 (fuel := 5) (by kernel_rfl) hE (fun M => g_index (K := (kdSlice (kdInt .u8))) (e := 33) (by_ := 24) (zl := 1) rfl rfl rfl rfl hE rfl rfl rfl (by kernel_rfl) rfl (h4.mono le1489) h1744 (fun a b1745 o1746 hE h1747 => ?_))
        obtain ⟨cs1748, C1749, T1750, fr1751, hr1752, hb1753, hc1754⟩ := h1747
        obtain ⟨A1755, c1756, rfl, h1757⟩ := hr1752
        refine tT 3 63 (fuel := 4) (by kernel_rfl) hE (tk_loadX (off0 := o1746) (off := 0) (c := [.slice A1755 (List.length (x1743)) c1756]) (.slice A1755 (List.length (x1743)) c1756) rfl rfl rfl rfl hE rfl hS rfl hb1753 hc1754 (by kernel_rfl) (by kernel_rfl) (kD hS dn_nil) (fun a hE => ?_))
        obtain ⟨x1758, h1759, hf⟩ := bind_some hf
        refine tW 6 127 (fuel := 3) (by kernel_rfl) hE (fun M => g_index (K := (kdSlice (kdInt .u8))) (e := 33) (by_ := 24) (zl := 1) rfl rfl rfl rfl hE rfl rfl rfl (by kernel_rfl) rfl (h8.mono le1489) h1759 (fun a b1760 o1761 hE h1762 => ?_))
        obtain ⟨cs1763, C1764, T1765, fr1766, hr1767, hb1768, hc1769⟩ := h1762
        obtain ⟨A1770, c1771, rfl, h1772⟩ := hr1767
        refine tT 7 255 (fuel := 2) (by kernel_rfl) hE (tk_loadX (off0 := o1761) (off := 0) (c := [.slice A1770 (List.length (x1758)) c1771]) (.slice A1770 (List.length (x1758)) c1771) rfl rfl rfl rfl hE rfl hS rfl hb1768 hc1769 (by kernel_rfl) (by kernel_rfl) (kD hS dn_nil) (fun a hE => ?_))
        obtain ⟨r1773, h1774, hf⟩ := bind_some hf
        refine oG 8 511 (fuel := 1) (by kernel_rfl) (op_call rfl rfl rfl rfl hE rfl rfl rfl rfl (by kernel_rfl) (inspeximusref01_Bytes.calls (g := g) h1774 (hS.st.fore (L := [])) h1757 h1772) (fun a v w hR hE => ?_))
        obtain ⟨D1775, rfl, hS1⟩ := hR
        refine ⟨(hS1.keeps.sub (M' := []) trivial).mono (fun _ h => h), ?_⟩
        have le1777 := hS1.dle
        have hS := hS.callR hS1 rfl .n
        clear hS1
        refine tW 9 1023 (fuel := 0) (by kernel_rfl) hE (fun M => tk_pure (.bool ((!r1773))) hE rfl rfl rfl rfl (fun _ _ _ e => by cases e) (by kernel_rfl) (fun a hE => ?_))
        refine doneG (by kernel_rfl) ?_
        refine cond_split hE (b := (!r1773)) rfl (fun hb => ?_) (fun hb => ?_)
        · replace hf := cond_t hb hf
          clear hb
          refine wpIn_seq ?_
          refine region_at ?_
          refine segN 1 (j := 1) [(4, .bool false)] hE (by kernel_rfl) rfl (fun a hE => ?_)
          refine at_end rfl ?_
          refine wpIn_ret ?_
          obtain rfl := Option.some.inj hf
          replace hf := hs1637
          obtain rfl := Option.some.inj hf
          repeat (with_reducible first | refine then_ret ?_ | refine block_ret ?_ | refine qx_ret ?_)
          refine ret_gen ([.bool false]) hE (by rw [show Tryd.f20.results.toList = [.tmp 4] from rfl]; exact ⟨_, _, rfl, rfl, rfl⟩) ?_
          exact ⟨_, rfl, D1775, rfl, hS⟩
        · replace hf := cond_f hb hf
          clear hb
          refine wpIn_skip ?_
          refine region_at ?_
          refine segN 3 (j := 3) [(5, .int .i64 ((IntKind.wrap .i64 (y1487 + (1 : Int)))))] hE (by kernel_rfl) rfl (fun a hE => ?_)
          refine at_end rfl ?_
          exact ⟨(IntKind.wrap .i64 (y1487 + (1 : Int))), D1775, hE.weak (by kernel_rfl), hS, (Snap.le.trans le1489 le1777), hf⟩
      · replace hf := cond_f hb hf
        clear hb
        refine wpIn_exit ?_
        obtain rfl := Option.some.inj hf
        exact ⟨(), D1488, hE.weak (by kernel_rfl), hS, le1489, rfl⟩

set_option maxRecDepth 100000 in
set_option maxHeartbeats 4000000 in
theorem inspeximuslaw09_LogTorn.calls {K : Nat} {g w0 : World} {D0 : Snap} {x1 : (List (List Int))} {x5 : Int} {A2 : Option Addr} {c3 : Nat} {r : (Bool)} (hf : inspeximuslaw09_LogTorn.f K x1 x5 = some r) (hS0 : St g w0 D0 []) (h4 : Sl (kdSlice (kdInt .u8)) D0 A2 c3 (x1)) (hG0 : Cell (kdArr .u32 8) D0 0 0 gl_First) (hG1 : Cell (kdArr .u32 64) D0 1 0 gl_K) :
    CallsIn (Fw none) 0 Tryd.prog 7 (List.toArray [.slice A2 (List.length (x1)) c3, .int .u16 (x5)]) w0 (fun e w' => ∃ v, e = .returned v ∧ ∃ (D1 : Snap), v = .bool (r) ∧ Stp g w0 D0 [] w' D1 []) := by
  unfold inspeximuslaw09_LogTorn.f at hf
  have hS := Stp.refl hS0
  clear hS0
  refine calls_body (n := 125) Tryd.func7 rfl Tryd.ntmps7 rfl (fun a hE => ?_)
  have hE : Env a 125 [] [(0, .slice A2 (List.length (x1)) c3), (1, .int .u16 (x5))] := hE
  refine wpIn_seq ?_
  refine region_at ?_
  refine segN 1 (j := 1) [(4, .bool false)] hE (by kernel_rfl) rfl (fun a hE => ?_)
  refine at_end rfl ?_
  refine wpIn_seq ?_
  refine wpIn_seq ?_
  refine region_at ?_
  obtain ⟨r4599, h4600, hf⟩ := bind_some hf
  refine at_op (op_call rfl rfl rfl rfl hE rfl rfl rfl rfl (by kernel_rfl) (inspeximuslaw09_alive.calls (g := g) h4600 (hS.st.fore (L := [])) hG0 hG1) (fun a v w hR hE => ?_)) rfl
  obtain ⟨D4601, rfl, hS1⟩ := hR
  have le4603 := hS1.dle
  have hS := hS.callR hS1 rfl .n
  clear hS1
  refine segN 1 (j := 2) [(20, .bool ((!r4599)))] hE (by kernel_rfl) rfl (fun a hE => ?_)
  refine at_end rfl ?_
  refine cond_split hE (b := (!r4599)) rfl (fun hb => ?_) (fun hb => ?_)
  · replace hf := cond_t hb hf
    clear hb
    refine wpIn_seq ?_
    refine region_at ?_
    refine segN 1 (j := 1) [(4, .bool false)] hE (by kernel_rfl) rfl (fun a hE => ?_)
    refine at_end rfl ?_
    refine wpIn_ret ?_
    obtain rfl := Option.some.inj hf
    repeat (with_reducible first | refine then_ret ?_ | refine block_ret ?_ | refine qx_ret ?_)
    refine ret_gen ([.bool false]) hE (by rw [show Tryd.f7.results.toList = [.tmp 4] from rfl]; exact ⟨_, _, rfl, rfl, rfl⟩) ?_
    exact ⟨_, rfl, D4601, rfl, hS⟩
  · replace hf := cond_f hb hf
    clear hb
    refine wpIn_skip ?_
    refine wpIn_seq ?_
    refine wpIn_seq ?_
    refine region_at ?_
    refine segN 3 (j := 3) [(23, .bool ((decide ((12 : Int) < ((List.length (x1) : Nat) : Int)))))] hE (by kernel_rfl) rfl (fun a hE => ?_)
    refine at_end rfl ?_
    refine cond_split hE (b := (decide ((12 : Int) < ((List.length (x1) : Nat) : Int)))) rfl (fun hb => ?_) (fun hb => ?_)
    · replace hf := cond_t hb hf
      clear hb
      refine wpIn_seq ?_
      refine region_at ?_
      refine segN 1 (j := 1) [(4, .bool true)] hE (by kernel_rfl) rfl (fun a hE => ?_)
      refine at_end rfl ?_
      refine wpIn_ret ?_
      obtain rfl := Option.some.inj hf
      repeat (with_reducible first | refine then_ret ?_ | refine block_ret ?_ | refine qx_ret ?_)
      refine ret_gen ([.bool true]) hE (by rw [show Tryd.f7.results.toList = [.tmp 4] from rfl]; exact ⟨_, _, rfl, rfl, rfl⟩) ?_
      exact ⟨_, rfl, D4601, rfl, hS⟩
    · replace hf := cond_f hb hf
      clear hb
      refine wpIn_skip ?_
      refine wpIn_seq ?_
      refine region_at ?_
      obtain ⟨r4604, h4605, hf⟩ := bind_some hf
      refine at_op (op_call rfl rfl rfl rfl hE rfl rfl rfl rfl (by kernel_rfl) (disk_New.calls (g := g) h4605 (hS.st.fore (L := [])) ) (fun a v w hR hE => ?_)) rfl
      obtain ⟨D4606, b4608, A4610, c4611, q4612, rfl, hS1, h4613⟩ := hR
      have le4615 := hS1.dle
      have hS := hS.callR hS1 rfl (.c (.c .n))
      clear hS1
      refine segN 1 (j := 2) [(5, .pointer (some ⟨b4608, 0, none⟩))] hE (by kernel_rfl) rfl (fun a hE => ?_)
      refine at_end rfl ?_
      refine wpIn_seq ?_
      refine region_at ?_
      refine segN 1 (j := 1) [(26, .pointer (some ⟨b4608, 0, none⟩))] hE (by kernel_rfl) rfl (fun a hE => ?_)
      obtain ⟨r4616, h4617, hf⟩ := bind_some hf
      refine at_op (op_call rfl rfl rfl rfl hE rfl rfl rfl rfl (by kernel_rfl) (log_Open.calls (g := g) h4617 (hS.st.fore (L := [bx b4608 72 (c_T_disk_Disk ((T_disk_Disk.mk (r4604.1) (r4604.2.1) (r4604.2.2))) A4610 c4611), q4612])) h4613 (hG0.mono (Snap.le.trans le4603 le4615)) (hG1.mono (Snap.le.trans le4603 le4615))) (fun a v w hR hE => ?_)) rfl
      obtain ⟨D4618, b4620, A4622, c4623, q4624, A4627, c4628, q4629, rfl, hS1, h4625, h4630⟩ := hR
      have le4632 := hS1.dle
      have hS := hS.callR hS1 rfl (.c (.c (.c (.c .n))))
      clear hS1
      refine segN 7 (j := 9) [(6, .pointer (some ⟨b4620, 0, none⟩))] hE (by kernel_rfl) rfl (fun a hE => ?_)
      refine at_end rfl ?_
      refine wpIn_seq ?_
      refine region_at ?_
      refine at_op (op_buildSlice (K := (kdInt .i64)) (e := 3) (cs := [.int .i64 ((0 : Int))] ++ []) ([(0 : Int)] : List Int) rfl rfl rfl rfl hE rfl hS rfl (by kernel_rfl) rfl rfl (by exact (show RL (kdInt .i64) D4618 ([(0 : Int)] : List Int) ([.int .i64 ((0 : Int))] ++ []) from ⟨_, _, rfl, rfl, rfl⟩)) (fun a A4633 q4634 w _ hE h4635 hS => ?_)) rfl
      refine segN 1 (j := 2) [(9, .slice A4633 (List.length (([(0 : Int)] : List Int))) 1)] hE (by kernel_rfl) rfl (fun a hE => ?_)
      refine at_end rfl ?_
      refine wpIn_seq ?_
      refine wpIn_seq ?_
      refine region_at ?_
      refine segN 1 (j := 1) [(10, .int .i64 ((0 : Int)))] hE (by kernel_rfl) rfl (fun a hE => ?_)
      refine at_end rfl ?_
      obtain ⟨s8068, hf, hs8069⟩ := bind_some hf
      have hS := hS.pk (.c 1 rfl (.c 2 rfl (.c 0 rfl (.c 4 rfl .n)))) rfl
      refine block_loop (fun a w => ∃ (z8055 : (List Int) × (List Int) × Int), ∃ (A8058 : Option Addr), ∃ (c8059 : Nat), ∃ (q8060 : Blk), ∃ (A8063 : Option Addr), ∃ (c8064 : Nat), ∃ (q8065 : Blk), ∃ (D8056 : Snap), Env a 125 [] [(0, .slice A2 (List.length (x1)) c3), (1, .int .u16 (x5)), (5, .pointer (some ⟨b4608, 0, none⟩)), (9, .slice A8058 (List.length (z8055.1)) c8059)] ∧ Stp g w0 D0 [] w D8056 [bx b4608 72 (c_T_disk_Disk ((T_disk_Disk.mk (z8055.2.1) (z8055.2.2) (r4604.2.2))) A8063 c8064), q8060, q8065] ∧ Snap.le D4618 D8056 ∧ OwnD (kdInt .i64) 3 D8056 A8058 c8059 (z8055.1) q8060 ∧ OwnL (kdInt .u8) 5 D8056 A8063 c8064 (z8055.2.1) q8065 ∧ (Sum.inr z8055) = s8068) (fun k a w => ∃ (y7371 : (List Int) × Int × (List Int) × Int × T_log_at), ∃ (A7374 : Option Addr), ∃ (c7375 : Nat), ∃ (q7376 : Blk), ∃ (A7379 : Option Addr), ∃ (c7380 : Nat), ∃ (q7381 : Blk), ∃ (D7372 : Snap), Env a 125 [] [(0, .slice A2 (List.length (x1)) c3), (1, .int .u16 (x5)), (5, .pointer (some ⟨b4608, 0, none⟩)), (6, .pointer (some ⟨b4620, 0, none⟩)), (9, .slice A7374 (List.length (y7371.1)) c7375), (10, .int .i64 (y7371.2.1))] ∧ Stp g w0 D0 [] w D7372 [bx b4608 72 (c_T_disk_Disk ((T_disk_Disk.mk (y7371.2.2.1) (y7371.2.2.2.1) (r4604.2.2))) A7379 c7380), bx b4620 64 ([.pointer (some ⟨b4608, 0, none⟩)] ++ ((c_T_log_at (y7371.2.2.2.2)))), q7376, q7381] ∧ Snap.le D4618 D7372 ∧ OwnD (kdInt .i64) 3 D7372 A7374 c7375 (y7371.1) q7376 ∧ OwnL (kdInt .u8) 5 D7372 A7379 c7380 (y7371.2.2.1) q7381 ∧ inspeximuslaw09_LogTorn_l1.l K x1 r4604 k y7371 = some s8068) K ?_ ?_ ?_
      · exact ⟨(([(0 : Int)] : List Int), (0 : Int), r4616.2.2.1, r4616.2.2.2.1, r4616.2.2.2.2), A4633, 1, q4634, A4627, c4628, q4629, D4618, hE.weak (by kernel_rfl), hS, Snap.le.refl _, h4635, h4630, hf⟩
      · clear hE hS hf
        rintro a w ⟨z8055, A8058, c8059, q8060, A8063, c8064, q8065, D8056, hE, hS, le8057, h8061, h8066, rfl⟩
        have hf := hs8069
        clear hs8069
        refine wpIn_seq ?_
        refine region_at ?_
        refine segN 1 (j := 1) [(73, .pointer (some ⟨b4608, 0, none⟩))] hE (by kernel_rfl) rfl (fun a hE => ?_)
        have hS := hS.pk (.c 0 rfl (.c 2 rfl (.c 1 rfl .n))) rfl
        obtain ⟨r8728, h8729, hf⟩ := bind_some hf
        refine at_op (op_call rfl rfl rfl rfl hE rfl rfl rfl rfl (by kernel_rfl) (disk_Disk_Bytes.calls (g := g) h8729 (hS.st.fore (L := [bx b4608 72 (c_T_disk_Disk ((T_disk_Disk.mk (z8055.2.1) (z8055.2.2) (r4604.2.2))) A8063 c8064), q8065])) h8066) (fun a v w hR hE => ?_)) rfl
        obtain ⟨D8730, A8732, c8733, q8734, q8737, rfl, hS1, h8735, h8738⟩ := hR
        have le8740 := hS1.dle
        have hS := hS.callR hS1 rfl (.c (.c (.c .n)))
        clear hS1
        refine segN 1 (j := 3) [(11, .slice A8732 (List.length (r8728)) c8733)] hE (by kernel_rfl) rfl (fun a hE => ?_)
        refine at_end rfl ?_
        refine wpIn_seq ?_
        refine region_at ?_
        refine segN 5 (j := 5) [(76, .int .i64 ((IntKind.wrap .i64 x5))), (79, .int .i64 ((IntKind.wrap .i64 (((List.length (r8728) : Nat) : Int) + (1 : Int)))))] hE (by kernel_rfl) rfl (fun a hE => ?_)
        obtain ⟨hq8741, hf⟩ := chk_not hf
        refine at_op (op_tk hE (tk_bin (r := .int .i64 ((Int.tmod (IntKind.wrap .i64 x5) (IntKind.wrap .i64 (((List.length (r8728) : Nat) : Int) + (1 : Int)))))) rfl rfl rfl rfl hE rfl rfl rfl (rem_run hq8741) (fun a hE => ?_))) rfl
        refine segN 1 (j := 7) [(12, .int .i64 ((Int.tmod (IntKind.wrap .i64 x5) (IntKind.wrap .i64 (((List.length (r8728) : Nat) : Int) + (1 : Int))))))] hE (by kernel_rfl) rfl (fun a hE => ?_)
        refine at_end rfl ?_
        refine wpIn_seq ?_
        refine region_at ?_
        refine segN 1 (j := 1) [(13, .int .i64 ((0 : Int)))] hE (by kernel_rfl) rfl (fun a hE => ?_)
        refine at_end rfl ?_
        refine wpIn_seq ?_
        refine wpIn_seq ?_
        refine region_at ?_
        refine segN 1 (j := 1) [(14, .int .i64 ((0 : Int)))] hE (by kernel_rfl) rfl (fun a hE => ?_)
        refine at_end rfl ?_
        obtain ⟨s8959, hf, hs8960⟩ := bind_some hf
        have hS := hS.pk (.c 3 rfl (.c 1 rfl .n)) rfl
        refine block_loop (fun a w => ∃ (z8956 : Int), ∃ (D8957 : Snap), Env a 125 [] [(0, .slice A2 (List.length (x1)) c3), (9, .slice A8058 (List.length (z8055.1)) c8059), (11, .slice A8732 (List.length (r8728)) c8733), (12, .int .i64 ((Int.tmod (IntKind.wrap .i64 x5) (IntKind.wrap .i64 (((List.length (r8728) : Nat) : Int) + (1 : Int)))))), (13, .int .i64 (z8956))] ∧ Stp g w0 D0 [] w D8957 [q8060, q8734] ∧ Snap.le D8730 D8957 ∧ z8956 = s8959) (fun k a w => ∃ (y8927 : Int × Int), ∃ (D8928 : Snap), Env a 125 [] [(0, .slice A2 (List.length (x1)) c3), (9, .slice A8058 (List.length (z8055.1)) c8059), (11, .slice A8732 (List.length (r8728)) c8733), (12, .int .i64 ((Int.tmod (IntKind.wrap .i64 x5) (IntKind.wrap .i64 (((List.length (r8728) : Nat) : Int) + (1 : Int)))))), (13, .int .i64 (y8927.1)), (14, .int .i64 (y8927.2))] ∧ Stp g w0 D0 [] w D8928 [q8060, q8734] ∧ Snap.le D8730 D8928 ∧ inspeximuslaw09_LogTorn_l2.l K x5 z8055 r8728 k y8927 = some s8959) K ?_ ?_ ?_
        · exact ⟨((0 : Int), (0 : Int)), D8730, hE.weak (by kernel_rfl), hS, Snap.le.refl _, hf⟩
        · clear hE hS hf
          rintro a w ⟨z8956, D8957, hE, hS, le8958, rfl⟩
          have hf := hs8960
          clear hs8960
          refine wpIn_seq ?_
          refine region_at ?_
          obtain ⟨r8984, h8985, hf⟩ := bind_some hf
          refine at_op (op_call rfl rfl rfl rfl hE rfl rfl rfl rfl (by kernel_rfl) (disk_New.calls (g := g) h8985 (hS.st.fore (L := [])) ) (fun a v w hR hE => ?_)) rfl
          obtain ⟨D8986, b8988, A8990, c8991, q8992, rfl, hS1, h8993⟩ := hR
          have le8995 := hS1.dle
          have hS := hS.callR hS1 rfl (.c (.c .n))
          clear hS1
          refine segN 1 (j := 2) [(15, .pointer (some ⟨b8988, 0, none⟩))] hE (by kernel_rfl) rfl (fun a hE => ?_)
          refine at_end rfl ?_
          refine wpIn_seq ?_
          refine region_at ?_
          refine segN 3 (j := 3) [(95, .pointer (some ⟨b8988, 0, none⟩)), (96, .slice A8732 (List.length (r8728)) c8733), (97, .int .i64 ((Int.tmod (IntKind.wrap .i64 x5) (IntKind.wrap .i64 (((List.length (r8728) : Nat) : Int) + (1 : Int))))))] hE (by kernel_rfl) rfl (fun a hE => ?_)
          obtain ⟨l8996, h8997, hf⟩ := bind_some hf
          refine at_op (op_tk hE (op_prefixO (K := (kdInt .u8)) (T := 5) (by_ := 1) (zl := 1) rfl rfl rfl rfl hE rfl rfl (by kernel_rfl) ⟨_, rfl⟩ (h8735.mono (Snap.le.trans le8958 le8995)) h8997 (fun a hE h8998 => ?_))) rfl
          have hS := hS.pk (.c 3 rfl (.c 0 rfl (.c 1 rfl (.c 2 rfl .n)))) rfl
          obtain ⟨D8999, q9002, le9000, hS, h9003, h9001⟩ := hS.lent h8998
          have hS := hS.pk (.c 1 rfl (.c 2 rfl (.c 0 rfl (.c 3 rfl .n)))) rfl
          obtain ⟨r9004, h9005, hf⟩ := bind_some hf
          refine at_op (op_call rfl rfl rfl rfl hE rfl rfl rfl rfl (by kernel_rfl) (disk_Disk_Write.calls (g := g) h9005 (hS.st.fore (L := [bx b8988 72 (c_T_disk_Disk ((T_disk_Disk.mk (r8984.1) (r8984.2.1) (r8984.2.2))) A8990 c8991), q8992])) h9001 (h8993.mono le9000)) (fun a v w hR hE => ?_)) rfl
          obtain ⟨D9006, A9008, c9009, q9010, rfl, hS1, h9011⟩ := hR
          have le9013 := hS1.dle
          have hS := hS.callR hS1 rfl (.c (.c .n))
          clear hS1
          refine at_end rfl ?_
          refine wpIn_seq ?_
          refine region_at ?_
          refine segN 1 (j := 1) [(101, .pointer (some ⟨b8988, 0, none⟩))] hE (by kernel_rfl) rfl (fun a hE => ?_)
          have hS := hS.pk (.c 0 rfl (.c 1 rfl (.c 3 rfl .n))) rfl
          obtain ⟨r9014, h9015, hf⟩ := bind_some hf
          refine at_op (op_call rfl rfl rfl rfl hE rfl rfl rfl rfl (by kernel_rfl) (log_Open.calls (g := g) h9015 (hS.st.fore (L := [bx b8988 72 (c_T_disk_Disk ((T_disk_Disk.mk (r9004.2) (r8984.2.1) (r8984.2.2))) A9008 c9009), q9010])) h9011 (hG0.mono (Snap.le.trans (Snap.le.trans (Snap.le.trans (Snap.le.trans (Snap.le.trans (Snap.le.trans (Snap.le.trans (Snap.le.trans le4603 le4615) le4632) le8057) le8740) le8958) le8995) le9000) le9013)) (hG1.mono (Snap.le.trans (Snap.le.trans (Snap.le.trans (Snap.le.trans (Snap.le.trans (Snap.le.trans (Snap.le.trans (Snap.le.trans le4603 le4615) le4632) le8057) le8740) le8958) le8995) le9000) le9013))) (fun a v w hR hE => ?_)) rfl
          obtain ⟨D9016, b9018, A9020, c9021, q9022, A9025, c9026, q9027, rfl, hS1, h9023, h9028⟩ := hR
          have le9030 := hS1.dle
          have hS := hS.callR hS1 rfl (.c (.c (.c (.c .n))))
          clear hS1
          refine segN 7 (j := 9) [(17, .slice A9020 (List.length (r9014.1)) c9021), (18, .int .i64 (r9014.2.1))] hE (by kernel_rfl) rfl (fun a hE => ?_)
          refine at_end rfl ?_
          refine wpIn_seq ?_
          refine region_draw (fun j => Keeps (mfOf [(11, [b8988] ++ ids [q9027])] j)) (by kernel_rfl) ?_
          have hS := hS.drew
          first | generalize w.drew = w at hS ⊢ | generalize w0.drew = w at hS ⊢
          refine tW 0 1 (fuel := 19) (by kernel_rfl) hE (fun M => tk_pure (.int .i64 (r9014.2.1)) hE rfl rfl rfl rfl (fun _ _ _ e => by cases e) (by kernel_rfl) (fun a hE => ?_))
          refine tW 1 3 (fuel := 18) (by kernel_rfl) hE (fun M => tk_pure (.bool ((decide (r9014.2.1 = (0 : Int))))) hE rfl rfl rfl rfl (fun _ _ _ e => by cases e) (by kernel_rfl) (fun a hE => ?_))
          refine tW 2 7 (fuel := 17) (by kernel_rfl) hE (fun M => tk_pure (.bool ((decide (r9014.2.1 = (0 : Int))))) hE rfl rfl rfl rfl (fun _ _ _ e => by cases e) (by kernel_rfl) (fun a hE => ?_))
          cases hb : (decide (r9014.2.1 = (0 : Int)))
          · replace hf := cond_f hb hf
            have hE := hE.know (t := 108) (b := (decide (r9014.2.1 = (0 : Int)))) (b' := false) rfl hb
            clear hb
            refine tW 3 15 (fuel := 16) (by kernel_rfl) hE (fun M => tk_skip hE rfl rfl rfl rfl (fun a hE => ?_))
            refine tW 4 31 (fuel := 15) (by kernel_rfl) hE (fun M => tk_skip hE rfl rfl rfl rfl (fun a hE => ?_))
            refine tW 5 63 (fuel := 14) (by kernel_rfl) hE (fun M => tk_skip hE rfl rfl rfl rfl (fun a hE => ?_))
            refine tW 6 127 (fuel := 13) (by kernel_rfl) hE (fun M => tk_skip hE rfl rfl rfl rfl (fun a hE => ?_))
            refine tW 7 255 (fuel := 12) (by kernel_rfl) hE (fun M => tk_skip hE rfl rfl rfl rfl (fun a hE => ?_))
            refine tW 8 511 (fuel := 11) (by kernel_rfl) hE (fun M => tk_pure (.bool false) hE rfl rfl rfl rfl (fun _ _ _ e => by cases e) (by kernel_rfl) (fun a hE => ?_))
            refine tW 9 1023 (fuel := 10) (by kernel_rfl) hE (fun M => tk_pure (.bool false) hE rfl rfl rfl rfl (fun _ _ _ e => by cases e) (by kernel_rfl) (fun a hE => ?_))
            refine tW 10 2047 (fuel := 9) (by kernel_rfl) hE (fun M => tk_skip hE rfl rfl rfl rfl (fun a hE => ?_))
            refine tW 11 4095 (fuel := 8) (by kernel_rfl) hE (fun M => tk_skip hE rfl rfl rfl rfl (fun a hE => ?_))
            refine tW 12 8191 (fuel := 7) (by kernel_rfl) hE (fun M => tk_skip hE rfl rfl rfl rfl (fun a hE => ?_))
            refine tW 13 16383 (fuel := 6) (by kernel_rfl) hE (fun M => tk_skip hE rfl rfl rfl rfl (fun a hE => ?_))
            refine tW 14 32767 (fuel := 5) (by kernel_rfl) hE (fun M => tk_skip hE rfl rfl rfl rfl (fun a hE => ?_))
            refine tW 15 65535 (fuel := 4) (by kernel_rfl) hE (fun M => tk_skip hE rfl rfl rfl rfl (fun a hE => ?_))
            refine tW 16 131071 (fuel := 3) (by kernel_rfl) hE (fun M => tk_skip hE rfl rfl rfl rfl (fun a hE => ?_))
            refine tW 17 262143 (fuel := 2) (by kernel_rfl) hE (fun M => tk_skip hE rfl rfl rfl rfl (fun a hE => ?_))
            refine tW 18 524287 (fuel := 1) (by kernel_rfl) hE (fun M => tk_pure (.bool false) hE rfl rfl rfl rfl (fun _ _ _ e => by cases e) (by kernel_rfl) (fun a hE => ?_))
            refine tW 19 1048575 (fuel := 0) (by kernel_rfl) hE (fun M => tk_pure (.bool false) hE rfl rfl rfl rfl (fun _ _ _ e => by cases e) (by kernel_rfl) (fun a hE => ?_))
            refine doneG (by kernel_rfl) ?_
            refine wpIn_ret ?_
            obtain rfl := Option.some.inj hf
            repeat (with_reducible first | refine then_ret ?_ | refine block_ret ?_ | refine qx_ret ?_)
            refine ret_gen ([.bool false]) hE (by rw [show Tryd.f7.results.toList = [.tmp 4] from rfl]; exact ⟨_, _, rfl, rfl, rfl⟩) ?_
            have hS := hS.pk .n rfl
            exact ⟨_, rfl, D9016, rfl, hS⟩
          · replace hf := cond_t hb hf
            have hE := hE.know (t := 108) (b := (decide (r9014.2.1 = (0 : Int)))) (b' := true) rfl hb
            clear hb
            refine tW 3 15 (fuel := 16) (by kernel_rfl) hE (fun M => tk_pure (.slice A9020 (List.length (r9014.1)) c9021) hE rfl rfl rfl rfl (fun _ _ _ e => by cases e) (by kernel_rfl) (fun a hE => ?_))
            refine tW 4 31 (fuel := 15) (by kernel_rfl) hE (fun M => tk_pure (.slice A2 (List.length (x1)) c3) hE rfl rfl rfl rfl (fun _ _ _ e => by cases e) (by kernel_rfl) (fun a hE => ?_))
            refine tW 5 63 (fuel := 14) (by kernel_rfl) hE (fun M => tk_pure (.int .i64 (z8956)) hE rfl rfl rfl rfl (fun _ _ _ e => by cases e) (by kernel_rfl) (fun a hE => ?_))
            obtain ⟨l9142, h9143, hf⟩ := bind_some hf
            refine tW 6 127 (fuel := 13) (by kernel_rfl) hE (fun M => g_slice (K := (kdSlice (kdInt .u8))) (e := 33) (by_ := 24) (zl := 1) rfl rfl rfl rfl hE rfl rfl (by kernel_rfl) rfl ⟨_, rfl⟩ (h4.mono (Snap.le.trans (Snap.le.trans (Snap.le.trans (Snap.le.trans (Snap.le.trans (Snap.le.trans (Snap.le.trans (Snap.le.trans (Snap.le.trans le4603 le4615) le4632) le8057) le8740) le8958) le8995) le9000) le9013) le9030)) h9143 (fun a A9144 c9145 hE h9146 => ?_))
            have hS := hS.pk (.c 2 rfl (.c 0 rfl (.c 1 rfl (.c 3 rfl (.c 4 rfl .n))))) rfl
            obtain ⟨D9147, q9150, le9148, hS, h9151, h9149⟩ := hS.lent h9023
            obtain ⟨r9152, h9153, hf⟩ := bind_some hf
            refine oG 7 255 (fuel := 12) (by kernel_rfl) (op_call rfl rfl rfl rfl hE rfl rfl rfl rfl (by kernel_rfl) (inspeximusref09_Same.calls (g := g) h9153 (hS.st.fore (L := [])) h9149 (h9146.mono le9148)) (fun a v w hR hE => ?_))
            obtain ⟨D9154, rfl, hS1⟩ := hR
            refine ⟨(hS1.keeps.sub (M' := []) trivial).mono (fun _ h => h), ?_⟩
            have le9156 := hS1.dle
            have hS := hS.callR hS1 rfl .n
            clear hS1
            refine tW 8 511 (fuel := 11) (by kernel_rfl) hE (fun M => tk_pure (.bool (r9152)) hE rfl rfl rfl rfl (fun _ _ _ e => by cases e) (by kernel_rfl) (fun a hE => ?_))
            refine tW 9 1023 (fuel := 10) (by kernel_rfl) hE (fun M => tk_pure (.bool (r9152)) hE rfl rfl rfl rfl (fun _ _ _ e => by cases e) (by kernel_rfl) (fun a hE => ?_))
            cases hb : r9152
            · replace hf := cond_f hb hf
              have hE := hE.know (t := 115) (b := r9152) (b' := false) rfl hb
              clear hb
              refine tW 10 2047 (fuel := 9) (by kernel_rfl) hE (fun M => tk_skip hE rfl rfl rfl rfl (fun a hE => ?_))
              refine tW 11 4095 (fuel := 8) (by kernel_rfl) hE (fun M => tk_skip hE rfl rfl rfl rfl (fun a hE => ?_))
              refine tW 12 8191 (fuel := 7) (by kernel_rfl) hE (fun M => tk_skip hE rfl rfl rfl rfl (fun a hE => ?_))
              refine tW 13 16383 (fuel := 6) (by kernel_rfl) hE (fun M => tk_skip hE rfl rfl rfl rfl (fun a hE => ?_))
              refine tW 14 32767 (fuel := 5) (by kernel_rfl) hE (fun M => tk_skip hE rfl rfl rfl rfl (fun a hE => ?_))
              refine tW 15 65535 (fuel := 4) (by kernel_rfl) hE (fun M => tk_skip hE rfl rfl rfl rfl (fun a hE => ?_))
              refine tW 16 131071 (fuel := 3) (by kernel_rfl) hE (fun M => tk_skip hE rfl rfl rfl rfl (fun a hE => ?_))
              refine tW 17 262143 (fuel := 2) (by kernel_rfl) hE (fun M => tk_skip hE rfl rfl rfl rfl (fun a hE => ?_))
              refine tW 18 524287 (fuel := 1) (by kernel_rfl) hE (fun M => tk_pure (.bool false) hE rfl rfl rfl rfl (fun _ _ _ e => by cases e) (by kernel_rfl) (fun a hE => ?_))
              refine tW 19 1048575 (fuel := 0) (by kernel_rfl) hE (fun M => tk_pure (.bool false) hE rfl rfl rfl rfl (fun _ _ _ e => by cases e) (by kernel_rfl) (fun a hE => ?_))
              refine doneG (by kernel_rfl) ?_
              refine wpIn_ret ?_
              obtain rfl := Option.some.inj hf
              repeat (with_reducible first | refine then_ret ?_ | refine block_ret ?_ | refine qx_ret ?_)
              refine ret_gen ([.bool false]) hE (by rw [show Tryd.f7.results.toList = [.tmp 4] from rfl]; exact ⟨_, _, rfl, rfl, rfl⟩) ?_
              have hS := hS.pk .n rfl
              exact ⟨_, rfl, D9154, rfl, hS⟩
            · replace hf := cond_t hb hf
              have hE := hE.know (t := 115) (b := r9152) (b' := true) rfl hb
              clear hb
              refine tW 10 2047 (fuel := 9) (by kernel_rfl) hE (fun M => tk_pure (.pointer (some ⟨b8988, 0, none⟩)) hE rfl rfl rfl rfl (fun _ _ _ e => by cases e) (by kernel_rfl) (fun a hE => ?_))
              refine tW 13 10239 (fuel := 8) (by kernel_rfl) hE (fun M => tk_pure (.slice A8058 (List.length (z8055.1)) c8059) hE rfl rfl rfl rfl (fun _ _ _ e => by cases e) (by kernel_rfl) (fun a hE => ?_))
              refine tW 14 26623 (fuel := 7) (by kernel_rfl) hE (fun M => tk_pure (.int .i64 (z8956)) hE rfl rfl rfl rfl (fun _ _ _ e => by cases e) (by kernel_rfl) (fun a hE => ?_))
              obtain ⟨x9157, h9158, hf⟩ := bind_some hf
              refine tW 15 59391 (fuel := 6) (by kernel_rfl) hE (fun M => tk_indexO (K := (kdInt .i64)) (T := 3) (by_ := 8) (zl := 1) rfl rfl rfl rfl hE rfl rfl rfl (by kernel_rfl) (h8061.mono (Snap.le.trans (Snap.le.trans (Snap.le.trans (Snap.le.trans (Snap.le.trans (Snap.le.trans (Snap.le.trans le8740 le8958) le8995) le9000) le9013) le9030) le9148) le9156)) h9158 (fun a b9159 u9160 hq hE => ?_))
              subst hq
              obtain ⟨cs9161, C9162, hr9163, hb9164, hc9165⟩ := OwnD.cell (h8061.mono (Snap.le.trans (Snap.le.trans (Snap.le.trans (Snap.le.trans (Snap.le.trans (Snap.le.trans (Snap.le.trans le8740 le8958) le8995) le9000) le9013) le9030) le9148) le9156)) h9158
              obtain rfl := hr9163
              refine tN (T := [(11, [b8988] ++ ids [q9027])]) [11] 16 124927 (fuel := 5) (by kernel_rfl) hE (tk_loadO 4 (off0 := Int.toNat (z8956) * 1) (off := 0) (c := [.int .i64 (x9157)]) (Cl := C9162) (T := 3) (fr := (0, 0)) (.int .i64 (x9157)) rfl rfl rfl rfl hE rfl hS rfl (by rw [hb9164]; rfl) hc9165 (by kernel_rfl) (kL (j := 4) hS rfl (show b9159 ∉ (b8988 :: (ids [q9027] ++ [])) from (nm_cons (hS.ne (i := 4) (j := 1) (by decide) rfl rfl) (nm_app (hS.nmq (i := 4) (j := 3) (by decide) rfl rfl) List.not_mem_nil)))) (fun a hE => ?_))
              have hS := hS.pk (.c 1 rfl (.c 3 rfl (.c 0 rfl (.c 2 rfl (.c 4 rfl .n))))) rfl
              obtain ⟨r9166, h9167, hf⟩ := bind_some hf
              refine oG 11 126975 (fuel := 4) (by kernel_rfl) (op_call rfl rfl rfl rfl hE rfl rfl rfl rfl (by kernel_rfl) (disk_Disk_Bytes.calls (g := g) h9167 (hS.st.fore (L := [bx b8988 72 (c_T_disk_Disk ((T_disk_Disk.mk (r9014.2.2.1) (r9014.2.2.2.1) (r8984.2.2))) A9025 c9026), q9027])) (h9028.mono (Snap.le.trans le9148 le9156))) (fun a v w hR hE => ?_))
              obtain ⟨D9168, A9170, c9171, q9172, q9175, rfl, hS1, h9173, h9176⟩ := hR
              refine ⟨hS1.keeps.mono (fun _ h => h), ?_⟩
              have le9178 := hS1.dle
              have hS := hS.callR hS1 rfl (.c (.c (.c .n)))
              clear hS1
              refine tW 12 131071 (fuel := 3) (by kernel_rfl) hE (fun M => tk_pure (.int .i64 (((List.length (r9166) : Nat) : Int))) hE rfl rfl rfl rfl (fun _ _ _ e => by cases e) (by kernel_rfl) (fun a hE => ?_))
              refine tW 17 262143 (fuel := 2) (by kernel_rfl) hE (fun M => tk_pure (.bool ((decide (((List.length (r9166) : Nat) : Int) = x9157)))) hE rfl rfl rfl rfl (fun _ _ _ e => by cases e) (by kernel_rfl) (fun a hE => ?_))
              refine tW 18 524287 (fuel := 1) (by kernel_rfl) hE (fun M => tk_pure (.bool ((decide (((List.length (r9166) : Nat) : Int) = x9157)))) hE rfl rfl rfl rfl (fun _ _ _ e => by cases e) (by kernel_rfl) (fun a hE => ?_))
              refine tW 19 1048575 (fuel := 0) (by kernel_rfl) hE (fun M => tk_pure (.bool ((decide (((List.length (r9166) : Nat) : Int) = x9157)))) hE rfl rfl rfl rfl (fun _ _ _ e => by cases e) (by kernel_rfl) (fun a hE => ?_))
              refine doneG (by kernel_rfl) ?_
              refine wpIn_ret ?_
              obtain rfl := Option.some.inj hf
              repeat (with_reducible first | refine then_ret ?_ | refine block_ret ?_ | refine qx_ret ?_)
              refine ret_gen ([.bool ((decide (((List.length (r9166) : Nat) : Int) = x9157)))]) hE (by rw [show Tryd.f7.results.toList = [.tmp 4] from rfl]; exact ⟨_, _, rfl, rfl, rfl⟩) ?_
              have hS := hS.pk .n rfl
              exact ⟨_, rfl, D9168, rfl, hS⟩
        · clear hE hS hf
          rintro k a w ⟨y8927, D8928, hE, hS, le8929, hf⟩
          obtain ⟨k, rfl, hf⟩ := inspeximuslaw09_LogTorn_l2.some _ _ _ hf
          refine ⟨k, rfl, ?_⟩
          unfold inspeximuslaw09_LogTorn_l2.b at hf
          refine wpIn_seq ?_
          refine wpIn_seq ?_
          refine region_at ?_
          refine segN 4 (j := 4) [(84, .bool ((decide (y8927.2 < ((List.length (z8055.1) : Nat) : Int)))))] hE (by kernel_rfl) rfl (fun a hE => ?_)
          refine at_end rfl ?_
          refine cond_split hE (b := (decide (y8927.2 < ((List.length (z8055.1) : Nat) : Int)))) rfl (fun hb => ?_) (fun hb => ?_)
          · replace hf := cond_t hb hf
            clear hb
            refine wpIn_skip ?_
            obtain ⟨j8973, hj8974, hf⟩ := jn_elim hf
            refine seq_join (fun a w => ∃ (y8970 : Int), ∃ (D8971 : Snap), Env a 125 [] [(0, .slice A2 (List.length (x1)) c3), (9, .slice A8058 (List.length (z8055.1)) c8059), (11, .slice A8732 (List.length (r8728)) c8733), (12, .int .i64 ((Int.tmod (IntKind.wrap .i64 x5) (IntKind.wrap .i64 (((List.length (r8728) : Nat) : Int) + (1 : Int)))))), (13, .int .i64 (y8970)), (14, .int .i64 (y8927.2))] ∧ Stp g w0 D0 [] w D8971 [q8060, q8734] ∧ Snap.le D8928 D8971 ∧ j8973 y8970 = some s8959) ?_ ?_
            · clear hj8974
              refine wpIn_block ?_
              refine wpIn_seq ?_
              refine region_at ?_
              refine segN 2 (j := 2) [(87, .slice A8058 (List.length (z8055.1)) c8059), (88, .int .i64 (y8927.2))] hE (by kernel_rfl) rfl (fun a hE => ?_)
              obtain ⟨x8975, h8976, hf⟩ := bind_some hf
              refine at_op (op_tk hE (tk_indexO (K := (kdInt .i64)) (T := 3) (by_ := 8) (zl := 1) rfl rfl rfl rfl hE rfl rfl rfl (by kernel_rfl) (h8061.mono (Snap.le.trans le8740 le8929)) h8976 (fun a b8977 u8978 hq hE => ?_))) rfl
              subst hq
              obtain ⟨cs8979, C8980, hr8981, hb8982, hc8983⟩ := OwnD.cell (h8061.mono (Snap.le.trans le8740 le8929)) h8976
              obtain rfl := hr8981
              refine at_op (op_tk hE (tk_loadO 0 (off0 := Int.toNat (y8927.2) * 1) (off := 0) (c := [.int .i64 (x8975)]) (Cl := C8980) (T := 3) (fr := (0, 0)) (.int .i64 (x8975)) rfl rfl rfl rfl hE rfl hS rfl (by rw [hb8982]; rfl) hc8983 (by kernel_rfl) (kL (j := 0) hS rfl List.not_mem_nil) (fun a hE => ?_))) rfl
              refine segN 2 (j := 6) [(92, .bool ((decide (x8975 ≤ (Int.tmod (IntKind.wrap .i64 x5) (IntKind.wrap .i64 (((List.length (r8728) : Nat) : Int) + (1 : Int))))))))] hE (by kernel_rfl) rfl (fun a hE => ?_)
              refine at_end rfl ?_
              refine cond_split hE (b := (decide (x8975 ≤ (Int.tmod (IntKind.wrap .i64 x5) (IntKind.wrap .i64 (((List.length (r8728) : Nat) : Int) + (1 : Int))))))) rfl (fun hb => ?_) (fun hb => ?_)
              · replace hf := cond_t hb hf
                clear hb
                refine region_at ?_
                refine segN 2 (j := 2) [(13, .int .i64 (y8927.2))] hE (by kernel_rfl) rfl (fun a hE => ?_)
                refine at_end rfl ?_
                exact ⟨y8927.2, D8928, hE.weak (by kernel_rfl), hS, Snap.le.refl _, hf⟩
              · replace hf := cond_f hb hf
                clear hb
                refine wpIn_skip ?_
                exact ⟨y8927.1, D8928, hE.weak (by kernel_rfl), hS, Snap.le.refl _, hf⟩
            · clear hE hS
              rintro a w ⟨y8970, D8971, hE, hS, le8972, hf⟩
              replace hf := hj8974 _ hf
              clear hj8974
              refine region_at ?_
              refine segN 3 (j := 3) [(14, .int .i64 ((IntKind.wrap .i64 (y8927.2 + (1 : Int)))))] hE (by kernel_rfl) rfl (fun a hE => ?_)
              refine at_end rfl ?_
              exact ⟨(y8970, (IntKind.wrap .i64 (y8927.2 + (1 : Int)))), D8971, hE.weak (by kernel_rfl), hS, (Snap.le.trans le8929 le8972), hf⟩
          · replace hf := cond_f hb hf
            clear hb
            refine wpIn_exit ?_
            obtain rfl := Option.some.inj hf
            exact ⟨y8927.1, D8928, hE.weak (by kernel_rfl), hS, le8929, rfl⟩
      · clear hE hS hf
        rintro k a w ⟨y7371, A7374, c7375, q7376, A7379, c7380, q7381, D7372, hE, hS, le7373, h7377, h7382, hf⟩
        obtain ⟨k, rfl, hf⟩ := inspeximuslaw09_LogTorn_l1.some _ _ hf
        refine ⟨k, rfl, ?_⟩
        unfold inspeximuslaw09_LogTorn_l1.b at hf
        refine wpIn_seq ?_
        refine wpIn_seq ?_
        refine region_at ?_
        refine segN 4 (j := 4) [(35, .bool ((decide (y7371.2.1 < ((List.length (x1) : Nat) : Int)))))] hE (by kernel_rfl) rfl (fun a hE => ?_)
        refine at_end rfl ?_
        refine cond_split hE (b := (decide (y7371.2.1 < ((List.length (x1) : Nat) : Int)))) rfl (fun hb => ?_) (fun hb => ?_)
        · replace hf := cond_t hb hf
          clear hb
          refine wpIn_skip ?_
          refine wpIn_seq ?_
          refine wpIn_block ?_
          refine wpIn_seq ?_
          obtain ⟨j8686, hj8687, hf⟩ := jn_elim hf
          refine seq_join (fun a w => ∃ (y8589 : Bool × (List Int) × Int × T_log_at), ∃ (A8592 : Option Addr), ∃ (c8593 : Nat), ∃ (q8594 : Blk), ∃ (D8590 : Snap), Env a 125 [] [(0, .slice A2 (List.length (x1)) c3), (1, .int .u16 (x5)), (5, .pointer (some ⟨b4608, 0, none⟩)), (6, .pointer (some ⟨b4620, 0, none⟩)), (9, .slice A7374 (List.length (y7371.1)) c7375), (10, .int .i64 (y7371.2.1)), (52, .bool (y8589.1))] ∧ Stp g w0 D0 [] w D8590 [bx b4608 72 (c_T_disk_Disk ((T_disk_Disk.mk (y8589.2.1) (y8589.2.2.1) (r4604.2.2))) A8592 c8593), bx b4620 64 ([.pointer (some ⟨b4608, 0, none⟩)] ++ ((c_T_log_at (y8589.2.2.2)))), q7376, q8594] ∧ Snap.le D7372 D8590 ∧ OwnL (kdInt .u8) 5 D8590 A8592 c8593 (y8589.2.1) q8594 ∧ j8686 y8589 = some s8068) ?_ ?_
          · clear hj8687
            refine region_at ?_
            refine segN 2 (j := 2) [(38, .slice A2 (List.length (x1)) c3), (39, .int .i64 (y7371.2.1))] hE (by kernel_rfl) rfl (fun a hE => ?_)
            obtain ⟨x8688, h8689, hf⟩ := bind_some hf
            refine at_op (op_tk hE (g_index (K := (kdSlice (kdInt .u8))) (e := 33) (by_ := 24) (zl := 1) rfl rfl rfl rfl hE rfl rfl rfl (by kernel_rfl) rfl (h4.mono (Snap.le.trans (Snap.le.trans (Snap.le.trans le4603 le4615) le4632) le7373)) h8689 (fun a b8690 o8691 hE h8692 => ?_))) rfl
            obtain ⟨cs8693, C8694, T8695, fr8696, hr8697, hb8698, hc8699⟩ := h8692
            obtain ⟨A8700, c8701, rfl, h8702⟩ := hr8697
            refine at_op (op_tk hE (tk_loadX (off0 := o8691) (off := 0) (c := [.slice A8700 (List.length (x8688)) c8701]) (.slice A8700 (List.length (x8688)) c8701) rfl rfl rfl rfl hE rfl hS rfl hb8698 hc8699 (by kernel_rfl) (by kernel_rfl) (kD hS dn_nil) (fun a hE => ?_))) rfl
            refine segN 3 (j := 7) [(44, .bool ((decide ((300 : Int) < ((List.length (x8688) : Nat) : Int)))))] hE (by kernel_rfl) rfl (fun a hE => ?_)
            cases hb : (decide ((300 : Int) < ((List.length (x8688) : Nat) : Int)))
            · replace hf := cond_f hb hf
              have hE := hE.know (t := 44) (b := (decide ((300 : Int) < ((List.length (x8688) : Nat) : Int)))) (b' := false) rfl hb
              clear hb
              refine segN 3 (j := 10) [(45, .pointer (some ⟨b4620, 0, none⟩)), (46, .slice A2 (List.length (x1)) c3), (47, .int .i64 (y7371.2.1))] hE (by kernel_rfl) rfl (fun a hE => ?_)
              obtain ⟨x8703, h8704, hf⟩ := bind_some hf
              refine at_op (op_tk hE (g_index (K := (kdSlice (kdInt .u8))) (e := 33) (by_ := 24) (zl := 1) rfl rfl rfl rfl hE rfl rfl rfl (by kernel_rfl) rfl (h4.mono (Snap.le.trans (Snap.le.trans (Snap.le.trans le4603 le4615) le4632) le7373)) h8704 (fun a b8705 o8706 hE h8707 => ?_))) rfl
              obtain ⟨cs8708, C8709, T8710, fr8711, hr8712, hb8713, hc8714⟩ := h8707
              obtain ⟨A8715, c8716, rfl, h8717⟩ := hr8712
              refine at_op (op_tk hE (tk_loadX (off0 := o8706) (off := 0) (c := [.slice A8715 (List.length (x8703)) c8716]) (.slice A8715 (List.length (x8703)) c8716) rfl rfl rfl rfl hE rfl hS rfl hb8713 hc8714 (by kernel_rfl) (by kernel_rfl) (kD hS dn_nil) (fun a hE => ?_))) rfl
              have hS := hS.pk (.c 1 rfl (.c 0 rfl (.c 3 rfl (.c 2 rfl .n)))) rfl
              obtain ⟨r8718, h8719, hf⟩ := bind_some hf
              refine at_op (op_call rfl rfl rfl rfl hE rfl rfl rfl rfl (by kernel_rfl) (log_Log_Append.calls (g := g) h8719 (hS.st.fore (L := [bx b4620 64 ([.pointer (some ⟨b4608, 0, none⟩)] ++ ((c_T_log_at (y7371.2.2.2.2)))), bx b4608 72 (c_T_disk_Disk ((T_disk_Disk.mk (y7371.2.2.1) (y7371.2.2.2.1) (r4604.2.2))) A7379 c7380), q7381])) h8717 h7382 (hG0.mono (Snap.le.trans (Snap.le.trans (Snap.le.trans le4603 le4615) le4632) le7373)) (hG1.mono (Snap.le.trans (Snap.le.trans (Snap.le.trans le4603 le4615) le4632) le7373))) (fun a v w hR hE => ?_)) rfl
              obtain ⟨D8720, A8722, c8723, q8724, rfl, hS1, h8725⟩ := hR
              have le8727 := hS1.dle
              have hS := hS.callR hS1 rfl (.c (.c (.c .n)))
              clear hS1
              refine segN 2 (j := 15) [(52, .bool ((!decide (r8718.1 = (0 : Int)))))] hE (by kernel_rfl) rfl (fun a hE => ?_)
              refine at_end rfl ?_
              have hS := hS.pk (.c 1 rfl (.c 0 rfl (.c 3 rfl (.c 2 rfl .n)))) rfl
              exact ⟨((!decide (r8718.1 = (0 : Int))), r8718.2.2.1, r8718.2.2.2, r8718.2.1), A8722, c8723, q8724, D8720, hE.weak (by kernel_rfl), hS, le8727, h8725, hf⟩
            · replace hf := cond_t hb hf
              have hE := hE.know (t := 44) (b := (decide ((300 : Int) < ((List.length (x8688) : Nat) : Int)))) (b' := true) rfl hb
              clear hb
              refine segN 8 (j := 15) [(52, .bool true)] hE (by kernel_rfl) rfl (fun a hE => ?_)
              refine at_end rfl ?_
              exact ⟨(true, y7371.2.2.1, y7371.2.2.2.1, y7371.2.2.2.2), A7379, c7380, q7381, D7372, hE.weak (by kernel_rfl), hS, Snap.le.refl _, h7382, hf⟩
          · clear hE hS
            rintro a w ⟨y8589, A8592, c8593, q8594, D8590, hE, hS, le8591, h8595, hf⟩
            replace hf := hj8687 _ hf
            clear hj8687
            refine cond_split hE (b := y8589.1) rfl (fun hb => ?_) (fun hb => ?_)
            · replace hf := cond_t hb hf
              clear hb
              refine wpIn_seq ?_
              refine region_at ?_
              refine segN 2 (j := 2) [(53, .slice A2 (List.length (x1)) c3), (54, .int .i64 (y7371.2.1))] hE (by kernel_rfl) rfl (fun a hE => ?_)
              obtain ⟨x8627, h8628, hf⟩ := bind_some hf
              refine at_op (op_tk hE (g_index (K := (kdSlice (kdInt .u8))) (e := 33) (by_ := 24) (zl := 1) rfl rfl rfl rfl hE rfl rfl rfl (by kernel_rfl) rfl (h4.mono (Snap.le.trans (Snap.le.trans (Snap.le.trans (Snap.le.trans le4603 le4615) le4632) le7373) le8591)) h8628 (fun a b8629 o8630 hE h8631 => ?_))) rfl
              obtain ⟨cs8632, C8633, T8634, fr8635, hr8636, hb8637, hc8638⟩ := h8631
              obtain ⟨A8639, c8640, rfl, h8641⟩ := hr8636
              refine at_op (op_tk hE (tk_loadX (off0 := o8630) (off := 0) (c := [.slice A8639 (List.length (x8627)) c8640]) (.slice A8639 (List.length (x8627)) c8640) rfl rfl rfl rfl hE rfl hS rfl hb8637 hc8638 (by kernel_rfl) (by kernel_rfl) (kD hS dn_nil) (fun a hE => ?_))) rfl
              refine segN 3 (j := 7) [(59, .bool ((decide ((300 : Int) < ((List.length (x8627) : Nat) : Int)))))] hE (by kernel_rfl) rfl (fun a hE => ?_)
              cases hb : (decide ((300 : Int) < ((List.length (x8627) : Nat) : Int)))
              · replace hf := cond_f hb hf
                have hE := hE.know (t := 59) (b := (decide ((300 : Int) < ((List.length (x8627) : Nat) : Int)))) (b' := false) rfl hb
                clear hb
                refine segN 2 (j := 9) [(60, .slice A2 (List.length (x1)) c3), (61, .int .i64 (y7371.2.1))] hE (by kernel_rfl) rfl (fun a hE => ?_)
                obtain ⟨x8642, h8643, hf⟩ := bind_some hf
                refine at_op (op_tk hE (g_index (K := (kdSlice (kdInt .u8))) (e := 33) (by_ := 24) (zl := 1) rfl rfl rfl rfl hE rfl rfl rfl (by kernel_rfl) rfl (h4.mono (Snap.le.trans (Snap.le.trans (Snap.le.trans (Snap.le.trans le4603 le4615) le4632) le7373) le8591)) h8643 (fun a b8644 o8645 hE h8646 => ?_))) rfl
                obtain ⟨cs8647, C8648, T8649, fr8650, hr8651, hb8652, hc8653⟩ := h8646
                obtain ⟨A8654, c8655, rfl, h8656⟩ := hr8651
                refine at_op (op_tk hE (tk_loadX (off0 := o8645) (off := 0) (c := [.slice A8654 (List.length (x8642)) c8655]) (.slice A8654 (List.length (x8642)) c8655) rfl rfl rfl rfl hE rfl hS rfl hb8652 hc8653 (by kernel_rfl) (by kernel_rfl) (kD hS dn_nil) (fun a hE => ?_))) rfl
                refine segN 4 (j := 15) [(4, .bool ((decide (((List.length (x8642) : Nat) : Int) = (0 : Int)))))] hE (by kernel_rfl) rfl (fun a hE => ?_)
                refine at_end rfl ?_
                refine wpIn_ret ?_
                obtain rfl := Option.some.inj hf
                replace hf := hs8069
                obtain rfl := Option.some.inj hf
                repeat (with_reducible first | refine then_ret ?_ | refine block_ret ?_ | refine qx_ret ?_)
                refine ret_gen ([.bool ((decide (((List.length (x8642) : Nat) : Int) = (0 : Int))))]) hE (by rw [show Tryd.f7.results.toList = [.tmp 4] from rfl]; exact ⟨_, _, rfl, rfl, rfl⟩) ?_
                have hS := hS.pk .n rfl
                exact ⟨_, rfl, D8590, rfl, hS⟩
              · replace hf := cond_t hb hf
                have hE := hE.know (t := 59) (b := (decide ((300 : Int) < ((List.length (x8627) : Nat) : Int)))) (b' := true) rfl hb
                clear hb
                refine segN 8 (j := 15) [(4, .bool true)] hE (by kernel_rfl) rfl (fun a hE => ?_)
                refine at_end rfl ?_
                refine wpIn_ret ?_
                obtain rfl := Option.some.inj hf
                replace hf := hs8069
                obtain rfl := Option.some.inj hf
                repeat (with_reducible first | refine then_ret ?_ | refine block_ret ?_ | refine qx_ret ?_)
                refine ret_gen ([.bool true]) hE (by rw [show Tryd.f7.results.toList = [.tmp 4] from rfl]; exact ⟨_, _, rfl, rfl, rfl⟩) ?_
                have hS := hS.pk .n rfl
                exact ⟨_, rfl, D8590, rfl, hS⟩
            · replace hf := cond_f hb hf
              clear hb
              refine wpIn_skip ?_
              refine region_at ?_
              refine segN 2 (j := 2) [(67, .slice A7374 (List.length (y7371.1)) c7375), (68, .pointer (some ⟨b4608, 0, none⟩))] hE (by kernel_rfl) rfl (fun a hE => ?_)
              have hS := hS.pk (.c 0 rfl (.c 3 rfl (.c 1 rfl (.c 2 rfl .n)))) rfl
              obtain ⟨r8657, h8658, hf⟩ := bind_some hf
              refine at_op (op_call rfl rfl rfl rfl hE rfl rfl rfl rfl (by kernel_rfl) (disk_Disk_Bytes.calls (g := g) h8658 (hS.st.fore (L := [bx b4608 72 (c_T_disk_Disk ((T_disk_Disk.mk (y8589.2.1) (y8589.2.2.1) (r4604.2.2))) A8592 c8593), q8594])) h8595) (fun a v w hR hE => ?_)) rfl
              obtain ⟨D8659, A8661, c8662, q8663, q8666, rfl, hS1, h8664, h8667⟩ := hR
              have le8669 := hS1.dle
              have hS := hS.callR hS1 rfl (.c (.c (.c .n)))
              clear hS1
              refine segN 1 (j := 4) [(70, .int .i64 (((List.length (r8657) : Nat) : Int)))] hE (by kernel_rfl) rfl (fun a hE => ?_)
              refine at_op (op_buildSlice (K := (kdInt .i64)) (e := 3) (cs := [.int .i64 (((List.length (r8657) : Nat) : Int))] ++ []) ([((List.length (r8657) : Nat) : Int)] : List Int) rfl rfl rfl rfl hE rfl hS rfl (by kernel_rfl) rfl rfl (by exact (show RL (kdInt .i64) D8659 ([((List.length (r8657) : Nat) : Int)] : List Int) ([.int .i64 (((List.length (r8657) : Nat) : Int))] ++ []) from ⟨_, _, rfl, rfl, rfl⟩)) (fun a A8670 q8671 w _ hE h8672 hS => ?_)) rfl
              obtain ⟨D8674, q8677, le8675, hS, h8678, h8676⟩ := hS.lent h8672
              have hS := hS.pk (.c 5 rfl (.c 0 rfl (.c 1 rfl (.c 2 rfl (.c 3 rfl (.c 4 rfl .n)))))) rfl
              obtain ⟨l8679, h8680, hf⟩ := bind_some hf
              refine at_op (g_append (K := (kdInt .i64)) (e := 3) (bytes := 8) (l := y7371.1) (m := ([((List.length (r8657) : Nat) : Int)] : List Int)) rfl rfl rfl rfl hE rfl hS rfl rfl (by kernel_rfl) rfl rfl (h7377.mono (Snap.le.trans (Snap.le.trans le8591 le8669) le8675)) h8676 h8680 (fun a A8681 c8682 q8683 w _ hE h8684 hS => ?_)) rfl
              refine segN 1 (j := 7) [(9, .slice A8681 (List.length (l8679)) c8682)] hE (by kernel_rfl) rfl (fun a hE => ?_)
              refine at_end rfl ?_
              refine region_at ?_
              refine segN 3 (j := 3) [(10, .int .i64 ((IntKind.wrap .i64 (y7371.2.1 + (1 : Int)))))] hE (by kernel_rfl) rfl (fun a hE => ?_)
              refine at_end rfl ?_
              have hS := hS.pk (.c 2 rfl (.c 5 rfl (.c 0 rfl (.c 4 rfl .n)))) rfl
              exact ⟨(l8679, (IntKind.wrap .i64 (y7371.2.1 + (1 : Int))), y8589.2.1, y8589.2.2.1, y8589.2.2.2), A8681, c8682, q8683, A8592, c8593, q8666, D8674, hE.weak (by kernel_rfl), hS, (Snap.le.trans (Snap.le.trans (Snap.le.trans le7373 le8591) le8669) le8675), h8684, (h8667.mono le8675), hf⟩
        · replace hf := cond_f hb hf
          clear hb
          refine wpIn_exit ?_
          obtain rfl := Option.some.inj hf
          have hS := hS.pk (.c 0 rfl (.c 2 rfl (.c 3 rfl .n))) rfl
          exact ⟨(y7371.1, y7371.2.2.1, y7371.2.2.2.1), A7374, c7375, q7376, A7379, c7380, q7381, D7372, hE.weak (by kernel_rfl), hS, le7373, h7377, h7382, rfl⟩

end Go.Proofs.YthnfokfankaenaaDoor
