/-
  Proved, text by text: a call of a function of the cut comes to what its plain function computes.
  Conditions: those that each theorem names.
-/
import Derived.Test.YtlcnliiampfigaaDoorProg
import Derived.Test.YtlcnliiampfigaaDoorSepN
import Derived.Test.YtlcnliiampfigaaDoorRRecPutsW0
set_option linter.unusedVariables false
namespace Go.Proofs.YtlcnliiampfigaaDoor
open Go Go.Sep
set_option maxRecDepth 100000 in
set_option maxHeartbeats 4000000 in
theorem wire_take_int.calls {K : Nat} {g w0 : World} {D0 : Snap} {x3 : T_wire_Reader} {b1 : Nat} {A4 : Option Addr} {c5 : Nat} {r : (Int × T_wire_Reader)} (hf : wire_take_int.f K x3 = some r) (hS0 : St g w0 D0 [bx b1 66 (c_T_wire_Reader (x3) A4 c5)]) (h6 : Sl (kdInt .u8) D0 A4 c5 (x3.fB)) :
  CallsIn (Fw none) 0 Tryd.prog 69 (List.toArray [.pointer (some ⟨b1, 0, none⟩), .func (.func 70) #[] #[]]) w0 (fun e w' => ∃ v, e = .returned v ∧ ∃ (D1 : Snap) (A46 : Option Addr) (c47 : Nat), v = .int .i64 (r.1) ∧ Stp g w0 D0 [bx b1 66 (c_T_wire_Reader (x3) A4 c5)] w' D1 [bx b1 66 (c_T_wire_Reader ((T_wire_Reader.mk (r.2.fB) (r.2.fBad))) A46 c47)] ∧ Sl (kdInt .u8) D1 A46 c47 (r.2.fB)) := by
 unfold wire_take_int.f at hf
 have hS := Stp.refl hS0
 clear hS0
 refine calls_body (n := 39) Tryd.func69 rfl Tryd.ntmps69 rfl (fun a hE => ?_)
 have hE : Env a 39 [] [(0, .pointer (some ⟨b1, 0, none⟩)), (1, .func (.func 70) #[] #[])] := hE
 refine wpIn_seq ?_
 refine region_at ?_
 refine sN 1 1 [(4, .int .i64 ((0 : Int)))] hE (fun a hE => ?_)
 refine at_end rfl ?_
 refine wpIn_seq ?_
 refine region_at ?_
 refine sN 1 1 [(5, .int .i64 ((0 : Int)))] hE (fun a hE => ?_)
 refine at_end rfl ?_
 refine wpIn_seq ?_
 refine wpIn_seq ?_
 refine region_at ?_
 refine sN 1 1 [(9, .pointer (some ⟨b1, 0, none⟩))] hE (fun a hE => ?_)
 obtain ⟨r54, h55, hf⟩ := bind_some hf
 refine aC rfl rfl rfl rfl hE rfl rfl rfl rfl (wire_Reader_Bad.calls (g := g) h55 (hS.st.fore (L := [bx b1 66 (c_T_wire_Reader (x3) A4 c5)])) h6) (fun a v w hR hE => ?_)
 obtain ⟨D56, rfl, hS1⟩ := hR
 have le58 := hS1.dle
 have hS := hS.callR hS1 rfl (.c .n)
 clear hS1
 refine sN 1 3 [(11, .bool ((!decide (r54 = (0 : Int)))))] hE (fun a hE => ?_)
 refine at_end rfl ?_
 refine cond_split hE (b := (!decide (r54 = (0 : Int)))) rfl (fun hb => ?_) (fun hb => ?_)
 ·replace hf := cond_t hb hf
  clear hb
  refine wpIn_seq ?_
  refine region_at ?_
  refine sN 2 2 [(4, .int .i64 ((0 : Int)))] hE (fun a hE => ?_)
  refine at_end rfl ?_
  refine wpIn_ret ?_
  obtain rfl := Option.some.inj hf
  repeat (with_reducible first | refine then_ret ?_ | refine block_ret ?_ | refine qx_ret ?_)
  refine ret_gen ([.int .i64 ((0 : Int))]) hE (by rw [show Tryd.f69.results.toList = [.tmp 4] from rfl]; exact ⟨_, _, rfl, rfl, rfl⟩) ?_
  exact ⟨_, rfl, D56, A4, c5, rfl, hS, (h6.mono le58)⟩
 ·replace hf := cond_f hb hf
  clear hb
  refine wpIn_skip ?_
  refine wpIn_seq ?_
  refine region_at ?_
  refine sN 3 3 [(14, .func (.func 70) #[] #[]), (16, .pointer (some ⟨b1, 0, none⟩))] hE (fun a hE => ?_)
  refine aF 0 25 0 hE (fun a hE => ?_)
  refine aL 0 (.slice A4 (List.length (x3.fB)) c5) hE hS (fun a hE => ?_)
  obtain ⟨r59, h60, hf⟩ := bind_some hf
  refine aC rfl rfl rfl rfl hE rfl rfl rfl rfl (wire_number.calls (g := g) h60 (hS.st.fore (L := [])) (h6.mono le58)) (fun a v w hR hE => ?_)
  obtain ⟨D61, rfl, hS1⟩ := hR
  have le63 := hS1.dle
  have hS := hS.callR hS1 rfl .n
  clear hS1
  refine sN 7 13 [(6, .int .i64 (r59.1)), (7, .int .i64 (r59.2.1)), (8, .int .i64 (r59.2.2))] hE (fun a hE => ?_)
  refine at_end rfl ?_
  refine wpIn_seq ?_
  refine wpIn_seq ?_
  refine region_at ?_
  refine sN 2 2 [(24, .bool ((!decide (r59.2.2 = (0 : Int)))))] hE (fun a hE => ?_)
  refine at_end rfl ?_
  refine cond_split hE (b := (!decide (r59.2.2 = (0 : Int)))) rfl (fun hb => ?_) (fun hb => ?_)
  ·replace hf := cond_t hb hf
   clear hb
   refine wpIn_seq ?_
   refine region_at ?_
   refine sN 2 2 [(25, .pointer (some ⟨b1, 0, none⟩)), (26, .int .i64 (r59.2.2))] hE (fun a hE => ?_)
   obtain ⟨r72, h73, hf⟩ := bind_some hf
   refine aC rfl rfl rfl rfl hE rfl rfl rfl rfl (wire_Reader_Fail.calls (g := g) h73 (hS.st.fore (L := [bx b1 66 (c_T_wire_Reader (x3) A4 c5)])) (h6.mono (le2 le58 le63))) (fun a v w hR hE => ?_)
   obtain ⟨D74, A76, c77, rfl, hS1, h78⟩ := hR
   have le79 := hS1.dle
   have hS := hS.callR hS1 rfl (.c .n)
   clear hS1
   refine at_end rfl ?_
   refine wpIn_seq ?_
   refine region_at ?_
   refine sN 2 2 [(4, .int .i64 ((0 : Int)))] hE (fun a hE => ?_)
   refine at_end rfl ?_
   refine wpIn_ret ?_
   obtain rfl := Option.some.inj hf
   repeat (with_reducible first | refine then_ret ?_ | refine block_ret ?_ | refine qx_ret ?_)
   refine ret_gen ([.int .i64 ((0 : Int))]) hE (by rw [show Tryd.f69.results.toList = [.tmp 4] from rfl]; exact ⟨_, _, rfl, rfl, rfl⟩) ?_
   exact ⟨_, rfl, D74, A76, c77, rfl, hS, h78⟩
  ·replace hf := cond_f hb hf
   clear hb
   refine wpIn_skip ?_
   refine wpIn_seq ?_
   refine region_at ?_
   refine sN 3 3 [(29, .pointer (some ⟨b1, 0, none⟩)), (31, .pointer (some ⟨b1, 0, none⟩))] hE (fun a hE => ?_)
   refine aF 0 25 0 hE (fun a hE => ?_)
   refine aL 0 (.slice A4 (List.length (x3.fB)) c5) hE hS (fun a hE => ?_)
   refine sN 1 6 [(34, .int .i64 (r59.2.1))] hE (fun a hE => ?_)
   obtain ⟨l80, h81, hf⟩ := bind_some hf
   refine at_op (op_tk hE (g_slice (K := (kdInt .u8)) (e := 5) (by_ := 1) (zl := 1) rfl rfl rfl rfl hE rfl rfl (by kernel_rfl) ⟨_, rfl⟩ rfl (h6.mono (le2 le58 le63)) h81 (fun a A82 c83 hE h84 => ?_))) rfl
   refine sN 1 8 [(36, .pointer (some ⟨b1, 0, none⟩))] hE (fun a hE => ?_)
   refine aF 0 25 0 hE (fun a hE => ?_)
   obtain ⟨v85, hv86, hf⟩ := bind_some hf
   replace hv86 := Option.some.inj hv86
   refine at_op (op_store (v := .slice A82 (List.length (l80)) c83) (c_T_wire_Reader (v85) A82 c83) rfl rfl rfl rfl hE hS rfl rfl (by kernel_rfl) (by kernel_rfl) (by kernel_rfl) (by kernel_rfl) (by rw [← hv86]; kernel_rfl) (fun a w _ hE hS => ?_)) rfl
   have h87 : Sl (kdInt .u8) D61 A82 c83 (v85.fB) := by rw [← hv86]; exact h84
   refine at_end rfl ?_
   refine wpIn_seq ?_
   refine region_at ?_
   refine sN 2 2 [(4, .int .i64 (r59.1))] hE (fun a hE => ?_)
   refine at_end rfl ?_
   refine wpIn_ret ?_
   obtain rfl := Option.some.inj hf
   repeat (with_reducible first | refine then_ret ?_ | refine block_ret ?_ | refine qx_ret ?_)
   refine ret_gen ([.int .i64 (r59.1)]) hE (by rw [show Tryd.f69.results.toList = [.tmp 4] from rfl]; exact ⟨_, _, rfl, rfl, rfl⟩) ?_
   exact ⟨_, rfl, D61, A82, c83, rfl, hS, h87⟩
set_option maxRecDepth 100000 in
set_option maxHeartbeats 4000000 in
theorem wire_Reader_Num.calls {K : Nat} {g w0 : World} {D0 : Snap} {x3 : T_wire_Reader} {b1 : Nat} {A4 : Option Addr} {c5 : Nat} {r : (Int × T_wire_Reader)} (hf : wire_Reader_Num.f K x3 = some r) (hS0 : St g w0 D0 [bx b1 66 (c_T_wire_Reader (x3) A4 c5)]) (h6 : Sl (kdInt .u8) D0 A4 c5 (x3.fB)) :
  CallsIn (Fw none) 0 Tryd.prog 50 (List.toArray [.pointer (some ⟨b1, 0, none⟩)]) w0 (fun e w' => ∃ v, e = .returned v ∧ ∃ (D1 : Snap) (A15 : Option Addr) (c16 : Nat), v = .int .i64 (r.1) ∧ Stp g w0 D0 [bx b1 66 (c_T_wire_Reader (x3) A4 c5)] w' D1 [bx b1 66 (c_T_wire_Reader ((T_wire_Reader.mk (r.2.fB) (r.2.fBad))) A15 c16)] ∧ Sl (kdInt .u8) D1 A15 c16 (r.2.fB)) := by
 unfold wire_Reader_Num.f at hf
 have hS := Stp.refl hS0
 clear hS0
 refine calls_body (n := 5) Tryd.func50 rfl Tryd.ntmps50 rfl (fun a hE => ?_)
 have hE : Env a 5 [] [(0, .pointer (some ⟨b1, 0, none⟩))] := hE
 refine wpIn_seq ?_
 refine region_at ?_
 refine sN 1 1 [(2, .int .i64 ((0 : Int)))] hE (fun a hE => ?_)
 refine at_end rfl ?_
 refine wpIn_seq ?_
 refine region_at ?_
 refine sN 1 1 [(3, .pointer (some ⟨b1, 0, none⟩))] hE (fun a hE => ?_)
 obtain ⟨r18, h19, hf⟩ := bind_some hf
 refine aC rfl rfl rfl rfl hE rfl rfl rfl rfl (wire_take_int.calls (g := g) h19 (hS.st.fore (L := [bx b1 66 (c_T_wire_Reader (x3) A4 c5)])) h6) (fun a v w hR hE => ?_)
 obtain ⟨D20, A22, c23, rfl, hS1, h24⟩ := hR
 have le25 := hS1.dle
 have hS := hS.callR hS1 rfl (.c .n)
 clear hS1
 refine sN 1 3 [(2, .int .i64 (r18.1))] hE (fun a hE => ?_)
 refine at_end rfl ?_
 refine wpIn_ret ?_
 obtain rfl := Option.some.inj hf
 repeat (with_reducible first | refine then_ret ?_ | refine block_ret ?_ | refine qx_ret ?_)
 refine ret_gen ([.int .i64 (r18.1)]) hE (by rw [show Tryd.f50.results.toList = [.tmp 2] from rfl]; exact ⟨_, _, rfl, rfl, rfl⟩) ?_
 exact ⟨_, rfl, D20, A22, c23, rfl, hS, h24⟩
set_option maxRecDepth 100000 in
set_option maxHeartbeats 4000000 in
theorem rec_steps.calls {K : Nat} {g w0 : World} {D0 : Snap} {x3 : T_wire_Reader} {b1 : Nat} {A4 : Option Addr} {c5 : Nat} {r : ((List T_api_Step) × T_wire_Reader)} (hf : rec_steps.f K x3 = some r) (hS0 : St g w0 D0 [bx b1 66 (c_T_wire_Reader (x3) A4 c5)]) (h6 : Sl (kdInt .u8) D0 A4 c5 (x3.fB)) :
  CallsIn (Fw none) 0 Tryd.prog 51 (List.toArray [.pointer (some ⟨b1, 0, none⟩)]) w0 (fun e w' => ∃ v, e = .returned v ∧ ∃ (D1 : Snap) (A665 : Option Addr) (c666 : Nat) (q667 : Blk) (A670 : Option Addr) (c671 : Nat), v = .slice A665 (List.length (r.1)) c666 ∧ Stp g w0 D0 [bx b1 66 (c_T_wire_Reader (x3) A4 c5)] w' D1 [bx b1 66 (c_T_wire_Reader ((T_wire_Reader.mk (r.2.fB) (r.2.fBad))) A670 c671), q667] ∧ OwnD kd_T_api_Step 37 D1 A665 c666 (r.1) q667 ∧ Sl (kdInt .u8) D1 A670 c671 (r.2.fB)) := by
 unfold rec_steps.f at hf
 have hS := Stp.refl hS0
 clear hS0
 refine calls_body (n := 27) Tryd.func51 rfl Tryd.ntmps51 rfl (fun a hE => ?_)
 have hE : Env a 27 [] [(0, .pointer (some ⟨b1, 0, none⟩))] := hE
 refine wpIn_seq ?_
 refine region_at ?_
 refine sN 1 1 [(2, .slice none 0 0)] hE (fun a hE => ?_)
 refine at_end rfl ?_
 refine wpIn_seq ?_
 refine region_at ?_
 refine sN 1 1 [(5, .pointer (some ⟨b1, 0, none⟩))] hE (fun a hE => ?_)
 obtain ⟨r673, h674, hf⟩ := bind_some hf
 refine aC rfl rfl rfl rfl hE rfl rfl rfl rfl (wire_Reader_Num.calls (g := g) h674 (hS.st.fore (L := [bx b1 66 (c_T_wire_Reader (x3) A4 c5)])) h6) (fun a v w hR hE => ?_)
 obtain ⟨D675, A677, c678, rfl, hS1, h679⟩ := hR
 have le680 := hS1.dle
 have hS := hS.callR hS1 rfl (.c .n)
 clear hS1
 refine sN 1 3 [(3, .int .i64 (r673.1))] hE (fun a hE => ?_)
 refine at_end rfl ?_
 obtain ⟨j1321, hj1322, hf⟩ := jn_elim hf
 refine seq_join (fun a w => ∃ (y689 : T_wire_Reader), ∃ (A692 : Option Addr), ∃ (c693 : Nat), ∃ (D690 : Snap), Env a 27 [] [(0, .pointer (some ⟨b1, 0, none⟩)), (3, .int .i64 (r673.1))] ∧ Stp g w0 D0 [bx b1 66 (c_T_wire_Reader (x3) A4 c5)] w D690 [bx b1 66 (c_T_wire_Reader (y689) A692 c693)] ∧ Snap.le D675 D690 ∧ Sl (kdInt .u8) D690 A692 c693 (y689.fB) ∧ j1321 y689 = some r) ?_ ?_
 ·clear hj1322
  refine wpIn_seq ?_
  refine region_at ?_
  refine sN 2 2 [(8, .bool ((decide ((6 : Int) < r673.1))))] hE (fun a hE => ?_)
  refine at_end rfl ?_
  refine cond_split hE (b := (decide ((6 : Int) < r673.1))) rfl (fun hb => ?_) (fun hb => ?_)
  ·replace hf := cond_t hb hf
   clear hb
   refine region_at ?_
   refine sN 1 1 [(9, .pointer (some ⟨b1, 0, none⟩))] hE (fun a hE => ?_)
   obtain ⟨r1323, h1324, hf⟩ := bind_some hf
   refine aC rfl rfl rfl rfl hE rfl rfl rfl rfl (wire_Reader_Fail.calls (g := g) h1324 (hS.st.fore (L := [bx b1 66 (c_T_wire_Reader (r673.2) A677 c678)])) h679) (fun a v w hR hE => ?_)
   obtain ⟨D1325, A1327, c1328, rfl, hS1, h1329⟩ := hR
   have le1330 := hS1.dle
   have hS := hS.callR hS1 rfl (.c .n)
   clear hS1
   refine at_end rfl ?_
   exact ⟨r1323, A1327, c1328, D1325, hE.weak (by kernel_rfl), hS, le1330, h1329, hf⟩
  ·replace hf := cond_f hb hf
   clear hb
   refine wpIn_skip ?_
   exact ⟨r673.2, A677, c678, D675, hE.weak (by kernel_rfl), hS, Snap.le.refl _, h679, hf⟩
 ·clear hE hS
  rintro a w ⟨y689, A692, c693, D690, hE, hS, le691, h694, hf⟩
  replace hf := hj1322 _ hf
  clear hj1322
  refine wpIn_seq ?_
  refine region_at ?_
  refine sN 1 1 [(4, .slice none 0 0)] hE (fun a hE => ?_)
  refine at_end rfl ?_
  refine wpIn_seq ?_
  refine wpIn_seq ?_
  refine region_at ?_
  refine sN 2 2 [(11, .int .i64 (r673.1)), (12, .int .i64 ((0 : Int)))] hE (fun a hE => ?_)
  refine at_end rfl ?_
  obtain ⟨s1234, hf, hs1235⟩ := bind_some hf
  have hS := hS.nils
  have hS := hS.pk (.c 1 rfl (.c 0 rfl .n)) rfl
  refine block_loop (fun a w => ∃ (z1223 : (List T_api_Step) × T_wire_Reader), ∃ (A1226 : Option Addr), ∃ (c1227 : Nat), ∃ (q1228 : Blk), ∃ (A1231 : Option Addr), ∃ (c1232 : Nat), ∃ (D1224 : Snap), Env a 27 [] [(4, .slice A1226 (List.length (z1223.1)) c1227)] ∧ Stp g w0 D0 [bx b1 66 (c_T_wire_Reader (x3) A4 c5)] w D1224 [bx b1 66 (c_T_wire_Reader (z1223.2) A1231 c1232), q1228] ∧ Snap.le D690 D1224 ∧ OwnD kd_T_api_Step 37 D1224 A1226 c1227 (z1223.1) q1228 ∧ Sl (kdInt .u8) D1224 A1231 c1232 (z1223.2.fB) ∧ z1223 = s1234) (fun k a w => ∃ (y1117 : (List T_api_Step) × Int × T_wire_Reader), ∃ (A1120 : Option Addr), ∃ (c1121 : Nat), ∃ (q1122 : Blk), ∃ (A1125 : Option Addr), ∃ (c1126 : Nat), ∃ (D1118 : Snap), Env a 27 [] [(0, .pointer (some ⟨b1, 0, none⟩)), (4, .slice A1120 (List.length (y1117.1)) c1121), (11, .int .i64 (r673.1)), (12, .int .i64 (y1117.2.1))] ∧ Stp g w0 D0 [bx b1 66 (c_T_wire_Reader (x3) A4 c5)] w D1118 [bx b1 66 (c_T_wire_Reader (y1117.2.2) A1125 c1126), q1122] ∧ Snap.le D690 D1118 ∧ OwnD kd_T_api_Step 37 D1118 A1120 c1121 (y1117.1) q1122 ∧ Sl (kdInt .u8) D1118 A1125 c1126 (y1117.2.2.fB) ∧ rec_steps_l1.l K r673 k y1117 = some s1234) K ?_ ?_ ?_
  ·exact ⟨(([] : List T_api_Step), (0 : Int), y689), none, 0, none, A692, c693, D690, hE.weak (by kernel_rfl), hS, Snap.le.refl _, (OwnD.nil kd_T_api_Step 37 D690), h694, hf⟩
  ·clear hE hS hf
   rintro a w ⟨z1223, A1226, c1227, q1228, A1231, c1232, D1224, hE, hS, le1225, h1229, h1233, rfl⟩
   have hf := hs1235
   clear hs1235
   refine wpIn_seq ?_
   refine region_at ?_
   refine sN 2 2 [(2, .slice A1226 (List.length (z1223.1)) c1227)] hE (fun a hE => ?_)
   refine at_end rfl ?_
   refine wpIn_ret ?_
   obtain rfl := Option.some.inj hf
   repeat (with_reducible first | refine then_ret ?_ | refine block_ret ?_ | refine qx_ret ?_)
   refine ret_gen ([.slice A1226 (List.length (z1223.1)) c1227]) hE (by rw [show Tryd.f51.results.toList = [.tmp 2] from rfl]; exact ⟨_, _, rfl, rfl, rfl⟩) ?_
   exact ⟨_, rfl, D1224, A1226, c1227, q1228, A1231, c1232, rfl, hS, h1229, h1233⟩
  ·clear hE hS hf
   rintro k a w ⟨y1117, A1120, c1121, q1122, A1125, c1126, D1118, hE, hS, le1119, h1123, h1127, hf⟩
   obtain ⟨k, rfl, hf⟩ := rec_steps_l1.some _ hf
   refine ⟨k, rfl, ?_⟩
   unfold rec_steps_l1.b at hf
   refine wpIn_seq ?_
   refine region_at ?_
   refine sN 1 1 [(13, .bool ((decide (y1117.2.1 < r673.1))))] hE (fun a hE => ?_)
   refine at_end rfl ?_
   refine wpIn_seq ?_
   refine cond_split hE (b := (decide (y1117.2.1 < r673.1))) rfl (fun hb => ?_) (fun hb => ?_)
   ·replace hf := cond_t hb hf
    clear hb
    refine wpIn_skip ?_
    refine wpIn_seq ?_
    refine wpIn_block ?_
    refine wpIn_seq ?_
    refine wpIn_seq ?_
    refine region_at ?_
    refine sN 1 1 [(14, .pointer (some ⟨b1, 0, none⟩))] hE (fun a hE => ?_)
    obtain ⟨r1283, h1284, hf⟩ := bind_some hf
    refine aC rfl rfl rfl rfl hE rfl rfl rfl rfl (wire_Reader_Bad.calls (g := g) h1284 (hS.st.fore (L := [bx b1 66 (c_T_wire_Reader (y1117.2.2) A1125 c1126)])) h1127) (fun a v w hR hE => ?_)
    obtain ⟨D1285, rfl, hS1⟩ := hR
    have le1287 := hS1.dle
    have hS := hS.callR hS1 rfl (.c .n)
    clear hS1
    refine sN 1 3 [(16, .bool ((!decide (r1283 = (0 : Int)))))] hE (fun a hE => ?_)
    refine at_end rfl ?_
    refine cond_split hE (b := (!decide (r1283 = (0 : Int)))) rfl (fun hb => ?_) (fun hb => ?_)
    ·replace hf := cond_t hb hf
     clear hb
     refine wpIn_exit ?_
     obtain rfl := Option.some.inj hf
     exact ⟨(y1117.1, y1117.2.2), A1120, c1121, q1122, A1125, c1126, D1285, hE.weak (by kernel_rfl), hS, (le2 le1119 le1287), (h1123.mono le1287), (h1127.mono le1287), rfl⟩
    ·replace hf := cond_f hb hf
     clear hb
     refine wpIn_skip ?_
     refine region_at ?_
     refine sN 2 2 [(17, .slice A1120 (List.length (y1117.1)) c1121), (18, .pointer (some ⟨b1, 0, none⟩))] hE (fun a hE => ?_)
     obtain ⟨r1288, h1289, hf⟩ := bind_some hf
     refine aC rfl rfl rfl rfl hE rfl rfl rfl rfl (wire_Reader_Num.calls (g := g) h1289 (hS.st.fore (L := [bx b1 66 (c_T_wire_Reader (y1117.2.2) A1125 c1126)])) (h1127.mono le1287)) (fun a v w hR hE => ?_)
     obtain ⟨D1290, A1292, c1293, rfl, hS1, h1294⟩ := hR
     have le1295 := hS1.dle
     have hS := hS.callR hS1 rfl (.c .n)
     clear hS1
     refine sN 1 4 [(20, .pointer (some ⟨b1, 0, none⟩))] hE (fun a hE => ?_)
     obtain ⟨r1296, h1297, hf⟩ := bind_some hf
     refine aC rfl rfl rfl rfl hE rfl rfl rfl rfl (wire_Reader_Num.calls (g := g) h1297 (hS.st.fore (L := [bx b1 66 (c_T_wire_Reader (r1288.2) A1292 c1293)])) h1294) (fun a v w hR hE => ?_)
     obtain ⟨D1298, A1300, c1301, rfl, hS1, h1302⟩ := hR
     have le1303 := hS1.dle
     have hS := hS.callR hS1 rfl (.c .n)
     clear hS1
     refine at_op (op_tk hE (tk_build (c_T_api_Step ((T_api_Step.mk (r1288.1) (r1296.1)))) rfl rfl rfl rfl hE rfl rfl (by kernel_rfl) (fun a hE => ?_))) rfl
     refine at_op (op_buildSlice (K := kd_T_api_Step) (e := 37) (cs := (c_T_api_Step ((T_api_Step.mk (r1288.1) (r1296.1)))) ++ []) ([(T_api_Step.mk (r1288.1) (r1296.1))] : List T_api_Step) rfl rfl rfl rfl hE rfl hS rfl (by kernel_rfl) rfl rfl (by exact (show RL kd_T_api_Step D1298 ([(T_api_Step.mk (r1288.1) (r1296.1))] : List T_api_Step) ((c_T_api_Step ((T_api_Step.mk (r1288.1) (r1296.1)))) ++ []) from ⟨_, _, rfl, (kd_T_api_Step_mk (D := D1298) (x := (T_api_Step.mk (r1288.1) (r1296.1))) rfl rfl), rfl⟩)) (fun a A1304 q1305 w _ hE h1306 hS => ?_)) rfl
     obtain ⟨D1308, q1311, le1309, hS, h1312, h1310⟩ := hS.lent h1306
     have hS := hS.pk (.c 2 rfl (.c 0 rfl (.c 1 rfl .n))) rfl
     obtain ⟨l1313, h1314, hf⟩ := bind_some hf
     refine at_op (g_append (K := kd_T_api_Step) (e := 37) (bytes := 16) (l := y1117.1) (m := ([(T_api_Step.mk (r1288.1) (r1296.1))] : List T_api_Step)) rfl rfl rfl rfl hE rfl hS rfl rfl (by kernel_rfl) rfl rfl (h1123.mono (le2 (le2 (le2 le1287 le1295) le1303) le1309)) h1310 h1314 (fun a A1315 c1316 q1317 w _ hE h1318 hS => ?_)) rfl
     refine sN 1 9 [(4, .slice A1315 (List.length (l1313)) c1316)] hE (fun a hE => ?_)
     refine at_end rfl ?_
     refine region_at ?_
     refine sN 2 2 [(12, .int .i64 ((IntKind.wrap .i64 (y1117.2.1 + (1 : Int)))))] hE (fun a hE => ?_)
     refine at_end rfl ?_
     have hS := hS.pk (.c 2 rfl (.c 0 rfl .n)) rfl
     exact ⟨(l1313, (IntKind.wrap .i64 (y1117.2.1 + (1 : Int))), r1296.2), A1315, c1316, q1317, A1300, c1301, D1308, hE.weak (by kernel_rfl), hS, (le2 (le2 (le2 (le2 le1119 le1287) le1295) le1303) le1309), h1318, (h1302.mono le1309), hf⟩
   ·replace hf := cond_f hb hf
    clear hb
    refine wpIn_exit ?_
    obtain rfl := Option.some.inj hf
    exact ⟨(y1117.1, y1117.2.2), A1120, c1121, q1122, A1125, c1126, D1118, hE.weak (by kernel_rfl), hS, le1119, h1123, h1127, rfl⟩
set_option maxRecDepth 100000 in
set_option maxHeartbeats 4000000 in
theorem wire_Reader_Flag_1.calls {K : Nat} {g w0 : World} {D0 : Snap} {x1 : (List Int)} {A2 : Option Addr} {c3 : Nat} {r : (Bool × Int × Int)} (hf : wire_Reader_Flag_1.f K x1 = some r) (hS0 : St g w0 D0 []) (h4 : Sl (kdInt .u8) D0 A2 c3 (x1)) :
  CallsIn (Fw none) 0 Tryd.prog 72 (List.toArray [.slice A2 (List.length (x1)) c3]) w0 (fun e w' => ∃ v, e = .returned v ∧ ∃ (D1 : Snap), v = .tuple #[.bool (r.1), .int .i64 (r.2.1), .int .i64 (r.2.2)] ∧ Stp g w0 D0 [] w' D1 []) := by
 unfold wire_Reader_Flag_1.f at hf
 have hS := Stp.refl hS0
 clear hS0
 refine calls_body (n := 18) Tryd.func72 rfl Tryd.ntmps72 rfl (fun a hE => ?_)
 have hE : Env a 18 [] [(0, .slice A2 (List.length (x1)) c3)] := hE
 refine wpIn_seq ?_
 refine region_at ?_
 refine sN 3 3 [(2, .bool false), (3, .int .i64 ((0 : Int))), (4, .int .i64 ((0 : Int)))] hE (fun a hE => ?_)
 refine at_end rfl ?_
 refine wpIn_seq ?_
 refine wpIn_block ?_
 refine wpIn_seq ?_
 refine region_at ?_
 refine sN 4 4 [(5, .bool ((decide (((List.length (x1) : Nat) : Int) = (0 : Int)))))] hE (fun a hE => ?_)
 refine at_end rfl ?_
 refine cond_split hE (b := (decide (((List.length (x1) : Nat) : Int) = (0 : Int)))) rfl (fun hb => ?_) (fun hb => ?_)
 ·replace hf := cond_t hb hf
  clear hb
  refine wpIn_seq ?_
  refine region_at ?_
  refine sN 3 3 [(2, .bool false), (3, .int .i64 ((0 : Int))), (4, .int .i64 ((3 : Int)))] hE (fun a hE => ?_)
  refine at_end rfl ?_
  refine wpIn_ret ?_
  obtain rfl := Option.some.inj hf
  repeat (with_reducible first | refine then_ret ?_ | refine block_ret ?_ | refine qx_ret ?_)
  refine ret_gen ([.bool false, .int .i64 ((0 : Int)), .int .i64 ((3 : Int))]) hE (by rw [show Tryd.f72.results.toList = [.tmp 2, .tmp 3, .tmp 4] from rfl]; exact ⟨_, _, rfl, rfl, ⟨_, _, rfl, rfl, ⟨_, _, rfl, rfl, rfl⟩⟩⟩) ?_
  exact ⟨_, rfl, D0, rfl, hS⟩
 ·replace hf := cond_f hb hf
  clear hb
  refine wpIn_seq ?_
  refine region_at ?_
  refine sN 1 1 [(10, .slice A2 (List.length (x1)) c3)] hE (fun a hE => ?_)
  obtain ⟨x53, h54, hf⟩ := bind_some hf
  refine at_op (op_tk hE (g_index (K := (kdInt .u8)) (e := 5) (by_ := 1) (zl := 1) rfl rfl rfl rfl hE rfl rfl rfl (by kernel_rfl) rfl h4 h54 (fun a b55 o56 hE h57 => ?_))) rfl
  obtain ⟨cs58, C59, T60, fr61, hr62, hb63, hc64⟩ := h57
  obtain rfl := hr62
  refine at_op (op_tk hE (tk_loadX (off0 := o56) (off := 0) (c := [.int .u8 (x53)]) (.int .u8 (x53)) rfl rfl rfl rfl hE rfl hS rfl hb63 hc64 (by kernel_rfl) (by kernel_rfl) (kD hS dn_nil) (fun a hE => ?_))) rfl
  refine sN 2 5 [(9, .bool ((decide ((1 : Int) < x53))))] hE (fun a hE => ?_)
  refine at_end rfl ?_
  refine cond_split hE (b := (decide ((1 : Int) < x53))) rfl (fun hb => ?_) (fun hb => ?_)
  ·replace hf := cond_t hb hf
   clear hb
   refine wpIn_seq ?_
   refine region_at ?_
   refine sN 3 3 [(2, .bool false), (3, .int .i64 ((0 : Int))), (4, .int .i64 ((2 : Int)))] hE (fun a hE => ?_)
   refine at_end rfl ?_
   refine wpIn_ret ?_
   obtain rfl := Option.some.inj hf
   repeat (with_reducible first | refine then_ret ?_ | refine block_ret ?_ | refine qx_ret ?_)
   refine ret_gen ([.bool false, .int .i64 ((0 : Int)), .int .i64 ((2 : Int))]) hE (by rw [show Tryd.f72.results.toList = [.tmp 2, .tmp 3, .tmp 4] from rfl]; exact ⟨_, _, rfl, rfl, ⟨_, _, rfl, rfl, ⟨_, _, rfl, rfl, rfl⟩⟩⟩) ?_
   exact ⟨_, rfl, D0, rfl, hS⟩
  ·replace hf := cond_f hb hf
   clear hb
   refine wpIn_skip ?_
   refine wpIn_seq ?_
   refine region_at ?_
   refine sN 1 1 [(14, .slice A2 (List.length (x1)) c3)] hE (fun a hE => ?_)
   obtain ⟨x65, h66, hf⟩ := bind_some hf
   refine at_op (op_tk hE (g_index (K := (kdInt .u8)) (e := 5) (by_ := 1) (zl := 1) rfl rfl rfl rfl hE rfl rfl rfl (by kernel_rfl) rfl h4 h66 (fun a b67 o68 hE h69 => ?_))) rfl
   obtain ⟨cs70, C71, T72, fr73, hr74, hb75, hc76⟩ := h69
   obtain rfl := hr74
   refine at_op (op_tk hE (tk_loadX (off0 := o68) (off := 0) (c := [.int .u8 (x65)]) (.int .u8 (x65)) rfl rfl rfl rfl hE rfl hS rfl hb75 hc76 (by kernel_rfl) (by kernel_rfl) (kD hS dn_nil) (fun a hE => ?_))) rfl
   refine sN 4 7 [(2, .bool ((decide (x65 = (1 : Int))))), (3, .int .i64 ((1 : Int))), (4, .int .i64 ((0 : Int)))] hE (fun a hE => ?_)
   refine at_end rfl ?_
   refine wpIn_ret ?_
   obtain rfl := Option.some.inj hf
   repeat (with_reducible first | refine then_ret ?_ | refine block_ret ?_ | refine qx_ret ?_)
   refine ret_gen ([.bool ((decide (x65 = (1 : Int)))), .int .i64 ((1 : Int)), .int .i64 ((0 : Int))]) hE (by rw [show Tryd.f72.results.toList = [.tmp 2, .tmp 3, .tmp 4] from rfl]; exact ⟨_, _, rfl, rfl, ⟨_, _, rfl, rfl, ⟨_, _, rfl, rfl, rfl⟩⟩⟩) ?_
   exact ⟨_, rfl, D0, rfl, hS⟩
set_option maxRecDepth 100000 in
set_option maxHeartbeats 4000000 in
theorem wire_take_bool.calls {K : Nat} {g w0 : World} {D0 : Snap} {x3 : T_wire_Reader} {b1 : Nat} {A4 : Option Addr} {c5 : Nat} {r : (Bool × T_wire_Reader)} (hf : wire_take_bool.f K x3 = some r) (hS0 : St g w0 D0 [bx b1 66 (c_T_wire_Reader (x3) A4 c5)]) (h6 : Sl (kdInt .u8) D0 A4 c5 (x3.fB)) :
  CallsIn (Fw none) 0 Tryd.prog 71 (List.toArray [.pointer (some ⟨b1, 0, none⟩), .func (.func 72) #[] #[]]) w0 (fun e w' => ∃ v, e = .returned v ∧ ∃ (D1 : Snap) (A46 : Option Addr) (c47 : Nat), v = .bool (r.1) ∧ Stp g w0 D0 [bx b1 66 (c_T_wire_Reader (x3) A4 c5)] w' D1 [bx b1 66 (c_T_wire_Reader ((T_wire_Reader.mk (r.2.fB) (r.2.fBad))) A46 c47)] ∧ Sl (kdInt .u8) D1 A46 c47 (r.2.fB)) := by
 unfold wire_take_bool.f at hf
 have hS := Stp.refl hS0
 clear hS0
 refine calls_body (n := 39) Tryd.func71 rfl Tryd.ntmps71 rfl (fun a hE => ?_)
 have hE : Env a 39 [] [(0, .pointer (some ⟨b1, 0, none⟩)), (1, .func (.func 72) #[] #[])] := hE
 refine wpIn_seq ?_
 refine region_at ?_
 refine sN 1 1 [(4, .bool false)] hE (fun a hE => ?_)
 refine at_end rfl ?_
 refine wpIn_seq ?_
 refine region_at ?_
 refine sN 1 1 [(5, .bool false)] hE (fun a hE => ?_)
 refine at_end rfl ?_
 refine wpIn_seq ?_
 refine wpIn_seq ?_
 refine region_at ?_
 refine sN 1 1 [(9, .pointer (some ⟨b1, 0, none⟩))] hE (fun a hE => ?_)
 obtain ⟨r54, h55, hf⟩ := bind_some hf
 refine aC rfl rfl rfl rfl hE rfl rfl rfl rfl (wire_Reader_Bad.calls (g := g) h55 (hS.st.fore (L := [bx b1 66 (c_T_wire_Reader (x3) A4 c5)])) h6) (fun a v w hR hE => ?_)
 obtain ⟨D56, rfl, hS1⟩ := hR
 have le58 := hS1.dle
 have hS := hS.callR hS1 rfl (.c .n)
 clear hS1
 refine sN 1 3 [(11, .bool ((!decide (r54 = (0 : Int)))))] hE (fun a hE => ?_)
 refine at_end rfl ?_
 refine cond_split hE (b := (!decide (r54 = (0 : Int)))) rfl (fun hb => ?_) (fun hb => ?_)
 ·replace hf := cond_t hb hf
  clear hb
  refine wpIn_seq ?_
  refine region_at ?_
  refine sN 2 2 [(4, .bool false)] hE (fun a hE => ?_)
  refine at_end rfl ?_
  refine wpIn_ret ?_
  obtain rfl := Option.some.inj hf
  repeat (with_reducible first | refine then_ret ?_ | refine block_ret ?_ | refine qx_ret ?_)
  refine ret_gen ([.bool false]) hE (by rw [show Tryd.f71.results.toList = [.tmp 4] from rfl]; exact ⟨_, _, rfl, rfl, rfl⟩) ?_
  exact ⟨_, rfl, D56, A4, c5, rfl, hS, (h6.mono le58)⟩
 ·replace hf := cond_f hb hf
  clear hb
  refine wpIn_skip ?_
  refine wpIn_seq ?_
  refine region_at ?_
  refine sN 3 3 [(14, .func (.func 72) #[] #[]), (16, .pointer (some ⟨b1, 0, none⟩))] hE (fun a hE => ?_)
  refine aF 0 25 0 hE (fun a hE => ?_)
  refine aL 0 (.slice A4 (List.length (x3.fB)) c5) hE hS (fun a hE => ?_)
  obtain ⟨r59, h60, hf⟩ := bind_some hf
  refine aC rfl rfl rfl rfl hE rfl rfl rfl rfl (wire_Reader_Flag_1.calls (g := g) h60 (hS.st.fore (L := [])) (h6.mono le58)) (fun a v w hR hE => ?_)
  obtain ⟨D61, rfl, hS1⟩ := hR
  have le63 := hS1.dle
  have hS := hS.callR hS1 rfl .n
  clear hS1
  refine sN 7 13 [(6, .bool (r59.1)), (7, .int .i64 (r59.2.1)), (8, .int .i64 (r59.2.2))] hE (fun a hE => ?_)
  refine at_end rfl ?_
  refine wpIn_seq ?_
  refine wpIn_seq ?_
  refine region_at ?_
  refine sN 2 2 [(24, .bool ((!decide (r59.2.2 = (0 : Int)))))] hE (fun a hE => ?_)
  refine at_end rfl ?_
  refine cond_split hE (b := (!decide (r59.2.2 = (0 : Int)))) rfl (fun hb => ?_) (fun hb => ?_)
  ·replace hf := cond_t hb hf
   clear hb
   refine wpIn_seq ?_
   refine region_at ?_
   refine sN 2 2 [(25, .pointer (some ⟨b1, 0, none⟩)), (26, .int .i64 (r59.2.2))] hE (fun a hE => ?_)
   obtain ⟨r72, h73, hf⟩ := bind_some hf
   refine aC rfl rfl rfl rfl hE rfl rfl rfl rfl (wire_Reader_Fail.calls (g := g) h73 (hS.st.fore (L := [bx b1 66 (c_T_wire_Reader (x3) A4 c5)])) (h6.mono (le2 le58 le63))) (fun a v w hR hE => ?_)
   obtain ⟨D74, A76, c77, rfl, hS1, h78⟩ := hR
   have le79 := hS1.dle
   have hS := hS.callR hS1 rfl (.c .n)
   clear hS1
   refine at_end rfl ?_
   refine wpIn_seq ?_
   refine region_at ?_
   refine sN 2 2 [(4, .bool false)] hE (fun a hE => ?_)
   refine at_end rfl ?_
   refine wpIn_ret ?_
   obtain rfl := Option.some.inj hf
   repeat (with_reducible first | refine then_ret ?_ | refine block_ret ?_ | refine qx_ret ?_)
   refine ret_gen ([.bool false]) hE (by rw [show Tryd.f71.results.toList = [.tmp 4] from rfl]; exact ⟨_, _, rfl, rfl, rfl⟩) ?_
   exact ⟨_, rfl, D74, A76, c77, rfl, hS, h78⟩
  ·replace hf := cond_f hb hf
   clear hb
   refine wpIn_skip ?_
   refine wpIn_seq ?_
   refine region_at ?_
   refine sN 3 3 [(29, .pointer (some ⟨b1, 0, none⟩)), (31, .pointer (some ⟨b1, 0, none⟩))] hE (fun a hE => ?_)
   refine aF 0 25 0 hE (fun a hE => ?_)
   refine aL 0 (.slice A4 (List.length (x3.fB)) c5) hE hS (fun a hE => ?_)
   refine sN 1 6 [(34, .int .i64 (r59.2.1))] hE (fun a hE => ?_)
   obtain ⟨l80, h81, hf⟩ := bind_some hf
   refine at_op (op_tk hE (g_slice (K := (kdInt .u8)) (e := 5) (by_ := 1) (zl := 1) rfl rfl rfl rfl hE rfl rfl (by kernel_rfl) ⟨_, rfl⟩ rfl (h6.mono (le2 le58 le63)) h81 (fun a A82 c83 hE h84 => ?_))) rfl
   refine sN 1 8 [(36, .pointer (some ⟨b1, 0, none⟩))] hE (fun a hE => ?_)
   refine aF 0 25 0 hE (fun a hE => ?_)
   obtain ⟨v85, hv86, hf⟩ := bind_some hf
   replace hv86 := Option.some.inj hv86
   refine at_op (op_store (v := .slice A82 (List.length (l80)) c83) (c_T_wire_Reader (v85) A82 c83) rfl rfl rfl rfl hE hS rfl rfl (by kernel_rfl) (by kernel_rfl) (by kernel_rfl) (by kernel_rfl) (by rw [← hv86]; kernel_rfl) (fun a w _ hE hS => ?_)) rfl
   have h87 : Sl (kdInt .u8) D61 A82 c83 (v85.fB) := by rw [← hv86]; exact h84
   refine at_end rfl ?_
   refine wpIn_seq ?_
   refine region_at ?_
   refine sN 2 2 [(4, .bool (r59.1))] hE (fun a hE => ?_)
   refine at_end rfl ?_
   refine wpIn_ret ?_
   obtain rfl := Option.some.inj hf
   repeat (with_reducible first | refine then_ret ?_ | refine block_ret ?_ | refine qx_ret ?_)
   refine ret_gen ([.bool (r59.1)]) hE (by rw [show Tryd.f71.results.toList = [.tmp 4] from rfl]; exact ⟨_, _, rfl, rfl, rfl⟩) ?_
   exact ⟨_, rfl, D61, A82, c83, rfl, hS, h87⟩
set_option maxRecDepth 100000 in
set_option maxHeartbeats 4000000 in
theorem wire_Reader_Flag.calls {K : Nat} {g w0 : World} {D0 : Snap} {x3 : T_wire_Reader} {b1 : Nat} {A4 : Option Addr} {c5 : Nat} {r : (Bool × T_wire_Reader)} (hf : wire_Reader_Flag.f K x3 = some r) (hS0 : St g w0 D0 [bx b1 66 (c_T_wire_Reader (x3) A4 c5)]) (h6 : Sl (kdInt .u8) D0 A4 c5 (x3.fB)) :
  CallsIn (Fw none) 0 Tryd.prog 52 (List.toArray [.pointer (some ⟨b1, 0, none⟩)]) w0 (fun e w' => ∃ v, e = .returned v ∧ ∃ (D1 : Snap) (A15 : Option Addr) (c16 : Nat), v = .bool (r.1) ∧ Stp g w0 D0 [bx b1 66 (c_T_wire_Reader (x3) A4 c5)] w' D1 [bx b1 66 (c_T_wire_Reader ((T_wire_Reader.mk (r.2.fB) (r.2.fBad))) A15 c16)] ∧ Sl (kdInt .u8) D1 A15 c16 (r.2.fB)) := by
 unfold wire_Reader_Flag.f at hf
 have hS := Stp.refl hS0
 clear hS0
 refine calls_body (n := 5) Tryd.func52 rfl Tryd.ntmps52 rfl (fun a hE => ?_)
 have hE : Env a 5 [] [(0, .pointer (some ⟨b1, 0, none⟩))] := hE
 refine wpIn_seq ?_
 refine region_at ?_
 refine sN 1 1 [(2, .bool false)] hE (fun a hE => ?_)
 refine at_end rfl ?_
 refine wpIn_seq ?_
 refine region_at ?_
 refine sN 1 1 [(3, .pointer (some ⟨b1, 0, none⟩))] hE (fun a hE => ?_)
 obtain ⟨r18, h19, hf⟩ := bind_some hf
 refine aC rfl rfl rfl rfl hE rfl rfl rfl rfl (wire_take_bool.calls (g := g) h19 (hS.st.fore (L := [bx b1 66 (c_T_wire_Reader (x3) A4 c5)])) h6) (fun a v w hR hE => ?_)
 obtain ⟨D20, A22, c23, rfl, hS1, h24⟩ := hR
 have le25 := hS1.dle
 have hS := hS.callR hS1 rfl (.c .n)
 clear hS1
 refine sN 1 3 [(2, .bool (r18.1))] hE (fun a hE => ?_)
 refine at_end rfl ?_
 refine wpIn_ret ?_
 obtain rfl := Option.some.inj hf
 repeat (with_reducible first | refine then_ret ?_ | refine block_ret ?_ | refine qx_ret ?_)
 refine ret_gen ([.bool (r18.1)]) hE (by rw [show Tryd.f52.results.toList = [.tmp 2] from rfl]; exact ⟨_, _, rfl, rfl, rfl⟩) ?_
 exact ⟨_, rfl, D20, A22, c23, rfl, hS, h24⟩
set_option maxRecDepth 100000 in
set_option maxHeartbeats 4000000 in
theorem wire_Reader_Hash_1.calls {K : Nat} {g w0 : World} {D0 : Snap} {x1 : (List Int)} {A2 : Option Addr} {c3 : Nat} {r : ((Vector Int 32) × Int × Int)} (hf : wire_Reader_Hash_1.f K x1 = some r) (hS0 : St g w0 D0 []) (h4 : Sl (kdInt .u8) D0 A2 c3 (x1)) :
  CallsIn (Fw none) 0 Tryd.prog 74 (List.toArray [.slice A2 (List.length (x1)) c3]) w0 (fun e w' => ∃ v, e = .returned v ∧ ∃ (D1 : Snap), v = .tuple #[.agg (List.toArray (acells .u8 32 (r.1))), .int .i64 (r.2.1), .int .i64 (r.2.2)] ∧ Stp g w0 D0 [] w' D1 []) := by
 unfold wire_Reader_Hash_1.f at hf
 have hS := Stp.refl hS0
 clear hS0
 refine calls_body (n := 14) Tryd.func74 rfl Tryd.ntmps74 rfl (fun a hE => ?_)
 have hE : Env a 14 [] [(0, .slice A2 (List.length (x1)) c3)] := hE
 refine wpIn_seq ?_
 refine region_at ?_
 refine at_op (op_alloc (z := .agg (List.toArray (acells .u8 32 ((Vector.replicate 32 (0 : Int)))))) rfl rfl rfl rfl hE rfl hS (by kernel_rfl) (fun a b25 w _ hE hS => ?_)) rfl
 refine sN 2 3 [(3, .int .i64 ((0 : Int))), (4, .int .i64 ((0 : Int)))] hE (fun a hE => ?_)
 refine at_end rfl ?_
 refine wpIn_seq ?_
 refine region_at ?_
 refine at_op (op_alloc (z := .agg (List.toArray (acells .u8 32 ((Vector.replicate 32 (0 : Int)))))) rfl rfl rfl rfl hE rfl hS (by kernel_rfl) (fun a b27 w _ hE hS => ?_)) rfl
 refine at_end rfl ?_
 refine wpIn_seq ?_
 refine wpIn_seq ?_
 refine region_at ?_
 refine sN 3 3 [(8, .bool ((decide (((List.length (x1) : Nat) : Int) < (32 : Int)))))] hE (fun a hE => ?_)
 refine at_end rfl ?_
 refine cond_split hE (b := (decide (((List.length (x1) : Nat) : Int) < (32 : Int)))) rfl (fun hb => ?_) (fun hb => ?_)
 ·replace hf := cond_t hb hf
  clear hb
  refine wpIn_seq ?_
  refine region_at ?_
  refine aL 0 (.agg (List.toArray (acells .u8 32 ((Vector.replicate 32 (0 : Int)))))) hE hS (fun a hE => ?_)
  have hS := hS.pk (.c 1 rfl (.c 0 rfl .n)) rfl
  refine at_op (op_store (v := .agg (List.toArray (acells .u8 32 ((Vector.replicate 32 (0 : Int)))))) (acells .u8 32 ((Vector.replicate 32 (0 : Int)))) rfl rfl rfl rfl hE hS rfl rfl (by kernel_rfl) (by kernel_rfl) (by kernel_rfl) (by kernel_rfl) (by kernel_rfl) (fun a w _ hE hS => ?_)) rfl
  refine sN 2 4 [(3, .int .i64 ((0 : Int))), (4, .int .i64 ((3 : Int)))] hE (fun a hE => ?_)
  refine at_end rfl ?_
  refine wpIn_ret ?_
  obtain rfl := Option.some.inj hf
  repeat (with_reducible first | refine then_ret ?_ | refine block_ret ?_ | refine qx_ret ?_)
  refine ret_gen ([.agg (List.toArray (acells .u8 32 ((Vector.replicate 32 (0 : Int))))), .int .i64 ((0 : Int)), .int .i64 ((3 : Int))]) hE (by rw [show Tryd.f74.results.toList = [.cell 2 23, .tmp 3, .tmp 4] from rfl]; exact ⟨_, _, _, 0, _, _, rfl, rfl, hS.heapAt (j := 0) rfl, by kernel_rfl, ⟨_, _, rfl, rfl, ⟨_, _, rfl, rfl, rfl⟩⟩⟩) ?_
  have hS := hS.pk .n rfl
  exact ⟨_, rfl, D0, rfl, hS⟩
 ·replace hf := cond_f hb hf
  clear hb
  refine wpIn_skip ?_
  refine wpIn_seq ?_
  refine region_at ?_
  refine sN 1 1 [(10, .slice A2 (List.length (x1)) c3)] hE (fun a hE => ?_)
  obtain ⟨l29, h30, hf⟩ := bind_some hf
  refine at_op (op_tk hE (g_slice (K := (kdInt .u8)) (e := 5) (by_ := 1) (zl := 1) rfl rfl rfl rfl hE rfl rfl (by kernel_rfl) rfl ⟨_, rfl⟩ h4 h30 (fun a A31 c32 hE h33 => ?_))) rfl
  obtain ⟨h37, hf⟩ := chk_some hf
  refine at_op (op_tk hE (g_s2a (kk := .u8) (e := 5) (N := 32) rfl rfl rfl rfl hE rfl rfl (by kernel_rfl) rfl h33 h37 (fun a b34 o35 hE h36 => ?_))) rfl
  obtain ⟨cs38, C39, T40, fr41, hr42, hb43, hc44⟩ := h36
  obtain rfl := hr42
  refine at_op (op_tk hE (tk_loadX (off0 := o35) (off := 0) (c := acells .u8 32 ((vofL 32 (l29)))) (.agg (List.toArray (acells .u8 32 ((vofL 32 (l29)))))) rfl rfl rfl rfl hE rfl hS rfl hb43 hc44 (by kernel_rfl) (by kernel_rfl) (kD hS dn_nil) (fun a hE => ?_))) rfl
  have hS := hS.pk (.c 1 rfl (.c 0 rfl .n)) rfl
  refine at_op (op_store (v := .agg (List.toArray (acells .u8 32 ((vofL 32 (l29)))))) (acells .u8 32 ((vofL 32 (l29)))) rfl rfl rfl rfl hE hS rfl rfl (by kernel_rfl) (by kernel_rfl) (by kernel_rfl) (by kernel_rfl) (by kernel_rfl) (fun a w _ hE hS => ?_)) rfl
  refine sN 2 7 [(3, .int .i64 ((32 : Int))), (4, .int .i64 ((0 : Int)))] hE (fun a hE => ?_)
  refine at_end rfl ?_
  refine wpIn_ret ?_
  obtain rfl := Option.some.inj hf
  repeat (with_reducible first | refine then_ret ?_ | refine block_ret ?_ | refine qx_ret ?_)
  refine ret_gen ([.agg (List.toArray (acells .u8 32 ((vofL 32 (l29))))), .int .i64 ((32 : Int)), .int .i64 ((0 : Int))]) hE (by rw [show Tryd.f74.results.toList = [.cell 2 23, .tmp 3, .tmp 4] from rfl]; exact ⟨_, _, _, 0, _, _, rfl, rfl, hS.heapAt (j := 0) rfl, by kernel_rfl, ⟨_, _, rfl, rfl, ⟨_, _, rfl, rfl, rfl⟩⟩⟩) ?_
  have hS := hS.pk .n rfl
  exact ⟨_, rfl, D0, rfl, hS⟩
set_option maxRecDepth 100000 in
set_option maxHeartbeats 4000000 in
theorem wire_take_api_Hash.calls {K : Nat} {g w0 : World} {D0 : Snap} {x3 : T_wire_Reader} {b1 : Nat} {A4 : Option Addr} {c5 : Nat} {r : ((Vector Int 32) × T_wire_Reader)} (hf : wire_take_api_Hash.f K x3 = some r) (hS0 : St g w0 D0 [bx b1 66 (c_T_wire_Reader (x3) A4 c5)]) (h6 : Sl (kdInt .u8) D0 A4 c5 (x3.fB)) :
  CallsIn (Fw none) 0 Tryd.prog 73 (List.toArray [.pointer (some ⟨b1, 0, none⟩), .func (.func 74) #[] #[]]) w0 (fun e w' => ∃ v, e = .returned v ∧ ∃ (D1 : Snap) (A52 : Option Addr) (c53 : Nat), v = .agg (List.toArray (acells .u8 32 (r.1))) ∧ Stp g w0 D0 [bx b1 66 (c_T_wire_Reader (x3) A4 c5)] w' D1 [bx b1 66 (c_T_wire_Reader ((T_wire_Reader.mk (r.2.fB) (r.2.fBad))) A52 c53)] ∧ Sl (kdInt .u8) D1 A52 c53 (r.2.fB)) := by
 unfold wire_take_api_Hash.f at hf
 have hS := Stp.refl hS0
 clear hS0
 refine calls_body (n := 39) Tryd.func73 rfl Tryd.ntmps73 rfl (fun a hE => ?_)
 have hE : Env a 39 [] [(0, .pointer (some ⟨b1, 0, none⟩)), (1, .func (.func 74) #[] #[])] := hE
 refine wpIn_seq ?_
 refine region_at ?_
 refine at_op (op_alloc (z := .agg (List.toArray (acells .u8 32 ((Vector.replicate 32 (0 : Int)))))) rfl rfl rfl rfl hE rfl hS (by kernel_rfl) (fun a b55 w _ hE hS => ?_)) rfl
 refine at_end rfl ?_
 refine wpIn_seq ?_
 refine region_at ?_
 refine at_op (op_alloc (z := .agg (List.toArray (acells .u8 32 ((Vector.replicate 32 (0 : Int)))))) rfl rfl rfl rfl hE rfl hS (by kernel_rfl) (fun a b57 w _ hE hS => ?_)) rfl
 refine at_end rfl ?_
 refine wpIn_seq ?_
 refine wpIn_seq ?_
 refine region_at ?_
 refine sN 1 1 [(9, .pointer (some ⟨b1, 0, none⟩))] hE (fun a hE => ?_)
 have hS := hS.pk (.c 2 rfl (.c 0 rfl (.c 1 rfl .n))) rfl
 obtain ⟨r64, h65, hf⟩ := bind_some hf
 refine aC rfl rfl rfl rfl hE rfl rfl rfl rfl (wire_Reader_Bad.calls (g := g) h65 (hS.st.fore (L := [bx b1 66 (c_T_wire_Reader (x3) A4 c5)])) h6) (fun a v w hR hE => ?_)
 obtain ⟨D66, rfl, hS1⟩ := hR
 have le68 := hS1.dle
 have hS := hS.callR hS1 rfl (.c .n)
 clear hS1
 refine sN 1 3 [(11, .bool ((!decide (r64 = (0 : Int)))))] hE (fun a hE => ?_)
 refine at_end rfl ?_
 refine cond_split hE (b := (!decide (r64 = (0 : Int)))) rfl (fun hb => ?_) (fun hb => ?_)
 ·replace hf := cond_t hb hf
  clear hb
  refine wpIn_seq ?_
  refine region_at ?_
  refine aL 1 (.agg (List.toArray (acells .u8 32 ((Vector.replicate 32 (0 : Int)))))) hE hS (fun a hE => ?_)
  have hS := hS.pk (.c 2 rfl (.c 0 rfl (.c 1 rfl .n))) rfl
  refine at_op (op_store (v := .agg (List.toArray (acells .u8 32 ((Vector.replicate 32 (0 : Int)))))) (acells .u8 32 ((Vector.replicate 32 (0 : Int)))) rfl rfl rfl rfl hE hS rfl rfl (by kernel_rfl) (by kernel_rfl) (by kernel_rfl) (by kernel_rfl) (by kernel_rfl) (fun a w _ hE hS => ?_)) rfl
  refine at_end rfl ?_
  refine wpIn_ret ?_
  obtain rfl := Option.some.inj hf
  repeat (with_reducible first | refine then_ret ?_ | refine block_ret ?_ | refine qx_ret ?_)
  refine ret_gen ([.agg (List.toArray (acells .u8 32 ((Vector.replicate 32 (0 : Int)))))]) hE (by rw [show Tryd.f73.results.toList = [.cell 4 23] from rfl]; exact ⟨_, _, _, 0, _, _, rfl, rfl, hS.heapAt (j := 0) rfl, by kernel_rfl, rfl⟩) ?_
  have hS := hS.pk (.c 1 rfl .n) rfl
  exact ⟨_, rfl, D66, A4, c5, rfl, hS, (h6.mono le68)⟩
 ·replace hf := cond_f hb hf
  clear hb
  refine wpIn_skip ?_
  refine wpIn_seq ?_
  refine region_at ?_
  refine sN 3 3 [(14, .func (.func 74) #[] #[]), (16, .pointer (some ⟨b1, 0, none⟩))] hE (fun a hE => ?_)
  refine aF 0 25 0 hE (fun a hE => ?_)
  refine aL 0 (.slice A4 (List.length (x3.fB)) c5) hE hS (fun a hE => ?_)
  obtain ⟨r69, h70, hf⟩ := bind_some hf
  refine aC rfl rfl rfl rfl hE rfl rfl rfl rfl (wire_Reader_Hash_1.calls (g := g) h70 (hS.st.fore (L := [])) (h6.mono le68)) (fun a v w hR hE => ?_)
  obtain ⟨D71, rfl, hS1⟩ := hR
  have le73 := hS1.dle
  have hS := hS.callR hS1 rfl .n
  clear hS1
  refine sN 4 10 [(20, .agg (List.toArray (acells .u8 32 (r69.1)))), (21, .int .i64 (r69.2.1)), (22, .int .i64 (r69.2.2))] hE (fun a hE => ?_)
  refine at_op (op_alloc (z := .agg (List.toArray (acells .u8 32 ((Vector.replicate 32 (0 : Int)))))) rfl rfl rfl rfl hE rfl hS (by kernel_rfl) (fun a b74 w _ hE hS => ?_)) rfl
  refine at_op (op_store (v := .agg (List.toArray (acells .u8 32 (r69.1)))) (acells .u8 32 (r69.1)) rfl rfl rfl rfl hE hS rfl rfl (by kernel_rfl) (by kernel_rfl) (by kernel_rfl) (by kernel_rfl) (by kernel_rfl) (fun a w _ hE hS => ?_)) rfl
  refine sN 2 14 [(7, .int .i64 (r69.2.1)), (8, .int .i64 (r69.2.2))] hE (fun a hE => ?_)
  refine at_end rfl ?_
  refine wpIn_seq ?_
  refine wpIn_seq ?_
  refine region_at ?_
  refine sN 2 2 [(24, .bool ((!decide (r69.2.2 = (0 : Int)))))] hE (fun a hE => ?_)
  refine at_end rfl ?_
  refine cond_split hE (b := (!decide (r69.2.2 = (0 : Int)))) rfl (fun hb => ?_) (fun hb => ?_)
  ·replace hf := cond_t hb hf
   clear hb
   refine wpIn_seq ?_
   refine region_at ?_
   refine sN 2 2 [(25, .pointer (some ⟨b1, 0, none⟩)), (26, .int .i64 (r69.2.2))] hE (fun a hE => ?_)
   have hS := hS.pk (.c 1 rfl (.c 0 rfl (.c 2 rfl (.c 3 rfl .n)))) rfl
   obtain ⟨r84, h85, hf⟩ := bind_some hf
   refine aC rfl rfl rfl rfl hE rfl rfl rfl rfl (wire_Reader_Fail.calls (g := g) h85 (hS.st.fore (L := [bx b1 66 (c_T_wire_Reader (x3) A4 c5)])) (h6.mono (le2 le68 le73))) (fun a v w hR hE => ?_)
   obtain ⟨D86, A88, c89, rfl, hS1, h90⟩ := hR
   have le91 := hS1.dle
   have hS := hS.callR hS1 rfl (.c .n)
   clear hS1
   refine at_end rfl ?_
   refine wpIn_seq ?_
   refine region_at ?_
   refine aL 2 (.agg (List.toArray (acells .u8 32 ((Vector.replicate 32 (0 : Int)))))) hE hS (fun a hE => ?_)
   have hS := hS.pk (.c 3 rfl (.c 0 rfl (.c 1 rfl (.c 2 rfl .n)))) rfl
   refine at_op (op_store (v := .agg (List.toArray (acells .u8 32 ((Vector.replicate 32 (0 : Int)))))) (acells .u8 32 ((Vector.replicate 32 (0 : Int)))) rfl rfl rfl rfl hE hS rfl rfl (by kernel_rfl) (by kernel_rfl) (by kernel_rfl) (by kernel_rfl) (by kernel_rfl) (fun a w _ hE hS => ?_)) rfl
   refine at_end rfl ?_
   refine wpIn_ret ?_
   obtain rfl := Option.some.inj hf
   repeat (with_reducible first | refine then_ret ?_ | refine block_ret ?_ | refine qx_ret ?_)
   refine ret_gen ([.agg (List.toArray (acells .u8 32 ((Vector.replicate 32 (0 : Int)))))]) hE (by rw [show Tryd.f73.results.toList = [.cell 4 23] from rfl]; exact ⟨_, _, _, 0, _, _, rfl, rfl, hS.heapAt (j := 0) rfl, by kernel_rfl, rfl⟩) ?_
   have hS := hS.pk (.c 1 rfl .n) rfl
   exact ⟨_, rfl, D86, A88, c89, rfl, hS, h90⟩
  ·replace hf := cond_f hb hf
   clear hb
   refine wpIn_skip ?_
   refine wpIn_seq ?_
   refine region_at ?_
   refine sN 3 3 [(29, .pointer (some ⟨b1, 0, none⟩)), (31, .pointer (some ⟨b1, 0, none⟩))] hE (fun a hE => ?_)
   refine aF 0 25 0 hE (fun a hE => ?_)
   refine aL 1 (.slice A4 (List.length (x3.fB)) c5) hE hS (fun a hE => ?_)
   refine sN 1 6 [(34, .int .i64 (r69.2.1))] hE (fun a hE => ?_)
   obtain ⟨l92, h93, hf⟩ := bind_some hf
   refine at_op (op_tk hE (g_slice (K := (kdInt .u8)) (e := 5) (by_ := 1) (zl := 1) rfl rfl rfl rfl hE rfl rfl (by kernel_rfl) ⟨_, rfl⟩ rfl (h6.mono (le2 le68 le73)) h93 (fun a A94 c95 hE h96 => ?_))) rfl
   refine sN 1 8 [(36, .pointer (some ⟨b1, 0, none⟩))] hE (fun a hE => ?_)
   refine aF 0 25 0 hE (fun a hE => ?_)
   have hS := hS.pk (.c 1 rfl (.c 0 rfl (.c 2 rfl (.c 3 rfl .n)))) rfl
   obtain ⟨v97, hv98, hf⟩ := bind_some hf
   replace hv98 := Option.some.inj hv98
   refine at_op (op_store (v := .slice A94 (List.length (l92)) c95) (c_T_wire_Reader (v97) A94 c95) rfl rfl rfl rfl hE hS rfl rfl (by kernel_rfl) (by kernel_rfl) (by kernel_rfl) (by kernel_rfl) (by rw [← hv98]; kernel_rfl) (fun a w _ hE hS => ?_)) rfl
   have h99 : Sl (kdInt .u8) D71 A94 c95 (v97.fB) := by rw [← hv98]; exact h96
   refine at_end rfl ?_
   refine wpIn_seq ?_
   refine region_at ?_
   refine aL 1 (.agg (List.toArray (acells .u8 32 (r69.1)))) hE hS (fun a hE => ?_)
   have hS := hS.pk (.c 3 rfl (.c 0 rfl (.c 1 rfl (.c 2 rfl .n)))) rfl
   refine at_op (op_store (v := .agg (List.toArray (acells .u8 32 (r69.1)))) (acells .u8 32 (r69.1)) rfl rfl rfl rfl hE hS rfl rfl (by kernel_rfl) (by kernel_rfl) (by kernel_rfl) (by kernel_rfl) (by kernel_rfl) (fun a w _ hE hS => ?_)) rfl
   refine at_end rfl ?_
   refine wpIn_ret ?_
   obtain rfl := Option.some.inj hf
   repeat (with_reducible first | refine then_ret ?_ | refine block_ret ?_ | refine qx_ret ?_)
   refine ret_gen ([.agg (List.toArray (acells .u8 32 (r69.1)))]) hE (by rw [show Tryd.f73.results.toList = [.cell 4 23] from rfl]; exact ⟨_, _, _, 0, _, _, rfl, rfl, hS.heapAt (j := 0) rfl, by kernel_rfl, rfl⟩) ?_
   have hS := hS.pk (.c 1 rfl .n) rfl
   exact ⟨_, rfl, D71, A94, c95, rfl, hS, h99⟩
set_option maxRecDepth 100000 in
set_option maxHeartbeats 4000000 in
theorem wire_Reader_Hash.calls {K : Nat} {g w0 : World} {D0 : Snap} {x3 : T_wire_Reader} {b1 : Nat} {A4 : Option Addr} {c5 : Nat} {r : ((Vector Int 32) × T_wire_Reader)} (hf : wire_Reader_Hash.f K x3 = some r) (hS0 : St g w0 D0 [bx b1 66 (c_T_wire_Reader (x3) A4 c5)]) (h6 : Sl (kdInt .u8) D0 A4 c5 (x3.fB)) :
  CallsIn (Fw none) 0 Tryd.prog 53 (List.toArray [.pointer (some ⟨b1, 0, none⟩)]) w0 (fun e w' => ∃ v, e = .returned v ∧ ∃ (D1 : Snap) (A17 : Option Addr) (c18 : Nat), v = .agg (List.toArray (acells .u8 32 (r.1))) ∧ Stp g w0 D0 [bx b1 66 (c_T_wire_Reader (x3) A4 c5)] w' D1 [bx b1 66 (c_T_wire_Reader ((T_wire_Reader.mk (r.2.fB) (r.2.fBad))) A17 c18)] ∧ Sl (kdInt .u8) D1 A17 c18 (r.2.fB)) := by
 unfold wire_Reader_Hash.f at hf
 have hS := Stp.refl hS0
 clear hS0
 refine calls_body (n := 5) Tryd.func53 rfl Tryd.ntmps53 rfl (fun a hE => ?_)
 have hE : Env a 5 [] [(0, .pointer (some ⟨b1, 0, none⟩))] := hE
 refine wpIn_seq ?_
 refine region_at ?_
 refine at_op (op_alloc (z := .agg (List.toArray (acells .u8 32 ((Vector.replicate 32 (0 : Int)))))) rfl rfl rfl rfl hE rfl hS (by kernel_rfl) (fun a b20 w _ hE hS => ?_)) rfl
 refine at_end rfl ?_
 refine wpIn_seq ?_
 refine region_at ?_
 refine sN 1 1 [(3, .pointer (some ⟨b1, 0, none⟩))] hE (fun a hE => ?_)
 have hS := hS.pk (.c 1 rfl (.c 0 rfl .n)) rfl
 obtain ⟨r22, h23, hf⟩ := bind_some hf
 refine aC rfl rfl rfl rfl hE rfl rfl rfl rfl (wire_take_api_Hash.calls (g := g) h23 (hS.st.fore (L := [bx b1 66 (c_T_wire_Reader (x3) A4 c5)])) h6) (fun a v w hR hE => ?_)
 obtain ⟨D24, A26, c27, rfl, hS1, h28⟩ := hR
 have le29 := hS1.dle
 have hS := hS.callR hS1 rfl (.c .n)
 clear hS1
 have hS := hS.pk (.c 1 rfl (.c 0 rfl .n)) rfl
 refine at_op (op_store (v := .agg (List.toArray (acells .u8 32 (r22.1)))) (acells .u8 32 (r22.1)) rfl rfl rfl rfl hE hS rfl rfl (by kernel_rfl) (by kernel_rfl) (by kernel_rfl) (by kernel_rfl) (by kernel_rfl) (fun a w _ hE hS => ?_)) rfl
 refine at_end rfl ?_
 refine wpIn_ret ?_
 obtain rfl := Option.some.inj hf
 repeat (with_reducible first | refine then_ret ?_ | refine block_ret ?_ | refine qx_ret ?_)
 refine ret_gen ([.agg (List.toArray (acells .u8 32 (r22.1)))]) hE (by rw [show Tryd.f53.results.toList = [.cell 2 23] from rfl]; exact ⟨_, _, _, 0, _, _, rfl, rfl, hS.heapAt (j := 0) rfl, by kernel_rfl, rfl⟩) ?_
 have hS := hS.pk (.c 1 rfl .n) rfl
 exact ⟨_, rfl, D24, A26, c27, rfl, hS, h28⟩
set_option maxRecDepth 100000 in
set_option maxHeartbeats 4000000 in
theorem wire_Reader_Bytes_1.calls {K : Nat} {g w0 : World} {D0 : Snap} {x3 : (List Int)} {x7 : Int} {b1 : Nat} {A4 : Option Addr} {c5 : Nat} {r : ((List Int) × Int × Int)} (hf : wire_Reader_Bytes_1.f K x3 x7 = some r) (hS0 : St g w0 D0 [bx b1 3 ([.int .i64 (x7)])]) (h6 : Sl (kdInt .u8) D0 A4 c5 (x3)) :
  CallsIn (Fw none) 0 Tryd.prog 76 (List.toArray [.slice A4 (List.length (x3)) c5, .pointer (some ⟨b1, 0, none⟩)]) w0 (fun e w' => ∃ v, e = .returned v ∧ ∃ (D1 : Snap) (A28 : Option Addr) (c29 : Nat) (q30 : Blk), v = .tuple #[.slice A28 (List.length (r.1)) c29, .int .i64 (r.2.1), .int .i64 (r.2.2)] ∧ Stp g w0 D0 [bx b1 3 ([.int .i64 (x7)])] w' D1 [bx b1 3 ([.int .i64 (x7)]), q30] ∧ OwnD (kdInt .u8) 5 D1 A28 c29 (r.1) q30) := by
 unfold wire_Reader_Bytes_1.f at hf
 have hS := Stp.refl hS0
 clear hS0
 refine calls_body (n := 40) Tryd.func76 rfl Tryd.ntmps76 rfl (fun a hE => ?_)
 have hE : Env a 40 [] [(0, .slice A4 (List.length (x3)) c5), (1, .pointer (some ⟨b1, 0, none⟩))] := hE
 refine wpIn_seq ?_
 refine region_at ?_
 refine sN 3 3 [(3, .slice none 0 0), (4, .int .i64 ((0 : Int))), (5, .int .i64 ((0 : Int)))] hE (fun a hE => ?_)
 refine at_end rfl ?_
 refine wpIn_seq ?_
 refine region_at ?_
 refine sN 1 1 [(10, .slice A4 (List.length (x3)) c5)] hE (fun a hE => ?_)
 obtain ⟨r33, h34, hf⟩ := bind_some hf
 refine aC rfl rfl rfl rfl hE rfl rfl rfl rfl (wire_number.calls (g := g) h34 (hS.st.fore (L := [])) h6) (fun a v w hR hE => ?_)
 obtain ⟨D35, rfl, hS1⟩ := hR
 have le37 := hS1.dle
 have hS := hS.callR hS1 rfl .n
 clear hS1
 refine sN 7 9 [(6, .int .i64 (r33.1)), (7, .int .i64 (r33.2.1)), (8, .int .i64 (r33.2.2))] hE (fun a hE => ?_)
 refine at_end rfl ?_
 refine wpIn_seq ?_
 refine wpIn_block ?_
 refine wpIn_seq ?_
 refine region_at ?_
 refine sN 3 3 [(15, .bool ((!decide (r33.2.2 = (0 : Int)))))] hE (fun a hE => ?_)
 refine at_end rfl ?_
 refine cond_split hE (b := (!decide (r33.2.2 = (0 : Int)))) rfl (fun hb => ?_) (fun hb => ?_)
 ·replace hf := cond_t hb hf
  clear hb
  refine wpIn_seq ?_
  refine region_at ?_
  refine sN 4 4 [(3, .slice none 0 0), (4, .int .i64 ((0 : Int))), (5, .int .i64 (r33.2.2))] hE (fun a hE => ?_)
  refine at_end rfl ?_
  refine wpIn_ret ?_
  have hS := hS.nils
  obtain rfl := Option.some.inj hf
  repeat (with_reducible first | refine then_ret ?_ | refine block_ret ?_ | refine qx_ret ?_)
  refine ret_gen ([.slice none 0 0, .int .i64 ((0 : Int)), .int .i64 (r33.2.2)]) hE (by rw [show Tryd.f76.results.toList = [.tmp 3, .tmp 4, .tmp 5] from rfl]; exact ⟨_, _, rfl, rfl, ⟨_, _, rfl, rfl, ⟨_, _, rfl, rfl, rfl⟩⟩⟩) ?_
  have hS := hS.pk (.c 1 rfl (.c 0 rfl .n)) rfl
  exact ⟨_, rfl, D35, none, 0, none, rfl, hS, (OwnD.nil (kdInt .u8) 5 D35)⟩
 ·replace hf := cond_f hb hf
  clear hb
  refine wpIn_seq ?_
  refine region_at ?_
  refine sN 1 1 [(20, .int .i64 (r33.1))] hE (fun a hE => ?_)
  refine aL 0 (.int .i64 (x7)) hE hS (fun a hE => ?_)
  refine sN 2 4 [(19, .bool ((decide (x7 < r33.1))))] hE (fun a hE => ?_)
  refine at_end rfl ?_
  refine cond_split hE (b := (decide (x7 < r33.1))) rfl (fun hb => ?_) (fun hb => ?_)
  ·replace hf := cond_t hb hf
   clear hb
   refine wpIn_seq ?_
   refine region_at ?_
   refine sN 3 3 [(3, .slice none 0 0), (4, .int .i64 ((0 : Int))), (5, .int .i64 ((4 : Int)))] hE (fun a hE => ?_)
   refine at_end rfl ?_
   refine wpIn_ret ?_
   have hS := hS.nils
   obtain rfl := Option.some.inj hf
   repeat (with_reducible first | refine then_ret ?_ | refine block_ret ?_ | refine qx_ret ?_)
   refine ret_gen ([.slice none 0 0, .int .i64 ((0 : Int)), .int .i64 ((4 : Int))]) hE (by rw [show Tryd.f76.results.toList = [.tmp 3, .tmp 4, .tmp 5] from rfl]; exact ⟨_, _, rfl, rfl, ⟨_, _, rfl, rfl, ⟨_, _, rfl, rfl, rfl⟩⟩⟩) ?_
   have hS := hS.pk (.c 1 rfl (.c 0 rfl .n)) rfl
   exact ⟨_, rfl, D35, none, 0, none, rfl, hS, (OwnD.nil (kdInt .u8) 5 D35)⟩
  ·replace hf := cond_f hb hf
   clear hb
   refine wpIn_seq ?_
   refine region_at ?_
   refine sN 7 7 [(23, .bool ((decide ((IntKind.wrap .i64 (((List.length (x3) : Nat) : Int) - r33.2.1)) < r33.1))))] hE (fun a hE => ?_)
   refine at_end rfl ?_
   refine cond_split hE (b := (decide ((IntKind.wrap .i64 (((List.length (x3) : Nat) : Int) - r33.2.1)) < r33.1))) rfl (fun hb => ?_) (fun hb => ?_)
   ·replace hf := cond_t hb hf
    clear hb
    refine wpIn_seq ?_
    refine region_at ?_
    refine sN 3 3 [(3, .slice none 0 0), (4, .int .i64 ((0 : Int))), (5, .int .i64 ((3 : Int)))] hE (fun a hE => ?_)
    refine at_end rfl ?_
    refine wpIn_ret ?_
    have hS := hS.nils
    obtain rfl := Option.some.inj hf
    repeat (with_reducible first | refine then_ret ?_ | refine block_ret ?_ | refine qx_ret ?_)
    refine ret_gen ([.slice none 0 0, .int .i64 ((0 : Int)), .int .i64 ((3 : Int))]) hE (by rw [show Tryd.f76.results.toList = [.tmp 3, .tmp 4, .tmp 5] from rfl]; exact ⟨_, _, rfl, rfl, ⟨_, _, rfl, rfl, ⟨_, _, rfl, rfl, rfl⟩⟩⟩) ?_
    have hS := hS.pk (.c 1 rfl (.c 0 rfl .n)) rfl
    exact ⟨_, rfl, D35, none, 0, none, rfl, hS, (OwnD.nil (kdInt .u8) 5 D35)⟩
   ·replace hf := cond_f hb hf
    clear hb
    refine wpIn_skip ?_
    refine wpIn_seq ?_
    refine region_at ?_
    refine sN 5 5 [(30, .slice A4 (List.length (x3)) c5), (31, .int .i64 (r33.2.1)), (34, .int .i64 ((IntKind.wrap .i64 (r33.2.1 + r33.1))))] hE (fun a hE => ?_)
    obtain ⟨l41, h42, hf⟩ := bind_some hf
    refine at_op (op_tk hE (g_slice (K := (kdInt .u8)) (e := 5) (by_ := 1) (zl := 1) rfl rfl rfl rfl hE rfl rfl (by kernel_rfl) ⟨_, rfl⟩ ⟨_, rfl⟩ (h6.mono le37) h42 (fun a A43 c44 hE h45 => ?_))) rfl
    obtain ⟨r46, h47, hf⟩ := bind_some hf
    refine aC rfl rfl rfl rfl hE rfl rfl rfl rfl (slices_Clone_byte_byte.calls (g := g) h47 (hS.st.fore (L := [])) h45) (fun a v w hR hE => ?_)
    obtain ⟨D48, A50, c51, q52, rfl, hS1, h53⟩ := hR
    have le55 := hS1.dle
    have hS := hS.callR hS1 rfl (.c .n)
    clear hS1
    refine sN 6 13 [(3, .slice A50 (List.length (r46)) c51), (4, .int .i64 ((IntKind.wrap .i64 (r33.2.1 + r33.1)))), (5, .int .i64 ((0 : Int)))] hE (fun a hE => ?_)
    refine at_end rfl ?_
    refine wpIn_ret ?_
    obtain rfl := Option.some.inj hf
    repeat (with_reducible first | refine then_ret ?_ | refine block_ret ?_ | refine qx_ret ?_)
    refine ret_gen ([.slice A50 (List.length (r46)) c51, .int .i64 ((IntKind.wrap .i64 (r33.2.1 + r33.1))), .int .i64 ((0 : Int))]) hE (by rw [show Tryd.f76.results.toList = [.tmp 3, .tmp 4, .tmp 5] from rfl]; exact ⟨_, _, rfl, rfl, ⟨_, _, rfl, rfl, ⟨_, _, rfl, rfl, rfl⟩⟩⟩) ?_
    have hS := hS.pk (.c 1 rfl (.c 0 rfl .n)) rfl
    exact ⟨_, rfl, D48, A50, c51, q52, rfl, hS, h53⟩
set_option maxRecDepth 100000 in
set_option maxHeartbeats 4000000 in
theorem wire_take_byte.calls {K : Nat} {g w0 : World} {D0 : Snap} {x5 : T_wire_Reader} {x9 : Int} {b1 : Nat} {b2 : Nat} {A6 : Option Addr} {c7 : Nat} {r : ((List Int) × T_wire_Reader)} (hf : wire_take_byte.f K x5 x9 = some r) (hS0 : St g w0 D0 [bx b1 66 (c_T_wire_Reader (x5) A6 c7), bx b2 3 ([.int .i64 (x9)])]) (h8 : Sl (kdInt .u8) D0 A6 c7 (x5.fB)) :
  CallsIn (Fw none) 0 Tryd.prog 75 (List.toArray [.pointer (some ⟨b1, 0, none⟩), .func (.func 76) #[] #[.pointer (some ⟨b2, 0, none⟩)]]) w0 (fun e w' => ∃ v, e = .returned v ∧ ∃ (D1 : Snap) (A54 : Option Addr) (c55 : Nat) (q56 : Blk) (A59 : Option Addr) (c60 : Nat), v = .slice A54 (List.length (r.1)) c55 ∧ Stp g w0 D0 [bx b1 66 (c_T_wire_Reader (x5) A6 c7), bx b2 3 ([.int .i64 (x9)])] w' D1 [bx b1 66 (c_T_wire_Reader ((T_wire_Reader.mk (r.2.fB) (r.2.fBad))) A59 c60), bx b2 3 ([.int .i64 (x9)]), q56] ∧ OwnD (kdInt .u8) 5 D1 A54 c55 (r.1) q56 ∧ Sl (kdInt .u8) D1 A59 c60 (r.2.fB)) := by
 unfold wire_take_byte.f at hf
 have hS := Stp.refl hS0
 clear hS0
 refine calls_body (n := 39) Tryd.func75 rfl Tryd.ntmps75 rfl (fun a hE => ?_)
 have hE : Env a 39 [] [(0, .pointer (some ⟨b1, 0, none⟩)), (1, .func (.func 76) #[] #[.pointer (some ⟨b2, 0, none⟩)])] := hE
 refine wpIn_seq ?_
 refine region_at ?_
 refine sN 1 1 [(4, .slice none 0 0)] hE (fun a hE => ?_)
 refine at_end rfl ?_
 refine wpIn_seq ?_
 refine region_at ?_
 refine sN 1 1 [(5, .slice none 0 0)] hE (fun a hE => ?_)
 refine at_end rfl ?_
 refine wpIn_seq ?_
 refine wpIn_seq ?_
 refine region_at ?_
 refine sN 1 1 [(9, .pointer (some ⟨b1, 0, none⟩))] hE (fun a hE => ?_)
 obtain ⟨r67, h68, hf⟩ := bind_some hf
 refine aC rfl rfl rfl rfl hE rfl rfl rfl rfl (wire_Reader_Bad.calls (g := g) h68 (hS.st.fore (L := [bx b1 66 (c_T_wire_Reader (x5) A6 c7)])) h8) (fun a v w hR hE => ?_)
 obtain ⟨D69, rfl, hS1⟩ := hR
 have le71 := hS1.dle
 have hS := hS.callR hS1 rfl (.c .n)
 clear hS1
 refine sN 1 3 [(11, .bool ((!decide (r67 = (0 : Int)))))] hE (fun a hE => ?_)
 refine at_end rfl ?_
 refine cond_split hE (b := (!decide (r67 = (0 : Int)))) rfl (fun hb => ?_) (fun hb => ?_)
 ·replace hf := cond_t hb hf
  clear hb
  refine wpIn_seq ?_
  refine region_at ?_
  refine sN 2 2 [(4, .slice none 0 0)] hE (fun a hE => ?_)
  refine at_end rfl ?_
  refine wpIn_ret ?_
  have hS := hS.nils
  obtain rfl := Option.some.inj hf
  repeat (with_reducible first | refine then_ret ?_ | refine block_ret ?_ | refine qx_ret ?_)
  refine ret_gen ([.slice none 0 0]) hE (by rw [show Tryd.f75.results.toList = [.tmp 4] from rfl]; exact ⟨_, _, rfl, rfl, rfl⟩) ?_
  have hS := hS.pk (.c 1 rfl (.c 2 rfl (.c 0 rfl .n))) rfl
  exact ⟨_, rfl, D69, none, 0, none, A6, c7, rfl, hS, (OwnD.nil (kdInt .u8) 5 D69), (h8.mono le71)⟩
 ·replace hf := cond_f hb hf
  clear hb
  refine wpIn_skip ?_
  refine wpIn_seq ?_
  refine region_at ?_
  refine sN 3 3 [(14, .func (.func 76) #[] #[.pointer (some ⟨b2, 0, none⟩)]), (16, .pointer (some ⟨b1, 0, none⟩))] hE (fun a hE => ?_)
  refine aF 0 25 0 hE (fun a hE => ?_)
  refine aL 0 (.slice A6 (List.length (x5.fB)) c7) hE hS (fun a hE => ?_)
  have hS := hS.pk (.c 1 rfl (.c 0 rfl .n)) rfl
  obtain ⟨r73, h74, hf⟩ := bind_some hf
  refine aC rfl rfl rfl rfl hE rfl rfl rfl rfl (wire_Reader_Bytes_1.calls (g := g) h74 (hS.st.fore (L := [bx b2 3 ([.int .i64 (x9)])])) (h8.mono le71)) (fun a v w hR hE => ?_)
  obtain ⟨D75, A77, c78, q79, rfl, hS1, h80⟩ := hR
  have le82 := hS1.dle
  have hS := hS.callR hS1 rfl (.c (.c .n))
  clear hS1
  refine sN 7 13 [(6, .slice A77 (List.length (r73.1)) c78), (7, .int .i64 (r73.2.1)), (8, .int .i64 (r73.2.2))] hE (fun a hE => ?_)
  refine at_end rfl ?_
  refine wpIn_seq ?_
  refine wpIn_seq ?_
  refine region_at ?_
  refine sN 2 2 [(24, .bool ((!decide (r73.2.2 = (0 : Int)))))] hE (fun a hE => ?_)
  refine at_end rfl ?_
  refine cond_split hE (b := (!decide (r73.2.2 = (0 : Int)))) rfl (fun hb => ?_) (fun hb => ?_)
  ·replace hf := cond_t hb hf
   clear hb
   refine wpIn_seq ?_
   refine region_at ?_
   refine sN 2 2 [(25, .pointer (some ⟨b1, 0, none⟩)), (26, .int .i64 (r73.2.2))] hE (fun a hE => ?_)
   have hS := hS.pk (.c 2 rfl (.c 0 rfl (.c 1 rfl .n))) rfl
   obtain ⟨r91, h92, hf⟩ := bind_some hf
   refine aC rfl rfl rfl rfl hE rfl rfl rfl rfl (wire_Reader_Fail.calls (g := g) h92 (hS.st.fore (L := [bx b1 66 (c_T_wire_Reader (x5) A6 c7)])) (h8.mono (le2 le71 le82))) (fun a v w hR hE => ?_)
   obtain ⟨D93, A95, c96, rfl, hS1, h97⟩ := hR
   have le98 := hS1.dle
   have hS := hS.callR hS1 rfl (.c .n)
   clear hS1
   refine at_end rfl ?_
   refine wpIn_seq ?_
   refine region_at ?_
   refine sN 2 2 [(4, .slice none 0 0)] hE (fun a hE => ?_)
   refine at_end rfl ?_
   refine wpIn_ret ?_
   have hS := hS.nils
   obtain rfl := Option.some.inj hf
   repeat (with_reducible first | refine then_ret ?_ | refine block_ret ?_ | refine qx_ret ?_)
   refine ret_gen ([.slice none 0 0]) hE (by rw [show Tryd.f75.results.toList = [.tmp 4] from rfl]; exact ⟨_, _, rfl, rfl, rfl⟩) ?_
   have hS := hS.pk (.c 1 rfl (.c 2 rfl (.c 0 rfl .n))) rfl
   exact ⟨_, rfl, D93, none, 0, none, A95, c96, rfl, hS, (OwnD.nil (kdInt .u8) 5 D93), h97⟩
  ·replace hf := cond_f hb hf
   clear hb
   refine wpIn_skip ?_
   refine wpIn_seq ?_
   refine region_at ?_
   refine sN 3 3 [(29, .pointer (some ⟨b1, 0, none⟩)), (31, .pointer (some ⟨b1, 0, none⟩))] hE (fun a hE => ?_)
   refine aF 0 25 0 hE (fun a hE => ?_)
   refine aL 2 (.slice A6 (List.length (x5.fB)) c7) hE hS (fun a hE => ?_)
   refine sN 1 6 [(34, .int .i64 (r73.2.1))] hE (fun a hE => ?_)
   obtain ⟨l100, h101, hf⟩ := bind_some hf
   refine at_op (op_tk hE (g_slice (K := (kdInt .u8)) (e := 5) (by_ := 1) (zl := 1) rfl rfl rfl rfl hE rfl rfl (by kernel_rfl) ⟨_, rfl⟩ rfl (h8.mono (le2 le71 le82)) h101 (fun a A102 c103 hE h104 => ?_))) rfl
   refine sN 1 8 [(36, .pointer (some ⟨b1, 0, none⟩))] hE (fun a hE => ?_)
   refine aF 0 25 0 hE (fun a hE => ?_)
   have hS := hS.pk (.c 2 rfl (.c 0 rfl (.c 1 rfl .n))) rfl
   obtain ⟨v105, hv106, hf⟩ := bind_some hf
   replace hv106 := Option.some.inj hv106
   refine at_op (op_store (v := .slice A102 (List.length (l100)) c103) (c_T_wire_Reader (v105) A102 c103) rfl rfl rfl rfl hE hS rfl rfl (by kernel_rfl) (by kernel_rfl) (by kernel_rfl) (by kernel_rfl) (by rw [← hv106]; kernel_rfl) (fun a w _ hE hS => ?_)) rfl
   have h107 : Sl (kdInt .u8) D75 A102 c103 (v105.fB) := by rw [← hv106]; exact h104
   refine at_end rfl ?_
   refine wpIn_seq ?_
   refine region_at ?_
   refine sN 2 2 [(4, .slice A77 (List.length (r73.1)) c78)] hE (fun a hE => ?_)
   refine at_end rfl ?_
   refine wpIn_ret ?_
   obtain rfl := Option.some.inj hf
   repeat (with_reducible first | refine then_ret ?_ | refine block_ret ?_ | refine qx_ret ?_)
   refine ret_gen ([.slice A77 (List.length (r73.1)) c78]) hE (by rw [show Tryd.f75.results.toList = [.tmp 4] from rfl]; exact ⟨_, _, rfl, rfl, rfl⟩) ?_
   exact ⟨_, rfl, D75, A77, c78, q79, A102, c103, rfl, hS, h80, h107⟩
set_option maxRecDepth 100000 in
set_option maxHeartbeats 4000000 in
theorem wire_Reader_Bytes.calls {K : Nat} {g w0 : World} {D0 : Snap} {x3 : Int} {x4 : T_wire_Reader} {b1 : Nat} {A5 : Option Addr} {c6 : Nat} {r : ((List Int) × T_wire_Reader)} (hf : wire_Reader_Bytes.f K x3 x4 = some r) (hS0 : St g w0 D0 [bx b1 66 (c_T_wire_Reader (x4) A5 c6)]) (h7 : Sl (kdInt .u8) D0 A5 c6 (x4.fB)) :
  CallsIn (Fw none) 0 Tryd.prog 54 (List.toArray [.pointer (some ⟨b1, 0, none⟩), .int .i64 (x3)]) w0 (fun e w' => ∃ v, e = .returned v ∧ ∃ (D1 : Snap) (A23 : Option Addr) (c24 : Nat) (q25 : Blk) (A28 : Option Addr) (c29 : Nat), v = .slice A23 (List.length (r.1)) c24 ∧ Stp g w0 D0 [bx b1 66 (c_T_wire_Reader (x4) A5 c6)] w' D1 [bx b1 66 (c_T_wire_Reader ((T_wire_Reader.mk (r.2.fB) (r.2.fBad))) A28 c29), q25] ∧ OwnD (kdInt .u8) 5 D1 A23 c24 (r.1) q25 ∧ Sl (kdInt .u8) D1 A28 c29 (r.2.fB)) := by
 unfold wire_Reader_Bytes.f at hf
 have hS := Stp.refl hS0
 clear hS0
 refine calls_body (n := 8) Tryd.func54 rfl Tryd.ntmps54 rfl (fun a hE => ?_)
 have hE : Env a 8 [] [(0, .pointer (some ⟨b1, 0, none⟩)), (1, .int .i64 (x3))] := hE
 refine wpIn_seq ?_
 refine region_at ?_
 refine at_op (op_box rfl rfl rfl rfl hE rfl hS rfl (fun a b31 w _ hE hS => ?_)) rfl
 refine sN 1 2 [(4, .slice none 0 0)] hE (fun a hE => ?_)
 refine at_end rfl ?_
 refine wpIn_seq ?_
 refine region_at ?_
 refine sN 2 2 [(5, .pointer (some ⟨b1, 0, none⟩)), (6, .func (.func 76) #[] #[.pointer (some ⟨b31, 0, none⟩)])] hE (fun a hE => ?_)
 have hS := hS.pk (.c 1 rfl (.c 0 rfl .n)) rfl
 obtain ⟨r33, h34, hf⟩ := bind_some hf
 refine aC rfl rfl rfl rfl hE rfl rfl rfl rfl (wire_take_byte.calls (g := g) h34 (hS.st.fore (L := [bx b1 66 (c_T_wire_Reader (x4) A5 c6), bx b31 3 ([.int .i64 (x3)])])) h7) (fun a v w hR hE => ?_)
 obtain ⟨D35, A37, c38, q39, A42, c43, rfl, hS1, h40, h44⟩ := hR
 have le45 := hS1.dle
 have hS := hS.callR hS1 rfl (.c (.c (.c .n)))
 clear hS1
 refine sN 1 4 [(4, .slice A37 (List.length (r33.1)) c38)] hE (fun a hE => ?_)
 refine at_end rfl ?_
 refine wpIn_ret ?_
 obtain rfl := Option.some.inj hf
 repeat (with_reducible first | refine then_ret ?_ | refine block_ret ?_ | refine qx_ret ?_)
 refine ret_gen ([.slice A37 (List.length (r33.1)) c38]) hE (by rw [show Tryd.f54.results.toList = [.tmp 4] from rfl]; exact ⟨_, _, rfl, rfl, rfl⟩) ?_
 have hS := hS.pk (.c 0 rfl (.c 2 rfl .n)) rfl
 exact ⟨_, rfl, D35, A37, c38, q39, A42, c43, rfl, hS, h40, h44⟩
set_option maxRecDepth 100000 in
set_option maxHeartbeats 4000000 in
theorem rec_Read.calls {K : Nat} {g w0 : World} {D0 : Snap} {x3 : T_wire_Reader} {b1 : Nat} {A4 : Option Addr} {c5 : Nat} {r : (T_api_Rec × T_wire_Reader)} (hf : rec_Read.f K x3 = some r) (hS0 : St g w0 D0 [bx b1 66 (c_T_wire_Reader (x3) A4 c5)]) (h6 : Sl (kdInt .u8) D0 A4 c5 (x3.fB)) :
  CallsIn (Fw none) 0 Tryd.prog 26 (List.toArray [.pointer (some ⟨b1, 0, none⟩)]) w0 (fun e w' => ∃ v, e = .returned v ∧ ∃ (D1 : Snap) (A586 : Option Addr) (c587 : Nat) (A589 : Option Addr) (c590 : Nat) (A592 : Option Addr) (c593 : Nat), v = .agg (List.toArray (c_T_api_Rec ((T_api_Rec.mk (r.1.fKind) (r.1.fSaga) (r.1.fSeq) (r.1.fStep) (r.1.fTry) (r.1.fBack) (r.1.fGood) (r.1.fEnd) (r.1.fPart) (r.1.fEpoch) (r.1.fTag) (r.1.fSteps) (r.1.fData) (r.1.fSalt) (r.1.fGone) (r.1.fCom))) A586 c587 A589 c590)) ∧ Stp g w0 D0 [bx b1 66 (c_T_wire_Reader (x3) A4 c5)] w' D1 [bx b1 66 (c_T_wire_Reader ((T_wire_Reader.mk (r.2.fB) (r.2.fBad))) A592 c593)] ∧ Sl kd_T_api_Step D1 A586 c587 (r.1.fSteps) ∧ Sl (kdInt .u8) D1 A589 c590 (r.1.fData) ∧ Sl (kdInt .u8) D1 A592 c593 (r.2.fB)) := by
 unfold rec_Read.f at hf
 have hS := Stp.refl hS0
 clear hS0
 refine calls_body (n := 96) Tryd.func26 rfl Tryd.ntmps26 rfl (fun a hE => ?_)
 have hE : Env a 96 [] [(0, .pointer (some ⟨b1, 0, none⟩))] := hE
 refine wpIn_seq ?_
 refine region_at ?_
 refine at_op (op_alloc (z := .agg (List.toArray (c_T_api_Rec (z_T_api_Rec) none 0 none 0))) rfl rfl rfl rfl hE rfl hS (by kernel_rfl) (fun a b595 w _ hE hS => ?_)) rfl
 refine at_end rfl ?_
 refine wpIn_seq ?_
 refine region_at ?_
 refine sN 1 1 [(4, .pointer (some ⟨b1, 0, none⟩))] hE (fun a hE => ?_)
 have hS := hS.pk (.c 1 rfl (.c 0 rfl .n)) rfl
 obtain ⟨r597, h598, hf⟩ := bind_some hf
 refine aC rfl rfl rfl rfl hE rfl rfl rfl rfl (wire_Reader_Num.calls (g := g) h598 (hS.st.fore (L := [bx b1 66 (c_T_wire_Reader (x3) A4 c5)])) h6) (fun a v w hR hE => ?_)
 obtain ⟨D599, A601, c602, rfl, hS1, h603⟩ := hR
 have le604 := hS1.dle
 have hS := hS.callR hS1 rfl (.c .n)
 clear hS1
 refine at_op (op_tk hE (tk_build (c_T_api_Rec ({ z_T_api_Rec with fKind := r597.1 }) none 0 none 0) rfl rfl rfl rfl hE rfl rfl (by kernel_rfl) (fun a hE => ?_))) rfl
 refine at_op (op_alloc (z := .agg (List.toArray (c_T_api_Rec (z_T_api_Rec) none 0 none 0))) rfl rfl rfl rfl hE rfl hS (by kernel_rfl) (fun a b605 w _ hE hS => ?_)) rfl
 obtain ⟨v607, hv608, hf⟩ := bind_some hf
 replace hv608 := Option.some.inj hv608
 refine at_op (op_store (v := .agg (List.toArray (c_T_api_Rec ({ z_T_api_Rec with fKind := r597.1 }) none 0 none 0))) (c_T_api_Rec (v607) none 0 none 0) rfl rfl rfl rfl hE hS rfl rfl (by kernel_rfl) (by kernel_rfl) (by kernel_rfl) (by kernel_rfl) (by rw [← hv608]; kernel_rfl) (fun a w _ hE hS => ?_)) rfl
 have h609 : Sl kd_T_api_Step D599 none 0 (v607.fSteps) := by rw [← hv608]; exact (Sl.nil kd_T_api_Step D599)
 have h610 : Sl (kdInt .u8) D599 none 0 (v607.fData) := by rw [← hv608]; exact (Sl.nil (kdInt .u8) D599)
 refine at_end rfl ?_
 obtain ⟨j914, hj915, hf⟩ := jn_elim hf
 refine seq_join (fun a w => ∃ (y854 : T_wire_Reader × Int × Int × Int × Int × Int × Bool × Bool × Int × Int × Int × (Vector Int 32) × (List T_api_Step) × (List Int) × (Vector Int 32) × Bool × (Vector Int 32)), ∃ (A857 : Option Addr), ∃ (c858 : Nat), ∃ (A860 : Option Addr), ∃ (c861 : Nat), ∃ (A863 : Option Addr), ∃ (c864 : Nat), ∃ (D855 : Snap), Env a 96 [] [(0, .pointer (some ⟨b1, 0, none⟩)), (2, .pointer (some ⟨b595, 0, none⟩)), (3, .pointer (some ⟨b605, 0, none⟩))] ∧ Stp g w0 D0 [bx b1 66 (c_T_wire_Reader (x3) A4 c5)] w D855 [bx b1 66 (c_T_wire_Reader (y854.1) A857 c858), bx b595 27 (c_T_api_Rec (z_T_api_Rec) none 0 none 0), bx b605 27 (c_T_api_Rec ((T_api_Rec.mk (y854.2.1) (y854.2.2.1) (y854.2.2.2.1) (y854.2.2.2.2.1) (y854.2.2.2.2.2.1) (y854.2.2.2.2.2.2.1) (y854.2.2.2.2.2.2.2.1) (y854.2.2.2.2.2.2.2.2.1) (y854.2.2.2.2.2.2.2.2.2.1) (y854.2.2.2.2.2.2.2.2.2.2.1) (y854.2.2.2.2.2.2.2.2.2.2.2.1) (y854.2.2.2.2.2.2.2.2.2.2.2.2.1) (y854.2.2.2.2.2.2.2.2.2.2.2.2.2.1) (y854.2.2.2.2.2.2.2.2.2.2.2.2.2.2.1) (y854.2.2.2.2.2.2.2.2.2.2.2.2.2.2.2.1) (y854.2.2.2.2.2.2.2.2.2.2.2.2.2.2.2.2))) A860 c861 A863 c864)] ∧ Snap.le D599 D855 ∧ Sl (kdInt .u8) D855 A857 c858 (y854.1.fB) ∧ Sl kd_T_api_Step D855 A860 c861 (y854.2.2.2.2.2.2.2.2.2.2.2.2.1) ∧ Sl (kdInt .u8) D855 A863 c864 (y854.2.2.2.2.2.2.2.2.2.2.2.2.2.1) ∧ j914 y854 = some r) ?_ ?_
 ·clear hj915
  refine wpIn_seq ?_
  refine region_at ?_
  refine aF 0 3 0 hE (fun a hE => ?_)
  refine aL 0 (.int .i64 (v607.fKind)) hE hS (fun a hE => ?_)
  refine at_end rfl ?_
  refine wpIn_block ?_
  refine wpIn_seq ?_
  refine region_at ?_
  refine sN 2 2 [(11, .bool ((decide (v607.fKind = (1 : Int)))))] hE (fun a hE => ?_)
  refine at_end rfl ?_
  refine cond_split hE (b := (decide (v607.fKind = (1 : Int)))) rfl (fun hb => ?_) (fun hb => ?_)
  ·replace hf := cond_t hb hf
   clear hb
   refine wpIn_seq ?_
   refine region_at ?_
   refine sN 1 1 [(13, .pointer (some ⟨b1, 0, none⟩))] hE (fun a hE => ?_)
   have hS := hS.pk (.c 1 rfl (.c 0 rfl (.c 2 rfl .n))) rfl
   obtain ⟨r916, h917, hf⟩ := bind_some hf
   refine aC rfl rfl rfl rfl hE rfl rfl rfl rfl (wire_Reader_Num.calls (g := g) h917 (hS.st.fore (L := [bx b1 66 (c_T_wire_Reader (r597.2) A601 c602)])) h603) (fun a v w hR hE => ?_)
   obtain ⟨D918, A920, c921, rfl, hS1, h922⟩ := hR
   have le923 := hS1.dle
   have hS := hS.callR hS1 rfl (.c .n)
   clear hS1
   refine sN 1 3 [(15, .pointer (some ⟨b1, 0, none⟩))] hE (fun a hE => ?_)
   obtain ⟨r924, h925, hf⟩ := bind_some hf
   refine aC rfl rfl rfl rfl hE rfl rfl rfl rfl (rec_steps.calls (g := g) h925 (hS.st.fore (L := [bx b1 66 (c_T_wire_Reader (r916.2) A920 c921)])) h922) (fun a v w hR hE => ?_)
   obtain ⟨D926, A928, c929, q930, A933, c934, rfl, hS1, h931, h935⟩ := hR
   have le936 := hS1.dle
   have hS := hS.callR hS1 rfl (.c (.c .n))
   clear hS1
   refine aF 1 3 1 hE (fun a hE => ?_)
   have hS := hS.pk (.c 2 rfl (.c 0 rfl (.c 1 rfl (.c 3 rfl .n)))) rfl
   obtain ⟨v937, hv938, hf⟩ := bind_some hf
   replace hv938 := Option.some.inj hv938
   refine at_op (op_store (v := .int .i64 (r916.1)) (c_T_api_Rec (v937) none 0 none 0) rfl rfl rfl rfl hE hS rfl rfl (by kernel_rfl) (by kernel_rfl) (by kernel_rfl) (by kernel_rfl) (by rw [← hv938]; kernel_rfl) (fun a w _ hE hS => ?_)) rfl
   have h939 : Sl kd_T_api_Step D599 none 0 (v937.fSteps) := by rw [← hv938]; exact h609
   have h940 : Sl (kdInt .u8) D599 none 0 (v937.fData) := by rw [← hv938]; exact h610
   refine aF 42 24 42 hE (fun a hE => ?_)
   refine at_op (op_store (v := .slice A928 (List.length (r924.1)) c929) (c_T_api_Rec ({ v937 with fSteps := r924.1 }) A928 c929 none 0) rfl rfl rfl rfl hE hS rfl rfl (by kernel_rfl) (by kernel_rfl) (by kernel_rfl) (by kernel_rfl) (by kernel_rfl) (fun a w _ hE hS => ?_)) rfl
   refine at_end rfl ?_
   refine wpIn_seq ?_
   refine region_at ?_
   refine sN 1 1 [(19, .pointer (some ⟨b1, 0, none⟩))] hE (fun a hE => ?_)
   have hS := hS.pk (.c 1 rfl (.c 0 rfl (.c 2 rfl (.c 3 rfl .n)))) rfl
   obtain ⟨r941, h942, hf⟩ := bind_some hf
   refine aC rfl rfl rfl rfl hE rfl rfl rfl rfl (wire_Reader_Flag.calls (g := g) h942 (hS.st.fore (L := [bx b1 66 (c_T_wire_Reader (r924.2) A933 c934)])) h935) (fun a v w hR hE => ?_)
   obtain ⟨D943, A945, c946, rfl, hS1, h947⟩ := hR
   have le948 := hS1.dle
   have hS := hS.callR hS1 rfl (.c .n)
   clear hS1
   refine aF 76 4 76 hE (fun a hE => ?_)
   have hS := hS.pk (.c 1 rfl (.c 0 rfl (.c 2 rfl (.c 3 rfl .n)))) rfl
   refine at_op (op_store (v := .bool (r941.1)) (c_T_api_Rec ({ v937 with fSteps := r924.1, fGone := r941.1 }) A928 c929 none 0) rfl rfl rfl rfl hE hS rfl rfl (by kernel_rfl) (by kernel_rfl) (by kernel_rfl) (by kernel_rfl) (by kernel_rfl) (fun a w _ hE hS => ?_)) rfl
   refine at_end rfl ?_
   refine wpIn_seq ?_
   refine region_at ?_
   refine aF 76 4 76 hE (fun a hE => ?_)
   refine aL 0 (.bool (r941.1)) hE hS (fun a hE => ?_)
   refine at_end rfl ?_
   refine cond_split hE (b := r941.1) rfl (fun hb => ?_) (fun hb => ?_)
   ·replace hf := cond_t hb hf
    clear hb
    refine region_at ?_
    refine sN 1 1 [(24, .pointer (some ⟨b1, 0, none⟩))] hE (fun a hE => ?_)
    have hS := hS.pk (.c 1 rfl (.c 0 rfl (.c 2 rfl (.c 3 rfl .n)))) rfl
    obtain ⟨r949, h950, hf⟩ := bind_some hf
    refine aC rfl rfl rfl rfl hE rfl rfl rfl rfl (wire_Reader_Hash.calls (g := g) h950 (hS.st.fore (L := [bx b1 66 (c_T_wire_Reader (r941.2) A945 c946)])) h947) (fun a v w hR hE => ?_)
    obtain ⟨D951, A953, c954, rfl, hS1, h955⟩ := hR
    have le956 := hS1.dle
    have hS := hS.callR hS1 rfl (.c .n)
    clear hS1
    refine aF 77 23 77 hE (fun a hE => ?_)
    have hS := hS.pk (.c 1 rfl (.c 0 rfl (.c 2 rfl (.c 3 rfl .n)))) rfl
    refine at_op (op_store (v := .agg (List.toArray (acells .u8 32 (r949.1)))) (c_T_api_Rec ({ v937 with fSteps := r924.1, fGone := r941.1, fCom := r949.1 }) A928 c929 none 0) rfl rfl rfl rfl hE hS rfl rfl (by kernel_rfl) (by kernel_rfl) (by kernel_rfl) (by kernel_rfl) (by kernel_rfl) (fun a w _ hE hS => ?_)) rfl
    refine at_end rfl ?_
    have hS := hS.pk (.c 2 rfl (.c 0 rfl (.c 1 rfl (.c 3 rfl .n)))) rfl
    obtain ⟨D957, q960, le958, hS, h961, h959⟩ := hS.lent (h931.mono (le2 le948 le956))
    have hS := hS.pk (.c 2 rfl (.c 3 rfl (.c 1 rfl .n))) rfl
    exact ⟨(r949.2, v937.fKind, v937.fSaga, v937.fSeq, v937.fStep, v937.fTry, v937.fBack, v937.fGood, v937.fEnd, v937.fPart, v937.fEpoch, v937.fTag, r924.1, v937.fData, v937.fSalt, r941.1, r949.1), A953, c954, A928, c929, none, 0, D957, hE.weak (by kernel_rfl), hS, (le2 (le2 (le2 (le2 le923 le936) le948) le956) le958), (h955.mono le958), h959, (h940.mono (le2 (le2 (le2 (le2 le923 le936) le948) le956) le958)), hf⟩
   ·replace hf := cond_f hb hf
    clear hb
    refine region_at ?_
    refine sN 1 1 [(27, .pointer (some ⟨b1, 0, none⟩))] hE (fun a hE => ?_)
    have hS := hS.pk (.c 1 rfl (.c 0 rfl (.c 2 rfl (.c 3 rfl .n)))) rfl
    obtain ⟨r962, h963, hf⟩ := bind_some hf
    refine aC rfl rfl rfl rfl hE rfl rfl rfl rfl (wire_Reader_Hash.calls (g := g) h963 (hS.st.fore (L := [bx b1 66 (c_T_wire_Reader (r941.2) A945 c946)])) h947) (fun a v w hR hE => ?_)
    obtain ⟨D964, A966, c967, rfl, hS1, h968⟩ := hR
    have le969 := hS1.dle
    have hS := hS.callR hS1 rfl (.c .n)
    clear hS1
    refine sN 1 3 [(29, .pointer (some ⟨b1, 0, none⟩))] hE (fun a hE => ?_)
    obtain ⟨r970, h971, hf⟩ := bind_some hf
    refine aC rfl rfl rfl rfl hE rfl rfl rfl rfl (wire_Reader_Bytes.calls (g := g) h971 (hS.st.fore (L := [bx b1 66 (c_T_wire_Reader (r962.2) A966 c967)])) h968) (fun a v w hR hE => ?_)
    obtain ⟨D972, A974, c975, q976, A979, c980, rfl, hS1, h977, h981⟩ := hR
    have le982 := hS1.dle
    have hS := hS.callR hS1 rfl (.c (.c .n))
    clear hS1
    refine aF 44 23 44 hE (fun a hE => ?_)
    have hS := hS.pk (.c 2 rfl (.c 0 rfl (.c 1 rfl (.c 3 rfl (.c 4 rfl .n))))) rfl
    refine at_op (op_store (v := .agg (List.toArray (acells .u8 32 (r962.1)))) (c_T_api_Rec ({ v937 with fSteps := r924.1, fSalt := r962.1, fGone := r941.1 }) A928 c929 none 0) rfl rfl rfl rfl hE hS rfl rfl (by kernel_rfl) (by kernel_rfl) (by kernel_rfl) (by kernel_rfl) (by kernel_rfl) (fun a w _ hE hS => ?_)) rfl
    refine aF 43 25 43 hE (fun a hE => ?_)
    refine at_op (op_store (v := .slice A974 (List.length (r970.1)) c975) (c_T_api_Rec ({ v937 with fSteps := r924.1, fData := r970.1, fSalt := r962.1, fGone := r941.1 }) A928 c929 A974 c975) rfl rfl rfl rfl hE hS rfl rfl (by kernel_rfl) (by kernel_rfl) (by kernel_rfl) (by kernel_rfl) (by kernel_rfl) (fun a w _ hE hS => ?_)) rfl
    refine at_end rfl ?_
    have hS := hS.pk (.c 3 rfl (.c 0 rfl (.c 1 rfl (.c 2 rfl (.c 4 rfl .n))))) rfl
    obtain ⟨D983, q986, le984, hS, h987, h985⟩ := hS.lent (h931.mono (le2 (le2 le948 le969) le982))
    have hS := hS.pk (.c 3 rfl (.c 0 rfl (.c 1 rfl (.c 2 rfl (.c 4 rfl .n))))) rfl
    obtain ⟨D988, q991, le989, hS, h992, h990⟩ := hS.lent (h977.mono le984)
    have hS := hS.pk (.c 3 rfl (.c 4 rfl (.c 2 rfl .n))) rfl
    exact ⟨(r970.2, v937.fKind, v937.fSaga, v937.fSeq, v937.fStep, v937.fTry, v937.fBack, v937.fGood, v937.fEnd, v937.fPart, v937.fEpoch, v937.fTag, r924.1, r970.1, r962.1, r941.1, v937.fCom), A979, c980, A928, c929, A974, c975, D988, hE.weak (by kernel_rfl), hS, (le2 (le2 (le2 (le2 (le2 (le2 le923 le936) le948) le969) le982) le984) le989), (h981.mono (le2 le984 le989)), (h985.mono le989), h990, hf⟩
  ·replace hf := cond_f hb hf
   clear hb
   obtain ⟨j1172, hj1173, hf⟩ := jn_elim hf
   refine seq_join (fun a w => ∃ (y993 : Bool), ∃ (D994 : Snap), Env a 96 [] [(0, .pointer (some ⟨b1, 0, none⟩)), (2, .pointer (some ⟨b595, 0, none⟩)), (3, .pointer (some ⟨b605, 0, none⟩)), (8, .int .i64 (v607.fKind)), (33, .bool (y993))] ∧ Stp g w0 D0 [bx b1 66 (c_T_wire_Reader (x3) A4 c5)] w D994 [bx b1 66 (c_T_wire_Reader (r597.2) A601 c602), bx b595 27 (c_T_api_Rec (z_T_api_Rec) none 0 none 0), bx b605 27 (c_T_api_Rec (v607) none 0 none 0)] ∧ Snap.le D599 D994 ∧ j1172 y993 = some r) ?_ ?_
   ·clear hj1173
    refine wpIn_seq ?_
    refine region_at ?_
    refine sN 2 2 [(33, .bool ((decide (v607.fKind = (2 : Int)))))] hE (fun a hE => ?_)
    refine at_end rfl ?_
    refine cond_split hE (b := (decide (v607.fKind = (2 : Int)))) rfl (fun hb => ?_) (fun hb => ?_)
    ·replace hf := cond_t hb hf
     clear hb
     refine wpIn_skip ?_
     have hS := hS.pk (.c 1 rfl (.c 2 rfl (.c 0 rfl .n))) rfl
     exact ⟨(decide (v607.fKind = (2 : Int))), D599, hE.weak (by kernel_rfl), hS, Snap.le.refl _, hf⟩
    ·replace hf := cond_f hb hf
     clear hb
     refine wpIn_seq ?_
     refine region_at ?_
     refine sN 2 2 [(33, .bool ((decide (v607.fKind = (4 : Int)))))] hE (fun a hE => ?_)
     refine at_end rfl ?_
     refine cond_split hE (b := (decide (v607.fKind = (4 : Int)))) rfl (fun hb => ?_) (fun hb => ?_)
     ·replace hf := cond_t hb hf
      clear hb
      refine wpIn_skip ?_
      have hS := hS.pk (.c 1 rfl (.c 2 rfl (.c 0 rfl .n))) rfl
      exact ⟨(decide (v607.fKind = (4 : Int))), D599, hE.weak (by kernel_rfl), hS, Snap.le.refl _, hf⟩
     ·replace hf := cond_f hb hf
      clear hb
      refine region_at ?_
      refine sN 2 2 [(33, .bool ((decide (v607.fKind = (3 : Int)))))] hE (fun a hE => ?_)
      refine at_end rfl ?_
      have hS := hS.pk (.c 1 rfl (.c 2 rfl (.c 0 rfl .n))) rfl
      exact ⟨(decide (v607.fKind = (3 : Int))), D599, hE.weak (by kernel_rfl), hS, Snap.le.refl _, hf⟩
   ·clear hE hS
    rintro a w ⟨y993, D994, hE, hS, le995, hf⟩
    replace hf := hj1173 _ hf
    clear hj1173
    refine cond_split hE (b := y993) rfl (fun hb => ?_) (fun hb => ?_)
    ·replace hf := cond_t hb hf
     clear hb
     refine wpIn_seq ?_
     refine region_at ?_
     refine sN 1 1 [(37, .pointer (some ⟨b1, 0, none⟩))] hE (fun a hE => ?_)
     obtain ⟨r996, h997, hf⟩ := bind_some hf
     refine aC rfl rfl rfl rfl hE rfl rfl rfl rfl (wire_Reader_Num.calls (g := g) h997 (hS.st.fore (L := [bx b1 66 (c_T_wire_Reader (r597.2) A601 c602)])) (h603.mono le995)) (fun a v w hR hE => ?_)
     obtain ⟨D998, A1000, c1001, rfl, hS1, h1002⟩ := hR
     have le1003 := hS1.dle
     have hS := hS.callR hS1 rfl (.c .n)
     clear hS1
     refine sN 1 3 [(39, .pointer (some ⟨b1, 0, none⟩))] hE (fun a hE => ?_)
     obtain ⟨r1004, h1005, hf⟩ := bind_some hf
     refine aC rfl rfl rfl rfl hE rfl rfl rfl rfl (wire_Reader_Num.calls (g := g) h1005 (hS.st.fore (L := [bx b1 66 (c_T_wire_Reader (r996.2) A1000 c1001)])) h1002) (fun a v w hR hE => ?_)
     obtain ⟨D1006, A1008, c1009, rfl, hS1, h1010⟩ := hR
     have le1011 := hS1.dle
     have hS := hS.callR hS1 rfl (.c .n)
     clear hS1
     refine sN 1 5 [(41, .pointer (some ⟨b1, 0, none⟩))] hE (fun a hE => ?_)
     obtain ⟨r1012, h1013, hf⟩ := bind_some hf
     refine aC rfl rfl rfl rfl hE rfl rfl rfl rfl (wire_Reader_Num.calls (g := g) h1013 (hS.st.fore (L := [bx b1 66 (c_T_wire_Reader (r1004.2) A1008 c1009)])) h1010) (fun a v w hR hE => ?_)
     obtain ⟨D1014, A1016, c1017, rfl, hS1, h1018⟩ := hR
     have le1019 := hS1.dle
     have hS := hS.callR hS1 rfl (.c .n)
     clear hS1
     refine sN 1 7 [(43, .pointer (some ⟨b1, 0, none⟩))] hE (fun a hE => ?_)
     obtain ⟨r1020, h1021, hf⟩ := bind_some hf
     refine aC rfl rfl rfl rfl hE rfl rfl rfl rfl (wire_Reader_Num.calls (g := g) h1021 (hS.st.fore (L := [bx b1 66 (c_T_wire_Reader (r1012.2) A1016 c1017)])) h1018) (fun a v w hR hE => ?_)
     obtain ⟨D1022, A1024, c1025, rfl, hS1, h1026⟩ := hR
     have le1027 := hS1.dle
     have hS := hS.callR hS1 rfl (.c .n)
     clear hS1
     refine sN 1 9 [(45, .pointer (some ⟨b1, 0, none⟩))] hE (fun a hE => ?_)
     obtain ⟨r1028, h1029, hf⟩ := bind_some hf
     refine aC rfl rfl rfl rfl hE rfl rfl rfl rfl (wire_Reader_Flag.calls (g := g) h1029 (hS.st.fore (L := [bx b1 66 (c_T_wire_Reader (r1020.2) A1024 c1025)])) h1026) (fun a v w hR hE => ?_)
     obtain ⟨D1030, A1032, c1033, rfl, hS1, h1034⟩ := hR
     have le1035 := hS1.dle
     have hS := hS.callR hS1 rfl (.c .n)
     clear hS1
     refine aF 1 3 1 hE (fun a hE => ?_)
     have hS := hS.pk (.c 2 rfl (.c 0 rfl (.c 1 rfl .n))) rfl
     obtain ⟨v1036, hv1037, hf⟩ := bind_some hf
     replace hv1037 := Option.some.inj hv1037
     refine at_op (op_store (v := .int .i64 (r996.1)) (c_T_api_Rec (v1036) none 0 none 0) rfl rfl rfl rfl hE hS rfl rfl (by kernel_rfl) (by kernel_rfl) (by kernel_rfl) (by kernel_rfl) (by rw [← hv1037]; kernel_rfl) (fun a w _ hE hS => ?_)) rfl
     have h1038 : Sl kd_T_api_Step D599 none 0 (v1036.fSteps) := by rw [← hv1037]; exact h609
     have h1039 : Sl (kdInt .u8) D599 none 0 (v1036.fData) := by rw [← hv1037]; exact h610
     refine aF 2 3 2 hE (fun a hE => ?_)
     obtain ⟨v1040, hv1041, hf⟩ := bind_some hf
     replace hv1041 := Option.some.inj hv1041
     refine at_op (op_store (v := .int .i64 (r1004.1)) (c_T_api_Rec (v1040) none 0 none 0) rfl rfl rfl rfl hE hS rfl rfl (by kernel_rfl) (by kernel_rfl) (by kernel_rfl) (by kernel_rfl) (by rw [← hv1041]; kernel_rfl) (fun a w _ hE hS => ?_)) rfl
     have h1042 : Sl kd_T_api_Step D599 none 0 (v1040.fSteps) := by rw [← hv1041]; exact h1038
     have h1043 : Sl (kdInt .u8) D599 none 0 (v1040.fData) := by rw [← hv1041]; exact h1039
     refine aF 3 3 3 hE (fun a hE => ?_)
     obtain ⟨v1044, hv1045, hf⟩ := bind_some hf
     replace hv1045 := Option.some.inj hv1045
     refine at_op (op_store (v := .int .i64 (r1012.1)) (c_T_api_Rec (v1044) none 0 none 0) rfl rfl rfl rfl hE hS rfl rfl (by kernel_rfl) (by kernel_rfl) (by kernel_rfl) (by kernel_rfl) (by rw [← hv1045]; kernel_rfl) (fun a w _ hE hS => ?_)) rfl
     have h1046 : Sl kd_T_api_Step D599 none 0 (v1044.fSteps) := by rw [← hv1045]; exact h1042
     have h1047 : Sl (kdInt .u8) D599 none 0 (v1044.fData) := by rw [← hv1045]; exact h1043
     refine aF 4 3 4 hE (fun a hE => ?_)
     obtain ⟨v1048, hv1049, hf⟩ := bind_some hf
     replace hv1049 := Option.some.inj hv1049
     refine at_op (op_store (v := .int .i64 (r1020.1)) (c_T_api_Rec (v1048) none 0 none 0) rfl rfl rfl rfl hE hS rfl rfl (by kernel_rfl) (by kernel_rfl) (by kernel_rfl) (by kernel_rfl) (by rw [← hv1049]; kernel_rfl) (fun a w _ hE hS => ?_)) rfl
     have h1050 : Sl kd_T_api_Step D599 none 0 (v1048.fSteps) := by rw [← hv1049]; exact h1046
     have h1051 : Sl (kdInt .u8) D599 none 0 (v1048.fData) := by rw [← hv1049]; exact h1047
     refine aF 5 4 5 hE (fun a hE => ?_)
     obtain ⟨v1052, hv1053, hf⟩ := bind_some hf
     replace hv1053 := Option.some.inj hv1053
     refine at_op (op_store (v := .bool (r1028.1)) (c_T_api_Rec (v1052) none 0 none 0) rfl rfl rfl rfl hE hS rfl rfl (by kernel_rfl) (by kernel_rfl) (by kernel_rfl) (by kernel_rfl) (by rw [← hv1053]; kernel_rfl) (fun a w _ hE hS => ?_)) rfl
     have h1054 : Sl kd_T_api_Step D599 none 0 (v1052.fSteps) := by rw [← hv1053]; exact h1050
     have h1055 : Sl (kdInt .u8) D599 none 0 (v1052.fData) := by rw [← hv1053]; exact h1051
     refine at_end rfl ?_
     refine wpIn_seq ?_
     refine region_at ?_
     refine aF 0 3 0 hE (fun a hE => ?_)
     refine aL 0 (.int .i64 (v1052.fKind)) hE hS (fun a hE => ?_)
     refine sN 1 3 [(54, .bool ((decide (v1052.fKind = (3 : Int)))))] hE (fun a hE => ?_)
     refine at_end rfl ?_
     refine cond_split hE (b := (decide (v1052.fKind = (3 : Int)))) rfl (fun hb => ?_) (fun hb => ?_)
     ·replace hf := cond_t hb hf
      clear hb
      refine region_at ?_
      refine sN 1 1 [(55, .pointer (some ⟨b1, 0, none⟩))] hE (fun a hE => ?_)
      have hS := hS.pk (.c 1 rfl (.c 0 rfl (.c 2 rfl .n))) rfl
      obtain ⟨r1056, h1057, hf⟩ := bind_some hf
      refine aC rfl rfl rfl rfl hE rfl rfl rfl rfl (wire_Reader_Flag.calls (g := g) h1057 (hS.st.fore (L := [bx b1 66 (c_T_wire_Reader (r1028.2) A1032 c1033)])) h1034) (fun a v w hR hE => ?_)
      obtain ⟨D1058, A1060, c1061, rfl, hS1, h1062⟩ := hR
      have le1063 := hS1.dle
      have hS := hS.callR hS1 rfl (.c .n)
      clear hS1
      refine sN 1 3 [(57, .pointer (some ⟨b1, 0, none⟩))] hE (fun a hE => ?_)
      obtain ⟨r1064, h1065, hf⟩ := bind_some hf
      refine aC rfl rfl rfl rfl hE rfl rfl rfl rfl (wire_Reader_Num.calls (g := g) h1065 (hS.st.fore (L := [bx b1 66 (c_T_wire_Reader (r1056.2) A1060 c1061)])) h1062) (fun a v w hR hE => ?_)
      obtain ⟨D1066, A1068, c1069, rfl, hS1, h1070⟩ := hR
      have le1071 := hS1.dle
      have hS := hS.callR hS1 rfl (.c .n)
      clear hS1
      refine sN 1 5 [(59, .pointer (some ⟨b1, 0, none⟩))] hE (fun a hE => ?_)
      obtain ⟨r1072, h1073, hf⟩ := bind_some hf
      refine aC rfl rfl rfl rfl hE rfl rfl rfl rfl (wire_Reader_Num.calls (g := g) h1073 (hS.st.fore (L := [bx b1 66 (c_T_wire_Reader (r1064.2) A1068 c1069)])) h1070) (fun a v w hR hE => ?_)
      obtain ⟨D1074, A1076, c1077, rfl, hS1, h1078⟩ := hR
      have le1079 := hS1.dle
      have hS := hS.callR hS1 rfl (.c .n)
      clear hS1
      refine sN 1 7 [(61, .pointer (some ⟨b1, 0, none⟩))] hE (fun a hE => ?_)
      obtain ⟨r1080, h1081, hf⟩ := bind_some hf
      refine aC rfl rfl rfl rfl hE rfl rfl rfl rfl (wire_Reader_Hash.calls (g := g) h1081 (hS.st.fore (L := [bx b1 66 (c_T_wire_Reader (r1072.2) A1076 c1077)])) h1078) (fun a v w hR hE => ?_)
      obtain ⟨D1082, A1084, c1085, rfl, hS1, h1086⟩ := hR
      have le1087 := hS1.dle
      have hS := hS.callR hS1 rfl (.c .n)
      clear hS1
      refine aF 6 4 6 hE (fun a hE => ?_)
      have hS := hS.pk (.c 1 rfl (.c 0 rfl (.c 2 rfl .n))) rfl
      obtain ⟨v1088, hv1089, hf⟩ := bind_some hf
      replace hv1089 := Option.some.inj hv1089
      refine at_op (op_store (v := .bool (r1056.1)) (c_T_api_Rec (v1088) none 0 none 0) rfl rfl rfl rfl hE hS rfl rfl (by kernel_rfl) (by kernel_rfl) (by kernel_rfl) (by kernel_rfl) (by rw [← hv1089]; kernel_rfl) (fun a w _ hE hS => ?_)) rfl
      have h1090 : Sl kd_T_api_Step D599 none 0 (v1088.fSteps) := by rw [← hv1089]; exact h1054
      have h1091 : Sl (kdInt .u8) D599 none 0 (v1088.fData) := by rw [← hv1089]; exact h1055
      refine aF 8 3 8 hE (fun a hE => ?_)
      obtain ⟨v1092, hv1093, hf⟩ := bind_some hf
      replace hv1093 := Option.some.inj hv1093
      refine at_op (op_store (v := .int .i64 (r1064.1)) (c_T_api_Rec (v1092) none 0 none 0) rfl rfl rfl rfl hE hS rfl rfl (by kernel_rfl) (by kernel_rfl) (by kernel_rfl) (by kernel_rfl) (by rw [← hv1093]; kernel_rfl) (fun a w _ hE hS => ?_)) rfl
      have h1094 : Sl kd_T_api_Step D599 none 0 (v1092.fSteps) := by rw [← hv1093]; exact h1090
      have h1095 : Sl (kdInt .u8) D599 none 0 (v1092.fData) := by rw [← hv1093]; exact h1091
      refine aF 9 3 9 hE (fun a hE => ?_)
      obtain ⟨v1096, hv1097, hf⟩ := bind_some hf
      replace hv1097 := Option.some.inj hv1097
      refine at_op (op_store (v := .int .i64 (r1072.1)) (c_T_api_Rec (v1096) none 0 none 0) rfl rfl rfl rfl hE hS rfl rfl (by kernel_rfl) (by kernel_rfl) (by kernel_rfl) (by kernel_rfl) (by rw [← hv1097]; kernel_rfl) (fun a w _ hE hS => ?_)) rfl
      have h1098 : Sl kd_T_api_Step D599 none 0 (v1096.fSteps) := by rw [← hv1097]; exact h1094
      have h1099 : Sl (kdInt .u8) D599 none 0 (v1096.fData) := by rw [← hv1097]; exact h1095
      refine aF 10 23 10 hE (fun a hE => ?_)
      obtain ⟨v1100, hv1101, hf⟩ := bind_some hf
      replace hv1101 := Option.some.inj hv1101
      refine at_op (op_store (v := .agg (List.toArray (acells .u8 32 (r1080.1)))) (c_T_api_Rec (v1100) none 0 none 0) rfl rfl rfl rfl hE hS rfl rfl (by kernel_rfl) (by kernel_rfl) (by kernel_rfl) (by kernel_rfl) (by rw [← hv1101]; kernel_rfl) (fun a w _ hE hS => ?_)) rfl
      have h1102 : Sl kd_T_api_Step D599 none 0 (v1100.fSteps) := by rw [← hv1101]; exact h1098
      have h1103 : Sl (kdInt .u8) D599 none 0 (v1100.fData) := by rw [← hv1101]; exact h1099
      refine at_end rfl ?_
      have hS := hS.pk (.c 1 rfl (.c 2 rfl (.c 0 rfl .n))) rfl
      exact ⟨(r1080.2, v1100.fKind, v1100.fSaga, v1100.fSeq, v1100.fStep, v1100.fTry, v1100.fBack, v1100.fGood, v1100.fEnd, v1100.fPart, v1100.fEpoch, v1100.fTag, v1100.fSteps, v1100.fData, v1100.fSalt, v1100.fGone, v1100.fCom), A1084, c1085, none, 0, none, 0, D1082, hE.weak (by kernel_rfl), hS, (le2 (le2 (le2 (le2 (le2 (le2 (le2 (le2 (le2 le995 le1003) le1011) le1019) le1027) le1035) le1063) le1071) le1079) le1087), h1086, (h1102.mono (le2 (le2 (le2 (le2 (le2 (le2 (le2 (le2 (le2 le995 le1003) le1011) le1019) le1027) le1035) le1063) le1071) le1079) le1087)), (h1103.mono (le2 (le2 (le2 (le2 (le2 (le2 (le2 (le2 (le2 le995 le1003) le1011) le1019) le1027) le1035) le1063) le1071) le1079) le1087)), hf⟩
     ·replace hf := cond_f hb hf
      clear hb
      refine wpIn_skip ?_
      have hS := hS.pk (.c 1 rfl (.c 2 rfl (.c 0 rfl .n))) rfl
      exact ⟨(r1028.2, v1052.fKind, v1052.fSaga, v1052.fSeq, v1052.fStep, v1052.fTry, v1052.fBack, v1052.fGood, v1052.fEnd, v1052.fPart, v1052.fEpoch, v1052.fTag, v1052.fSteps, v1052.fData, v1052.fSalt, v1052.fGone, v1052.fCom), A1032, c1033, none, 0, none, 0, D1030, hE.weak (by kernel_rfl), hS, (le2 (le2 (le2 (le2 (le2 le995 le1003) le1011) le1019) le1027) le1035), h1034, (h1054.mono (le2 (le2 (le2 (le2 (le2 le995 le1003) le1011) le1019) le1027) le1035)), (h1055.mono (le2 (le2 (le2 (le2 (le2 le995 le1003) le1011) le1019) le1027) le1035)), hf⟩
    ·replace hf := cond_f hb hf
     clear hb
     refine wpIn_seq ?_
     refine region_at ?_
     refine sN 2 2 [(67, .bool ((decide (v607.fKind = (5 : Int)))))] hE (fun a hE => ?_)
     refine at_end rfl ?_
     refine cond_split hE (b := (decide (v607.fKind = (5 : Int)))) rfl (fun hb => ?_) (fun hb => ?_)
     ·replace hf := cond_t hb hf
      clear hb
      refine region_at ?_
      refine sN 1 1 [(69, .pointer (some ⟨b1, 0, none⟩))] hE (fun a hE => ?_)
      obtain ⟨r1104, h1105, hf⟩ := bind_some hf
      refine aC rfl rfl rfl rfl hE rfl rfl rfl rfl (wire_Reader_Num.calls (g := g) h1105 (hS.st.fore (L := [bx b1 66 (c_T_wire_Reader (r597.2) A601 c602)])) (h603.mono le995)) (fun a v w hR hE => ?_)
      obtain ⟨D1106, A1108, c1109, rfl, hS1, h1110⟩ := hR
      have le1111 := hS1.dle
      have hS := hS.callR hS1 rfl (.c .n)
      clear hS1
      refine sN 1 3 [(71, .pointer (some ⟨b1, 0, none⟩))] hE (fun a hE => ?_)
      obtain ⟨r1112, h1113, hf⟩ := bind_some hf
      refine aC rfl rfl rfl rfl hE rfl rfl rfl rfl (wire_Reader_Num.calls (g := g) h1113 (hS.st.fore (L := [bx b1 66 (c_T_wire_Reader (r1104.2) A1108 c1109)])) h1110) (fun a v w hR hE => ?_)
      obtain ⟨D1114, A1116, c1117, rfl, hS1, h1118⟩ := hR
      have le1119 := hS1.dle
      have hS := hS.callR hS1 rfl (.c .n)
      clear hS1
      refine sN 1 5 [(73, .pointer (some ⟨b1, 0, none⟩))] hE (fun a hE => ?_)
      obtain ⟨r1120, h1121, hf⟩ := bind_some hf
      refine aC rfl rfl rfl rfl hE rfl rfl rfl rfl (wire_Reader_Num.calls (g := g) h1121 (hS.st.fore (L := [bx b1 66 (c_T_wire_Reader (r1112.2) A1116 c1117)])) h1118) (fun a v w hR hE => ?_)
      obtain ⟨D1122, A1124, c1125, rfl, hS1, h1126⟩ := hR
      have le1127 := hS1.dle
      have hS := hS.callR hS1 rfl (.c .n)
      clear hS1
      refine aF 1 3 1 hE (fun a hE => ?_)
      have hS := hS.pk (.c 2 rfl (.c 0 rfl (.c 1 rfl .n))) rfl
      obtain ⟨v1128, hv1129, hf⟩ := bind_some hf
      replace hv1129 := Option.some.inj hv1129
      refine at_op (op_store (v := .int .i64 (r1104.1)) (c_T_api_Rec (v1128) none 0 none 0) rfl rfl rfl rfl hE hS rfl rfl (by kernel_rfl) (by kernel_rfl) (by kernel_rfl) (by kernel_rfl) (by rw [← hv1129]; kernel_rfl) (fun a w _ hE hS => ?_)) rfl
      have h1130 : Sl kd_T_api_Step D599 none 0 (v1128.fSteps) := by rw [← hv1129]; exact h609
      have h1131 : Sl (kdInt .u8) D599 none 0 (v1128.fData) := by rw [← hv1129]; exact h610
      refine aF 2 3 2 hE (fun a hE => ?_)
      obtain ⟨v1132, hv1133, hf⟩ := bind_some hf
      replace hv1133 := Option.some.inj hv1133
      refine at_op (op_store (v := .int .i64 (r1112.1)) (c_T_api_Rec (v1132) none 0 none 0) rfl rfl rfl rfl hE hS rfl rfl (by kernel_rfl) (by kernel_rfl) (by kernel_rfl) (by kernel_rfl) (by rw [← hv1133]; kernel_rfl) (fun a w _ hE hS => ?_)) rfl
      have h1134 : Sl kd_T_api_Step D599 none 0 (v1132.fSteps) := by rw [← hv1133]; exact h1130
      have h1135 : Sl (kdInt .u8) D599 none 0 (v1132.fData) := by rw [← hv1133]; exact h1131
      refine aF 7 3 7 hE (fun a hE => ?_)
      obtain ⟨v1136, hv1137, hf⟩ := bind_some hf
      replace hv1137 := Option.some.inj hv1137
      refine at_op (op_store (v := .int .i64 (r1120.1)) (c_T_api_Rec (v1136) none 0 none 0) rfl rfl rfl rfl hE hS rfl rfl (by kernel_rfl) (by kernel_rfl) (by kernel_rfl) (by kernel_rfl) (by rw [← hv1137]; kernel_rfl) (fun a w _ hE hS => ?_)) rfl
      have h1138 : Sl kd_T_api_Step D599 none 0 (v1136.fSteps) := by rw [← hv1137]; exact h1134
      have h1139 : Sl (kdInt .u8) D599 none 0 (v1136.fData) := by rw [← hv1137]; exact h1135
      refine at_end rfl ?_
      have hS := hS.pk (.c 1 rfl (.c 2 rfl (.c 0 rfl .n))) rfl
      exact ⟨(r1120.2, v1136.fKind, v1136.fSaga, v1136.fSeq, v1136.fStep, v1136.fTry, v1136.fBack, v1136.fGood, v1136.fEnd, v1136.fPart, v1136.fEpoch, v1136.fTag, v1136.fSteps, v1136.fData, v1136.fSalt, v1136.fGone, v1136.fCom), A1124, c1125, none, 0, none, 0, D1122, hE.weak (by kernel_rfl), hS, (le2 (le2 (le2 le995 le1111) le1119) le1127), h1126, (h1138.mono (le2 (le2 (le2 le995 le1111) le1119) le1127)), (h1139.mono (le2 (le2 (le2 le995 le1111) le1119) le1127)), hf⟩
     ·replace hf := cond_f hb hf
      clear hb
      refine wpIn_seq ?_
      refine region_at ?_
      refine sN 2 2 [(78, .bool ((decide (v607.fKind = (6 : Int)))))] hE (fun a hE => ?_)
      refine at_end rfl ?_
      refine cond_split hE (b := (decide (v607.fKind = (6 : Int)))) rfl (fun hb => ?_) (fun hb => ?_)
      ·replace hf := cond_t hb hf
       clear hb
       refine region_at ?_
       refine sN 1 1 [(80, .pointer (some ⟨b1, 0, none⟩))] hE (fun a hE => ?_)
       obtain ⟨r1140, h1141, hf⟩ := bind_some hf
       refine aC rfl rfl rfl rfl hE rfl rfl rfl rfl (wire_Reader_Num.calls (g := g) h1141 (hS.st.fore (L := [bx b1 66 (c_T_wire_Reader (r597.2) A601 c602)])) (h603.mono le995)) (fun a v w hR hE => ?_)
       obtain ⟨D1142, A1144, c1145, rfl, hS1, h1146⟩ := hR
       have le1147 := hS1.dle
       have hS := hS.callR hS1 rfl (.c .n)
       clear hS1
       refine sN 1 3 [(82, .pointer (some ⟨b1, 0, none⟩))] hE (fun a hE => ?_)
       obtain ⟨r1148, h1149, hf⟩ := bind_some hf
       refine aC rfl rfl rfl rfl hE rfl rfl rfl rfl (wire_Reader_Num.calls (g := g) h1149 (hS.st.fore (L := [bx b1 66 (c_T_wire_Reader (r1140.2) A1144 c1145)])) h1146) (fun a v w hR hE => ?_)
       obtain ⟨D1150, A1152, c1153, rfl, hS1, h1154⟩ := hR
       have le1155 := hS1.dle
       have hS := hS.callR hS1 rfl (.c .n)
       clear hS1
       refine aF 8 3 8 hE (fun a hE => ?_)
       have hS := hS.pk (.c 2 rfl (.c 0 rfl (.c 1 rfl .n))) rfl
       obtain ⟨v1156, hv1157, hf⟩ := bind_some hf
       replace hv1157 := Option.some.inj hv1157
       refine at_op (op_store (v := .int .i64 (r1140.1)) (c_T_api_Rec (v1156) none 0 none 0) rfl rfl rfl rfl hE hS rfl rfl (by kernel_rfl) (by kernel_rfl) (by kernel_rfl) (by kernel_rfl) (by rw [← hv1157]; kernel_rfl) (fun a w _ hE hS => ?_)) rfl
       have h1158 : Sl kd_T_api_Step D599 none 0 (v1156.fSteps) := by rw [← hv1157]; exact h609
       have h1159 : Sl (kdInt .u8) D599 none 0 (v1156.fData) := by rw [← hv1157]; exact h610
       refine aF 9 3 9 hE (fun a hE => ?_)
       obtain ⟨v1160, hv1161, hf⟩ := bind_some hf
       replace hv1161 := Option.some.inj hv1161
       refine at_op (op_store (v := .int .i64 (r1148.1)) (c_T_api_Rec (v1160) none 0 none 0) rfl rfl rfl rfl hE hS rfl rfl (by kernel_rfl) (by kernel_rfl) (by kernel_rfl) (by kernel_rfl) (by rw [← hv1161]; kernel_rfl) (fun a w _ hE hS => ?_)) rfl
       have h1162 : Sl kd_T_api_Step D599 none 0 (v1160.fSteps) := by rw [← hv1161]; exact h1158
       have h1163 : Sl (kdInt .u8) D599 none 0 (v1160.fData) := by rw [← hv1161]; exact h1159
       refine at_end rfl ?_
       have hS := hS.pk (.c 1 rfl (.c 2 rfl (.c 0 rfl .n))) rfl
       exact ⟨(r1148.2, v1160.fKind, v1160.fSaga, v1160.fSeq, v1160.fStep, v1160.fTry, v1160.fBack, v1160.fGood, v1160.fEnd, v1160.fPart, v1160.fEpoch, v1160.fTag, v1160.fSteps, v1160.fData, v1160.fSalt, v1160.fGone, v1160.fCom), A1152, c1153, none, 0, none, 0, D1150, hE.weak (by kernel_rfl), hS, (le2 (le2 le995 le1147) le1155), h1154, (h1162.mono (le2 (le2 le995 le1147) le1155)), (h1163.mono (le2 (le2 le995 le1147) le1155)), hf⟩
      ·replace hf := cond_f hb hf
       clear hb
       refine region_at ?_
       refine sN 1 1 [(9, .pointer (some ⟨b1, 0, none⟩))] hE (fun a hE => ?_)
       obtain ⟨r1164, h1165, hf⟩ := bind_some hf
       refine aC rfl rfl rfl rfl hE rfl rfl rfl rfl (wire_Reader_Fail.calls (g := g) h1165 (hS.st.fore (L := [bx b1 66 (c_T_wire_Reader (r597.2) A601 c602)])) (h603.mono le995)) (fun a v w hR hE => ?_)
       obtain ⟨D1166, A1168, c1169, rfl, hS1, h1170⟩ := hR
       have le1171 := hS1.dle
       have hS := hS.callR hS1 rfl (.c .n)
       clear hS1
       refine at_end rfl ?_
       exact ⟨(r1164, v607.fKind, v607.fSaga, v607.fSeq, v607.fStep, v607.fTry, v607.fBack, v607.fGood, v607.fEnd, v607.fPart, v607.fEpoch, v607.fTag, v607.fSteps, v607.fData, v607.fSalt, v607.fGone, v607.fCom), A1168, c1169, none, 0, none, 0, D1166, hE.weak (by kernel_rfl), hS, (le2 le995 le1171), h1170, (h609.mono (le2 le995 le1171)), (h610.mono (le2 le995 le1171)), hf⟩
 ·clear hE hS
  rintro a w ⟨y854, A857, c858, A860, c861, A863, c864, D855, hE, hS, le856, h859, h862, h865, hf⟩
  replace hf := hj915 _ hf
  clear hj915
  obtain ⟨j899, hj900, hf⟩ := jn_elim hf
  refine seq_join (fun a w => ∃ (y879 : T_wire_Reader), ∃ (A882 : Option Addr), ∃ (c883 : Nat), ∃ (D880 : Snap), Env a 96 [] [(0, .pointer (some ⟨b1, 0, none⟩)), (2, .pointer (some ⟨b595, 0, none⟩)), (3, .pointer (some ⟨b605, 0, none⟩))] ∧ Stp g w0 D0 [bx b1 66 (c_T_wire_Reader (x3) A4 c5)] w D880 [bx b1 66 (c_T_wire_Reader (y879) A882 c883), bx b595 27 (c_T_api_Rec (z_T_api_Rec) none 0 none 0), bx b605 27 (c_T_api_Rec ((T_api_Rec.mk (y854.2.1) (y854.2.2.1) (y854.2.2.2.1) (y854.2.2.2.2.1) (y854.2.2.2.2.2.1) (y854.2.2.2.2.2.2.1) (y854.2.2.2.2.2.2.2.1) (y854.2.2.2.2.2.2.2.2.1) (y854.2.2.2.2.2.2.2.2.2.1) (y854.2.2.2.2.2.2.2.2.2.2.1) (y854.2.2.2.2.2.2.2.2.2.2.2.1) (y854.2.2.2.2.2.2.2.2.2.2.2.2.1) (y854.2.2.2.2.2.2.2.2.2.2.2.2.2.1) (y854.2.2.2.2.2.2.2.2.2.2.2.2.2.2.1) (y854.2.2.2.2.2.2.2.2.2.2.2.2.2.2.2.1) (y854.2.2.2.2.2.2.2.2.2.2.2.2.2.2.2.2))) A860 c861 A863 c864)] ∧ Snap.le D855 D880 ∧ Sl (kdInt .u8) D880 A882 c883 (y879.fB) ∧ j899 y879 = some r) ?_ ?_
  ·clear hj900
   refine wpIn_seq ?_
   refine region_at ?_
   refine aL 2 (.agg (List.toArray (c_T_api_Rec ((T_api_Rec.mk (y854.2.1) (y854.2.2.1) (y854.2.2.2.1) (y854.2.2.2.2.1) (y854.2.2.2.2.2.1) (y854.2.2.2.2.2.2.1) (y854.2.2.2.2.2.2.2.1) (y854.2.2.2.2.2.2.2.2.1) (y854.2.2.2.2.2.2.2.2.2.1) (y854.2.2.2.2.2.2.2.2.2.2.1) (y854.2.2.2.2.2.2.2.2.2.2.2.1) (y854.2.2.2.2.2.2.2.2.2.2.2.2.1) (y854.2.2.2.2.2.2.2.2.2.2.2.2.2.1) (y854.2.2.2.2.2.2.2.2.2.2.2.2.2.2.1) (y854.2.2.2.2.2.2.2.2.2.2.2.2.2.2.2.1) (y854.2.2.2.2.2.2.2.2.2.2.2.2.2.2.2.2))) A860 c861 A863 c864))) hE hS (fun a hE => ?_)
   obtain ⟨r901, h902, hf⟩ := bind_some hf
   refine aC rfl rfl rfl rfl hE rfl rfl rfl rfl (rec_Right.calls (g := g) h902 (hS.st.fore (L := [])) h862 h865) (fun a v w hR hE => ?_)
   obtain ⟨D903, rfl, hS1⟩ := hR
   have le905 := hS1.dle
   have hS := hS.callR hS1 rfl .n
   clear hS1
   refine sN 1 3 [(88, .bool ((!r901)))] hE (fun a hE => ?_)
   refine at_end rfl ?_
   refine cond_split hE (b := (!r901)) rfl (fun hb => ?_) (fun hb => ?_)
   ·replace hf := cond_t hb hf
    clear hb
    refine region_at ?_
    refine sN 1 1 [(89, .pointer (some ⟨b1, 0, none⟩))] hE (fun a hE => ?_)
    obtain ⟨r906, h907, hf⟩ := bind_some hf
    refine aC rfl rfl rfl rfl hE rfl rfl rfl rfl (wire_Reader_Fail.calls (g := g) h907 (hS.st.fore (L := [bx b1 66 (c_T_wire_Reader (y854.1) A857 c858)])) (h859.mono le905)) (fun a v w hR hE => ?_)
    obtain ⟨D908, A910, c911, rfl, hS1, h912⟩ := hR
    have le913 := hS1.dle
    have hS := hS.callR hS1 rfl (.c .n)
    clear hS1
    refine at_end rfl ?_
    exact ⟨r906, A910, c911, D908, hE.weak (by kernel_rfl), hS, (le2 le905 le913), h912, hf⟩
   ·replace hf := cond_f hb hf
    clear hb
    refine wpIn_skip ?_
    exact ⟨y854.1, A857, c858, D903, hE.weak (by kernel_rfl), hS, le905, (h859.mono le905), hf⟩
  ·clear hE hS
   rintro a w ⟨y879, A882, c883, D880, hE, hS, le881, h884, hf⟩
   replace hf := hj900 _ hf
   clear hj900
   refine wpIn_seq ?_
   refine wpIn_seq ?_
   refine region_at ?_
   refine sN 1 1 [(91, .pointer (some ⟨b1, 0, none⟩))] hE (fun a hE => ?_)
   obtain ⟨r890, h891, hf⟩ := bind_some hf
   refine aC rfl rfl rfl rfl hE rfl rfl rfl rfl (wire_Reader_Bad.calls (g := g) h891 (hS.st.fore (L := [bx b1 66 (c_T_wire_Reader (y879) A882 c883)])) h884) (fun a v w hR hE => ?_)
   obtain ⟨D892, rfl, hS1⟩ := hR
   have le894 := hS1.dle
   have hS := hS.callR hS1 rfl (.c .n)
   clear hS1
   refine sN 1 3 [(93, .bool ((!decide (r890 = (0 : Int)))))] hE (fun a hE => ?_)
   refine at_end rfl ?_
   refine cond_split hE (b := (!decide (r890 = (0 : Int)))) rfl (fun hb => ?_) (fun hb => ?_)
   ·replace hf := cond_t hb hf
    clear hb
    refine wpIn_seq ?_
    refine region_at ?_
    refine at_op (op_tk hE (tk_build (c_T_api_Rec (z_T_api_Rec) none 0 none 0) rfl rfl rfl rfl hE rfl rfl (by kernel_rfl) (fun a hE => ?_))) rfl
    have hS := hS.pk (.c 1 rfl (.c 0 rfl (.c 2 rfl .n))) rfl
    refine at_op (op_store (v := .agg (List.toArray (c_T_api_Rec (z_T_api_Rec) none 0 none 0))) (c_T_api_Rec (z_T_api_Rec) none 0 none 0) rfl rfl rfl rfl hE hS rfl rfl (by kernel_rfl) (by kernel_rfl) (by kernel_rfl) (by kernel_rfl) (by kernel_rfl) (fun a w _ hE hS => ?_)) rfl
    refine at_end rfl ?_
    refine wpIn_ret ?_
    obtain rfl := Option.some.inj hf
    repeat (with_reducible first | refine then_ret ?_ | refine block_ret ?_ | refine qx_ret ?_)
    refine ret_gen ([.agg (List.toArray (c_T_api_Rec (z_T_api_Rec) none 0 none 0))]) hE (by rw [show Tryd.f26.results.toList = [.cell 2 27] from rfl]; exact ⟨_, _, _, 0, _, _, rfl, rfl, hS.heapAt (j := 0) rfl, by kernel_rfl, rfl⟩) ?_
    have hS := hS.pk (.c 1 rfl .n) rfl
    exact ⟨_, rfl, D892, none, 0, none, 0, A882, c883, rfl, hS, (Sl.nil kd_T_api_Step D892), (Sl.nil (kdInt .u8) D892), (h884.mono le894)⟩
   ·replace hf := cond_f hb hf
    clear hb
    refine wpIn_skip ?_
    refine wpIn_seq ?_
    refine region_at ?_
    refine aL 2 (.agg (List.toArray (c_T_api_Rec ((T_api_Rec.mk (y854.2.1) (y854.2.2.1) (y854.2.2.2.1) (y854.2.2.2.2.1) (y854.2.2.2.2.2.1) (y854.2.2.2.2.2.2.1) (y854.2.2.2.2.2.2.2.1) (y854.2.2.2.2.2.2.2.2.1) (y854.2.2.2.2.2.2.2.2.2.1) (y854.2.2.2.2.2.2.2.2.2.2.1) (y854.2.2.2.2.2.2.2.2.2.2.2.1) (y854.2.2.2.2.2.2.2.2.2.2.2.2.1) (y854.2.2.2.2.2.2.2.2.2.2.2.2.2.1) (y854.2.2.2.2.2.2.2.2.2.2.2.2.2.2.1) (y854.2.2.2.2.2.2.2.2.2.2.2.2.2.2.2.1) (y854.2.2.2.2.2.2.2.2.2.2.2.2.2.2.2.2))) A860 c861 A863 c864))) hE hS (fun a hE => ?_)
    have hS := hS.pk (.c 1 rfl (.c 0 rfl (.c 2 rfl .n))) rfl
    obtain ⟨v895, hv896, hf⟩ := bind_some hf
    replace hv896 := Option.some.inj hv896
    refine at_op (op_store (v := .agg (List.toArray (c_T_api_Rec ((T_api_Rec.mk (y854.2.1) (y854.2.2.1) (y854.2.2.2.1) (y854.2.2.2.2.1) (y854.2.2.2.2.2.1) (y854.2.2.2.2.2.2.1) (y854.2.2.2.2.2.2.2.1) (y854.2.2.2.2.2.2.2.2.1) (y854.2.2.2.2.2.2.2.2.2.1) (y854.2.2.2.2.2.2.2.2.2.2.1) (y854.2.2.2.2.2.2.2.2.2.2.2.1) (y854.2.2.2.2.2.2.2.2.2.2.2.2.1) (y854.2.2.2.2.2.2.2.2.2.2.2.2.2.1) (y854.2.2.2.2.2.2.2.2.2.2.2.2.2.2.1) (y854.2.2.2.2.2.2.2.2.2.2.2.2.2.2.2.1) (y854.2.2.2.2.2.2.2.2.2.2.2.2.2.2.2.2))) A860 c861 A863 c864))) (c_T_api_Rec (v895) A860 c861 A863 c864) rfl rfl rfl rfl hE hS rfl rfl (by kernel_rfl) (by kernel_rfl) (by kernel_rfl) (by kernel_rfl) (by rw [← hv896]; kernel_rfl) (fun a w _ hE hS => ?_)) rfl
    have h897 : Sl kd_T_api_Step D855 A860 c861 (v895.fSteps) := by rw [← hv896]; exact h862
    have h898 : Sl (kdInt .u8) D855 A863 c864 (v895.fData) := by rw [← hv896]; exact h865
    refine at_end rfl ?_
    refine wpIn_ret ?_
    obtain rfl := Option.some.inj hf
    repeat (with_reducible first | refine then_ret ?_ | refine block_ret ?_ | refine qx_ret ?_)
    refine ret_gen ([.agg (List.toArray (c_T_api_Rec (v895) A860 c861 A863 c864))]) hE (by rw [show Tryd.f26.results.toList = [.cell 2 27] from rfl]; exact ⟨_, _, _, 0, _, _, rfl, rfl, hS.heapAt (j := 0) rfl, by kernel_rfl, rfl⟩) ?_
    have hS := hS.pk (.c 1 rfl .n) rfl
    exact ⟨_, rfl, D892, A860, c861, A863, c864, A882, c883, rfl, hS, (h897.mono (le2 le881 le894)), (h898.mono (le2 le881 le894)), (h884.mono le894)⟩
set_option maxRecDepth 100000 in
set_option maxHeartbeats 4000000 in
theorem wire_Reader_Done.calls {K : Nat} {g w0 : World} {D0 : Snap} {x3 : T_wire_Reader} {b1 : Nat} {A4 : Option Addr} {c5 : Nat} {r : (Int)} (hf : wire_Reader_Done.f K x3 = some r) (hS0 : St g w0 D0 [bx b1 66 (c_T_wire_Reader (x3) A4 c5)]) (h6 : Sl (kdInt .u8) D0 A4 c5 (x3.fB)) :
  CallsIn (Fw none) 0 Tryd.prog 47 (List.toArray [.pointer (some ⟨b1, 0, none⟩)]) w0 (fun e w' => ∃ v, e = .returned v ∧ ∃ (D1 : Snap), v = .int .i64 (r) ∧ Stp g w0 D0 [bx b1 66 (c_T_wire_Reader (x3) A4 c5)] w' D1 [bx b1 66 (c_T_wire_Reader (x3) A4 c5)]) := by
 unfold wire_Reader_Done.f at hf
 have hS := Stp.refl hS0
 clear hS0
 refine calls_body (n := 15) Tryd.func47 rfl Tryd.ntmps47 rfl (fun a hE => ?_)
 have hE : Env a 15 [] [(0, .pointer (some ⟨b1, 0, none⟩))] := hE
 refine wpIn_seq ?_
 refine region_at ?_
 refine sN 1 1 [(2, .int .i64 ((0 : Int)))] hE (fun a hE => ?_)
 refine at_end rfl ?_
 refine wpIn_seq ?_
 refine wpIn_seq ?_
 refine region_at ?_
 refine sN 1 1 [(4, .pointer (some ⟨b1, 0, none⟩))] hE (fun a hE => ?_)
 obtain ⟨r22, h23, hf⟩ := bind_some hf
 refine aC rfl rfl rfl rfl hE rfl rfl rfl rfl (wire_Reader_Bad.calls (g := g) h23 (hS.st.fore (L := [bx b1 66 (c_T_wire_Reader (x3) A4 c5)])) h6) (fun a v w hR hE => ?_)
 obtain ⟨D24, rfl, hS1⟩ := hR
 have le26 := hS1.dle
 have hS := hS.callR hS1 rfl (.c .n)
 clear hS1
 refine sN 1 3 [(3, .int .i64 (r22))] hE (fun a hE => ?_)
 refine at_end rfl ?_
 refine wpIn_seq ?_
 refine region_at ?_
 refine sN 2 2 [(7, .bool ((!decide (r22 = (0 : Int)))))] hE (fun a hE => ?_)
 refine at_end rfl ?_
 refine cond_split hE (b := (!decide (r22 = (0 : Int)))) rfl (fun hb => ?_) (fun hb => ?_)
 ·replace hf := cond_t hb hf
  clear hb
  refine wpIn_seq ?_
  refine region_at ?_
  refine sN 2 2 [(2, .int .i64 (r22))] hE (fun a hE => ?_)
  refine at_end rfl ?_
  refine wpIn_ret ?_
  obtain rfl := Option.some.inj hf
  repeat (with_reducible first | refine then_ret ?_ | refine block_ret ?_ | refine qx_ret ?_)
  refine ret_gen ([.int .i64 (r22)]) hE (by rw [show Tryd.f47.results.toList = [.tmp 2] from rfl]; exact ⟨_, _, rfl, rfl, rfl⟩) ?_
  exact ⟨_, rfl, D24, rfl, hS⟩
 ·replace hf := cond_f hb hf
  clear hb
  refine wpIn_skip ?_
  refine wpIn_seq ?_
  refine wpIn_seq ?_
  refine region_at ?_
  refine sN 2 2 [(10, .pointer (some ⟨b1, 0, none⟩))] hE (fun a hE => ?_)
  refine aF 0 25 0 hE (fun a hE => ?_)
  refine aL 0 (.slice A4 (List.length (x3.fB)) c5) hE hS (fun a hE => ?_)
  refine sN 2 6 [(14, .bool ((decide ((0 : Int) < ((List.length (x3.fB) : Nat) : Int)))))] hE (fun a hE => ?_)
  refine at_end rfl ?_
  refine cond_split hE (b := (decide ((0 : Int) < ((List.length (x3.fB) : Nat) : Int)))) rfl (fun hb => ?_) (fun hb => ?_)
  ·replace hf := cond_t hb hf
   clear hb
   refine wpIn_seq ?_
   refine region_at ?_
   refine sN 1 1 [(2, .int .i64 ((2 : Int)))] hE (fun a hE => ?_)
   refine at_end rfl ?_
   refine wpIn_ret ?_
   obtain rfl := Option.some.inj hf
   repeat (with_reducible first | refine then_ret ?_ | refine block_ret ?_ | refine qx_ret ?_)
   refine ret_gen ([.int .i64 ((2 : Int))]) hE (by rw [show Tryd.f47.results.toList = [.tmp 2] from rfl]; exact ⟨_, _, rfl, rfl, rfl⟩) ?_
   exact ⟨_, rfl, D24, rfl, hS⟩
  ·replace hf := cond_f hb hf
   clear hb
   refine wpIn_skip ?_
   refine wpIn_seq ?_
   refine region_at ?_
   refine sN 1 1 [(2, .int .i64 ((0 : Int)))] hE (fun a hE => ?_)
   refine at_end rfl ?_
   refine wpIn_ret ?_
   obtain rfl := Option.some.inj hf
   repeat (with_reducible first | refine then_ret ?_ | refine block_ret ?_ | refine qx_ret ?_)
   refine ret_gen ([.int .i64 ((0 : Int))]) hE (by rw [show Tryd.f47.results.toList = [.tmp 2] from rfl]; exact ⟨_, _, rfl, rfl, rfl⟩) ?_
   exact ⟨_, rfl, D24, rfl, hS⟩
set_option maxRecDepth 100000 in
set_option maxHeartbeats 4000000 in
theorem rec_Get.calls {K : Nat} {g w0 : World} {D0 : Snap} {x1 : (List Int)} {A2 : Option Addr} {c3 : Nat} {r : (T_api_Rec × Int)} (hf : rec_Get.f K x1 = some r) (hS0 : St g w0 D0 []) (h4 : Sl (kdInt .u8) D0 A2 c3 (x1)) :
  CallsIn (Fw none) 0 Tryd.prog 23 (List.toArray [.slice A2 (List.length (x1)) c3]) w0 (fun e w' => ∃ v, e = .returned v ∧ ∃ (D1 : Snap) (A43 : Option Addr) (c44 : Nat) (A46 : Option Addr) (c47 : Nat), v = .tuple #[.agg (List.toArray (c_T_api_Rec ((T_api_Rec.mk (r.1.fKind) (r.1.fSaga) (r.1.fSeq) (r.1.fStep) (r.1.fTry) (r.1.fBack) (r.1.fGood) (r.1.fEnd) (r.1.fPart) (r.1.fEpoch) (r.1.fTag) (r.1.fSteps) (r.1.fData) (r.1.fSalt) (r.1.fGone) (r.1.fCom))) A43 c44 A46 c47)), .int .i64 (r.2)] ∧ Stp g w0 D0 [] w' D1 [] ∧ Sl kd_T_api_Step D1 A43 c44 (r.1.fSteps) ∧ Sl (kdInt .u8) D1 A46 c47 (r.1.fData)) := by
 unfold rec_Get.f at hf
 have hS := Stp.refl hS0
 clear hS0
 refine calls_body (n := 18) Tryd.func23 rfl Tryd.ntmps23 rfl (fun a hE => ?_)
 have hE : Env a 18 [] [(0, .slice A2 (List.length (x1)) c3)] := hE
 refine wpIn_seq ?_
 refine region_at ?_
 refine at_op (op_alloc (z := .agg (List.toArray (c_T_api_Rec (z_T_api_Rec) none 0 none 0))) rfl rfl rfl rfl hE rfl hS (by kernel_rfl) (fun a b49 w _ hE hS => ?_)) rfl
 refine sN 1 2 [(3, .int .i64 ((0 : Int)))] hE (fun a hE => ?_)
 refine at_end rfl ?_
 refine wpIn_seq ?_
 refine region_at ?_
 refine sN 1 1 [(7, .slice A2 (List.length (x1)) c3)] hE (fun a hE => ?_)
 obtain ⟨r51, h52, hf⟩ := bind_some hf
 refine aC rfl rfl rfl rfl hE rfl rfl rfl rfl (wire_Read.calls (g := g) h52 (hS.st.fore (L := [])) h4) (fun a v w hR hE => ?_)
 obtain ⟨D53, b55, A57, c58, rfl, hS1, h59⟩ := hR
 have le60 := hS1.dle
 have hS := hS.callR hS1 rfl (.c .n)
 clear hS1
 refine sN 1 3 [(4, .pointer (some ⟨b55, 0, none⟩))] hE (fun a hE => ?_)
 refine at_end rfl ?_
 refine wpIn_seq ?_
 refine region_at ?_
 refine sN 1 1 [(9, .pointer (some ⟨b55, 0, none⟩))] hE (fun a hE => ?_)
 obtain ⟨r61, h62, hf⟩ := bind_some hf
 refine aC rfl rfl rfl rfl hE rfl rfl rfl rfl (rec_Read.calls (g := g) h62 (hS.st.fore (L := [bx b55 66 (c_T_wire_Reader (r51) A57 c58)])) h59) (fun a v w hR hE => ?_)
 obtain ⟨D63, A65, c66, A68, c69, A71, c72, rfl, hS1, h67, h70, h73⟩ := hR
 have le74 := hS1.dle
 have hS := hS.callR hS1 rfl (.c .n)
 clear hS1
 refine at_op (op_alloc (z := .agg (List.toArray (c_T_api_Rec (z_T_api_Rec) none 0 none 0))) rfl rfl rfl rfl hE rfl hS (by kernel_rfl) (fun a b75 w _ hE hS => ?_)) rfl
 refine at_op (op_store (v := .agg (List.toArray (c_T_api_Rec (r61.1) A65 c66 A68 c69))) (c_T_api_Rec (r61.1) A65 c66 A68 c69) rfl rfl rfl rfl hE hS rfl rfl (by kernel_rfl) (by kernel_rfl) (by kernel_rfl) (by kernel_rfl) (by kernel_rfl) (fun a w _ hE hS => ?_)) rfl
 refine at_end rfl ?_
 refine wpIn_seq ?_
 refine wpIn_seq ?_
 refine region_at ?_
 refine sN 1 1 [(11, .pointer (some ⟨b55, 0, none⟩))] hE (fun a hE => ?_)
 have hS := hS.pk (.c 1 rfl (.c 0 rfl (.c 2 rfl .n))) rfl
 obtain ⟨r82, h83, hf⟩ := bind_some hf
 refine aC rfl rfl rfl rfl hE rfl rfl rfl rfl (wire_Reader_Done.calls (g := g) h83 (hS.st.fore (L := [bx b55 66 (c_T_wire_Reader (r61.2) A71 c72)])) h73) (fun a v w hR hE => ?_)
 obtain ⟨D84, rfl, hS1⟩ := hR
 have le86 := hS1.dle
 have hS := hS.callR hS1 rfl (.c .n)
 clear hS1
 refine sN 1 3 [(6, .int .i64 (r82))] hE (fun a hE => ?_)
 refine at_end rfl ?_
 refine wpIn_seq ?_
 refine region_at ?_
 refine sN 2 2 [(14, .bool ((!decide (r82 = (0 : Int)))))] hE (fun a hE => ?_)
 refine at_end rfl ?_
 refine cond_split hE (b := (!decide (r82 = (0 : Int)))) rfl (fun hb => ?_) (fun hb => ?_)
 ·replace hf := cond_t hb hf
  clear hb
  refine wpIn_seq ?_
  refine region_at ?_
  refine at_op (op_tk hE (tk_build (c_T_api_Rec (z_T_api_Rec) none 0 none 0) rfl rfl rfl rfl hE rfl rfl (by kernel_rfl) (fun a hE => ?_))) rfl
  refine sN 1 2 [(16, .int .i64 (r82))] hE (fun a hE => ?_)
  have hS := hS.pk (.c 2 rfl (.c 0 rfl (.c 1 rfl .n))) rfl
  refine at_op (op_store (v := .agg (List.toArray (c_T_api_Rec (z_T_api_Rec) none 0 none 0))) (c_T_api_Rec (z_T_api_Rec) none 0 none 0) rfl rfl rfl rfl hE hS rfl rfl (by kernel_rfl) (by kernel_rfl) (by kernel_rfl) (by kernel_rfl) (by kernel_rfl) (fun a w _ hE hS => ?_)) rfl
  refine sN 1 4 [(3, .int .i64 (r82))] hE (fun a hE => ?_)
  refine at_end rfl ?_
  refine wpIn_ret ?_
  obtain rfl := Option.some.inj hf
  repeat (with_reducible first | refine then_ret ?_ | refine block_ret ?_ | refine qx_ret ?_)
  refine ret_gen ([.agg (List.toArray (c_T_api_Rec (z_T_api_Rec) none 0 none 0)), .int .i64 (r82)]) hE (by rw [show Tryd.f23.results.toList = [.cell 2 27, .tmp 3] from rfl]; exact ⟨_, _, _, 0, _, _, rfl, rfl, hS.heapAt (j := 0) rfl, by kernel_rfl, ⟨_, _, rfl, rfl, rfl⟩⟩) ?_
  have hS := hS.pk .n rfl
  exact ⟨_, rfl, D84, none, 0, none, 0, rfl, hS, (Sl.nil kd_T_api_Step D84), (Sl.nil (kdInt .u8) D84)⟩
 ·replace hf := cond_f hb hf
  clear hb
  refine wpIn_skip ?_
  refine wpIn_seq ?_
  refine region_at ?_
  refine aL 1 (.agg (List.toArray (c_T_api_Rec (r61.1) A65 c66 A68 c69))) hE hS (fun a hE => ?_)
  have hS := hS.pk (.c 2 rfl (.c 0 rfl (.c 1 rfl .n))) rfl
  refine at_op (op_store (v := .agg (List.toArray (c_T_api_Rec (r61.1) A65 c66 A68 c69))) (c_T_api_Rec (r61.1) A65 c66 A68 c69) rfl rfl rfl rfl hE hS rfl rfl (by kernel_rfl) (by kernel_rfl) (by kernel_rfl) (by kernel_rfl) (by kernel_rfl) (fun a w _ hE hS => ?_)) rfl
  refine sN 1 3 [(3, .int .i64 ((0 : Int)))] hE (fun a hE => ?_)
  refine at_end rfl ?_
  refine wpIn_ret ?_
  obtain rfl := Option.some.inj hf
  repeat (with_reducible first | refine then_ret ?_ | refine block_ret ?_ | refine qx_ret ?_)
  refine ret_gen ([.agg (List.toArray (c_T_api_Rec (r61.1) A65 c66 A68 c69)), .int .i64 ((0 : Int))]) hE (by rw [show Tryd.f23.results.toList = [.cell 2 27, .tmp 3] from rfl]; exact ⟨_, _, _, 0, _, _, rfl, rfl, hS.heapAt (j := 0) rfl, by kernel_rfl, ⟨_, _, rfl, rfl, rfl⟩⟩) ?_
  have hS := hS.pk .n rfl
  exact ⟨_, rfl, D84, A65, c66, A68, c69, rfl, hS, (h67.mono le86), (h70.mono le86)⟩
set_option maxRecDepth 100000 in
set_option maxHeartbeats 4000000 in
theorem slices_Clone_api_Step_api_Step.calls {K : Nat} {g w0 : World} {D0 : Snap} {x1 : (List T_api_Step)} {A2 : Option Addr} {c3 : Nat} {r : ((List T_api_Step))} (hf : slices_Clone_api_Step_api_Step.f K x1 = some r) (hS0 : St g w0 D0 []) (h4 : Sl kd_T_api_Step D0 A2 c3 (x1)) :
  CallsIn (Fw none) 0 Tryd.prog 34 (List.toArray [.slice A2 (List.length (x1)) c3]) w0 (fun e w' => ∃ v, e = .returned v ∧ ∃ (D1 : Snap) (A16 : Option Addr) (c17 : Nat) (q18 : Blk), v = .slice A16 (List.length (r)) c17 ∧ Stp g w0 D0 [] w' D1 [q18] ∧ OwnD kd_T_api_Step 37 D1 A16 c17 (r) q18) := by
 unfold slices_Clone_api_Step_api_Step.f at hf
 have hS := Stp.refl hS0
 clear hS0
 refine calls_body (n := 8) Tryd.func34 rfl Tryd.ntmps34 rfl (fun a hE => ?_)
 have hE : Env a 8 [] [(0, .slice A2 (List.length (x1)) c3)] := hE
 refine wpIn_seq ?_
 refine region_at ?_
 refine sN 1 1 [(2, .slice none 0 0)] hE (fun a hE => ?_)
 refine at_end rfl ?_
 refine wpIn_seq ?_
 refine wpIn_seq ?_
 refine region_at ?_
 refine sN 1 1 [(3, .slice A2 (List.length (x1)) c3)] hE (fun a hE => ?_)
 refine at_op (op_tk hE (tk_bin (r := .bool ((Option.isNone A2))) rfl rfl rfl rfl hE rfl rfl rfl (eqnil_run (by kernel_rfl) _ _ _) (fun a hE => ?_))) rfl
 refine at_end rfl ?_
 refine cond_split hE (b := (Option.isNone A2)) rfl (fun hb => ?_) (fun hb => ?_)
 ·have hx := Sl.of_none h4 hb rfl
  clear hb
  rw [hx] at hf
  replace hf : (some ([] : List T_api_Step)) = some r := hf
  refine wpIn_seq ?_
  refine region_at ?_
  refine sN 1 1 [(2, .slice none 0 0)] hE (fun a hE => ?_)
  refine at_end rfl ?_
  refine wpIn_ret ?_
  have hS := hS.nils
  obtain rfl := Option.some.inj hf
  repeat (with_reducible first | refine then_ret ?_ | refine block_ret ?_ | refine qx_ret ?_)
  refine ret_gen ([.slice none 0 0]) hE (by rw [show Tryd.f34.results.toList = [.tmp 2] from rfl]; exact ⟨_, _, rfl, rfl, rfl⟩) ?_
  exact ⟨_, rfl, D0, none, 0, none, rfl, hS, (OwnD.nil kd_T_api_Step 37 D0)⟩
 ·clear hb
  refine wpIn_skip ?_
  refine wpIn_seq ?_
  refine region_at ?_
  refine at_op (op_buildSlice (K := kd_T_api_Step) (e := 37) (cs := []) ([] : List T_api_Step) rfl rfl rfl rfl hE rfl hS rfl (by kernel_rfl) rfl rfl (by exact (show RL kd_T_api_Step D0 ([] : List T_api_Step) ([]) from rfl)) (fun a A22 q23 w _ hE h24 hS => ?_)) rfl
  refine sN 1 2 [(6, .slice A2 (List.length (x1)) c3)] hE (fun a hE => ?_)
  obtain ⟨l26, h27, hf⟩ := bind_some hf
  refine at_op (g_append (K := kd_T_api_Step) (e := 37) (bytes := 16) (l := ([] : List T_api_Step)) (m := x1) rfl rfl rfl rfl hE rfl hS rfl rfl (by kernel_rfl) rfl rfl h24 h4 h27 (fun a A28 c29 q30 w _ hE h31 hS => ?_)) rfl
  refine sN 1 4 [(2, .slice A28 (List.length (l26)) c29)] hE (fun a hE => ?_)
  refine at_end rfl ?_
  refine wpIn_ret ?_
  obtain rfl := Option.some.inj hf
  repeat (with_reducible first | refine then_ret ?_ | refine block_ret ?_ | refine qx_ret ?_)
  refine ret_gen ([.slice A28 (List.length (l26)) c29]) hE (by rw [show Tryd.f34.results.toList = [.tmp 2] from rfl]; exact ⟨_, _, rfl, rfl, rfl⟩) ?_
  exact ⟨_, rfl, D0, A28, c29, q30, rfl, hS, h31⟩
set_option maxRecDepth 100000 in
set_option maxHeartbeats 4000000 in
theorem mac_row.calls {K : Nat} {g w0 : World} {D0 : Snap} {x1 : Int} {x2 : Int} {r : ((List Int))} (hf : mac_row.f K x1 x2 = some r) (hS0 : St g w0 D0 []) :
  CallsIn (Fw none) 0 Tryd.prog 63 (List.toArray [.int .u64 (x1), .int .i64 (x2)]) w0 (fun e w' => ∃ v, e = .returned v ∧ ∃ (D1 : Snap) (A184 : Option Addr) (c185 : Nat) (q186 : Blk), v = .slice A184 (List.length (r)) c185 ∧ Stp g w0 D0 [] w' D1 [q186] ∧ OwnD (kdInt .u8) 5 D1 A184 c185 (r) q186) := by
 unfold mac_row.f at hf
 have hS := Stp.refl hS0
 clear hS0
 refine calls_body (n := 26) Tryd.func63 rfl Tryd.ntmps63 rfl (fun a hE => ?_)
 have hE : Env a 26 [] [(0, .int .u64 (x1)), (1, .int .i64 (x2))] := hE
 refine wpIn_seq ?_
 refine region_at ?_
 refine sN 1 1 [(4, .slice none 0 0)] hE (fun a hE => ?_)
 refine at_end rfl ?_
 refine wpIn_seq ?_
 refine region_at ?_
 refine sN 1 1 [(7, .int .i64 (x2))] hE (fun a hE => ?_)
 obtain ⟨l189, h190, hf⟩ := bind_some hf
 refine at_op (op_makeSlice (K := (kdInt .u8)) (e := 5) (bytes := 1) (z := (0 : Int)) (cz := [.int .u8 ((0 : Int))]) rfl rfl rfl rfl hE rfl hS rfl rfl (by kernel_rfl) (by kernel_rfl) rfl rfl rfl h190 (fun a A191 c192 q193 w _ hE h194 hS => ?_)) rfl
 refine sN 1 3 [(5, .slice A191 (List.length (l189)) c192)] hE (fun a hE => ?_)
 refine at_end rfl ?_
 refine wpIn_seq ?_
 refine wpIn_seq ?_
 refine region_at ?_
 refine sN 3 3 [(10, .int .i64 (((List.length (l189) : Nat) : Int))), (11, .int .i64 ((0 : Int)))] hE (fun a hE => ?_)
 refine at_end rfl ?_
 obtain ⟨s354, hf, hs355⟩ := bind_some hf
 refine block_loop (fun a w => ∃ (z346 : (List Int)), ∃ (q351 : Blk), ∃ (D347 : Snap), Env a 26 [] [(5, .slice A191 (List.length (z346)) c192)] ∧ Stp g w0 D0 [] w D347 [q351] ∧ Snap.le D0 D347 ∧ OwnD (kdInt .u8) 5 D347 A191 c192 (z346) q351 ∧ z346 = s354) (fun k a w => ∃ (y316 : Int × (List Int) × Int), ∃ (q321 : Blk), ∃ (D317 : Snap), Env a 26 [] [(0, .int .u64 (y316.1)), (1, .int .i64 (x2)), (5, .slice A191 (List.length (y316.2.1)) c192), (10, .int .i64 (((List.length (l189) : Nat) : Int))), (11, .int .i64 (y316.2.2))] ∧ Stp g w0 D0 [] w D317 [q321] ∧ Snap.le D0 D317 ∧ OwnD (kdInt .u8) 5 D317 A191 c192 (y316.2.1) q321 ∧ mac_row_l1.l K x2 l189 k y316 = some s354) K ?_ ?_ ?_
 ·exact ⟨(x1, l189, (0 : Int)), q193, D0, hE.weak (by kernel_rfl), hS, Snap.le.refl _, h194, hf⟩
 ·clear hE hS hf
  rintro a w ⟨z346, q351, D347, hE, hS, le348, h352, rfl⟩
  have hf := hs355
  clear hs355
  refine wpIn_seq ?_
  refine region_at ?_
  refine sN 2 2 [(4, .slice A191 (List.length (z346)) c192)] hE (fun a hE => ?_)
  refine at_end rfl ?_
  refine wpIn_ret ?_
  obtain rfl := Option.some.inj hf
  repeat (with_reducible first | refine then_ret ?_ | refine block_ret ?_ | refine qx_ret ?_)
  refine ret_gen ([.slice A191 (List.length (z346)) c192]) hE (by rw [show Tryd.f63.results.toList = [.tmp 4] from rfl]; exact ⟨_, _, rfl, rfl, rfl⟩) ?_
  exact ⟨_, rfl, D347, A191, c192, q351, rfl, hS, h352⟩
 ·clear hE hS hf
  rintro k a w ⟨y316, q321, D317, hE, hS, le318, h322, hf⟩
  obtain ⟨k, rfl, hf⟩ := mac_row_l1.some _ _ hf
  refine ⟨k, rfl, ?_⟩
  unfold mac_row_l1.b at hf
  refine wpIn_seq ?_
  refine region_at ?_
  refine sN 1 1 [(12, .bool ((decide (y316.2.2 < ((List.length (l189) : Nat) : Int)))))] hE (fun a hE => ?_)
  refine at_end rfl ?_
  refine wpIn_seq ?_
  refine cond_split hE (b := (decide (y316.2.2 < ((List.length (l189) : Nat) : Int)))) rfl (fun hb => ?_) (fun hb => ?_)
  ·replace hf := cond_t hb hf
   clear hb
   refine wpIn_skip ?_
   refine wpIn_seq ?_
   refine wpIn_block ?_
   refine wpIn_seq ?_
   refine region_at ?_
   refine sN 2 2 [(6, .int .i64 (y316.2.2))] hE (fun a hE => ?_)
   refine at_end rfl ?_
   refine wpIn_seq ?_
   refine region_at ?_
   refine sN 7 7 [(14, .slice A191 (List.length (y316.2.1)) c192), (18, .int .i64 ((IntKind.wrap .i64 ((IntKind.wrap .i64 (x2 - (1 : Int))) - y316.2.2)))), (20, .int .u8 ((IntKind.wrap .u8 y316.1)))] hE (fun a hE => ?_)
   obtain ⟨x363, h364, hf⟩ := bind_some hf
   refine at_op (op_tk hE (tk_indexO (K := (kdInt .u8)) (T := 5) (by_ := 1) (zl := 1) rfl rfl rfl rfl hE rfl rfl rfl (by kernel_rfl) h322 h364 (fun a b365 u366 hq hE => ?_))) rfl
   subst hq
   refine at_op (op_storeO (K := (kdInt .u8)) (T := 5) (l := y316.2.1) ((IntKind.wrap .u8 y316.1)) rfl rfl rfl rfl hE hS h322 rfl rfl (inI_of h364) (rfl) (by kernel_rfl) (by kernel_rfl) (fun a u367 w _ hE h368 hS => ?_)) rfl
   have hE : Env a 26 [] [(0, .int .u64 (y316.1)), (1, .int .i64 (x2)), (5, .slice A191 (List.length ((List.set (y316.2.1) (Int.toNat ((IntKind.wrap .i64 ((IntKind.wrap .i64 (x2 - (1 : Int))) - y316.2.2)))) ((IntKind.wrap .u8 y316.1))))) c192), (6, .int .i64 (y316.2.2)), (10, .int .i64 (((List.length (l189) : Nat) : Int))), (11, .int .i64 (y316.2.2)), (12, .bool ((decide (y316.2.2 < ((List.length (l189) : Nat) : Int))))), (14, .slice A191 (List.length ((List.set (y316.2.1) (Int.toNat ((IntKind.wrap .i64 ((IntKind.wrap .i64 (x2 - (1 : Int))) - y316.2.2)))) ((IntKind.wrap .u8 y316.1))))) c192), (18, .int .i64 ((IntKind.wrap .i64 ((IntKind.wrap .i64 (x2 - (1 : Int))) - y316.2.2)))), (20, .int .u8 ((IntKind.wrap .u8 y316.1))), (21, .pointer (some ⟨b365, Int.toNat ((IntKind.wrap .i64 ((IntKind.wrap .i64 (x2 - (1 : Int))) - y316.2.2))) * 1, none⟩))] := by have h := hE.weak (E' := [(0, .int .u64 (y316.1)), (1, .int .i64 (x2)), (5, .slice A191 (List.length (y316.2.1)) c192), (6, .int .i64 (y316.2.2)), (10, .int .i64 (((List.length (l189) : Nat) : Int))), (11, .int .i64 (y316.2.2)), (12, .bool ((decide (y316.2.2 < ((List.length (l189) : Nat) : Int))))), (14, .slice A191 (List.length (y316.2.1)) c192), (18, .int .i64 ((IntKind.wrap .i64 ((IntKind.wrap .i64 (x2 - (1 : Int))) - y316.2.2)))), (20, .int .u8 ((IntKind.wrap .u8 y316.1))), (21, .pointer (some ⟨b365, Int.toNat ((IntKind.wrap .i64 ((IntKind.wrap .i64 (x2 - (1 : Int))) - y316.2.2))) * 1, none⟩))]) (by kernel_rfl); simpa only [List.length_set] using h
   refine at_end rfl ?_
   refine region_at ?_
   refine sN 3 3 [(0, .int .u64 ((Int.fdiv y316.1 (2 ^ 8))))] hE (fun a hE => ?_)
   refine at_end rfl ?_
   refine region_at ?_
   refine sN 2 2 [(11, .int .i64 ((IntKind.wrap .i64 (y316.2.2 + (1 : Int)))))] hE (fun a hE => ?_)
   refine at_end rfl ?_
   exact ⟨((Int.fdiv y316.1 (2 ^ 8)), (List.set (y316.2.1) (Int.toNat ((IntKind.wrap .i64 ((IntKind.wrap .i64 (x2 - (1 : Int))) - y316.2.2)))) ((IntKind.wrap .u8 y316.1))), (IntKind.wrap .i64 (y316.2.2 + (1 : Int)))), (some (b365, u367)), D317, hE.weak (by kernel_rfl), hS, le318, h368, hf⟩
  ·replace hf := cond_f hb hf
   clear hb
   refine wpIn_exit ?_
   obtain rfl := Option.some.inj hf
   exact ⟨y316.2.1, q321, D317, hE.weak (by kernel_rfl), hS, le318, h322, rfl⟩
set_option maxRecDepth 100000 in
set_option maxHeartbeats 4000000 in
theorem mac_Of_1.calls {K : Nat} {g w0 : World} {D0 : Snap} {x1 : (List Int)} {A2 : Option Addr} {c3 : Nat} {r : ((List Int))} (hf : mac_Of_1.f K x1 = some r) (hS0 : St g w0 D0 []) (h4 : Sl (kdInt .u8) D0 A2 c3 (x1)) :
  CallsIn (Fw none) 0 Tryd.prog 62 (List.toArray [.slice A2 (List.length (x1)) c3]) w0 (fun e w' => ∃ v, e = .returned v ∧ ∃ (D1 : Snap) (A39 : Option Addr) (c40 : Nat) (q41 : Blk), v = .slice A39 (List.length (r)) c40 ∧ Stp g w0 D0 [] w' D1 [q41] ∧ OwnD (kdInt .u8) 5 D1 A39 c40 (r) q41) := by
 unfold mac_Of_1.f at hf
 have hS := Stp.refl hS0
 clear hS0
 refine calls_body (n := 10) Tryd.func62 rfl Tryd.ntmps62 rfl (fun a hE => ?_)
 have hE : Env a 10 [] [(0, .slice A2 (List.length (x1)) c3)] := hE
 refine wpIn_seq ?_
 refine region_at ?_
 refine sN 1 1 [(2, .slice none 0 0)] hE (fun a hE => ?_)
 refine at_end rfl ?_
 refine wpIn_seq ?_
 refine region_at ?_
 refine sN 3 3 [(5, .int .u64 ((IntKind.wrap .u64 ((List.length (x1) : Nat) : Int))))] hE (fun a hE => ?_)
 obtain ⟨r44, h45, hf⟩ := bind_some hf
 refine aC rfl rfl rfl rfl hE rfl rfl rfl rfl (mac_row.calls (g := g) h45 (hS.st.fore (L := [])) ) (fun a v w hR hE => ?_)
 obtain ⟨D46, A48, c49, q50, rfl, hS1, h51⟩ := hR
 have le53 := hS1.dle
 have hS := hS.callR hS1 rfl (.c .n)
 clear hS1
 refine sN 1 5 [(7, .slice A2 (List.length (x1)) c3)] hE (fun a hE => ?_)
 obtain ⟨D54, q57, le55, hS, h58, h56⟩ := hS.lent h51
 refine at_op (op_buildSlice (K := (kdSlice (kdInt .u8))) (e := 25) (cs := [.slice A48 (List.length (r44)) c49] ++ ([.slice A2 (List.length (x1)) c3] ++ [])) ([r44, x1] : List (List Int)) rfl rfl rfl rfl hE rfl hS rfl (by kernel_rfl) rfl rfl (by exact (show RL (kdSlice (kdInt .u8)) D54 ([r44, x1] : List (List Int)) ([.slice A48 (List.length (r44)) c49] ++ ([.slice A2 (List.length (x1)) c3] ++ [])) from ⟨_, _, rfl, (kslice h56), ⟨_, _, rfl, (kslice (h4.mono (le2 le53 le55))), rfl⟩⟩)) (fun a A59 q60 w _ hE h61 hS => ?_)) rfl
 obtain ⟨D63, q66, le64, hS, h67, h65⟩ := hS.lent h61
 obtain ⟨r68, h69, hf⟩ := bind_some hf
 refine aC rfl rfl rfl rfl hE rfl rfl rfl rfl (slices_Concat_byte_byte.calls (g := g) h69 (hS.st.fore (L := [])) h65) (fun a v w hR hE => ?_)
 obtain ⟨D70, A72, c73, q74, rfl, hS1, h75⟩ := hR
 have le77 := hS1.dle
 have hS := hS.callR hS1 rfl (.c .n)
 clear hS1
 refine sN 1 8 [(2, .slice A72 (List.length (r68)) c73)] hE (fun a hE => ?_)
 refine at_end rfl ?_
 refine wpIn_ret ?_
 obtain rfl := Option.some.inj hf
 repeat (with_reducible first | refine then_ret ?_ | refine block_ret ?_ | refine qx_ret ?_)
 refine ret_gen ([.slice A72 (List.length (r68)) c73]) hE (by rw [show Tryd.f62.results.toList = [.tmp 2] from rfl]; exact ⟨_, _, rfl, rfl, rfl⟩) ?_
 have hS := hS.pk (.c 0 rfl .n) rfl
 exact ⟨_, rfl, D70, A72, c73, q74, rfl, hS, h75⟩
set_option maxRecDepth 100000 in
set_option maxHeartbeats 4000000 in
theorem mac_joined_byte.calls {K : Nat} {g w0 : World} {D0 : Snap} {x1 : (List (List Int))} {A2 : Option Addr} {c3 : Nat} {r : ((List Int))} (hf : mac_joined_byte.f K x1 = some r) (hS0 : St g w0 D0 []) (h4 : Sl (kdSlice (kdInt .u8)) D0 A2 c3 (x1)) :
  CallsIn (Fw none) 0 Tryd.prog 61 (List.toArray [.slice A2 (List.length (x1)) c3, .func (.func 62) #[] #[]]) w0 (fun e w' => ∃ v, e = .returned v ∧ ∃ (D1 : Snap) (A541 : Option Addr) (c542 : Nat) (q543 : Blk), v = .slice A541 (List.length (r)) c542 ∧ Stp g w0 D0 [] w' D1 [q543] ∧ OwnD (kdInt .u8) 5 D1 A541 c542 (r) q543) := by
 unfold mac_joined_byte.f at hf
 have hS := Stp.refl hS0
 clear hS0
 refine calls_body (n := 21) Tryd.func61 rfl Tryd.ntmps61 rfl (fun a hE => ?_)
 have hE : Env a 21 [] [(0, .slice A2 (List.length (x1)) c3), (1, .func (.func 62) #[] #[])] := hE
 refine wpIn_seq ?_
 refine region_at ?_
 refine sN 1 1 [(4, .slice none 0 0)] hE (fun a hE => ?_)
 refine at_end rfl ?_
 refine wpIn_seq ?_
 refine region_at ?_
 refine sN 1 1 [(5, .slice none 0 0)] hE (fun a hE => ?_)
 refine at_end rfl ?_
 refine wpIn_seq ?_
 refine wpIn_seq ?_
 refine region_at ?_
 refine sN 3 3 [(8, .slice A2 (List.length (x1)) c3), (9, .int .i64 (((List.length (x1) : Nat) : Int))), (10, .int .i64 ((0 : Int)))] hE (fun a hE => ?_)
 refine at_end rfl ?_
 obtain ⟨s1005, hf, hs1006⟩ := bind_some hf
 have hS := hS.nils
 refine block_loop (fun a w => ∃ (z997 : (List Int)), ∃ (A1000 : Option Addr), ∃ (c1001 : Nat), ∃ (q1002 : Blk), ∃ (D998 : Snap), Env a 21 [] [(5, .slice A1000 (List.length (z997)) c1001)] ∧ Stp g w0 D0 [] w D998 [q1002] ∧ Snap.le D0 D998 ∧ OwnD (kdInt .u8) 5 D998 A1000 c1001 (z997) q1002 ∧ z997 = s1005) (fun k a w => ∃ (y907 : (List Int) × Int), ∃ (A910 : Option Addr), ∃ (c911 : Nat), ∃ (q912 : Blk), ∃ (D908 : Snap), Env a 21 [] [(1, .func (.func 62) #[] #[]), (5, .slice A910 (List.length (y907.1)) c911), (8, .slice A2 (List.length (x1)) c3), (9, .int .i64 (((List.length (x1) : Nat) : Int))), (10, .int .i64 (y907.2))] ∧ Stp g w0 D0 [] w D908 [q912] ∧ Snap.le D0 D908 ∧ OwnD (kdInt .u8) 5 D908 A910 c911 (y907.1) q912 ∧ mac_joined_byte_l1.l K x1 k y907 = some s1005) K ?_ ?_ ?_
 ·exact ⟨(([] : List Int), (0 : Int)), none, 0, none, D0, hE.weak (by kernel_rfl), hS, Snap.le.refl _, (OwnD.nil (kdInt .u8) 5 D0), hf⟩
 ·clear hE hS hf
  rintro a w ⟨z997, A1000, c1001, q1002, D998, hE, hS, le999, h1003, rfl⟩
  have hf := hs1006
  clear hs1006
  refine wpIn_seq ?_
  refine region_at ?_
  refine sN 2 2 [(4, .slice A1000 (List.length (z997)) c1001)] hE (fun a hE => ?_)
  refine at_end rfl ?_
  refine wpIn_ret ?_
  obtain rfl := Option.some.inj hf
  repeat (with_reducible first | refine then_ret ?_ | refine block_ret ?_ | refine qx_ret ?_)
  refine ret_gen ([.slice A1000 (List.length (z997)) c1001]) hE (by rw [show Tryd.f61.results.toList = [.tmp 4] from rfl]; exact ⟨_, _, rfl, rfl, rfl⟩) ?_
  exact ⟨_, rfl, D998, A1000, c1001, q1002, rfl, hS, h1003⟩
 ·clear hE hS hf
  rintro k a w ⟨y907, A910, c911, q912, D908, hE, hS, le909, h913, hf⟩
  obtain ⟨k, rfl, hf⟩ := mac_joined_byte_l1.some _ hf
  refine ⟨k, rfl, ?_⟩
  unfold mac_joined_byte_l1.b at hf
  refine wpIn_seq ?_
  refine region_at ?_
  refine sN 1 1 [(11, .bool ((decide (y907.2 < ((List.length (x1) : Nat) : Int)))))] hE (fun a hE => ?_)
  refine at_end rfl ?_
  refine wpIn_seq ?_
  refine cond_split hE (b := (decide (y907.2 < ((List.length (x1) : Nat) : Int)))) rfl (fun hb => ?_) (fun hb => ?_)
  ·replace hf := cond_t hb hf
   clear hb
   refine wpIn_skip ?_
   refine wpIn_seq ?_
   refine wpIn_block ?_
   refine wpIn_seq ?_
   refine region_at ?_
   obtain ⟨x1044, h1045, hf⟩ := bind_some hf
   refine at_op (op_tk hE (g_index (K := (kdSlice (kdInt .u8))) (e := 25) (by_ := 24) (zl := 1) rfl rfl rfl rfl hE rfl rfl rfl (by kernel_rfl) rfl (h4.mono le909) h1045 (fun a b1046 o1047 hE h1048 => ?_))) rfl
   obtain ⟨cs1049, C1050, T1051, fr1052, hr1053, hb1054, hc1055⟩ := h1048
   obtain ⟨A1056, c1057, rfl, h1058⟩ := hr1053
   refine at_op (op_tk hE (tk_loadX (off0 := o1047) (off := 0) (c := [.slice A1056 (List.length (x1044)) c1057]) (.slice A1056 (List.length (x1044)) c1057) rfl rfl rfl rfl hE rfl hS rfl hb1054 hc1055 (by kernel_rfl) (by kernel_rfl) (kD hS dn_nil) (fun a hE => ?_))) rfl
   refine sN 1 3 [(7, .slice A1056 (List.length (x1044)) c1057)] hE (fun a hE => ?_)
   refine at_end rfl ?_
   refine region_at ?_
   refine sN 3 3 [(14, .slice A910 (List.length (y907.1)) c911), (15, .func (.func 62) #[] #[]), (16, .slice A1056 (List.length (x1044)) c1057)] hE (fun a hE => ?_)
   obtain ⟨r1059, h1060, hf⟩ := bind_some hf
   refine aC rfl rfl rfl rfl hE rfl rfl rfl rfl (mac_Of_1.calls (g := g) h1060 (hS.st.fore (L := [])) h1058) (fun a v w hR hE => ?_)
   obtain ⟨D1061, A1063, c1064, q1065, rfl, hS1, h1066⟩ := hR
   have le1068 := hS1.dle
   have hS := hS.callR hS1 rfl (.c .n)
   clear hS1
   obtain ⟨D1069, q1072, le1070, hS, h1073, h1071⟩ := hS.lent h1066
   have hS := hS.pk (.c 1 rfl (.c 0 rfl .n)) rfl
   obtain ⟨l1074, h1075, hf⟩ := bind_some hf
   refine at_op (g_append (K := (kdInt .u8)) (e := 5) (bytes := 1) (l := y907.1) (m := r1059) rfl rfl rfl rfl hE rfl hS rfl rfl (by kernel_rfl) rfl rfl (h913.mono (le2 le1068 le1070)) h1071 h1075 (fun a A1076 c1077 q1078 w _ hE h1079 hS => ?_)) rfl
   refine sN 1 6 [(5, .slice A1076 (List.length (l1074)) c1077)] hE (fun a hE => ?_)
   refine at_end rfl ?_
   refine region_at ?_
   refine sN 2 2 [(10, .int .i64 ((IntKind.wrap .i64 (y907.2 + (1 : Int)))))] hE (fun a hE => ?_)
   refine at_end rfl ?_
   have hS := hS.pk (.c 0 rfl .n) rfl
   exact ⟨(l1074, (IntKind.wrap .i64 (y907.2 + (1 : Int)))), A1076, c1077, q1078, D1069, hE.weak (by kernel_rfl), hS, (le2 (le2 le909 le1068) le1070), h1079, hf⟩
  ·replace hf := cond_f hb hf
   clear hb
   refine wpIn_exit ?_
   obtain rfl := Option.some.inj hf
   exact ⟨y907.1, A910, c911, q912, D908, hE.weak (by kernel_rfl), hS, le909, h913, rfl⟩
set_option maxRecDepth 100000 in
set_option maxHeartbeats 4000000 in
theorem sha_Fill.calls {K : Nat} {g w0 : World} {D0 : Snap} {x1 : Int} {r : ((List Int))} (hf : sha_Fill.f K x1 = some r) (hS0 : St g w0 D0 []) :
  CallsIn (Fw none) 0 Tryd.prog 79 (List.toArray [.int .i64 (x1)]) w0 (fun e w' => ∃ v, e = .returned v ∧ ∃ (D1 : Snap) (A486 : Option Addr) (c487 : Nat) (q488 : Blk), v = .slice A486 (List.length (r)) c487 ∧ Stp g w0 D0 [] w' D1 [q488] ∧ OwnD (kdInt .u8) 5 D1 A486 c487 (r) q488) := by
 unfold sha_Fill.f at hf
 have hS := Stp.refl hS0
 clear hS0
 refine calls_body (n := 34) Tryd.func79 rfl Tryd.ntmps79 rfl (fun a hE => ?_)
 have hE : Env a 34 [] [(0, .int .i64 (x1))] := hE
 refine wpIn_seq ?_
 refine region_at ?_
 refine sN 1 1 [(2, .slice none 0 0)] hE (fun a hE => ?_)
 refine at_end rfl ?_
 refine wpIn_seq ?_
 refine wpIn_seq ?_
 refine region_at ?_
 refine sN 2 2 [(7, .bool ((decide (x1 < (0 : Int)))))] hE (fun a hE => ?_)
 refine at_end rfl ?_
 refine cond_split hE (b := (decide (x1 < (0 : Int)))) rfl (fun hb => ?_) (fun hb => ?_)
 ·replace hf := cond_t hb hf
  clear hb
  refine wpIn_seq ?_
  refine region_at ?_
  refine sN 1 1 [(2, .slice none 0 0)] hE (fun a hE => ?_)
  refine at_end rfl ?_
  refine wpIn_ret ?_
  have hS := hS.nils
  obtain rfl := Option.some.inj hf
  repeat (with_reducible first | refine then_ret ?_ | refine block_ret ?_ | refine qx_ret ?_)
  refine ret_gen ([.slice none 0 0]) hE (by rw [show Tryd.f79.results.toList = [.tmp 2] from rfl]; exact ⟨_, _, rfl, rfl, rfl⟩) ?_
  exact ⟨_, rfl, D0, none, 0, none, rfl, hS, (OwnD.nil (kdInt .u8) 5 D0)⟩
 ·replace hf := cond_f hb hf
  clear hb
  refine wpIn_skip ?_
  refine wpIn_seq ?_
  refine region_at ?_
  refine at_op (op_buildSlice (K := (kdInt .u8)) (e := 5) (cs := [.int .u8 ((128 : Int))] ++ []) ([(128 : Int)] : List Int) rfl rfl rfl rfl hE rfl hS rfl (by kernel_rfl) rfl rfl (by exact (show RL (kdInt .u8) D0 ([(128 : Int)] : List Int) ([.int .u8 ((128 : Int))] ++ []) from ⟨_, _, rfl, rfl, rfl⟩)) (fun a A492 q493 w _ hE h494 hS => ?_)) rfl
  refine sN 1 2 [(3, .slice A492 (List.length (([(128 : Int)] : List Int))) 1)] hE (fun a hE => ?_)
  refine at_end rfl ?_
  refine wpIn_seq ?_
  obtain ⟨s664, hf, hs665⟩ := bind_some hf
  refine block_loop (fun a w => ∃ (z656 : (List Int)), ∃ (A659 : Option Addr), ∃ (c660 : Nat), ∃ (q661 : Blk), ∃ (D657 : Snap), Env a 34 [] [(0, .int .i64 (x1)), (3, .slice A659 (List.length (z656)) c660)] ∧ Stp g w0 D0 [] w D657 [q661] ∧ Snap.le D0 D657 ∧ OwnD (kdInt .u8) 5 D657 A659 c660 (z656) q661 ∧ z656 = s664) (fun k a w => ∃ (y624 : (List Int)), ∃ (A627 : Option Addr), ∃ (c628 : Nat), ∃ (q629 : Blk), ∃ (D625 : Snap), Env a 34 [] [(0, .int .i64 (x1)), (3, .slice A627 (List.length (y624)) c628)] ∧ Stp g w0 D0 [] w D625 [q629] ∧ Snap.le D0 D625 ∧ OwnD (kdInt .u8) 5 D625 A627 c628 (y624) q629 ∧ sha_Fill_l1.l K x1 k y624 = some s664) K ?_ ?_ ?_
  ·exact ⟨([(128 : Int)] : List Int), A492, 1, q493, D0, hE.weak (by kernel_rfl), hS, Snap.le.refl _, h494, hf⟩
  ·clear hE hS hf
   rintro a w ⟨z656, A659, c660, q661, D657, hE, hS, le658, h662, rfl⟩
   have hf := hs665
   clear hs665
   refine wpIn_seq ?_
   refine region_at ?_
   refine sN 4 4 [(4, .int .u64 ((IntKind.wrap .u64 ((IntKind.wrap .u64 x1) * (8 : Int)))))] hE (fun a hE => ?_)
   refine at_end rfl ?_
   refine wpIn_seq ?_
   refine wpIn_seq ?_
   refine region_at ?_
   refine sN 1 1 [(5, .int .i64 ((7 : Int)))] hE (fun a hE => ?_)
   refine at_end rfl ?_
   obtain ⟨s940, hf, hs941⟩ := bind_some hf
   refine block_loop (fun a w => ∃ (z932 : (List Int)), ∃ (A935 : Option Addr), ∃ (c936 : Nat), ∃ (q937 : Blk), ∃ (D933 : Snap), Env a 34 [] [(3, .slice A935 (List.length (z932)) c936)] ∧ Stp g w0 D0 [] w D933 [q937] ∧ Snap.le D657 D933 ∧ OwnD (kdInt .u8) 5 D933 A935 c936 (z932) q937 ∧ z932 = s940) (fun k a w => ∃ (y882 : (List Int) × Int), ∃ (A885 : Option Addr), ∃ (c886 : Nat), ∃ (q887 : Blk), ∃ (D883 : Snap), Env a 34 [] [(3, .slice A885 (List.length (y882.1)) c886), (4, .int .u64 ((IntKind.wrap .u64 ((IntKind.wrap .u64 x1) * (8 : Int))))), (5, .int .i64 (y882.2))] ∧ Stp g w0 D0 [] w D883 [q887] ∧ Snap.le D657 D883 ∧ OwnD (kdInt .u8) 5 D883 A885 c886 (y882.1) q887 ∧ sha_Fill_l2.l K x1 k y882 = some s940) K ?_ ?_ ?_
   ·exact ⟨(z656, (7 : Int)), A659, c660, q661, D657, hE.weak (by kernel_rfl), hS, Snap.le.refl _, h662, hf⟩
   ·clear hE hS hf
    rintro a w ⟨z932, A935, c936, q937, D933, hE, hS, le934, h938, rfl⟩
    have hf := hs941
    clear hs941
    refine wpIn_seq ?_
    refine region_at ?_
    refine sN 2 2 [(2, .slice A935 (List.length (z932)) c936)] hE (fun a hE => ?_)
    refine at_end rfl ?_
    refine wpIn_ret ?_
    obtain rfl := Option.some.inj hf
    repeat (with_reducible first | refine then_ret ?_ | refine block_ret ?_ | refine qx_ret ?_)
    refine ret_gen ([.slice A935 (List.length (z932)) c936]) hE (by rw [show Tryd.f79.results.toList = [.tmp 2] from rfl]; exact ⟨_, _, rfl, rfl, rfl⟩) ?_
    exact ⟨_, rfl, D933, A935, c936, q937, rfl, hS, h938⟩
   ·clear hE hS hf
    rintro k a w ⟨y882, A885, c886, q887, D883, hE, hS, le884, h888, hf⟩
    obtain ⟨k, rfl, hf⟩ := sha_Fill_l2.some _ hf
    refine ⟨k, rfl, ?_⟩
    unfold sha_Fill_l2.b at hf
    refine wpIn_seq ?_
    refine wpIn_seq ?_
    refine region_at ?_
    refine sN 2 2 [(22, .bool ((decide ((0 : Int) ≤ y882.2))))] hE (fun a hE => ?_)
    refine at_end rfl ?_
    refine cond_split hE (b := (decide ((0 : Int) ≤ y882.2))) rfl (fun hb => ?_) (fun hb => ?_)
    ·replace hf := cond_t hb hf
     clear hb
     refine wpIn_skip ?_
     refine wpIn_seq ?_
     refine wpIn_block ?_
     refine region_at ?_
     refine sN 4 4 [(25, .slice A885 (List.length (y882.1)) c886), (26, .int .u64 ((IntKind.wrap .u64 ((IntKind.wrap .u64 x1) * (8 : Int))))), (28, .int .i64 ((IntKind.wrap .i64 ((8 : Int) * y882.2))))] hE (fun a hE => ?_)
     obtain ⟨hq959, hf⟩ := chk_not hf
     refine at_op (op_tk hE (tk_bin (r := .int .u64 ((Int.fdiv (IntKind.wrap .u64 ((IntKind.wrap .u64 x1) * (8 : Int))) (2 ^ (min (Int.toNat (IntKind.wrap .i64 ((8 : Int) * y882.2))) 64))))) rfl rfl rfl rfl hE rfl rfl rfl (shr_run hq959) (fun a hE => ?_))) rfl
     refine sN 1 6 [(30, .int .u8 ((IntKind.wrap .u8 (Int.fdiv (IntKind.wrap .u64 ((IntKind.wrap .u64 x1) * (8 : Int))) (2 ^ (min (Int.toNat (IntKind.wrap .i64 ((8 : Int) * y882.2))) 64))))))] hE (fun a hE => ?_)
     refine at_op (op_buildSlice (K := (kdInt .u8)) (e := 5) (cs := [.int .u8 ((IntKind.wrap .u8 (Int.fdiv (IntKind.wrap .u64 ((IntKind.wrap .u64 x1) * (8 : Int))) (2 ^ (min (Int.toNat (IntKind.wrap .i64 ((8 : Int) * y882.2))) 64)))))] ++ []) ([(IntKind.wrap .u8 (Int.fdiv (IntKind.wrap .u64 ((IntKind.wrap .u64 x1) * (8 : Int))) (2 ^ (min (Int.toNat (IntKind.wrap .i64 ((8 : Int) * y882.2))) 64))))] : List Int) rfl rfl rfl rfl hE rfl hS rfl (by kernel_rfl) rfl rfl (by exact (show RL (kdInt .u8) D883 ([(IntKind.wrap .u8 (Int.fdiv (IntKind.wrap .u64 ((IntKind.wrap .u64 x1) * (8 : Int))) (2 ^ (min (Int.toNat (IntKind.wrap .i64 ((8 : Int) * y882.2))) 64))))] : List Int) ([.int .u8 ((IntKind.wrap .u8 (Int.fdiv (IntKind.wrap .u64 ((IntKind.wrap .u64 x1) * (8 : Int))) (2 ^ (min (Int.toNat (IntKind.wrap .i64 ((8 : Int) * y882.2))) 64)))))] ++ []) from ⟨_, _, rfl, rfl, rfl⟩)) (fun a A960 q961 w _ hE h962 hS => ?_)) rfl
     obtain ⟨D964, q967, le965, hS, h968, h966⟩ := hS.lent h962
     have hS := hS.pk (.c 1 rfl (.c 0 rfl .n)) rfl
     obtain ⟨l969, h970, hf⟩ := bind_some hf
     refine at_op (g_append (K := (kdInt .u8)) (e := 5) (bytes := 1) (l := y882.1) (m := ([(IntKind.wrap .u8 (Int.fdiv (IntKind.wrap .u64 ((IntKind.wrap .u64 x1) * (8 : Int))) (2 ^ (min (Int.toNat (IntKind.wrap .i64 ((8 : Int) * y882.2))) 64))))] : List Int)) rfl rfl rfl rfl hE rfl hS rfl rfl (by kernel_rfl) rfl rfl (h888.mono le965) h966 h970 (fun a A971 c972 q973 w _ hE h974 hS => ?_)) rfl
     refine sN 1 9 [(3, .slice A971 (List.length (l969)) c972)] hE (fun a hE => ?_)
     refine at_end rfl ?_
     refine region_at ?_
     refine sN 3 3 [(5, .int .i64 ((IntKind.wrap .i64 (y882.2 - (1 : Int)))))] hE (fun a hE => ?_)
     refine at_end rfl ?_
     have hS := hS.pk (.c 0 rfl .n) rfl
     exact ⟨(l969, (IntKind.wrap .i64 (y882.2 - (1 : Int)))), A971, c972, q973, D964, hE.weak (by kernel_rfl), hS, (le2 le884 le965), h974, hf⟩
    ·replace hf := cond_f hb hf
     clear hb
     refine wpIn_exit ?_
     obtain rfl := Option.some.inj hf
     exact ⟨y882.1, A885, c886, q887, D883, hE.weak (by kernel_rfl), hS, le884, h888, rfl⟩
  ·clear hE hS hf
   rintro k a w ⟨y624, A627, c628, q629, D625, hE, hS, le626, h630, hf⟩
   obtain ⟨k, rfl, hf⟩ := sha_Fill_l1.some _ hf
   refine ⟨k, rfl, ?_⟩
   unfold sha_Fill_l1.b at hf
   refine wpIn_seq ?_
   refine wpIn_seq ?_
   refine region_at ?_
   refine sN 6 6 [(14, .bool ((!decide ((Int.tmod (IntKind.wrap .i64 (x1 + ((List.length (y624) : Nat) : Int))) 64) = (56 : Int)))))] hE (fun a hE => ?_)
   refine at_end rfl ?_
   refine cond_split hE (b := (!decide ((Int.tmod (IntKind.wrap .i64 (x1 + ((List.length (y624) : Nat) : Int))) 64) = (56 : Int)))) rfl (fun hb => ?_) (fun hb => ?_)
   ·replace hf := cond_t hb hf
    clear hb
    refine wpIn_skip ?_
    refine wpIn_block ?_
    refine region_at ?_
    refine sN 1 1 [(15, .slice A627 (List.length (y624)) c628)] hE (fun a hE => ?_)
    refine at_op (op_buildSlice (K := (kdInt .u8)) (e := 5) (cs := [.int .u8 ((0 : Int))] ++ []) ([(0 : Int)] : List Int) rfl rfl rfl rfl hE rfl hS rfl (by kernel_rfl) rfl rfl (by exact (show RL (kdInt .u8) D625 ([(0 : Int)] : List Int) ([.int .u8 ((0 : Int))] ++ []) from ⟨_, _, rfl, rfl, rfl⟩)) (fun a A666 q667 w _ hE h668 hS => ?_)) rfl
    obtain ⟨D670, q673, le671, hS, h674, h672⟩ := hS.lent h668
    have hS := hS.pk (.c 1 rfl (.c 0 rfl .n)) rfl
    obtain ⟨l675, h676, hf⟩ := bind_some hf
    refine at_op (g_append (K := (kdInt .u8)) (e := 5) (bytes := 1) (l := y624) (m := ([(0 : Int)] : List Int)) rfl rfl rfl rfl hE rfl hS rfl rfl (by kernel_rfl) rfl rfl (h630.mono le671) h672 h676 (fun a A677 c678 q679 w _ hE h680 hS => ?_)) rfl
    refine sN 1 4 [(3, .slice A677 (List.length (l675)) c678)] hE (fun a hE => ?_)
    refine at_end rfl ?_
    have hS := hS.pk (.c 0 rfl .n) rfl
    exact ⟨l675, A677, c678, q679, D670, hE.weak (by kernel_rfl), hS, (le2 le626 le671), h680, hf⟩
   ·replace hf := cond_f hb hf
    clear hb
    refine wpIn_exit ?_
    obtain rfl := Option.some.inj hf
    exact ⟨y624, A627, c628, q629, D625, hE.weak (by kernel_rfl), hS, le626, h630, rfl⟩
set_option maxRecDepth 100000 in
set_option maxHeartbeats 4000000 in
theorem sha_blocks.calls {K : Nat} {g w0 : World} {D0 : Snap} {x1 : (List Int)} {A2 : Option Addr} {c3 : Nat} {r : ((List Int))} (hf : sha_blocks.f K x1 = some r) (hS0 : St g w0 D0 []) (h4 : Sl (kdInt .u8) D0 A2 c3 (x1)) :
  CallsIn (Fw none) 0 Tryd.prog 78 (List.toArray [.slice A2 (List.length (x1)) c3]) w0 (fun e w' => ∃ v, e = .returned v ∧ ∃ (D1 : Snap) (b7 : Nat) (A9 : Option Addr) (c10 : Nat), v = .func (.func 91) #[] #[.pointer (some ⟨b7, 0, none⟩)] ∧ Stp g w0 D0 [] w' D1 [bx b7 25 ([.slice A9 (List.length (r)) c10])] ∧ Sl (kdInt .u8) D1 A9 c10 (r)) := by
 unfold sha_blocks.f at hf
 have hS := Stp.refl hS0
 clear hS0
 refine calls_body (n := 4) Tryd.func78 rfl Tryd.ntmps78 rfl (fun a hE => ?_)
 have hE : Env a 4 [] [(0, .slice A2 (List.length (x1)) c3)] := hE
 refine wpIn_seq ?_
 refine region_at ?_
 refine at_op (op_box rfl rfl rfl rfl hE rfl hS rfl (fun a b12 w _ hE hS => ?_)) rfl
 refine sN 1 2 [(2, .nilFunc)] hE (fun a hE => ?_)
 refine at_end rfl ?_
 refine wpIn_seq ?_
 refine region_at ?_
 refine sN 2 2 [(2, .func (.func 91) #[] #[.pointer (some ⟨b12, 0, none⟩)])] hE (fun a hE => ?_)
 refine at_end rfl ?_
 refine wpIn_ret ?_
 obtain rfl := Option.some.inj hf
 repeat (with_reducible first | refine then_ret ?_ | refine block_ret ?_ | refine qx_ret ?_)
 refine ret_gen ([.func (.func 91) #[] #[.pointer (some ⟨b12, 0, none⟩)]]) hE (by rw [show Tryd.f78.results.toList = [.tmp 2] from rfl]; exact ⟨_, _, rfl, rfl, rfl⟩) ?_
 exact ⟨_, rfl, D0, b12, A2, c3, rfl, hS, h4⟩
set_option maxRecDepth 100000 in
set_option maxHeartbeats 4000000 in
theorem math_bits_RotateLeft32.calls {K : Nat} {g w0 : World} {D0 : Snap} {x1 : Int} {x2 : Int} {r : (Int)} (hf : math_bits_RotateLeft32.f K x1 x2 = some r) (hS0 : St g w0 D0 []) :
  CallsIn (Fw none) 0 Tryd.prog 97 (List.toArray [.int .u32 (x1), .int .i64 (x2)]) w0 (fun e w' => ∃ v, e = .returned v ∧ ∃ (D1 : Snap), v = .int .u32 (r) ∧ Stp g w0 D0 [] w' D1 []) := by
 unfold math_bits_RotateLeft32.f at hf
 have hS := Stp.refl hS0
 clear hS0
 refine calls_body (n := 17) Tryd.func97 rfl Tryd.ntmps97 rfl (fun a hE => ?_)
 have hE : Env a 17 [] [(0, .int .u32 (x1)), (1, .int .i64 (x2))] := hE
 refine wpIn_seq ?_
 refine region_at ?_
 refine sN 1 1 [(4, .int .u32 ((0 : Int)))] hE (fun a hE => ?_)
 refine at_end rfl ?_
 refine wpIn_seq ?_
 refine region_at ?_
 refine sN 4 4 [(5, .int .u64 ((band .u64 (IntKind.wrap .u64 x2) (31 : Int))))] hE (fun a hE => ?_)
 refine at_end rfl ?_
 refine wpIn_seq ?_
 refine region_at ?_
 refine sN 2 2 [(9, .int .u32 (x1)), (10, .int .u64 ((band .u64 (IntKind.wrap .u64 x2) (31 : Int))))] hE (fun a hE => ?_)
 obtain ⟨hq5, hf⟩ := chk_not hf
 refine at_op (op_tk hE (tk_bin (r := .int .u32 ((IntKind.wrap .u32 (x1 * 2 ^ (min (Int.toNat (band .u64 (IntKind.wrap .u64 x2) (31 : Int))) 32))))) rfl rfl rfl rfl hE rfl rfl rfl (shl_run hq5) (fun a hE => ?_))) rfl
 refine sN 3 6 [(12, .int .u32 (x1)), (14, .int .u64 ((IntKind.wrap .u64 ((32 : Int) - (band .u64 (IntKind.wrap .u64 x2) (31 : Int))))))] hE (fun a hE => ?_)
 obtain ⟨hq6, hf⟩ := chk_not hf
 refine at_op (op_tk hE (tk_bin (r := .int .u32 ((Int.fdiv x1 (2 ^ (min (Int.toNat (IntKind.wrap .u64 ((32 : Int) - (band .u64 (IntKind.wrap .u64 x2) (31 : Int))))) 32))))) rfl rfl rfl rfl hE rfl rfl rfl (shr_run hq6) (fun a hE => ?_))) rfl
 refine sN 2 9 [(4, .int .u32 ((bor .u32 (IntKind.wrap .u32 (x1 * 2 ^ (min (Int.toNat (band .u64 (IntKind.wrap .u64 x2) (31 : Int))) 32))) (Int.fdiv x1 (2 ^ (min (Int.toNat (IntKind.wrap .u64 ((32 : Int) - (band .u64 (IntKind.wrap .u64 x2) (31 : Int))))) 32))))))] hE (fun a hE => ?_)
 refine at_end rfl ?_
 refine wpIn_ret ?_
 obtain rfl := Option.some.inj hf
 repeat (with_reducible first | refine then_ret ?_ | refine block_ret ?_ | refine qx_ret ?_)
 refine ret_gen ([.int .u32 ((bor .u32 (IntKind.wrap .u32 (x1 * 2 ^ (min (Int.toNat (band .u64 (IntKind.wrap .u64 x2) (31 : Int))) 32))) (Int.fdiv x1 (2 ^ (min (Int.toNat (IntKind.wrap .u64 ((32 : Int) - (band .u64 (IntKind.wrap .u64 x2) (31 : Int))))) 32)))))]) hE (by rw [show Tryd.f97.results.toList = [.tmp 4] from rfl]; exact ⟨_, _, rfl, rfl, rfl⟩) ?_
 exact ⟨_, rfl, D0, rfl, hS⟩
set_option maxRecDepth 100000 in
set_option maxHeartbeats 4000000 in
theorem sha_moved.calls {K : Nat} {g w0 : World} {D0 : Snap} {x1 : Int} {x2 : Int} {x3 : Int} {x4 : Int} {r : (Int)} (hf : sha_moved.f K x1 x2 x3 x4 = some r) (hS0 : St g w0 D0 []) :
  CallsIn (Fw none) 0 Tryd.prog 96 (List.toArray [.int .u32 (x1), .int .i64 (x2), .int .i64 (x3), .int .i64 (x4)]) w0 (fun e w' => ∃ v, e = .returned v ∧ ∃ (D1 : Snap), v = .int .u32 (r) ∧ Stp g w0 D0 [] w' D1 []) := by
 unfold sha_moved.f at hf
 have hS := Stp.refl hS0
 clear hS0
 refine calls_body (n := 22) Tryd.func96 rfl Tryd.ntmps96 rfl (fun a hE => ?_)
 have hE : Env a 22 [] [(0, .int .u32 (x1)), (1, .int .i64 (x2)), (2, .int .i64 (x3)), (3, .int .i64 (x4))] := hE
 refine wpIn_seq ?_
 refine region_at ?_
 refine sN 1 1 [(8, .int .u32 ((0 : Int)))] hE (fun a hE => ?_)
 refine at_end rfl ?_
 refine wpIn_seq ?_
 refine region_draw (fun j => Keeps (mfOf [] j)) (by kernel_rfl) ?_
 have hS := hS.drew
 first | generalize w.drew = w at hS ⊢ | generalize w0.drew = w at hS ⊢
 refine wP 0 1 13 (.int .u32 (x1)) hE (fun a hE => ?_)
 refine wP 1 3 12 (.int .i64 (x2)) hE (fun a hE => ?_)
 refine wP 2 7 11 (.int .i64 ((IntKind.wrap .i64 (0 - x2)))) hE (fun a hE => ?_)
 refine wP 4 23 10 (.int .u32 (x1)) hE (fun a hE => ?_)
 refine wP 5 55 9 (.int .i64 (x3)) hE (fun a hE => ?_)
 refine wP 6 119 8 (.int .i64 ((IntKind.wrap .i64 (0 - x3)))) hE (fun a hE => ?_)
 refine wP 9 631 7 (.int .u32 (x1)) hE (fun a hE => ?_)
 refine wP 10 1655 6 (.int .i64 (x4)) hE (fun a hE => ?_)
 obtain ⟨hq38, hf⟩ := chk_not hf
 refine tW 11 3703 (fuel := 5) (by kernel_rfl) hE (fun M => tk_bin (r := .int .u32 ((Int.fdiv x1 (2 ^ (min (Int.toNat x4) 32))))) rfl rfl rfl rfl hE rfl rfl rfl (shr_run hq38) (fun a hE => ?_))
 obtain ⟨r39, h40, hf⟩ := bind_some hf
 refine oG 3 3711 (fuel := 4) (by kernel_rfl) (op_call rfl rfl rfl rfl hE rfl rfl rfl rfl (by kernel_rfl) (math_bits_RotateLeft32.calls (g := g) h40 (hS.st.fore (L := [])) ) (fun a v w hR hE => ?_))
 obtain ⟨D41, rfl, hS1⟩ := hR
 refine ⟨(hS1.keeps.sub (M' := []) trivial).mono (fun _ h => h), ?_⟩
 have le43 := hS1.dle
 have hS := hS.callR hS1 rfl .n
 clear hS1
 obtain ⟨r44, h45, hf⟩ := bind_some hf
 refine oG 7 3839 (fuel := 3) (by kernel_rfl) (op_call rfl rfl rfl rfl hE rfl rfl rfl rfl (by kernel_rfl) (math_bits_RotateLeft32.calls (g := g) h45 (hS.st.fore (L := [])) ) (fun a v w hR hE => ?_))
 obtain ⟨D46, rfl, hS1⟩ := hR
 refine ⟨(hS1.keeps.sub (M' := []) trivial).mono (fun _ h => h), ?_⟩
 have le48 := hS1.dle
 have hS := hS.callR hS1 rfl .n
 clear hS1
 refine wP 8 4095 2 (.int .u32 ((bxor .u32 r39 r44))) hE (fun a hE => ?_)
 refine wP 12 8191 1 (.int .u32 ((bxor .u32 (bxor .u32 r39 r44) (Int.fdiv x1 (2 ^ (min (Int.toNat x4) 32)))))) hE (fun a hE => ?_)
 refine wP 13 16383 0 (.int .u32 ((bxor .u32 (bxor .u32 r39 r44) (Int.fdiv x1 (2 ^ (min (Int.toNat x4) 32)))))) hE (fun a hE => ?_)
 refine doneG (by kernel_rfl) ?_
 refine wpIn_ret ?_
 obtain rfl := Option.some.inj hf
 repeat (with_reducible first | refine then_ret ?_ | refine block_ret ?_ | refine qx_ret ?_)
 refine ret_gen ([.int .u32 ((bxor .u32 (bxor .u32 r39 r44) (Int.fdiv x1 (2 ^ (min (Int.toNat x4) 32)))))]) hE (by rw [show Tryd.f96.results.toList = [.tmp 8] from rfl]; exact ⟨_, _, rfl, rfl, rfl⟩) ?_
 exact ⟨_, rfl, D46, rfl, hS⟩
set_option maxRecDepth 100000 in
set_option maxHeartbeats 4000000 in
theorem sha_schedule.calls {K : Nat} {g w0 : World} {D0 : Snap} {x1 : (List Int)} {A2 : Option Addr} {c3 : Nat} {r : ((Vector Int 64))} (hf : sha_schedule.f K x1 = some r) (hS0 : St g w0 D0 []) (h4 : Sl (kdInt .u8) D0 A2 c3 (x1)) :
  CallsIn (Fw none) 0 Tryd.prog 92 (List.toArray [.slice A2 (List.length (x1)) c3]) w0 (fun e w' => ∃ v, e = .returned v ∧ ∃ (D1 : Snap), v = .agg (List.toArray (acells .u32 64 (r))) ∧ Stp g w0 D0 [] w' D1 []) := by
 unfold sha_schedule.f at hf
 have hS := Stp.refl hS0
 clear hS0
 refine calls_body (n := 70) Tryd.func92 rfl Tryd.ntmps92 rfl (fun a hE => ?_)
 have hE : Env a 70 [] [(0, .slice A2 (List.length (x1)) c3)] := hE
 refine wpIn_seq ?_
 refine region_at ?_
 refine at_op (op_alloc (z := .agg (List.toArray (acells .u32 64 ((Vector.replicate 64 (0 : Int)))))) rfl rfl rfl rfl hE rfl hS (by kernel_rfl) (fun a b2911 w _ hE hS => ?_)) rfl
 refine at_end rfl ?_
 refine wpIn_seq ?_
 refine region_at ?_
 refine at_op (op_alloc (z := .agg (List.toArray (acells .u32 64 ((Vector.replicate 64 (0 : Int)))))) rfl rfl rfl rfl hE rfl hS (by kernel_rfl) (fun a b2913 w _ hE hS => ?_)) rfl
 refine at_end rfl ?_
 refine wpIn_seq ?_
 refine wpIn_seq ?_
 refine region_at ?_
 refine sN 1 1 [(5, .int .i64 ((0 : Int)))] hE (fun a hE => ?_)
 refine at_end rfl ?_
 obtain ⟨s5334, hf, hs5335⟩ := bind_some hf
 have hS := hS.pk (.c 1 rfl (.c 0 rfl .n)) rfl
 refine block_loop (fun a w => ∃ (z5331 : (Vector Int 64)), ∃ (D5332 : Snap), Env a 70 [] [(2, .pointer (some ⟨b2911, 0, none⟩)), (3, .pointer (some ⟨b2913, 0, none⟩))] ∧ Stp g w0 D0 [] w D5332 [bx b2911 107 (acells .u32 64 ((Vector.replicate 64 (0 : Int)))), bx b2913 107 (acells .u32 64 (z5331))] ∧ Snap.le D0 D5332 ∧ z5331 = s5334) (fun k a w => ∃ (y4844 : Int × (Vector Int 64)), ∃ (D4845 : Snap), Env a 70 [] [(0, .slice A2 (List.length (x1)) c3), (2, .pointer (some ⟨b2911, 0, none⟩)), (3, .pointer (some ⟨b2913, 0, none⟩)), (5, .int .i64 (y4844.1))] ∧ Stp g w0 D0 [] w D4845 [bx b2911 107 (acells .u32 64 ((Vector.replicate 64 (0 : Int)))), bx b2913 107 (acells .u32 64 (y4844.2))] ∧ Snap.le D0 D4845 ∧ sha_schedule_l1.l K x1 k y4844 = some s5334) K ?_ ?_ ?_
 ·exact ⟨((0 : Int), (Vector.replicate 64 (0 : Int))), D0, hE.weak (by kernel_rfl), hS, Snap.le.refl _, hf⟩
 ·clear hE hS hf
  rintro a w ⟨z5331, D5332, hE, hS, le5333, rfl⟩
  have hf := hs5335
  clear hs5335
  refine wpIn_seq ?_
  refine region_at ?_
  refine aL 1 (.agg (List.toArray (acells .u32 64 (z5331)))) hE hS (fun a hE => ?_)
  refine at_op (op_store (v := .agg (List.toArray (acells .u32 64 (z5331)))) (acells .u32 64 (z5331)) rfl rfl rfl rfl hE hS rfl rfl (by kernel_rfl) (by kernel_rfl) (by kernel_rfl) (by kernel_rfl) (by kernel_rfl) (fun a w _ hE hS => ?_)) rfl
  refine at_end rfl ?_
  refine wpIn_ret ?_
  obtain rfl := Option.some.inj hf
  repeat (with_reducible first | refine then_ret ?_ | refine block_ret ?_ | refine qx_ret ?_)
  refine ret_gen ([.agg (List.toArray (acells .u32 64 (z5331)))]) hE (by rw [show Tryd.f92.results.toList = [.cell 2 107] from rfl]; exact ⟨_, _, _, 0, _, _, rfl, rfl, hS.heapAt (j := 0) rfl, by kernel_rfl, rfl⟩) ?_
  have hS := hS.pk .n rfl
  exact ⟨_, rfl, D5332, rfl, hS⟩
 ·clear hE hS hf
  rintro k a w ⟨y4844, D4845, hE, hS, le4846, hf⟩
  obtain ⟨k, rfl, hf⟩ := sha_schedule_l1.some _ hf
  refine ⟨k, rfl, ?_⟩
  unfold sha_schedule_l1.b at hf
  refine wpIn_seq ?_
  refine region_at ?_
  refine sN 1 1 [(6, .bool ((decide (y4844.1 < (64 : Int)))))] hE (fun a hE => ?_)
  refine at_end rfl ?_
  refine wpIn_seq ?_
  refine cond_split hE (b := (decide (y4844.1 < (64 : Int)))) rfl (fun hb => ?_) (fun hb => ?_)
  ·replace hf := cond_t hb hf
   clear hb
   refine wpIn_skip ?_
   obtain ⟨j5577, hj5578, hf⟩ := jn_elim hf
   refine seq_join (fun a w => ∃ (y5574 : (Vector Int 64)), ∃ (D5575 : Snap), Env a 70 [] [(0, .slice A2 (List.length (x1)) c3), (2, .pointer (some ⟨b2911, 0, none⟩)), (3, .pointer (some ⟨b2913, 0, none⟩)), (5, .int .i64 (y4844.1))] ∧ Stp g w0 D0 [] w D5575 [bx b2911 107 (acells .u32 64 ((Vector.replicate 64 (0 : Int)))), bx b2913 107 (acells .u32 64 (y5574))] ∧ Snap.le D4845 D5575 ∧ j5577 y5574 = some s5334) ?_ ?_
   ·clear hj5578
    refine wpIn_block ?_
    refine wpIn_seq ?_
    refine region_at ?_
    refine sN 2 2 [(4, .int .i64 (y4844.1))] hE (fun a hE => ?_)
    refine at_end rfl ?_
    refine wpIn_seq ?_
    refine wpIn_seq ?_
    refine region_at ?_
    refine sN 2 2 [(9, .bool ((decide (y4844.1 < (16 : Int)))))] hE (fun a hE => ?_)
    refine at_end rfl ?_
    refine cond_split hE (b := (decide (y4844.1 < (16 : Int)))) rfl (fun hb => ?_) (fun hb => ?_)
    ·replace hf := cond_t hb hf
     clear hb
     refine wpIn_seq ?_
     refine region_draw (fun j => Keeps (mfOf [(35, [b2913])] j)) (by kernel_rfl) ?_
     have hS := hS.drew
     first | generalize w.drew = w at hS ⊢ | generalize w0.drew = w at hS ⊢
     refine wP 0 1 35 (.int .i64 (y4844.1)) hE (fun a hE => ?_)
     refine wP 1 3 34 (.slice A2 (List.length (x1)) c3) hE (fun a hE => ?_)
     refine wP 2 7 33 (.int .i64 (y4844.1)) hE (fun a hE => ?_)
     refine wP 3 15 32 (.int .i64 ((IntKind.wrap .i64 ((4 : Int) * y4844.1)))) hE (fun a hE => ?_)
     refine wP 8 271 31 (.slice A2 (List.length (x1)) c3) hE (fun a hE => ?_)
     refine wP 9 783 30 (.int .i64 (y4844.1)) hE (fun a hE => ?_)
     refine wP 10 1807 29 (.int .i64 ((IntKind.wrap .i64 ((4 : Int) * y4844.1)))) hE (fun a hE => ?_)
     refine wP 11 3855 28 (.int .i64 ((IntKind.wrap .i64 ((IntKind.wrap .i64 ((4 : Int) * y4844.1)) + (1 : Int))))) hE (fun a hE => ?_)
     refine wP 17 134927 27 (.slice A2 (List.length (x1)) c3) hE (fun a hE => ?_)
     refine wP 18 397071 26 (.int .i64 (y4844.1)) hE (fun a hE => ?_)
     refine wP 19 921359 25 (.int .i64 ((IntKind.wrap .i64 ((4 : Int) * y4844.1)))) hE (fun a hE => ?_)
     refine wP 20 1969935 24 (.int .i64 ((IntKind.wrap .i64 ((IntKind.wrap .i64 ((4 : Int) * y4844.1)) + (2 : Int))))) hE (fun a hE => ?_)
     refine wP 26 69078799 23 (.slice A2 (List.length (x1)) c3) hE (fun a hE => ?_)
     refine wP 27 203296527 22 (.int .i64 (y4844.1)) hE (fun a hE => ?_)
     refine wP 28 471731983 21 (.int .i64 ((IntKind.wrap .i64 ((4 : Int) * y4844.1)))) hE (fun a hE => ?_)
     refine wP 29 1008602895 20 (.int .i64 ((IntKind.wrap .i64 ((IntKind.wrap .i64 ((4 : Int) * y4844.1)) + (3 : Int))))) hE (fun a hE => ?_)
     obtain ⟨x5732, h5733, hf⟩ := bind_some hf
     refine tW 4 1008602911 (fuel := 19) (by kernel_rfl) hE (fun M => g_index (K := (kdInt .u8)) (e := 5) (by_ := 1) (zl := 1) rfl rfl rfl rfl hE rfl rfl rfl (by kernel_rfl) rfl (h4.mono le4846) h5733 (fun a b5734 o5735 hE h5736 => ?_))
     obtain ⟨cs5737, C5738, T5739, fr5740, hr5741, hb5742, hc5743⟩ := h5736
     obtain rfl := hr5741
     refine tT 5 1008602943 (fuel := 18) (by kernel_rfl) hE (tk_loadX (off0 := o5735) (off := 0) (c := [.int .u8 (x5732)]) (.int .u8 (x5732)) rfl rfl rfl rfl hE rfl hS rfl hb5742 hc5743 (by kernel_rfl) (by kernel_rfl) (kD hS dn_nil) (fun a hE => ?_))
     refine tW 6 1008603007 (fuel := 17) (by kernel_rfl) hE (fun M => tk_pure (.int .u32 ((IntKind.wrap .u32 x5732))) hE rfl rfl rfl rfl (fun _ _ _ e => by cases e; rfl) (by kernel_rfl) (fun a hE => ?_))
     refine wP 7 1008603135 16 (.int .u32 ((IntKind.wrap .u32 ((IntKind.wrap .u32 x5732) * 2 ^ 24)))) hE (fun a hE => ?_)
     obtain ⟨x5744, h5745, hf⟩ := bind_some hf
     refine tW 12 1008607231 (fuel := 15) (by kernel_rfl) hE (fun M => g_index (K := (kdInt .u8)) (e := 5) (by_ := 1) (zl := 1) rfl rfl rfl rfl hE rfl rfl rfl (by kernel_rfl) rfl (h4.mono le4846) h5745 (fun a b5746 o5747 hE h5748 => ?_))
     obtain ⟨cs5749, C5750, T5751, fr5752, hr5753, hb5754, hc5755⟩ := h5748
     obtain rfl := hr5753
     refine tT 13 1008615423 (fuel := 14) (by kernel_rfl) hE (tk_loadX (off0 := o5747) (off := 0) (c := [.int .u8 (x5744)]) (.int .u8 (x5744)) rfl rfl rfl rfl hE rfl hS rfl hb5754 hc5755 (by kernel_rfl) (by kernel_rfl) (kD hS dn_nil) (fun a hE => ?_))
     refine tW 14 1008631807 (fuel := 13) (by kernel_rfl) hE (fun M => tk_pure (.int .u32 ((IntKind.wrap .u32 x5744))) hE rfl rfl rfl rfl (fun _ _ _ e => by cases e; rfl) (by kernel_rfl) (fun a hE => ?_))
     refine wP 15 1008664575 12 (.int .u32 ((IntKind.wrap .u32 ((IntKind.wrap .u32 x5744) * 2 ^ 16)))) hE (fun a hE => ?_)
     refine wP 16 1008730111 11 (.int .u32 ((bor .u32 (IntKind.wrap .u32 ((IntKind.wrap .u32 x5732) * 2 ^ 24)) (IntKind.wrap .u32 ((IntKind.wrap .u32 x5744) * 2 ^ 16))))) hE (fun a hE => ?_)
     obtain ⟨x5756, h5757, hf⟩ := bind_some hf
     refine tW 21 1010827263 (fuel := 10) (by kernel_rfl) hE (fun M => g_index (K := (kdInt .u8)) (e := 5) (by_ := 1) (zl := 1) rfl rfl rfl rfl hE rfl rfl rfl (by kernel_rfl) rfl (h4.mono le4846) h5757 (fun a b5758 o5759 hE h5760 => ?_))
     obtain ⟨cs5761, C5762, T5763, fr5764, hr5765, hb5766, hc5767⟩ := h5760
     obtain rfl := hr5765
     refine tT 22 1015021567 (fuel := 9) (by kernel_rfl) hE (tk_loadX (off0 := o5759) (off := 0) (c := [.int .u8 (x5756)]) (.int .u8 (x5756)) rfl rfl rfl rfl hE rfl hS rfl hb5766 hc5767 (by kernel_rfl) (by kernel_rfl) (kD hS dn_nil) (fun a hE => ?_))
     refine tW 23 1023410175 (fuel := 8) (by kernel_rfl) hE (fun M => tk_pure (.int .u32 ((IntKind.wrap .u32 x5756))) hE rfl rfl rfl rfl (fun _ _ _ e => by cases e; rfl) (by kernel_rfl) (fun a hE => ?_))
     refine wP 24 1040187391 7 (.int .u32 ((IntKind.wrap .u32 ((IntKind.wrap .u32 x5756) * 2 ^ 8)))) hE (fun a hE => ?_)
     refine wP 25 1073741823 6 (.int .u32 ((bor .u32 (bor .u32 (IntKind.wrap .u32 ((IntKind.wrap .u32 x5732) * 2 ^ 24)) (IntKind.wrap .u32 ((IntKind.wrap .u32 x5744) * 2 ^ 16))) (IntKind.wrap .u32 ((IntKind.wrap .u32 x5756) * 2 ^ 8))))) hE (fun a hE => ?_)
     obtain ⟨x5768, h5769, hf⟩ := bind_some hf
     refine tW 30 2147483647 (fuel := 5) (by kernel_rfl) hE (fun M => g_index (K := (kdInt .u8)) (e := 5) (by_ := 1) (zl := 1) rfl rfl rfl rfl hE rfl rfl rfl (by kernel_rfl) rfl (h4.mono le4846) h5769 (fun a b5770 o5771 hE h5772 => ?_))
     obtain ⟨cs5773, C5774, T5775, fr5776, hr5777, hb5778, hc5779⟩ := h5772
     obtain rfl := hr5777
     refine tT 31 4294967295 (fuel := 4) (by kernel_rfl) hE (tk_loadX (off0 := o5771) (off := 0) (c := [.int .u8 (x5768)]) (.int .u8 (x5768)) rfl rfl rfl rfl hE rfl hS rfl hb5778 hc5779 (by kernel_rfl) (by kernel_rfl) (kD hS dn_nil) (fun a hE => ?_))
     refine tW 32 8589934591 (fuel := 3) (by kernel_rfl) hE (fun M => tk_pure (.int .u32 ((IntKind.wrap .u32 x5768))) hE rfl rfl rfl rfl (fun _ _ _ e => by cases e; rfl) (by kernel_rfl) (fun a hE => ?_))
     refine wP 33 17179869183 2 (.int .u32 ((bor .u32 (bor .u32 (bor .u32 (IntKind.wrap .u32 ((IntKind.wrap .u32 x5732) * 2 ^ 24)) (IntKind.wrap .u32 ((IntKind.wrap .u32 x5744) * 2 ^ 16))) (IntKind.wrap .u32 ((IntKind.wrap .u32 x5756) * 2 ^ 8))) (IntKind.wrap .u32 x5768)))) hE (fun a hE => ?_)
     obtain ⟨hm5780, hf⟩ := chk_some hf
     refine tW 34 34359738367 (fuel := 1) (by kernel_rfl) hE (fun M => tk_indexPA (N := 64) (k := .u32) (m := y4844.1) rfl rfl rfl rfl hE rfl rfl rfl (by kernel_rfl) hm5780 (fun a hE => ?_))
     have hS := hS.pk (.c 1 rfl (.c 0 rfl .n)) rfl
     obtain ⟨v5781, hv5782, hf⟩ := bind_some hf
     replace hv5782 := Option.some.inj hv5782
     refine oG 35 68719476735 (fuel := 0) (by kernel_rfl) (op_storePA (N := 64) (k := .u32) (v := y4844.2) (m := y4844.1) (z := (bor .u32 (bor .u32 (bor .u32 (IntKind.wrap .u32 ((IntKind.wrap .u32 x5732) * 2 ^ 24)) (IntKind.wrap .u32 ((IntKind.wrap .u32 x5744) * 2 ^ 16))) (IntKind.wrap .u32 ((IntKind.wrap .u32 x5756) * 2 ^ 8))) (IntKind.wrap .u32 x5768))) rfl rfl rfl rfl hE hS rfl rfl (by kernel_rfl) hm5780 (fun a w hkp hE hS => ⟨hkp.mono (fun _ h => h), ?_⟩))
     clear hkp
     rw [hv5782] at hS
     refine doneG (by kernel_rfl) ?_
     refine wpIn_exit ?_
     have hS := hS.pk (.c 1 rfl (.c 0 rfl .n)) rfl
     exact ⟨v5781, D4845, hE.weak (by kernel_rfl), hS, Snap.le.refl _, hf⟩
    ·replace hf := cond_f hb hf
     clear hb
     refine wpIn_skip ?_
     refine region_draw (fun j => Keeps (mfOf [(23, [b2913])] j)) (by kernel_rfl) ?_
     have hS := hS.drew
     first | generalize w.drew = w at hS ⊢ | generalize w0.drew = w at hS ⊢
     refine wP 0 1 23 (.int .i64 (y4844.1)) hE (fun a hE => ?_)
     refine wP 1 3 22 (.int .i64 (y4844.1)) hE (fun a hE => ?_)
     refine wP 2 7 21 (.int .i64 ((IntKind.wrap .i64 (y4844.1 - (2 : Int))))) hE (fun a hE => ?_)
     refine wP 6 71 20 (.int .i64 (y4844.1)) hE (fun a hE => ?_)
     refine wP 7 199 19 (.int .i64 ((IntKind.wrap .i64 (y4844.1 - (7 : Int))))) hE (fun a hE => ?_)
     refine wP 11 2247 18 (.int .i64 (y4844.1)) hE (fun a hE => ?_)
     refine wP 12 6343 17 (.int .i64 ((IntKind.wrap .i64 (y4844.1 - (15 : Int))))) hE (fun a hE => ?_)
     refine wP 17 137415 16 (.int .i64 (y4844.1)) hE (fun a hE => ?_)
     refine wP 18 399559 15 (.int .i64 ((IntKind.wrap .i64 (y4844.1 - (16 : Int))))) hE (fun a hE => ?_)
     obtain ⟨hm5800, hf⟩ := chk_some hf
     refine tW 3 399567 (fuel := 14) (by kernel_rfl) hE (fun M => tk_indexPA (N := 64) (k := .u32) (m := (IntKind.wrap .i64 (y4844.1 - (2 : Int)))) rfl rfl rfl rfl hE rfl rfl rfl (by kernel_rfl) hm5800 (fun a hE => ?_))
     refine tT 4 399583 (fuel := 13) (by kernel_rfl) hE (tk_loadPA 1 (N := 64) (k := .u32) (v := y4844.2) (m := (IntKind.wrap .i64 (y4844.1 - (2 : Int)))) rfl rfl rfl rfl hE rfl hS rfl rfl (by kernel_rfl) hm5800 (kL (j := 1) hS rfl List.not_mem_nil) (fun a hE => ?_))
     obtain ⟨hm5801, hf⟩ := chk_some hf
     refine tW 8 399839 (fuel := 12) (by kernel_rfl) hE (fun M => tk_indexPA (N := 64) (k := .u32) (m := (IntKind.wrap .i64 (y4844.1 - (7 : Int)))) rfl rfl rfl rfl hE rfl rfl rfl (by kernel_rfl) hm5801 (fun a hE => ?_))
     refine tT 9 400351 (fuel := 11) (by kernel_rfl) hE (tk_loadPA 1 (N := 64) (k := .u32) (v := y4844.2) (m := (IntKind.wrap .i64 (y4844.1 - (7 : Int)))) rfl rfl rfl rfl hE rfl hS rfl rfl (by kernel_rfl) hm5801 (kL (j := 1) hS rfl List.not_mem_nil) (fun a hE => ?_))
     obtain ⟨hm5802, hf⟩ := chk_some hf
     refine tW 13 408543 (fuel := 10) (by kernel_rfl) hE (fun M => tk_indexPA (N := 64) (k := .u32) (m := (IntKind.wrap .i64 (y4844.1 - (15 : Int)))) rfl rfl rfl rfl hE rfl rfl rfl (by kernel_rfl) hm5802 (fun a hE => ?_))
     refine tT 14 424927 (fuel := 9) (by kernel_rfl) hE (tk_loadPA 1 (N := 64) (k := .u32) (v := y4844.2) (m := (IntKind.wrap .i64 (y4844.1 - (15 : Int)))) rfl rfl rfl rfl hE rfl hS rfl rfl (by kernel_rfl) hm5802 (kL (j := 1) hS rfl List.not_mem_nil) (fun a hE => ?_))
     obtain ⟨hm5803, hf⟩ := chk_some hf
     refine tW 19 949215 (fuel := 8) (by kernel_rfl) hE (fun M => tk_indexPA (N := 64) (k := .u32) (m := (IntKind.wrap .i64 (y4844.1 - (16 : Int)))) rfl rfl rfl rfl hE rfl rfl rfl (by kernel_rfl) hm5803 (fun a hE => ?_))
     refine tT 20 1997791 (fuel := 7) (by kernel_rfl) hE (tk_loadPA 1 (N := 64) (k := .u32) (v := y4844.2) (m := (IntKind.wrap .i64 (y4844.1 - (16 : Int)))) rfl rfl rfl rfl hE rfl hS rfl rfl (by kernel_rfl) hm5803 (kL (j := 1) hS rfl List.not_mem_nil) (fun a hE => ?_))
     obtain ⟨r5804, h5805, hf⟩ := bind_some hf
     refine oG 5 1997823 (fuel := 6) (by kernel_rfl) (op_call rfl rfl rfl rfl hE rfl rfl rfl rfl (by kernel_rfl) (sha_moved.calls (g := g) h5805 (hS.st.fore (L := [])) ) (fun a v w hR hE => ?_))
     obtain ⟨D5806, rfl, hS1⟩ := hR
     refine ⟨(hS1.keeps.sub (M' := []) trivial).mono (fun _ h => h), ?_⟩
     have le5808 := hS1.dle
     have hS := hS.callR hS1 rfl .n
     clear hS1
     refine wP 10 1998847 5 (.int .u32 ((IntKind.wrap .u32 (r5804 + (vget (y4844.2) (Int.toNat ((IntKind.wrap .i64 (y4844.1 - (7 : Int)))))))))) hE (fun a hE => ?_)
     obtain ⟨r5809, h5810, hf⟩ := bind_some hf
     refine oG 15 2031615 (fuel := 4) (by kernel_rfl) (op_call rfl rfl rfl rfl hE rfl rfl rfl rfl (by kernel_rfl) (sha_moved.calls (g := g) h5810 (hS.st.fore (L := [])) ) (fun a v w hR hE => ?_))
     obtain ⟨D5811, rfl, hS1⟩ := hR
     refine ⟨(hS1.keeps.sub (M' := []) trivial).mono (fun _ h => h), ?_⟩
     have le5813 := hS1.dle
     have hS := hS.callR hS1 rfl .n
     clear hS1
     refine wP 16 2097151 3 (.int .u32 ((IntKind.wrap .u32 ((IntKind.wrap .u32 (r5804 + (vget (y4844.2) (Int.toNat ((IntKind.wrap .i64 (y4844.1 - (7 : Int)))))))) + r5809)))) hE (fun a hE => ?_)
     refine wP 21 4194303 2 (.int .u32 ((IntKind.wrap .u32 ((IntKind.wrap .u32 ((IntKind.wrap .u32 (r5804 + (vget (y4844.2) (Int.toNat ((IntKind.wrap .i64 (y4844.1 - (7 : Int)))))))) + r5809)) + (vget (y4844.2) (Int.toNat ((IntKind.wrap .i64 (y4844.1 - (16 : Int)))))))))) hE (fun a hE => ?_)
     obtain ⟨hm5814, hf⟩ := chk_some hf
     refine tW 22 8388607 (fuel := 1) (by kernel_rfl) hE (fun M => tk_indexPA (N := 64) (k := .u32) (m := y4844.1) rfl rfl rfl rfl hE rfl rfl rfl (by kernel_rfl) hm5814 (fun a hE => ?_))
     have hS := hS.pk (.c 1 rfl (.c 0 rfl .n)) rfl
     obtain ⟨v5815, hv5816, hf⟩ := bind_some hf
     replace hv5816 := Option.some.inj hv5816
     refine oG 23 16777215 (fuel := 0) (by kernel_rfl) (op_storePA (N := 64) (k := .u32) (v := y4844.2) (m := y4844.1) (z := (IntKind.wrap .u32 ((IntKind.wrap .u32 ((IntKind.wrap .u32 (r5804 + (vget (y4844.2) (Int.toNat ((IntKind.wrap .i64 (y4844.1 - (7 : Int)))))))) + r5809)) + (vget (y4844.2) (Int.toNat ((IntKind.wrap .i64 (y4844.1 - (16 : Int))))))))) rfl rfl rfl rfl hE hS rfl rfl (by kernel_rfl) hm5814 (fun a w hkp hE hS => ⟨hkp.mono (fun _ h => h), ?_⟩))
     clear hkp
     rw [hv5816] at hS
     refine doneG (by kernel_rfl) ?_
     have hS := hS.pk (.c 1 rfl (.c 0 rfl .n)) rfl
     exact ⟨v5815, D5811, hE.weak (by kernel_rfl), hS, (le2 le5808 le5813), hf⟩
   ·clear hE hS
    rintro a w ⟨y5574, D5575, hE, hS, le5576, hf⟩
    replace hf := hj5578 _ hf
    clear hj5578
    refine region_at ?_
    refine sN 2 2 [(5, .int .i64 ((IntKind.wrap .i64 (y4844.1 + (1 : Int)))))] hE (fun a hE => ?_)
    refine at_end rfl ?_
    exact ⟨((IntKind.wrap .i64 (y4844.1 + (1 : Int))), y5574), D5575, hE.weak (by kernel_rfl), hS, (le2 le4846 le5576), hf⟩
  ·replace hf := cond_f hb hf
   clear hb
   refine wpIn_exit ?_
   obtain rfl := Option.some.inj hf
   exact ⟨y4844.2, D4845, hE.weak (by kernel_rfl), hS, le4846, rfl⟩
set_option maxRecDepth 100000 in
set_option maxHeartbeats 4000000 in
theorem sha_turned.calls {K : Nat} {g w0 : World} {D0 : Snap} {x1 : Int} {x2 : Int} {x3 : Int} {x4 : Int} {r : (Int)} (hf : sha_turned.f K x1 x2 x3 x4 = some r) (hS0 : St g w0 D0 []) :
  CallsIn (Fw none) 0 Tryd.prog 93 (List.toArray [.int .u32 (x1), .int .i64 (x2), .int .i64 (x3), .int .i64 (x4)]) w0 (fun e w' => ∃ v, e = .returned v ∧ ∃ (D1 : Snap), v = .int .u32 (r) ∧ Stp g w0 D0 [] w' D1 []) := by
 unfold sha_turned.f at hf
 have hS := Stp.refl hS0
 clear hS0
 refine calls_body (n := 23) Tryd.func93 rfl Tryd.ntmps93 rfl (fun a hE => ?_)
 have hE : Env a 23 [] [(0, .int .u32 (x1)), (1, .int .i64 (x2)), (2, .int .i64 (x3)), (3, .int .i64 (x4))] := hE
 refine wpIn_seq ?_
 refine region_at ?_
 refine sN 1 1 [(8, .int .u32 ((0 : Int)))] hE (fun a hE => ?_)
 refine at_end rfl ?_
 refine wpIn_seq ?_
 refine region_at ?_
 refine sN 3 3 [(9, .int .u32 (x1)), (11, .int .i64 ((IntKind.wrap .i64 (0 - x2))))] hE (fun a hE => ?_)
 obtain ⟨r20, h21, hf⟩ := bind_some hf
 refine aC rfl rfl rfl rfl hE rfl rfl rfl rfl (math_bits_RotateLeft32.calls (g := g) h21 (hS.st.fore (L := [])) ) (fun a v w hR hE => ?_)
 obtain ⟨D22, rfl, hS1⟩ := hR
 have le24 := hS1.dle
 have hS := hS.callR hS1 rfl .n
 clear hS1
 refine sN 3 7 [(13, .int .u32 (x1)), (15, .int .i64 ((IntKind.wrap .i64 (0 - x3))))] hE (fun a hE => ?_)
 obtain ⟨r25, h26, hf⟩ := bind_some hf
 refine aC rfl rfl rfl rfl hE rfl rfl rfl rfl (math_bits_RotateLeft32.calls (g := g) h26 (hS.st.fore (L := [])) ) (fun a v w hR hE => ?_)
 obtain ⟨D27, rfl, hS1⟩ := hR
 have le29 := hS1.dle
 have hS := hS.callR hS1 rfl .n
 clear hS1
 refine sN 4 12 [(17, .int .u32 ((bxor .u32 r20 r25))), (18, .int .u32 (x1)), (20, .int .i64 ((IntKind.wrap .i64 (0 - x4))))] hE (fun a hE => ?_)
 obtain ⟨r30, h31, hf⟩ := bind_some hf
 refine aC rfl rfl rfl rfl hE rfl rfl rfl rfl (math_bits_RotateLeft32.calls (g := g) h31 (hS.st.fore (L := [])) ) (fun a v w hR hE => ?_)
 obtain ⟨D32, rfl, hS1⟩ := hR
 have le34 := hS1.dle
 have hS := hS.callR hS1 rfl .n
 clear hS1
 refine sN 2 15 [(8, .int .u32 ((bxor .u32 (bxor .u32 r20 r25) r30)))] hE (fun a hE => ?_)
 refine at_end rfl ?_
 refine wpIn_ret ?_
 obtain rfl := Option.some.inj hf
 repeat (with_reducible first | refine then_ret ?_ | refine block_ret ?_ | refine qx_ret ?_)
 refine ret_gen ([.int .u32 ((bxor .u32 (bxor .u32 r20 r25) r30))]) hE (by rw [show Tryd.f93.results.toList = [.tmp 8] from rfl]; exact ⟨_, _, rfl, rfl, rfl⟩) ?_
 exact ⟨_, rfl, D32, rfl, hS⟩
set_option maxRecDepth 100000 in
set_option maxHeartbeats 4000000 in
theorem sha_Turn.calls {K : Nat} {g w0 : World} {D0 : Snap} {x1 : (Vector Int 8)} {x2 : (List Int)} {A3 : Option Addr} {c4 : Nat} {r : ((Vector Int 8))} (hf : sha_Turn.f K x1 x2 = some r) (hS0 : St g w0 D0 []) (h5 : Sl (kdInt .u8) D0 A3 c4 (x2)) (hG1 : Cell (kdArr .u32 64) D0 1 0 gl_K) :
  CallsIn (Fw none) 0 Tryd.prog 80 (List.toArray [.agg (List.toArray (acells .u32 8 (x1))), .slice A3 (List.length (x2)) c4]) w0 (fun e w' => ∃ v, e = .returned v ∧ ∃ (D1 : Snap), v = .agg (List.toArray (acells .u32 8 (r))) ∧ Stp g w0 D0 [] w' D1 []) := by
 unfold sha_Turn.f at hf
 have hS := Stp.refl hS0
 clear hS0
 refine calls_body (n := 94) Tryd.func80 rfl Tryd.ntmps80 rfl (fun a hE => ?_)
 have hE : Env a 94 [] [(0, .agg (List.toArray (acells .u32 8 (x1)))), (1, .slice A3 (List.length (x2)) c4)] := hE
 refine wpIn_seq ?_
 refine region_at ?_
 refine at_op (op_box rfl rfl rfl rfl hE rfl hS rfl (fun a b742 w _ hE hS => ?_)) rfl
 refine at_op (op_alloc (z := .agg (List.toArray (acells .u32 8 ((Vector.replicate 8 (0 : Int)))))) rfl rfl rfl rfl hE rfl hS (by kernel_rfl) (fun a b744 w _ hE hS => ?_)) rfl
 refine at_end rfl ?_
 refine wpIn_seq ?_
 refine wpIn_seq ?_
 refine region_at ?_
 refine sN 3 3 [(13, .bool ((!decide (((List.length (x2) : Nat) : Int) = (64 : Int)))))] hE (fun a hE => ?_)
 refine at_end rfl ?_
 refine cond_split hE (b := (!decide (((List.length (x2) : Nat) : Int) = (64 : Int)))) rfl (fun hb => ?_) (fun hb => ?_)
 ·replace hf := cond_t hb hf
  clear hb
  refine wpIn_seq ?_
  refine region_at ?_
  refine aL 1 (.agg (List.toArray (acells .u32 8 (x1)))) hE hS (fun a hE => ?_)
  refine at_op (op_store (v := .agg (List.toArray (acells .u32 8 (x1)))) (acells .u32 8 (x1)) rfl rfl rfl rfl hE hS rfl rfl (by kernel_rfl) (by kernel_rfl) (by kernel_rfl) (by kernel_rfl) (by kernel_rfl) (fun a w _ hE hS => ?_)) rfl
  refine at_end rfl ?_
  refine wpIn_ret ?_
  obtain rfl := Option.some.inj hf
  repeat (with_reducible first | refine then_ret ?_ | refine block_ret ?_ | refine qx_ret ?_)
  refine ret_gen ([.agg (List.toArray (acells .u32 8 (x1)))]) hE (by rw [show Tryd.f80.results.toList = [.cell 4 94] from rfl]; exact ⟨_, _, _, 0, _, _, rfl, rfl, hS.heapAt (j := 0) rfl, by kernel_rfl, rfl⟩) ?_
  have hS := hS.pk .n rfl
  exact ⟨_, rfl, D0, rfl, hS⟩
 ·replace hf := cond_f hb hf
  clear hb
  refine wpIn_skip ?_
  refine wpIn_seq ?_
  refine region_at ?_
  refine aL 1 (.agg (List.toArray (acells .u32 8 (x1)))) hE hS (fun a hE => ?_)
  refine at_op (op_alloc (z := .agg (List.toArray (acells .u32 8 ((Vector.replicate 8 (0 : Int)))))) rfl rfl rfl rfl hE rfl hS (by kernel_rfl) (fun a b746 w _ hE hS => ?_)) rfl
  refine at_op (op_store (v := .agg (List.toArray (acells .u32 8 (x1)))) (acells .u32 8 (x1)) rfl rfl rfl rfl hE hS rfl rfl (by kernel_rfl) (by kernel_rfl) (by kernel_rfl) (by kernel_rfl) (by kernel_rfl) (fun a w _ hE hS => ?_)) rfl
  refine at_end rfl ?_
  refine wpIn_seq ?_
  refine wpIn_seq ?_
  refine region_at ?_
  refine sN 1 1 [(16, .slice A3 (List.length (x2)) c4)] hE (fun a hE => ?_)
  obtain ⟨r1045, h1046, hf⟩ := bind_some hf
  refine aC rfl rfl rfl rfl hE rfl rfl rfl rfl (sha_schedule.calls (g := g) h1046 (hS.st.fore (L := [])) h5) (fun a v w hR hE => ?_)
  obtain ⟨D1047, rfl, hS1⟩ := hR
  have le1049 := hS1.dle
  have hS := hS.callR hS1 rfl .n
  clear hS1
  refine sN 1 3 [(18, .int .i64 ((0 : Int)))] hE (fun a hE => ?_)
  refine at_end rfl ?_
  obtain ⟨s1248, hf, hs1249⟩ := bind_some hf
  have hS := hS.pk (.c 2 rfl (.c 1 rfl (.c 0 rfl .n))) rfl
  refine block_loop (fun a w => ∃ (z1245 : (Vector Int 8)), ∃ (D1246 : Snap), Env a 94 [] [(2, .pointer (some ⟨b742, 0, none⟩)), (4, .pointer (some ⟨b744, 0, none⟩)), (5, .pointer (some ⟨b746, 0, none⟩))] ∧ Stp g w0 D0 [] w D1246 [bx b742 94 (acells .u32 8 (x1)), bx b744 94 (acells .u32 8 ((Vector.replicate 8 (0 : Int)))), bx b746 94 (acells .u32 8 (z1245))] ∧ Snap.le D1047 D1246 ∧ z1245 = s1248) (fun k a w => ∃ (y1147 : Int × (Vector Int 8)), ∃ (D1148 : Snap), Env a 94 [] [(2, .pointer (some ⟨b742, 0, none⟩)), (4, .pointer (some ⟨b744, 0, none⟩)), (5, .pointer (some ⟨b746, 0, none⟩)), (17, .agg (List.toArray (acells .u32 64 (r1045)))), (18, .int .i64 (y1147.1))] ∧ Stp g w0 D0 [] w D1148 [bx b742 94 (acells .u32 8 (x1)), bx b744 94 (acells .u32 8 ((Vector.replicate 8 (0 : Int)))), bx b746 94 (acells .u32 8 (y1147.2))] ∧ Snap.le D1047 D1148 ∧ sha_Turn_l1.l K r1045 k y1147 = some s1248) K ?_ ?_ ?_
  ·exact ⟨((0 : Int), x1), D1047, hE.weak (by kernel_rfl), hS, Snap.le.refl _, hf⟩
  ·clear hE hS hf
   rintro a w ⟨z1245, D1246, hE, hS, le1247, rfl⟩
   have hf := hs1249
   clear hs1249
   refine wpIn_seq ?_
   refine wpIn_seq ?_
   refine region_at ?_
   refine sN 1 1 [(81, .int .i64 ((0 : Int)))] hE (fun a hE => ?_)
   refine at_end rfl ?_
   obtain ⟨s1456, hf, hs1457⟩ := bind_some hf
   refine block_loop (fun a w => ∃ (z1453 : (Vector Int 8)), ∃ (D1454 : Snap), Env a 94 [] [(2, .pointer (some ⟨b742, 0, none⟩)), (4, .pointer (some ⟨b744, 0, none⟩))] ∧ Stp g w0 D0 [] w D1454 [bx b742 94 (acells .u32 8 (z1453)), bx b744 94 (acells .u32 8 ((Vector.replicate 8 (0 : Int))))] ∧ Snap.le D1246 D1454 ∧ z1453 = s1456) (fun k a w => ∃ (y1427 : Int × (Vector Int 8)), ∃ (D1428 : Snap), Env a 94 [] [(2, .pointer (some ⟨b742, 0, none⟩)), (4, .pointer (some ⟨b744, 0, none⟩)), (5, .pointer (some ⟨b746, 0, none⟩)), (81, .int .i64 (y1427.1))] ∧ Stp g w0 D0 [] w D1428 [bx b742 94 (acells .u32 8 (y1427.2)), bx b744 94 (acells .u32 8 ((Vector.replicate 8 (0 : Int)))), bx b746 94 (acells .u32 8 (z1245))] ∧ Snap.le D1246 D1428 ∧ sha_Turn_l2.l K z1245 k y1427 = some s1456) K ?_ ?_ ?_
   ·exact ⟨((0 : Int), x1), D1246, hE.weak (by kernel_rfl), hS, Snap.le.refl _, hf⟩
   ·clear hE hS hf
    rintro a w ⟨z1453, D1454, hE, hS, le1455, rfl⟩
    have hf := hs1457
    clear hs1457
    refine wpIn_seq ?_
    refine region_at ?_
    refine aL 0 (.agg (List.toArray (acells .u32 8 (z1453)))) hE hS (fun a hE => ?_)
    have hS := hS.pk (.c 1 rfl (.c 0 rfl .n)) rfl
    refine at_op (op_store (v := .agg (List.toArray (acells .u32 8 (z1453)))) (acells .u32 8 (z1453)) rfl rfl rfl rfl hE hS rfl rfl (by kernel_rfl) (by kernel_rfl) (by kernel_rfl) (by kernel_rfl) (by kernel_rfl) (fun a w _ hE hS => ?_)) rfl
    refine at_end rfl ?_
    refine wpIn_ret ?_
    obtain rfl := Option.some.inj hf
    repeat (with_reducible first | refine then_ret ?_ | refine block_ret ?_ | refine qx_ret ?_)
    refine ret_gen ([.agg (List.toArray (acells .u32 8 (z1453)))]) hE (by rw [show Tryd.f80.results.toList = [.cell 4 94] from rfl]; exact ⟨_, _, _, 0, _, _, rfl, rfl, hS.heapAt (j := 0) rfl, by kernel_rfl, rfl⟩) ?_
    have hS := hS.pk .n rfl
    exact ⟨_, rfl, D1454, rfl, hS⟩
   ·clear hE hS hf
    rintro k a w ⟨y1427, D1428, hE, hS, le1429, hf⟩
    obtain ⟨k, rfl, hf⟩ := sha_Turn_l2.some _ hf
    refine ⟨k, rfl, ?_⟩
    unfold sha_Turn_l2.b at hf
    refine wpIn_seq ?_
    refine region_at ?_
    refine sN 1 1 [(82, .bool ((decide (y1427.1 < (8 : Int)))))] hE (fun a hE => ?_)
    refine at_end rfl ?_
    refine wpIn_seq ?_
    refine cond_split hE (b := (decide (y1427.1 < (8 : Int)))) rfl (fun hb => ?_) (fun hb => ?_)
    ·replace hf := cond_t hb hf
     clear hb
     refine wpIn_skip ?_
     refine wpIn_seq ?_
     refine wpIn_block ?_
     refine wpIn_seq ?_
     refine region_at ?_
     refine sN 2 2 [(10, .int .i64 (y1427.1))] hE (fun a hE => ?_)
     refine at_end rfl ?_
     refine region_draw (fun j => Keeps (mfOf [(8, [b742])] j)) (by kernel_rfl) ?_
     have hS := hS.drew
     first | generalize w.drew = w at hS ⊢ | generalize w0.drew = w at hS ⊢
     refine wP 0 1 8 (.int .i64 (y1427.1)) hE (fun a hE => ?_)
     refine wP 3 9 7 (.int .i64 (y1427.1)) hE (fun a hE => ?_)
     obtain ⟨hm1473, hf⟩ := chk_some hf
     refine tW 1 11 (fuel := 6) (by kernel_rfl) hE (fun M => tk_indexPA (N := 8) (k := .u32) (m := y1427.1) rfl rfl rfl rfl hE rfl rfl rfl (by kernel_rfl) hm1473 (fun a hE => ?_))
     refine tT 2 15 (fuel := 5) (by kernel_rfl) hE (tk_loadPA 0 (N := 8) (k := .u32) (v := y1427.2) (m := y1427.1) rfl rfl rfl rfl hE rfl hS rfl rfl (by kernel_rfl) hm1473 (kL (j := 0) hS rfl List.not_mem_nil) (fun a hE => ?_))
     obtain ⟨hm1474, hf⟩ := chk_some hf
     refine tW 4 31 (fuel := 4) (by kernel_rfl) hE (fun M => tk_indexPA (N := 8) (k := .u32) (m := y1427.1) rfl rfl rfl rfl hE rfl rfl rfl (by kernel_rfl) hm1474 (fun a hE => ?_))
     refine tT 5 63 (fuel := 3) (by kernel_rfl) hE (tk_loadPA 2 (N := 8) (k := .u32) (v := z1245) (m := y1427.1) rfl rfl rfl rfl hE rfl hS rfl rfl (by kernel_rfl) hm1474 (kL (j := 2) hS rfl List.not_mem_nil) (fun a hE => ?_))
     refine wP 6 127 2 (.int .u32 ((IntKind.wrap .u32 ((vget (y1427.2) (Int.toNat (y1427.1))) + (vget (z1245) (Int.toNat (y1427.1))))))) hE (fun a hE => ?_)
     obtain ⟨hm1475, hf⟩ := chk_some hf
     refine tW 7 255 (fuel := 1) (by kernel_rfl) hE (fun M => tk_indexPA (N := 8) (k := .u32) (m := y1427.1) rfl rfl rfl rfl hE rfl rfl rfl (by kernel_rfl) hm1475 (fun a hE => ?_))
     obtain ⟨v1476, hv1477, hf⟩ := bind_some hf
     replace hv1477 := Option.some.inj hv1477
     refine oG 8 511 (fuel := 0) (by kernel_rfl) (op_storePA (N := 8) (k := .u32) (v := y1427.2) (m := y1427.1) (z := (IntKind.wrap .u32 ((vget (y1427.2) (Int.toNat (y1427.1))) + (vget (z1245) (Int.toNat (y1427.1)))))) rfl rfl rfl rfl hE hS rfl rfl (by kernel_rfl) hm1475 (fun a w hkp hE hS => ⟨hkp.mono (fun _ h => h), ?_⟩))
     clear hkp
     rw [hv1477] at hS
     refine doneG (by kernel_rfl) ?_
     refine region_at ?_
     refine sN 2 2 [(81, .int .i64 ((IntKind.wrap .i64 (y1427.1 + (1 : Int)))))] hE (fun a hE => ?_)
     refine at_end rfl ?_
     exact ⟨((IntKind.wrap .i64 (y1427.1 + (1 : Int))), v1476), D1428, hE.weak (by kernel_rfl), hS, le1429, hf⟩
    ·replace hf := cond_f hb hf
     clear hb
     refine wpIn_exit ?_
     obtain rfl := Option.some.inj hf
     have hS := hS.pk (.c 0 rfl (.c 1 rfl .n)) rfl
     exact ⟨y1427.2, D1428, hE.weak (by kernel_rfl), hS, le1429, rfl⟩
  ·clear hE hS hf
   rintro k a w ⟨y1147, D1148, hE, hS, le1149, hf⟩
   obtain ⟨k, rfl, hf⟩ := sha_Turn_l1.some _ hf
   refine ⟨k, rfl, ?_⟩
   unfold sha_Turn_l1.b at hf
   refine wpIn_seq ?_
   refine region_at ?_
   refine sN 1 1 [(19, .bool ((decide (y1147.1 < (64 : Int)))))] hE (fun a hE => ?_)
   refine at_end rfl ?_
   refine wpIn_seq ?_
   refine cond_split hE (b := (decide (y1147.1 < (64 : Int)))) rfl (fun hb => ?_) (fun hb => ?_)
   ·replace hf := cond_t hb hf
    clear hb
    refine wpIn_skip ?_
    refine wpIn_seq ?_
    refine wpIn_block ?_
    refine wpIn_seq ?_
    refine region_at ?_
    refine sN 1 1 [(20, .int .i64 (y1147.1))] hE (fun a hE => ?_)
    obtain ⟨x1296, h1297, hf⟩ := bind_some hf
    refine at_op (op_tk hE (tk_indexA (N := 64) (k := .u32) (v := r1045) rfl rfl rfl rfl hE rfl rfl rfl (by kernel_rfl) h1297 (fun a hE => ?_))) rfl
    refine sN 2 4 [(6, .int .i64 (y1147.1)), (7, .int .u32 (x1296))] hE (fun a hE => ?_)
    refine at_end rfl ?_
    refine wpIn_seq ?_
    refine region_draw (fun j => Keeps (mfOf [] j)) (by kernel_rfl) ?_
    have hS := hS.drew
    first | generalize w.drew = w at hS ⊢ | generalize w0.drew = w at hS ⊢
    refine wP 19 524288 25 (.int .i64 (y1147.1)) hE (fun a hE => ?_)
    refine wP 23 8912896 24 (.int .u32 (x1296)) hE (fun a hE => ?_)
    refine tW 0 8912897 (fuel := 23) (by kernel_rfl) hE (fun M => tk_indexPA (N := 8) (k := .u32) (m := (7 : Int)) rfl rfl rfl rfl hE rfl rfl rfl (by kernel_rfl) (by kernel_rfl) (fun a hE => ?_))
    refine tT 1 8912899 (fuel := 22) (by kernel_rfl) hE (tk_loadPA 2 (N := 8) (k := .u32) (v := y1147.2) (m := (7 : Int)) rfl rfl rfl rfl hE rfl hS rfl rfl (by kernel_rfl) (by kernel_rfl) (kL (j := 2) hS rfl List.not_mem_nil) (fun a hE => ?_))
    refine tW 2 8912903 (fuel := 21) (by kernel_rfl) hE (fun M => tk_indexPA (N := 8) (k := .u32) (m := (4 : Int)) rfl rfl rfl rfl hE rfl rfl rfl (by kernel_rfl) (by kernel_rfl) (fun a hE => ?_))
    refine tT 3 8912911 (fuel := 20) (by kernel_rfl) hE (tk_loadPA 2 (N := 8) (k := .u32) (v := y1147.2) (m := (4 : Int)) rfl rfl rfl rfl hE rfl hS rfl rfl (by kernel_rfl) (by kernel_rfl) (kL (j := 2) hS rfl List.not_mem_nil) (fun a hE => ?_))
    refine tW 6 8912975 (fuel := 19) (by kernel_rfl) hE (fun M => tk_indexPA (N := 8) (k := .u32) (m := (4 : Int)) rfl rfl rfl rfl hE rfl rfl rfl (by kernel_rfl) (by kernel_rfl) (fun a hE => ?_))
    refine tT 7 8913103 (fuel := 18) (by kernel_rfl) hE (tk_loadPA 2 (N := 8) (k := .u32) (v := y1147.2) (m := (4 : Int)) rfl rfl rfl rfl hE rfl hS rfl rfl (by kernel_rfl) (by kernel_rfl) (kL (j := 2) hS rfl List.not_mem_nil) (fun a hE => ?_))
    refine tW 8 8913359 (fuel := 17) (by kernel_rfl) hE (fun M => tk_indexPA (N := 8) (k := .u32) (m := (5 : Int)) rfl rfl rfl rfl hE rfl rfl rfl (by kernel_rfl) (by kernel_rfl) (fun a hE => ?_))
    refine tT 9 8913871 (fuel := 16) (by kernel_rfl) hE (tk_loadPA 2 (N := 8) (k := .u32) (v := y1147.2) (m := (5 : Int)) rfl rfl rfl rfl hE rfl hS rfl rfl (by kernel_rfl) (by kernel_rfl) (kL (j := 2) hS rfl List.not_mem_nil) (fun a hE => ?_))
    refine wP 10 8914895 15 (.int .u32 ((band .u32 (vget (y1147.2) (Int.toNat ((4 : Int)))) (vget (y1147.2) (Int.toNat ((5 : Int))))))) hE (fun a hE => ?_)
    refine tW 11 8916943 (fuel := 14) (by kernel_rfl) hE (fun M => tk_indexPA (N := 8) (k := .u32) (m := (4 : Int)) rfl rfl rfl rfl hE rfl rfl rfl (by kernel_rfl) (by kernel_rfl) (fun a hE => ?_))
    refine tT 12 8921039 (fuel := 13) (by kernel_rfl) hE (tk_loadPA 2 (N := 8) (k := .u32) (v := y1147.2) (m := (4 : Int)) rfl rfl rfl rfl hE rfl hS rfl rfl (by kernel_rfl) (by kernel_rfl) (kL (j := 2) hS rfl List.not_mem_nil) (fun a hE => ?_))
    refine wP 13 8929231 12 (.int .u32 ((bnot .u32 (vget (y1147.2) (Int.toNat ((4 : Int))))))) hE (fun a hE => ?_)
    refine tW 14 8945615 (fuel := 11) (by kernel_rfl) hE (fun M => tk_indexPA (N := 8) (k := .u32) (m := (6 : Int)) rfl rfl rfl rfl hE rfl rfl rfl (by kernel_rfl) (by kernel_rfl) (fun a hE => ?_))
    refine tT 15 8978383 (fuel := 10) (by kernel_rfl) hE (tk_loadPA 2 (N := 8) (k := .u32) (v := y1147.2) (m := (6 : Int)) rfl rfl rfl rfl hE rfl hS rfl rfl (by kernel_rfl) (by kernel_rfl) (kL (j := 2) hS rfl List.not_mem_nil) (fun a hE => ?_))
    refine wP 16 9043919 9 (.int .u32 ((band .u32 (bnot .u32 (vget (y1147.2) (Int.toNat ((4 : Int))))) (vget (y1147.2) (Int.toNat ((6 : Int))))))) hE (fun a hE => ?_)
    refine wP 17 9174991 8 (.int .u32 ((bxor .u32 (band .u32 (vget (y1147.2) (Int.toNat ((4 : Int)))) (vget (y1147.2) (Int.toNat ((5 : Int))))) (band .u32 (bnot .u32 (vget (y1147.2) (Int.toNat ((4 : Int))))) (vget (y1147.2) (Int.toNat ((6 : Int)))))))) hE (fun a hE => ?_)
    obtain ⟨hm1311, hf⟩ := chk_some hf
    refine tW 20 10223567 (fuel := 7) (by kernel_rfl) hE (fun M => tk_indexPA (N := 64) (k := .u32) (m := y1147.1) rfl rfl rfl rfl hE rfl rfl rfl (by kernel_rfl) hm1311 (fun a hE => ?_))
    obtain ⟨cs1312, C1313, T1314, fr1315, hr1316, hb1317, hc1318⟩ := (Cell.elemA (N := 64) (m := y1147.1) (hG1.mono (le2 le1049 le1149)) hm1311)
    obtain rfl := hr1316
    refine tT 21 12320719 (fuel := 6) (by kernel_rfl) hE (tk_loadX (off0 := (0 + Int.toNat (y1147.1))) (off := 0) (c := [.int .u32 ((vget (gl_K) (Int.toNat (y1147.1))))]) (.int .u32 ((vget (gl_K) (Int.toNat (y1147.1))))) rfl rfl rfl rfl hE rfl hS rfl hb1317 hc1318 (by kernel_rfl) (by kernel_rfl) (kD hS dn_nil) (fun a hE => ?_))
    obtain ⟨r1319, h1320, hf⟩ := bind_some hf
    refine oG 4 12320735 (fuel := 5) (by kernel_rfl) (op_call rfl rfl rfl rfl hE rfl rfl rfl rfl (by kernel_rfl) (sha_turned.calls (g := g) h1320 (hS.st.fore (L := [])) ) (fun a v w hR hE => ?_))
    obtain ⟨D1321, rfl, hS1⟩ := hR
    refine ⟨(hS1.keeps.sub (M' := []) trivial).mono (fun _ h => h), ?_⟩
    have le1323 := hS1.dle
    have hS := hS.callR hS1 rfl .n
    clear hS1
    refine wP 5 12320767 4 (.int .u32 ((IntKind.wrap .u32 ((vget (y1147.2) (Int.toNat ((7 : Int)))) + r1319)))) hE (fun a hE => ?_)
    refine wP 18 12582911 3 (.int .u32 ((IntKind.wrap .u32 ((IntKind.wrap .u32 ((vget (y1147.2) (Int.toNat ((7 : Int)))) + r1319)) + (bxor .u32 (band .u32 (vget (y1147.2) (Int.toNat ((4 : Int)))) (vget (y1147.2) (Int.toNat ((5 : Int))))) (band .u32 (bnot .u32 (vget (y1147.2) (Int.toNat ((4 : Int))))) (vget (y1147.2) (Int.toNat ((6 : Int)))))))))) hE (fun a hE => ?_)
    refine wP 22 16777215 2 (.int .u32 ((IntKind.wrap .u32 ((IntKind.wrap .u32 ((IntKind.wrap .u32 ((vget (y1147.2) (Int.toNat ((7 : Int)))) + r1319)) + (bxor .u32 (band .u32 (vget (y1147.2) (Int.toNat ((4 : Int)))) (vget (y1147.2) (Int.toNat ((5 : Int))))) (band .u32 (bnot .u32 (vget (y1147.2) (Int.toNat ((4 : Int))))) (vget (y1147.2) (Int.toNat ((6 : Int)))))))) + (vget (gl_K) (Int.toNat (y1147.1))))))) hE (fun a hE => ?_)
    refine wP 24 33554431 1 (.int .u32 ((IntKind.wrap .u32 ((IntKind.wrap .u32 ((IntKind.wrap .u32 ((IntKind.wrap .u32 ((vget (y1147.2) (Int.toNat ((7 : Int)))) + r1319)) + (bxor .u32 (band .u32 (vget (y1147.2) (Int.toNat ((4 : Int)))) (vget (y1147.2) (Int.toNat ((5 : Int))))) (band .u32 (bnot .u32 (vget (y1147.2) (Int.toNat ((4 : Int))))) (vget (y1147.2) (Int.toNat ((6 : Int)))))))) + (vget (gl_K) (Int.toNat (y1147.1))))) + x1296)))) hE (fun a hE => ?_)
    refine wP 25 67108863 0 (.int .u32 ((IntKind.wrap .u32 ((IntKind.wrap .u32 ((IntKind.wrap .u32 ((IntKind.wrap .u32 ((vget (y1147.2) (Int.toNat ((7 : Int)))) + r1319)) + (bxor .u32 (band .u32 (vget (y1147.2) (Int.toNat ((4 : Int)))) (vget (y1147.2) (Int.toNat ((5 : Int))))) (band .u32 (bnot .u32 (vget (y1147.2) (Int.toNat ((4 : Int))))) (vget (y1147.2) (Int.toNat ((6 : Int)))))))) + (vget (gl_K) (Int.toNat (y1147.1))))) + x1296)))) hE (fun a hE => ?_)
    refine doneG (by kernel_rfl) ?_
    refine wpIn_seq ?_
    refine region_draw (fun j => Keeps (mfOf [] j)) (by kernel_rfl) ?_
    have hS := hS.drew
    first | generalize w.drew = w at hS ⊢ | generalize w0.drew = w at hS ⊢
    refine tW 0 1 (fuel := 21) (by kernel_rfl) hE (fun M => tk_indexPA (N := 8) (k := .u32) (m := (0 : Int)) rfl rfl rfl rfl hE rfl rfl rfl (by kernel_rfl) (by kernel_rfl) (fun a hE => ?_))
    refine tT 1 3 (fuel := 20) (by kernel_rfl) hE (tk_loadPA 2 (N := 8) (k := .u32) (v := y1147.2) (m := (0 : Int)) rfl rfl rfl rfl hE rfl hS rfl rfl (by kernel_rfl) (by kernel_rfl) (kL (j := 2) hS rfl List.not_mem_nil) (fun a hE => ?_))
    refine tW 3 11 (fuel := 19) (by kernel_rfl) hE (fun M => tk_indexPA (N := 8) (k := .u32) (m := (0 : Int)) rfl rfl rfl rfl hE rfl rfl rfl (by kernel_rfl) (by kernel_rfl) (fun a hE => ?_))
    refine tT 4 27 (fuel := 18) (by kernel_rfl) hE (tk_loadPA 2 (N := 8) (k := .u32) (v := y1147.2) (m := (0 : Int)) rfl rfl rfl rfl hE rfl hS rfl rfl (by kernel_rfl) (by kernel_rfl) (kL (j := 2) hS rfl List.not_mem_nil) (fun a hE => ?_))
    refine tW 5 59 (fuel := 17) (by kernel_rfl) hE (fun M => tk_indexPA (N := 8) (k := .u32) (m := (1 : Int)) rfl rfl rfl rfl hE rfl rfl rfl (by kernel_rfl) (by kernel_rfl) (fun a hE => ?_))
    refine tT 6 123 (fuel := 16) (by kernel_rfl) hE (tk_loadPA 2 (N := 8) (k := .u32) (v := y1147.2) (m := (1 : Int)) rfl rfl rfl rfl hE rfl hS rfl rfl (by kernel_rfl) (by kernel_rfl) (kL (j := 2) hS rfl List.not_mem_nil) (fun a hE => ?_))
    refine wP 7 251 15 (.int .u32 ((band .u32 (vget (y1147.2) (Int.toNat ((0 : Int)))) (vget (y1147.2) (Int.toNat ((1 : Int))))))) hE (fun a hE => ?_)
    refine tW 8 507 (fuel := 14) (by kernel_rfl) hE (fun M => tk_indexPA (N := 8) (k := .u32) (m := (0 : Int)) rfl rfl rfl rfl hE rfl rfl rfl (by kernel_rfl) (by kernel_rfl) (fun a hE => ?_))
    refine tT 9 1019 (fuel := 13) (by kernel_rfl) hE (tk_loadPA 2 (N := 8) (k := .u32) (v := y1147.2) (m := (0 : Int)) rfl rfl rfl rfl hE rfl hS rfl rfl (by kernel_rfl) (by kernel_rfl) (kL (j := 2) hS rfl List.not_mem_nil) (fun a hE => ?_))
    refine tW 10 2043 (fuel := 12) (by kernel_rfl) hE (fun M => tk_indexPA (N := 8) (k := .u32) (m := (2 : Int)) rfl rfl rfl rfl hE rfl rfl rfl (by kernel_rfl) (by kernel_rfl) (fun a hE => ?_))
    refine tT 11 4091 (fuel := 11) (by kernel_rfl) hE (tk_loadPA 2 (N := 8) (k := .u32) (v := y1147.2) (m := (2 : Int)) rfl rfl rfl rfl hE rfl hS rfl rfl (by kernel_rfl) (by kernel_rfl) (kL (j := 2) hS rfl List.not_mem_nil) (fun a hE => ?_))
    refine wP 12 8187 10 (.int .u32 ((band .u32 (vget (y1147.2) (Int.toNat ((0 : Int)))) (vget (y1147.2) (Int.toNat ((2 : Int))))))) hE (fun a hE => ?_)
    refine wP 13 16379 9 (.int .u32 ((bxor .u32 (band .u32 (vget (y1147.2) (Int.toNat ((0 : Int)))) (vget (y1147.2) (Int.toNat ((1 : Int))))) (band .u32 (vget (y1147.2) (Int.toNat ((0 : Int)))) (vget (y1147.2) (Int.toNat ((2 : Int)))))))) hE (fun a hE => ?_)
    refine tW 14 32763 (fuel := 8) (by kernel_rfl) hE (fun M => tk_indexPA (N := 8) (k := .u32) (m := (1 : Int)) rfl rfl rfl rfl hE rfl rfl rfl (by kernel_rfl) (by kernel_rfl) (fun a hE => ?_))
    refine tT 15 65531 (fuel := 7) (by kernel_rfl) hE (tk_loadPA 2 (N := 8) (k := .u32) (v := y1147.2) (m := (1 : Int)) rfl rfl rfl rfl hE rfl hS rfl rfl (by kernel_rfl) (by kernel_rfl) (kL (j := 2) hS rfl List.not_mem_nil) (fun a hE => ?_))
    refine tW 16 131067 (fuel := 6) (by kernel_rfl) hE (fun M => tk_indexPA (N := 8) (k := .u32) (m := (2 : Int)) rfl rfl rfl rfl hE rfl rfl rfl (by kernel_rfl) (by kernel_rfl) (fun a hE => ?_))
    refine tT 17 262139 (fuel := 5) (by kernel_rfl) hE (tk_loadPA 2 (N := 8) (k := .u32) (v := y1147.2) (m := (2 : Int)) rfl rfl rfl rfl hE rfl hS rfl rfl (by kernel_rfl) (by kernel_rfl) (kL (j := 2) hS rfl List.not_mem_nil) (fun a hE => ?_))
    refine wP 18 524283 4 (.int .u32 ((band .u32 (vget (y1147.2) (Int.toNat ((1 : Int)))) (vget (y1147.2) (Int.toNat ((2 : Int))))))) hE (fun a hE => ?_)
    refine wP 19 1048571 3 (.int .u32 ((bxor .u32 (bxor .u32 (band .u32 (vget (y1147.2) (Int.toNat ((0 : Int)))) (vget (y1147.2) (Int.toNat ((1 : Int))))) (band .u32 (vget (y1147.2) (Int.toNat ((0 : Int)))) (vget (y1147.2) (Int.toNat ((2 : Int)))))) (band .u32 (vget (y1147.2) (Int.toNat ((1 : Int)))) (vget (y1147.2) (Int.toNat ((2 : Int)))))))) hE (fun a hE => ?_)
    obtain ⟨r1329, h1330, hf⟩ := bind_some hf
    refine oG 2 1048575 (fuel := 2) (by kernel_rfl) (op_call rfl rfl rfl rfl hE rfl rfl rfl rfl (by kernel_rfl) (sha_turned.calls (g := g) h1330 (hS.st.fore (L := [])) ) (fun a v w hR hE => ?_))
    obtain ⟨D1331, rfl, hS1⟩ := hR
    refine ⟨(hS1.keeps.sub (M' := []) trivial).mono (fun _ h => h), ?_⟩
    have le1333 := hS1.dle
    have hS := hS.callR hS1 rfl .n
    clear hS1
    refine wP 20 2097151 1 (.int .u32 ((IntKind.wrap .u32 (r1329 + (bxor .u32 (bxor .u32 (band .u32 (vget (y1147.2) (Int.toNat ((0 : Int)))) (vget (y1147.2) (Int.toNat ((1 : Int))))) (band .u32 (vget (y1147.2) (Int.toNat ((0 : Int)))) (vget (y1147.2) (Int.toNat ((2 : Int)))))) (band .u32 (vget (y1147.2) (Int.toNat ((1 : Int)))) (vget (y1147.2) (Int.toNat ((2 : Int)))))))))) hE (fun a hE => ?_)
    refine wP 21 4194303 0 (.int .u32 ((IntKind.wrap .u32 (r1329 + (bxor .u32 (bxor .u32 (band .u32 (vget (y1147.2) (Int.toNat ((0 : Int)))) (vget (y1147.2) (Int.toNat ((1 : Int))))) (band .u32 (vget (y1147.2) (Int.toNat ((0 : Int)))) (vget (y1147.2) (Int.toNat ((2 : Int)))))) (band .u32 (vget (y1147.2) (Int.toNat ((1 : Int)))) (vget (y1147.2) (Int.toNat ((2 : Int)))))))))) hE (fun a hE => ?_)
    refine doneG (by kernel_rfl) ?_
    refine wpIn_seq ?_
    refine region_draw (fun j => Keeps (mfOf [(2, [b746])] j)) (by kernel_rfl) ?_
    have hS := hS.drew
    first | generalize w.drew = w at hS ⊢ | generalize w0.drew = w at hS ⊢
    refine tW 0 1 (fuel := 2) (by kernel_rfl) hE (fun M => tk_slicePA (N := 8) (k := .u32) (zl := 1) (zh := 8) rfl rfl rfl rfl hE rfl rfl (by kernel_rfl) ⟨_, rfl⟩ rfl (by kernel_rfl) (fun a hE => ?_))
    refine tW 1 3 (fuel := 1) (by kernel_rfl) hE (fun M => tk_slicePA (N := 8) (k := .u32) (zl := 0) (zh := 7) rfl rfl rfl rfl hE rfl rfl (by kernel_rfl) rfl ⟨_, rfl⟩ (by kernel_rfl) (fun a hE => ?_))
    have hS := hS.pk (.c 2 rfl (.c 0 rfl (.c 1 rfl .n))) rfl
    obtain ⟨v1336, hv1337, hf⟩ := bind_some hf
    replace hv1337 := Option.some.inj hv1337
    refine oG 2 7 (fuel := 0) (by kernel_rfl) (op_copyPA (e := 93) (N := 8) (k := .u32) (v := y1147.2) (cc := 7) (p := 1) (q := 0) rfl rfl rfl rfl rfl hE rfl hS rfl rfl (by kernel_rfl) (by kernel_rfl) (by kernel_rfl) (by kernel_rfl) (fun a w hkp hE hS => ⟨hkp.mono (fun _ h => h), ?_⟩))
    clear hkp
    rw [hv1337] at hS
    refine doneG (by kernel_rfl) ?_
    refine wpIn_seq ?_
    refine region_at ?_
    refine at_op (op_tk hE (tk_indexPA (N := 8) (k := .u32) (m := (4 : Int)) rfl rfl rfl rfl hE rfl rfl rfl (by kernel_rfl) (by kernel_rfl) (fun a hE => ?_))) rfl
    refine at_op (op_tk hE (tk_loadPA 0 (N := 8) (k := .u32) (v := v1336) (m := (4 : Int)) rfl rfl rfl rfl hE rfl hS rfl rfl (by kernel_rfl) (by kernel_rfl) (kL (j := 0) hS rfl List.not_mem_nil) (fun a hE => ?_))) rfl
    refine sN 2 4 [(74, .int .u32 ((IntKind.wrap .u32 ((vget (v1336) (Int.toNat ((4 : Int)))) + (IntKind.wrap .u32 ((IntKind.wrap .u32 ((IntKind.wrap .u32 ((IntKind.wrap .u32 ((vget (y1147.2) (Int.toNat ((7 : Int)))) + r1319)) + (bxor .u32 (band .u32 (vget (y1147.2) (Int.toNat ((4 : Int)))) (vget (y1147.2) (Int.toNat ((5 : Int))))) (band .u32 (bnot .u32 (vget (y1147.2) (Int.toNat ((4 : Int))))) (vget (y1147.2) (Int.toNat ((6 : Int)))))))) + (vget (gl_K) (Int.toNat (y1147.1))))) + x1296))))))] hE (fun a hE => ?_)
    refine at_op (op_tk hE (tk_indexPA (N := 8) (k := .u32) (m := (4 : Int)) rfl rfl rfl rfl hE rfl rfl rfl (by kernel_rfl) (by kernel_rfl) (fun a hE => ?_))) rfl
    obtain ⟨v1338, hv1339, hf⟩ := bind_some hf
    replace hv1339 := Option.some.inj hv1339
    refine at_op (op_storePA (N := 8) (k := .u32) (v := v1336) (m := (4 : Int)) (z := (IntKind.wrap .u32 ((vget (v1336) (Int.toNat ((4 : Int)))) + (IntKind.wrap .u32 ((IntKind.wrap .u32 ((IntKind.wrap .u32 ((IntKind.wrap .u32 ((vget (y1147.2) (Int.toNat ((7 : Int)))) + r1319)) + (bxor .u32 (band .u32 (vget (y1147.2) (Int.toNat ((4 : Int)))) (vget (y1147.2) (Int.toNat ((5 : Int))))) (band .u32 (bnot .u32 (vget (y1147.2) (Int.toNat ((4 : Int))))) (vget (y1147.2) (Int.toNat ((6 : Int)))))))) + (vget (gl_K) (Int.toNat (y1147.1))))) + x1296))))) rfl rfl rfl rfl hE hS rfl rfl (by kernel_rfl) (by kernel_rfl) (fun a w _ hE hS => ?_)) rfl
    rw [hv1339] at hS
    refine at_end rfl ?_
    refine region_at ?_
    refine sN 3 3 [(78, .int .u32 ((IntKind.wrap .u32 ((IntKind.wrap .u32 ((IntKind.wrap .u32 ((IntKind.wrap .u32 ((IntKind.wrap .u32 ((vget (y1147.2) (Int.toNat ((7 : Int)))) + r1319)) + (bxor .u32 (band .u32 (vget (y1147.2) (Int.toNat ((4 : Int)))) (vget (y1147.2) (Int.toNat ((5 : Int))))) (band .u32 (bnot .u32 (vget (y1147.2) (Int.toNat ((4 : Int))))) (vget (y1147.2) (Int.toNat ((6 : Int)))))))) + (vget (gl_K) (Int.toNat (y1147.1))))) + x1296)) + (IntKind.wrap .u32 (r1329 + (bxor .u32 (bxor .u32 (band .u32 (vget (y1147.2) (Int.toNat ((0 : Int)))) (vget (y1147.2) (Int.toNat ((1 : Int))))) (band .u32 (vget (y1147.2) (Int.toNat ((0 : Int)))) (vget (y1147.2) (Int.toNat ((2 : Int)))))) (band .u32 (vget (y1147.2) (Int.toNat ((1 : Int)))) (vget (y1147.2) (Int.toNat ((2 : Int))))))))))))] hE (fun a hE => ?_)
    refine at_op (op_tk hE (tk_indexPA (N := 8) (k := .u32) (m := (0 : Int)) rfl rfl rfl rfl hE rfl rfl rfl (by kernel_rfl) (by kernel_rfl) (fun a hE => ?_))) rfl
    obtain ⟨v1340, hv1341, hf⟩ := bind_some hf
    replace hv1341 := Option.some.inj hv1341
    refine at_op (op_storePA (N := 8) (k := .u32) (v := v1338) (m := (0 : Int)) (z := (IntKind.wrap .u32 ((IntKind.wrap .u32 ((IntKind.wrap .u32 ((IntKind.wrap .u32 ((IntKind.wrap .u32 ((vget (y1147.2) (Int.toNat ((7 : Int)))) + r1319)) + (bxor .u32 (band .u32 (vget (y1147.2) (Int.toNat ((4 : Int)))) (vget (y1147.2) (Int.toNat ((5 : Int))))) (band .u32 (bnot .u32 (vget (y1147.2) (Int.toNat ((4 : Int))))) (vget (y1147.2) (Int.toNat ((6 : Int)))))))) + (vget (gl_K) (Int.toNat (y1147.1))))) + x1296)) + (IntKind.wrap .u32 (r1329 + (bxor .u32 (bxor .u32 (band .u32 (vget (y1147.2) (Int.toNat ((0 : Int)))) (vget (y1147.2) (Int.toNat ((1 : Int))))) (band .u32 (vget (y1147.2) (Int.toNat ((0 : Int)))) (vget (y1147.2) (Int.toNat ((2 : Int)))))) (band .u32 (vget (y1147.2) (Int.toNat ((1 : Int)))) (vget (y1147.2) (Int.toNat ((2 : Int))))))))))) rfl rfl rfl rfl hE hS rfl rfl (by kernel_rfl) (by kernel_rfl) (fun a w _ hE hS => ?_)) rfl
    rw [hv1341] at hS
    refine at_end rfl ?_
    refine region_at ?_
    refine sN 2 2 [(18, .int .i64 ((IntKind.wrap .i64 (y1147.1 + (1 : Int)))))] hE (fun a hE => ?_)
    refine at_end rfl ?_
    have hS := hS.pk (.c 1 rfl (.c 2 rfl (.c 0 rfl .n))) rfl
    exact ⟨((IntKind.wrap .i64 (y1147.1 + (1 : Int))), v1340), D1331, hE.weak (by kernel_rfl), hS, (le2 (le2 le1149 le1323) le1333), hf⟩
   ·replace hf := cond_f hb hf
    clear hb
    refine wpIn_exit ?_
    obtain rfl := Option.some.inj hf
    exact ⟨y1147.2, D1148, hE.weak (by kernel_rfl), hS, le1149, rfl⟩
set_option maxRecDepth 100000 in
set_option maxHeartbeats 4000000 in
theorem sha_Sum.calls {K : Nat} {g w0 : World} {D0 : Snap} {x1 : (List (List Int))} {A2 : Option Addr} {c3 : Nat} {r : ((Vector Int 32))} (hf : sha_Sum.f K x1 = some r) (hS0 : St g w0 D0 []) (h4 : Sl (kdSlice (kdInt .u8)) D0 A2 c3 (x1)) (hG0 : Cell (kdArr .u32 8) D0 0 0 gl_First) (hG1 : Cell (kdArr .u32 64) D0 1 0 gl_K) :
  CallsIn (Fw none) 0 Tryd.prog 60 (List.toArray [.slice A2 (List.length (x1)) c3]) w0 (fun e w' => ∃ v, e = .returned v ∧ ∃ (D1 : Snap), v = .agg (List.toArray (acells .u8 32 (r))) ∧ Stp g w0 D0 [] w' D1 []) := by
 unfold sha_Sum.f at hf
 have hS := Stp.refl hS0
 clear hS0
 refine calls_bodyM (n := 38) Tryd.func60 rfl Tryd.ntmps60 rfl (fun a hE => ?_)
 have hE : Env a 38 [] [(0, .slice A2 (List.length (x1)) c3)] := hE
 refine wpIn_seq ?_
 refine region_at ?_
 refine at_op (op_alloc (z := .agg (List.toArray (acells .u8 32 ((Vector.replicate 32 (0 : Int)))))) rfl rfl rfl rfl hE rfl hS (by kernel_rfl) (fun a b432 w _ hE hS => ?_)) rfl
 refine at_end rfl ?_
 refine wpIn_seq ?_
 refine region_at ?_
 refine sN 1 1 [(8, .slice A2 (List.length (x1)) c3)] hE (fun a hE => ?_)
 obtain ⟨r434, h435, hf⟩ := bind_some hf
 refine aC rfl rfl rfl rfl hE rfl rfl rfl rfl (slices_Concat_byte_byte.calls (g := g) h435 (hS.st.fore (L := [])) h4) (fun a v w hR hE => ?_)
 obtain ⟨D436, A438, c439, q440, rfl, hS1, h441⟩ := hR
 have le443 := hS1.dle
 have hS := hS.callR hS1 rfl (.c .n)
 clear hS1
 refine sN 1 3 [(3, .slice A438 (List.length (r434)) c439)] hE (fun a hE => ?_)
 refine at_end rfl ?_
 refine wpIn_seq ?_
 refine region_at ?_
 obtain ⟨cs444, C445, T446, fr447, hr448, hb449, hc450⟩ := (hG0.mono le443)
 obtain rfl := hr448
 refine at_op (op_tk hE (tk_loadX (off0 := 0) (off := 0) (c := acells .u32 8 (gl_First)) (.agg (List.toArray (acells .u32 8 (gl_First)))) rfl rfl rfl rfl hE rfl hS rfl hb449 hc450 (by kernel_rfl) (by kernel_rfl) (kD hS dn_nil) (fun a hE => ?_))) rfl
 refine at_op (op_alloc (z := .agg (List.toArray (acells .u32 8 ((Vector.replicate 8 (0 : Int)))))) rfl rfl rfl rfl hE rfl hS (by kernel_rfl) (fun a b451 w _ hE hS => ?_)) rfl
 refine at_op (op_store (v := .agg (List.toArray (acells .u32 8 (gl_First)))) (acells .u32 8 (gl_First)) rfl rfl rfl rfl hE hS rfl rfl (by kernel_rfl) (by kernel_rfl) (by kernel_rfl) (by kernel_rfl) (by kernel_rfl) (fun a w _ hE hS => ?_)) rfl
 refine at_end rfl ?_
 refine wpIn_seq ?_
 refine wpIn_seq ?_
 refine region_at ?_
 refine sN 3 3 [(11, .slice A438 (List.length (r434)) c439), (13, .int .i64 (((List.length (r434) : Nat) : Int)))] hE (fun a hE => ?_)
 obtain ⟨r607, h608, hf⟩ := bind_some hf
 refine aC rfl rfl rfl rfl hE rfl rfl rfl rfl (sha_Fill.calls (g := g) h608 (hS.st.fore (L := [])) ) (fun a v w hR hE => ?_)
 obtain ⟨D609, A611, c612, q613, rfl, hS1, h614⟩ := hR
 have le616 := hS1.dle
 have hS := hS.callR hS1 rfl (.c .n)
 clear hS1
 obtain ⟨D617, q620, le618, hS, h621, h619⟩ := hS.lent h614
 have hS := hS.pk (.c 2 rfl (.c 0 rfl (.c 1 rfl (.c 3 rfl .n)))) rfl
 obtain ⟨l622, h623, hf⟩ := bind_some hf
 refine at_op (g_append (K := (kdInt .u8)) (e := 5) (bytes := 1) (l := r434) (m := r607) rfl rfl rfl rfl hE rfl hS rfl rfl (by kernel_rfl) rfl rfl (h441.mono (le2 le616 le618)) h619 h623 (fun a A624 c625 q626 w _ hE h627 hS => ?_)) rfl
 obtain ⟨D629, q632, le630, hS, h633, h631⟩ := hS.lent h627
 obtain ⟨r634, h635, hf⟩ := bind_some hf
 refine aC rfl rfl rfl rfl hE rfl rfl rfl rfl (sha_blocks.calls (g := g) h635 (hS.st.fore (L := [])) h631) (fun a v w hR hE => ?_)
 obtain ⟨D636, b638, A640, c641, rfl, hS1, h642⟩ := hR
 have le643 := hS1.dle
 have hS := hS.callR hS1 rfl (.c .n)
 clear hS1
 refine at_end rfl ?_
 refine wpIn_block ?_
 have hEo650 := hE
 refine range_in2 (captured := #[.pointer (some ⟨b638, 0, none⟩)]) hE hS rfl (by kernel_rfl) (fun fn649 l647 d648 w q645 hq646 hS => ?_)
 refine calls_body (n := 13) Tryd.func91 rfl Tryd.ntmps91 rfl (fun a hE => ?_)
 have hE : Env a 13 [] [(0, .func (.yield l647) #[] #[]), (1, .pointer (some ⟨b638, 0, none⟩))] := hE
 obtain ⟨s734, hf, hs735⟩ := bind_some hf
 have hS := hS.pk (.c 6 rfl (.c 5 rfl (.c 2 rfl (.c 0 rfl (.c 1 rfl .n))))) rfl
 refine block_loop (fun a w => ∃ (z728 : (Vector Int 8) × (List Int)), ∃ (A731 : Option Addr), ∃ (c732 : Nat), ∃ (D729 : Snap), Env a 13 [] [] ∧ Stp g w0 D0 [] w D729 [bx b432 23 (acells .u8 32 ((Vector.replicate 32 (0 : Int)))), bx b451 94 (acells .u32 8 (z728.1)), bx b638 25 ([.slice A731 (List.length (z728.2)) c732]), q645 .ready none, dk d648] ∧ Snap.le D636 D729 ∧ Sl (kdInt .u8) D729 A731 c732 (z728.2) ∧ z728 = s734) (fun k a w => ∃ (y691 : (Vector Int 8) × (List Int)), ∃ (A694 : Option Addr), ∃ (c695 : Nat), ∃ (D692 : Snap), Env a 13 [] [(0, .func (.yield l647) #[] #[]), (1, .pointer (some ⟨b638, 0, none⟩))] ∧ Stp g w0 D0 [] w D692 [bx b432 23 (acells .u8 32 ((Vector.replicate 32 (0 : Int)))), bx b451 94 (acells .u32 8 (y691.1)), bx b638 25 ([.slice A694 (List.length (y691.2)) c695]), q645 .ready none, dk d648] ∧ Snap.le D636 D692 ∧ Sl (kdInt .u8) D692 A694 c695 (y691.2) ∧ sha_Sum_l1.l K k y691 = some s734) K ?_ ?_ ?_
 ·exact ⟨(gl_First, r634), A640, c641, D636, hE.weak (by kernel_rfl), hS, Snap.le.refl _, h642, hf⟩
 ·clear hE hS hf
  rintro a w ⟨z728, A731, c732, D729, hE, hS, le730, h733, rfl⟩
  have hf := hs735
  clear hs735
  refine ret_genN ([]) hE (by rw [show Tryd.f91.results.toList = [] from rfl]; rfl) ?_
  have hS := hS.pk (.c 3 rfl (.c 0 rfl (.c 1 rfl (.c 2 rfl (.c 4 rfl .n))))) rfl
  refine range_done2 hq646 hS hEo650 (fun w a hS hE => ?_)
  refine wpIn_seq ?_
  refine region_at ?_
  refine at_op (op_alloc (z := .agg (List.toArray (acells .u8 32 ((Vector.replicate 32 (0 : Int)))))) rfl rfl rfl rfl hE rfl hS (by kernel_rfl) (fun a b761 w _ hE hS => ?_)) rfl
  refine at_end rfl ?_
  refine wpIn_seq ?_
  refine wpIn_seq ?_
  refine region_at ?_
  refine sN 1 1 [(21, .int .i64 ((0 : Int)))] hE (fun a hE => ?_)
  refine at_end rfl ?_
  obtain ⟨s847, hf, hs848⟩ := bind_some hf
  have hS := hS.pk (.c 1 rfl (.c 2 rfl (.c 0 rfl (.c 4 rfl .n)))) rfl
  refine block_loop (fun a w => ∃ (z844 : (Vector Int 32)), ∃ (D845 : Snap), Env a 38 [markD d648] [(2, .pointer (some ⟨b432, 0, none⟩)), (6, .pointer (some ⟨b761, 0, none⟩))] ∧ Stp g w0 D0 [] w D845 [bx b432 23 (acells .u8 32 ((Vector.replicate 32 (0 : Int)))), bx b761 23 (acells .u8 32 (z844)), dk d648] ∧ Snap.le D729 D845 ∧ z844 = s847) (fun k a w => ∃ (y828 : Int × (Vector Int 32)), ∃ (D829 : Snap), Env a 38 [markD d648] [(2, .pointer (some ⟨b432, 0, none⟩)), (4, .pointer (some ⟨b451, 0, none⟩)), (6, .pointer (some ⟨b761, 0, none⟩)), (21, .int .i64 (y828.1))] ∧ Stp g w0 D0 [] w D829 [bx b432 23 (acells .u8 32 ((Vector.replicate 32 (0 : Int)))), bx b451 94 (acells .u32 8 (z728.1)), bx b761 23 (acells .u8 32 (y828.2)), dk d648] ∧ Snap.le D729 D829 ∧ sha_Sum_l2.l K z728 k y828 = some s847) K ?_ ?_ ?_
  ·exact ⟨((0 : Int), (Vector.replicate 32 (0 : Int))), D729, hE.weak (by kernel_rfl), hS, Snap.le.refl _, hf⟩
  ·clear hE hS hf
   rintro a w ⟨z844, D845, hE, hS, le846, rfl⟩
   have hf := hs848
   clear hs848
   refine wpIn_seq ?_
   refine region_at ?_
   refine aL 1 (.agg (List.toArray (acells .u8 32 (z844)))) hE hS (fun a hE => ?_)
   refine at_op (op_store (v := .agg (List.toArray (acells .u8 32 (z844)))) (acells .u8 32 (z844)) rfl rfl rfl rfl hE hS rfl rfl (by kernel_rfl) (by kernel_rfl) (by kernel_rfl) (by kernel_rfl) (by kernel_rfl) (fun a w _ hE hS => ?_)) rfl
   refine at_end rfl ?_
   refine wpIn_ret ?_
   have hS := hS.pk (.c 2 rfl (.c 0 rfl (.c 1 rfl .n))) rfl
   obtain rfl := Option.some.inj hf
   repeat (with_reducible first | refine then_ret ?_ | refine block_ret ?_ | refine qx_ret ?_)
   refine ret_M1 ([.agg (List.toArray (acells .u8 32 (z844)))]) hE hS (fun w hS => ⟨by rw [show Tryd.f60.results.toList = [.cell 2 23] from rfl]; exact ⟨_, _, _, 0, _, _, rfl, rfl, hS.heapAt (j := 0) rfl, by kernel_rfl, rfl⟩, ?_⟩)
   have hS := hS.pk .n rfl
   exact ⟨_, rfl, D845, rfl, hS⟩
  ·clear hE hS hf
   rintro k a w ⟨y828, D829, hE, hS, le830, hf⟩
   obtain ⟨k, rfl, hf⟩ := sha_Sum_l2.some _ hf
   refine ⟨k, rfl, ?_⟩
   unfold sha_Sum_l2.b at hf
   refine wpIn_seq ?_
   refine region_at ?_
   refine sN 1 1 [(22, .bool ((decide (y828.1 < (32 : Int)))))] hE (fun a hE => ?_)
   refine at_end rfl ?_
   refine wpIn_seq ?_
   refine cond_split hE (b := (decide (y828.1 < (32 : Int)))) rfl (fun hb => ?_) (fun hb => ?_)
   ·replace hf := cond_t hb hf
    clear hb
    refine wpIn_skip ?_
    refine wpIn_seq ?_
    refine wpIn_block ?_
    refine wpIn_seq ?_
    refine region_at ?_
    refine sN 2 2 [(7, .int .i64 (y828.1))] hE (fun a hE => ?_)
    refine at_end rfl ?_
    refine region_at ?_
    refine sN 3 3 [(24, .int .i64 (y828.1)), (26, .int .i64 ((IntKind.wrap .i64 (Int.tdiv y828.1 4))))] hE (fun a hE => ?_)
    obtain ⟨hm854, hf⟩ := chk_some hf
    refine at_op (op_tk hE (tk_indexPA (N := 8) (k := .u32) (m := (IntKind.wrap .i64 (Int.tdiv y828.1 4))) rfl rfl rfl rfl hE rfl rfl rfl (by kernel_rfl) hm854 (fun a hE => ?_))) rfl
    refine at_op (op_tk hE (tk_loadPA 1 (N := 8) (k := .u32) (v := z728.1) (m := (IntKind.wrap .i64 (Int.tdiv y828.1 4))) rfl rfl rfl rfl hE rfl hS rfl rfl (by kernel_rfl) hm854 (kL (j := 1) hS rfl List.not_mem_nil) (fun a hE => ?_))) rfl
    refine sN 4 9 [(32, .int .i64 ((IntKind.wrap .i64 ((24 : Int) - (IntKind.wrap .i64 ((8 : Int) * (Int.tmod y828.1 4)))))))] hE (fun a hE => ?_)
    obtain ⟨hq855, hf⟩ := chk_not hf
    refine at_op (op_tk hE (tk_bin (r := .int .u32 ((Int.fdiv (vget (z728.1) (Int.toNat ((IntKind.wrap .i64 (Int.tdiv y828.1 4))))) (2 ^ (min (Int.toNat (IntKind.wrap .i64 ((24 : Int) - (IntKind.wrap .i64 ((8 : Int) * (Int.tmod y828.1 4)))))) 32))))) rfl rfl rfl rfl hE rfl rfl rfl (shr_run hq855) (fun a hE => ?_))) rfl
    refine sN 1 11 [(34, .int .u8 ((IntKind.wrap .u8 (Int.fdiv (vget (z728.1) (Int.toNat ((IntKind.wrap .i64 (Int.tdiv y828.1 4))))) (2 ^ (min (Int.toNat (IntKind.wrap .i64 ((24 : Int) - (IntKind.wrap .i64 ((8 : Int) * (Int.tmod y828.1 4)))))) 32))))))] hE (fun a hE => ?_)
    obtain ⟨hm856, hf⟩ := chk_some hf
    refine at_op (op_tk hE (tk_indexPA (N := 32) (k := .u8) (m := y828.1) rfl rfl rfl rfl hE rfl rfl rfl (by kernel_rfl) hm856 (fun a hE => ?_))) rfl
    have hS := hS.pk (.c 2 rfl (.c 0 rfl (.c 1 rfl (.c 3 rfl .n)))) rfl
    obtain ⟨v857, hv858, hf⟩ := bind_some hf
    replace hv858 := Option.some.inj hv858
    refine at_op (op_storePA (N := 32) (k := .u8) (v := y828.2) (m := y828.1) (z := (IntKind.wrap .u8 (Int.fdiv (vget (z728.1) (Int.toNat ((IntKind.wrap .i64 (Int.tdiv y828.1 4))))) (2 ^ (min (Int.toNat (IntKind.wrap .i64 ((24 : Int) - (IntKind.wrap .i64 ((8 : Int) * (Int.tmod y828.1 4)))))) 32))))) rfl rfl rfl rfl hE hS rfl rfl (by kernel_rfl) hm856 (fun a w _ hE hS => ?_)) rfl
    rw [hv858] at hS
    refine at_end rfl ?_
    refine region_at ?_
    refine sN 2 2 [(21, .int .i64 ((IntKind.wrap .i64 (y828.1 + (1 : Int)))))] hE (fun a hE => ?_)
    refine at_end rfl ?_
    have hS := hS.pk (.c 1 rfl (.c 2 rfl (.c 0 rfl (.c 3 rfl .n)))) rfl
    exact ⟨((IntKind.wrap .i64 (y828.1 + (1 : Int))), v857), D829, hE.weak (by kernel_rfl), hS, le830, hf⟩
   ·replace hf := cond_f hb hf
    clear hb
    refine wpIn_exit ?_
    obtain rfl := Option.some.inj hf
    have hS := hS.pk (.c 0 rfl (.c 2 rfl (.c 3 rfl .n))) rfl
    exact ⟨y828.2, D829, hE.weak (by kernel_rfl), hS, le830, rfl⟩
 ·clear hE hS hf
  rintro k a w ⟨y691, A694, c695, D692, hE, hS, le693, h696, hf⟩
  obtain ⟨k, rfl, hf⟩ := sha_Sum_l1.some hf
  refine ⟨k, rfl, ?_⟩
  unfold sha_Sum_l1.b at hf
  refine wpIn_seq ?_
  refine wpIn_seq ?_
  refine region_at ?_
  refine aL 2 (.slice A694 (List.length (y691.2)) c695) hE hS (fun a hE => ?_)
  refine sN 2 3 [(5, .bool ((decide ((64 : Int) ≤ ((List.length (y691.2) : Nat) : Int)))))] hE (fun a hE => ?_)
  refine at_end rfl ?_
  refine cond_split hE (b := (decide ((64 : Int) ≤ ((List.length (y691.2) : Nat) : Int)))) rfl (fun hb => ?_) (fun hb => ?_)
  ·replace hf := cond_t hb hf
   clear hb
   refine wpIn_skip ?_
   refine wpIn_seq ?_
   refine wpIn_block ?_
   refine wpIn_seq ?_
   refine region_at ?_
   refine sN 1 1 [(8, .func (.yield l647) #[] #[])] hE (fun a hE => ?_)
   refine aL 2 (.slice A694 (List.length (y691.2)) c695) hE hS (fun a hE => ?_)
   obtain ⟨l746, h747, hf⟩ := bind_some hf
   refine at_op (op_tk hE (g_slice (K := (kdInt .u8)) (e := 5) (by_ := 1) (zl := 1) rfl rfl rfl rfl hE rfl rfl (by kernel_rfl) rfl ⟨_, rfl⟩ h696 h747 (fun a A748 c749 hE h750 => ?_))) rfl
   have hS := hS.pk (.c 3 rfl (.c 0 rfl (.c 1 rfl (.c 2 rfl (.c 4 rfl .n))))) rfl
   refine at_op (op_yield2 (args := [.slice A748 (List.length (l746)) c749]) hq646 rfl rfl rfl rfl hE rfl rfl rfl hS hEo650 rfl (by kernel_rfl) (fun a hE => ?_)) rfl
   refine region_at ?_
   refine sN 1 1 [(5, .slice A748 (List.length (l746)) c749)] hE (fun a hE => ?_)
   refine at_end rfl ?_
   refine begin_in2 hq646 hS (fun w hS => ?_)
   refine wpIn_block ?_
   refine region_at ?_
   refine aL 2 (.agg (List.toArray (acells .u32 8 (y691.1)))) hE hS (fun a hE => ?_)
   refine sN 1 2 [(19, .slice A748 (List.length (l746)) c749)] hE (fun a hE => ?_)
   obtain ⟨r751, h752, hf⟩ := bind_some hf
   refine aC rfl rfl rfl rfl hE rfl rfl rfl rfl (sha_Turn.calls (g := g) h752 (hS.st.fore (L := [])) h750 (hG1.mono (le2 (le2 (le2 (le2 (le2 le443 le616) le618) le630) le643) le693))) (fun a v w hR hE => ?_)
   obtain ⟨D753, rfl, hS1⟩ := hR
   have le755 := hS1.dle
   have hS := hS.callR hS1 rfl .n
   clear hS1
   have hS := hS.pk (.c 2 rfl (.c 0 rfl (.c 1 rfl (.c 3 rfl (.c 4 rfl .n))))) rfl
   refine at_op (op_store (v := .agg (List.toArray (acells .u32 8 (r751)))) (acells .u32 8 (r751)) rfl rfl rfl rfl hE hS rfl rfl (by kernel_rfl) (by kernel_rfl) (by kernel_rfl) (by kernel_rfl) (by kernel_rfl) (fun a w _ hE hS => ?_)) rfl
   refine at_end rfl ?_
   have hS := hS.pk (.c 1 rfl (.c 0 rfl (.c 2 rfl (.c 3 rfl (.c 4 rfl .n))))) rfl
   refine round_normal2 (a1 := a) hq646 hS (fun w a hS hE => ?_)
   refine sN 1 5 [(12, .bool false)] hE (fun a hE => ?_)
   refine at_end rfl ?_
   refine wpIn_cond_false (hE.eval rfl) ?_
   refine wpIn_skip ?_
   refine region_at ?_
   refine aL 3 (.slice A694 (List.length (y691.2)) c695) hE hS (fun a hE => ?_)
   obtain ⟨l756, h757, hf⟩ := bind_some hf
   refine at_op (op_tk hE (g_slice (K := (kdInt .u8)) (e := 5) (by_ := 1) (zl := 1) rfl rfl rfl rfl hE rfl rfl (by kernel_rfl) ⟨_, rfl⟩ rfl (h696.mono le755) h757 (fun a A758 c759 hE h760 => ?_))) rfl
   have hS := hS.pk (.c 3 rfl (.c 0 rfl (.c 1 rfl (.c 2 rfl (.c 4 rfl .n))))) rfl
   refine at_op (op_store (v := .slice A758 (List.length (l756)) c759) ([.slice A758 (List.length (l756)) c759]) rfl rfl rfl rfl hE hS rfl rfl (by kernel_rfl) (by kernel_rfl) (by kernel_rfl) (by kernel_rfl) (by kernel_rfl) (fun a w _ hE hS => ?_)) rfl
   refine at_end rfl ?_
   have hS := hS.pk (.c 3 rfl (.c 2 rfl (.c 0 rfl (.c 1 rfl (.c 4 rfl .n))))) rfl
   exact ⟨(r751, l756), A758, c759, D753, hE.weak (by kernel_rfl), hS, (le2 le693 le755), h760, hf⟩
  ·replace hf := cond_f hb hf
   clear hb
   refine wpIn_exit ?_
   obtain rfl := Option.some.inj hf
   exact ⟨(y691.1, y691.2), A694, c695, D692, hE.weak (by kernel_rfl), hS, le693, h696, rfl⟩
set_option maxRecDepth 100000 in
set_option maxHeartbeats 4000000 in
theorem mac_Of.calls {K : Nat} {g w0 : World} {D0 : Snap} {x1 : Int} {x2 : (List (List Int))} {A3 : Option Addr} {c4 : Nat} {r : ((Vector Int 32))} (hf : mac_Of.f K x1 x2 = some r) (hS0 : St g w0 D0 []) (h5 : Sl (kdSlice (kdInt .u8)) D0 A3 c4 (x2)) (hG0 : Cell (kdArr .u32 8) D0 0 0 gl_First) (hG1 : Cell (kdArr .u32 64) D0 1 0 gl_K) :
  CallsIn (Fw none) 0 Tryd.prog 31 (List.toArray [.int .i64 (x1), .slice A3 (List.length (x2)) c4]) w0 (fun e w' => ∃ v, e = .returned v ∧ ∃ (D1 : Snap), v = .agg (List.toArray (acells .u8 32 (r))) ∧ Stp g w0 D0 [] w' D1 []) := by
 unfold mac_Of.f at hf
 have hS := Stp.refl hS0
 clear hS0
 refine calls_body (n := 12) Tryd.func31 rfl Tryd.ntmps31 rfl (fun a hE => ?_)
 have hE : Env a 12 [] [(0, .int .i64 (x1)), (1, .slice A3 (List.length (x2)) c4)] := hE
 refine wpIn_seq ?_
 refine region_at ?_
 refine at_op (op_alloc (z := .agg (List.toArray (acells .u8 32 ((Vector.replicate 32 (0 : Int)))))) rfl rfl rfl rfl hE rfl hS (by kernel_rfl) (fun a b46 w _ hE hS => ?_)) rfl
 refine at_end rfl ?_
 refine wpIn_seq ?_
 refine region_at ?_
 refine sN 2 2 [(6, .int .u8 ((IntKind.wrap .u8 x1)))] hE (fun a hE => ?_)
 refine at_op (op_buildSlice (K := (kdInt .u8)) (e := 5) (cs := [.int .u8 ((IntKind.wrap .u8 x1))] ++ []) ([(IntKind.wrap .u8 x1)] : List Int) rfl rfl rfl rfl hE rfl hS rfl (by kernel_rfl) rfl rfl (by exact (show RL (kdInt .u8) D0 ([(IntKind.wrap .u8 x1)] : List Int) ([.int .u8 ((IntKind.wrap .u8 x1))] ++ []) from ⟨_, _, rfl, rfl, rfl⟩)) (fun a A48 q49 w _ hE h50 hS => ?_)) rfl
 refine sN 1 4 [(8, .slice A3 (List.length (x2)) c4)] hE (fun a hE => ?_)
 obtain ⟨r52, h53, hf⟩ := bind_some hf
 refine aC rfl rfl rfl rfl hE rfl rfl rfl rfl (mac_joined_byte.calls (g := g) h53 (hS.st.fore (L := [])) h5) (fun a v w hR hE => ?_)
 obtain ⟨D54, A56, c57, q58, rfl, hS1, h59⟩ := hR
 have le61 := hS1.dle
 have hS := hS.callR hS1 rfl (.c .n)
 clear hS1
 have hS := hS.pk (.c 1 rfl (.c 0 rfl (.c 2 rfl .n))) rfl
 obtain ⟨D62, q65, le63, hS, h66, h64⟩ := hS.lent (h50.mono le61)
 have hS := hS.pk (.c 1 rfl (.c 0 rfl (.c 2 rfl .n))) rfl
 obtain ⟨D67, q70, le68, hS, h71, h69⟩ := hS.lent (h59.mono le63)
 refine at_op (op_buildSlice (K := (kdSlice (kdInt .u8))) (e := 25) (cs := [.slice A48 (List.length (([(IntKind.wrap .u8 x1)] : List Int))) 1] ++ ([.slice A56 (List.length (r52)) c57] ++ [])) ([([(IntKind.wrap .u8 x1)] : List Int), r52] : List (List Int)) rfl rfl rfl rfl hE rfl hS rfl (by kernel_rfl) rfl rfl (by exact (show RL (kdSlice (kdInt .u8)) D67 ([([(IntKind.wrap .u8 x1)] : List Int), r52] : List (List Int)) ([.slice A48 (List.length (([(IntKind.wrap .u8 x1)] : List Int))) 1] ++ ([.slice A56 (List.length (r52)) c57] ++ [])) from ⟨_, _, rfl, (kslice (h64.mono le68)), ⟨_, _, rfl, (kslice h69), rfl⟩⟩)) (fun a A72 q73 w _ hE h74 hS => ?_)) rfl
 obtain ⟨D76, q79, le77, hS, h80, h78⟩ := hS.lent h74
 obtain ⟨r81, h82, hf⟩ := bind_some hf
 refine aC rfl rfl rfl rfl hE rfl rfl rfl rfl (sha_Sum.calls (g := g) h82 (hS.st.fore (L := [])) h78 (hG0.mono (le2 (le2 (le2 le61 le63) le68) le77)) (hG1.mono (le2 (le2 (le2 le61 le63) le68) le77))) (fun a v w hR hE => ?_)
 obtain ⟨D83, rfl, hS1⟩ := hR
 have le85 := hS1.dle
 have hS := hS.callR hS1 rfl .n
 clear hS1
 have hS := hS.pk (.c 3 rfl (.c 0 rfl (.c 1 rfl (.c 2 rfl .n)))) rfl
 refine at_op (op_store (v := .agg (List.toArray (acells .u8 32 (r81)))) (acells .u8 32 (r81)) rfl rfl rfl rfl hE hS rfl rfl (by kernel_rfl) (by kernel_rfl) (by kernel_rfl) (by kernel_rfl) (by kernel_rfl) (fun a w _ hE hS => ?_)) rfl
 refine at_end rfl ?_
 refine wpIn_ret ?_
 obtain rfl := Option.some.inj hf
 repeat (with_reducible first | refine then_ret ?_ | refine block_ret ?_ | refine qx_ret ?_)
 refine ret_gen ([.agg (List.toArray (acells .u8 32 (r81)))]) hE (by rw [show Tryd.f31.results.toList = [.cell 4 23] from rfl]; exact ⟨_, _, _, 0, _, _, rfl, rfl, hS.heapAt (j := 0) rfl, by kernel_rfl, rfl⟩) ?_
 have hS := hS.pk .n rfl
 exact ⟨_, rfl, D83, rfl, hS⟩
set_option maxRecDepth 100000 in
set_option maxHeartbeats 4000000 in
theorem rec_Com.calls {K : Nat} {g w0 : World} {D0 : Snap} {x1 : T_api_Rec} {A2 : Option Addr} {c3 : Nat} {A5 : Option Addr} {c6 : Nat} {r : ((Vector Int 32))} (hf : rec_Com.f K x1 = some r) (hS0 : St g w0 D0 []) (h4 : Sl kd_T_api_Step D0 A2 c3 (x1.fSteps)) (h7 : Sl (kdInt .u8) D0 A5 c6 (x1.fData)) (hG0 : Cell (kdArr .u32 8) D0 0 0 gl_First) (hG1 : Cell (kdArr .u32 64) D0 1 0 gl_K) :
  CallsIn (Fw none) 0 Tryd.prog 13 (List.toArray [.agg (List.toArray (c_T_api_Rec (x1) A2 c3 A5 c6))]) w0 (fun e w' => ∃ v, e = .returned v ∧ ∃ (D1 : Snap), v = .agg (List.toArray (acells .u8 32 (r))) ∧ Stp g w0 D0 [] w' D1 []) := by
 unfold rec_Com.f at hf
 have hS := Stp.refl hS0
 clear hS0
 refine calls_body (n := 24) Tryd.func13 rfl Tryd.ntmps13 rfl (fun a hE => ?_)
 have hE : Env a 24 [] [(0, .agg (List.toArray (c_T_api_Rec (x1) A2 c3 A5 c6)))] := hE
 refine wpIn_seq ?_
 refine region_at ?_
 refine at_op (op_box rfl rfl rfl rfl hE rfl hS rfl (fun a b114 w _ hE hS => ?_)) rfl
 refine at_op (op_alloc (z := .agg (List.toArray (acells .u8 32 ((Vector.replicate 32 (0 : Int)))))) rfl rfl rfl rfl hE rfl hS (by kernel_rfl) (fun a b116 w _ hE hS => ?_)) rfl
 refine at_end rfl ?_
 refine wpIn_seq ?_
 refine wpIn_block ?_
 obtain ⟨j213, hj214, hf⟩ := jn_elim hf
 refine seq_join (fun a w => ∃ (y138 : Bool), ∃ (D139 : Snap), Env a 24 [] [(1, .pointer (some ⟨b114, 0, none⟩)), (2, .pointer (some ⟨b116, 0, none⟩)), (3, .bool (y138))] ∧ Stp g w0 D0 [] w D139 [bx b114 27 (c_T_api_Rec (x1) A2 c3 A5 c6), bx b116 23 (acells .u8 32 ((Vector.replicate 32 (0 : Int))))] ∧ Snap.le D0 D139 ∧ j213 y138 = some r) ?_ ?_
 ·clear hj214
  refine region_at ?_
  refine aL 1 (.agg (List.toArray (c_T_api_Rec (x1) A2 c3 A5 c6))) hE hS (fun a hE => ?_)
  obtain ⟨r215, h216, hf⟩ := bind_some hf
  refine aC rfl rfl rfl rfl hE rfl rfl rfl rfl (rec_Right.calls (g := g) h216 (hS.st.fore (L := [])) h4 h7) (fun a v w hR hE => ?_)
  obtain ⟨D217, rfl, hS1⟩ := hR
  have le219 := hS1.dle
  have hS := hS.callR hS1 rfl .n
  clear hS1
  refine sN 2 4 [(7, .bool ((!r215)))] hE (fun a hE => ?_)
  refine Or.elim (Bool.eq_false_or_eq_true ((!r215))).symm (fun hb => ?_) (fun hb => ?_)
  ·replace hf := cond_f hb hf
   have hE := hE.know (t := 7) (b := (!r215)) (b' := false) rfl hb
   clear hb
   refine aF 0 3 0 hE (fun a hE => ?_)
   refine aL 1 (.int .i64 (x1.fKind)) hE hS (fun a hE => ?_)
   refine sN 3 9 [(3, .bool ((!decide (x1.fKind = (1 : Int)))))] hE (fun a hE => ?_)
   refine at_end rfl ?_
   have hS := hS.pk (.c 1 rfl (.c 0 rfl .n)) rfl
   exact ⟨(!decide (x1.fKind = (1 : Int))), D217, hE.weak (by kernel_rfl), hS, le219, hf⟩
  ·replace hf := cond_t hb hf
   have hE := hE.know (t := 7) (b := (!r215)) (b' := true) rfl hb
   clear hb
   refine sN 5 9 [(3, .bool true)] hE (fun a hE => ?_)
   refine at_end rfl ?_
   have hS := hS.pk (.c 1 rfl (.c 0 rfl .n)) rfl
   exact ⟨true, D217, hE.weak (by kernel_rfl), hS, le219, hf⟩
 ·clear hE hS
  rintro a w ⟨y138, D139, hE, hS, le140, hf⟩
  replace hf := hj214 _ hf
  clear hj214
  refine cond_split hE (b := y138) rfl (fun hb => ?_) (fun hb => ?_)
  ·replace hf := cond_t hb hf
   clear hb
   refine wpIn_seq ?_
   refine region_at ?_
   refine at_op (op_tk hE (tk_build (acells .u8 32 ((vofL 32 [(0 : Int), (0 : Int), (0 : Int), (0 : Int), (0 : Int), (0 : Int), (0 : Int), (0 : Int), (0 : Int), (0 : Int), (0 : Int), (0 : Int), (0 : Int), (0 : Int), (0 : Int), (0 : Int), (0 : Int), (0 : Int), (0 : Int), (0 : Int), (0 : Int), (0 : Int), (0 : Int), (0 : Int), (0 : Int), (0 : Int), (0 : Int), (0 : Int), (0 : Int), (0 : Int), (0 : Int), (0 : Int)]))) rfl rfl rfl rfl hE rfl rfl (by kernel_rfl) (fun a hE => ?_))) rfl
   have hS := hS.pk (.c 1 rfl (.c 0 rfl .n)) rfl
   refine at_op (op_store (v := .agg (List.toArray (acells .u8 32 ((vofL 32 [(0 : Int), (0 : Int), (0 : Int), (0 : Int), (0 : Int), (0 : Int), (0 : Int), (0 : Int), (0 : Int), (0 : Int), (0 : Int), (0 : Int), (0 : Int), (0 : Int), (0 : Int), (0 : Int), (0 : Int), (0 : Int), (0 : Int), (0 : Int), (0 : Int), (0 : Int), (0 : Int), (0 : Int), (0 : Int), (0 : Int), (0 : Int), (0 : Int), (0 : Int), (0 : Int), (0 : Int), (0 : Int)]))))) (acells .u8 32 ((vofL 32 [(0 : Int), (0 : Int), (0 : Int), (0 : Int), (0 : Int), (0 : Int), (0 : Int), (0 : Int), (0 : Int), (0 : Int), (0 : Int), (0 : Int), (0 : Int), (0 : Int), (0 : Int), (0 : Int), (0 : Int), (0 : Int), (0 : Int), (0 : Int), (0 : Int), (0 : Int), (0 : Int), (0 : Int), (0 : Int), (0 : Int), (0 : Int), (0 : Int), (0 : Int), (0 : Int), (0 : Int), (0 : Int)]))) rfl rfl rfl rfl hE hS rfl rfl (by kernel_rfl) (by kernel_rfl) (by kernel_rfl) (by kernel_rfl) (by kernel_rfl) (fun a w _ hE hS => ?_)) rfl
   refine at_end rfl ?_
   refine wpIn_ret ?_
   obtain rfl := Option.some.inj hf
   repeat (with_reducible first | refine then_ret ?_ | refine block_ret ?_ | refine qx_ret ?_)
   refine ret_gen ([.agg (List.toArray (acells .u8 32 ((vofL 32 [(0 : Int), (0 : Int), (0 : Int), (0 : Int), (0 : Int), (0 : Int), (0 : Int), (0 : Int), (0 : Int), (0 : Int), (0 : Int), (0 : Int), (0 : Int), (0 : Int), (0 : Int), (0 : Int), (0 : Int), (0 : Int), (0 : Int), (0 : Int), (0 : Int), (0 : Int), (0 : Int), (0 : Int), (0 : Int), (0 : Int), (0 : Int), (0 : Int), (0 : Int), (0 : Int), (0 : Int), (0 : Int)]))))]) hE (by rw [show Tryd.f13.results.toList = [.cell 2 23] from rfl]; exact ⟨_, _, _, 0, _, _, rfl, rfl, hS.heapAt (j := 0) rfl, by kernel_rfl, rfl⟩) ?_
   have hS := hS.pk .n rfl
   exact ⟨_, rfl, D139, rfl, hS⟩
  ·replace hf := cond_f hb hf
   clear hb
   refine wpIn_seq ?_
   refine region_at ?_
   refine aF 76 4 76 hE (fun a hE => ?_)
   refine aL 0 (.bool (x1.fGone)) hE hS (fun a hE => ?_)
   refine sN 1 3 [(13, .bool (x1.fGone))] hE (fun a hE => ?_)
   refine at_end rfl ?_
   refine cond_split hE (b := x1.fGone) rfl (fun hb => ?_) (fun hb => ?_)
   ·replace hf := cond_t hb hf
    clear hb
    refine wpIn_seq ?_
    refine region_at ?_
    refine aF 77 23 77 hE (fun a hE => ?_)
    refine aL 0 (.agg (List.toArray (acells .u8 32 (x1.fCom)))) hE hS (fun a hE => ?_)
    have hS := hS.pk (.c 1 rfl (.c 0 rfl .n)) rfl
    refine at_op (op_store (v := .agg (List.toArray (acells .u8 32 (x1.fCom)))) (acells .u8 32 (x1.fCom)) rfl rfl rfl rfl hE hS rfl rfl (by kernel_rfl) (by kernel_rfl) (by kernel_rfl) (by kernel_rfl) (by kernel_rfl) (fun a w _ hE hS => ?_)) rfl
    refine at_end rfl ?_
    refine wpIn_ret ?_
    obtain rfl := Option.some.inj hf
    repeat (with_reducible first | refine then_ret ?_ | refine block_ret ?_ | refine qx_ret ?_)
    refine ret_gen ([.agg (List.toArray (acells .u8 32 (x1.fCom)))]) hE (by rw [show Tryd.f13.results.toList = [.cell 2 23] from rfl]; exact ⟨_, _, _, 0, _, _, rfl, rfl, hS.heapAt (j := 0) rfl, by kernel_rfl, rfl⟩) ?_
    have hS := hS.pk .n rfl
    exact ⟨_, rfl, D139, rfl, hS⟩
   ·replace hf := cond_f hb hf
    clear hb
    refine wpIn_skip ?_
    refine wpIn_seq ?_
    refine region_draw (fun j => Keeps (mfOf [(6, [b116])] j)) (by kernel_rfl) ?_
    have hS := hS.drew
    first | generalize w.drew = w at hS ⊢ | generalize w0.drew = w at hS ⊢
    refine wF 0 1 6 44 23 44 hE (fun a hE => ?_)
    obtain ⟨D177, le178, e179, hS⟩ := hS.freezeB
    have hc180 : Cell kd_T_api_Rec D177 b114 0 (x1) := ⟨c_T_api_Rec (x1) A2 c3 A5 c6, _, _, _, (kd_T_api_Rec_mk (D := D177) (x := x1) rfl rfl rfl rfl rfl rfl rfl rfl rfl rfl rfl (kslice (h4.mono (le2 le140 le178))) (kslice (h7.mono (le2 le140 le178))) rfl rfl rfl), e179, fun j u hu => by show (List.toArray (c_T_api_Rec (x1) A2 c3 A5 c6))[0 + j]? = some u; simpa using hu⟩
    obtain ⟨l181, h182, hf⟩ := bind_some hf
    refine tW 1 3 (fuel := 5) (by kernel_rfl) hE (fun M => tk_sliceArrAt (kk := .u8) (e := 5) (v := x1.fSalt) (off := 44) (cs := c_T_api_Rec (x1) A2 c3 A5 c6) rfl rfl rfl rfl hE rfl rfl (by kernel_rfl) rfl rfl e179 (by kernel_rfl) rfl h182 (fun a A183 c184 hE h185 => ?_))
    refine tW 2 7 (fuel := 4) (by kernel_rfl) hE (fun M => g_fieldAddr (fo := 43) (ft := 25) (0 + 43) rfl rfl rfl rfl hE rfl rfl (by kernel_rfl) rfl (fun a hE => ?_))
    obtain ⟨cs186, C187, T188, fr189, hr190, hb191, hc192⟩ := hc180
    obtain ⟨A193, c194, A196, c197, rfl, h195, h198⟩ := kd_T_api_Rec_el hr190
    refine tT 3 15 (fuel := 3) (by kernel_rfl) hE (tk_loadX (off0 := 0) (off := 43) (c := c_T_api_Rec (x1) A193 c194 A196 c197) (.slice A196 (List.length (x1.fData)) c197) rfl rfl rfl rfl hE rfl hS rfl hb191 hc192 (by kernel_rfl) (by kernel_rfl) (kD hS dn_nil) (fun a hE => ?_))
    refine oG 4 31 (fuel := 2) (by kernel_rfl) (op_buildSlice (K := (kdSlice (kdInt .u8))) (e := 25) (cs := [.slice A183 (List.length (l181)) c184] ++ ([.slice A196 (List.length (x1.fData)) c197] ++ [])) ([l181, x1.fData] : List (List Int)) rfl rfl rfl rfl hE rfl hS rfl (by kernel_rfl) rfl rfl (by exact (show RL (kdSlice (kdInt .u8)) D177 ([l181, x1.fData] : List (List Int)) ([.slice A183 (List.length (l181)) c184] ++ ([.slice A196 (List.length (x1.fData)) c197] ++ [])) from ⟨_, _, rfl, (kslice h185), ⟨_, _, rfl, (kslice h198), rfl⟩⟩)) (fun a A199 q200 w hkp hE h201 hS => ⟨hkp.mono (fun _ h => absurd h List.not_mem_nil), ?_⟩))
    clear hkp
    obtain ⟨D203, q206, le204, hS, h207, h205⟩ := hS.lent h201
    obtain ⟨r208, h209, hf⟩ := bind_some hf
    refine oG 5 63 (fuel := 1) (by kernel_rfl) (op_call rfl rfl rfl rfl hE rfl rfl rfl rfl (by kernel_rfl) (mac_Of.calls (g := g) h209 (hS.st.fore (L := [])) h205 (hG0.mono (le2 (le2 le140 le178) le204)) (hG1.mono (le2 (le2 le140 le178) le204))) (fun a v w hR hE => ?_))
    obtain ⟨D210, rfl, hS1⟩ := hR
    refine ⟨(hS1.keeps.sub (M' := []) trivial).mono (fun _ h => h), ?_⟩
    have le212 := hS1.dle
    have hS := hS.callR hS1 rfl .n
    clear hS1
    have hS := hS.pk (.c 1 rfl (.c 0 rfl .n)) rfl
    refine oG 6 127 (fuel := 0) (by kernel_rfl) (op_store (v := .agg (List.toArray (acells .u8 32 (r208)))) (acells .u8 32 (r208)) rfl rfl rfl rfl hE hS rfl rfl (by kernel_rfl) (by kernel_rfl) (by kernel_rfl) (by kernel_rfl) (by kernel_rfl) (fun a w hkp hE hS => ⟨hkp.mono (fun _ h => h), ?_⟩))
    clear hkp
    refine doneG (by kernel_rfl) ?_
    refine wpIn_ret ?_
    obtain rfl := Option.some.inj hf
    repeat (with_reducible first | refine then_ret ?_ | refine block_ret ?_ | refine qx_ret ?_)
    refine ret_gen ([.agg (List.toArray (acells .u8 32 (r208)))]) hE (by rw [show Tryd.f13.results.toList = [.cell 2 23] from rfl]; exact ⟨_, _, _, 0, _, _, rfl, rfl, hS.heapAt (j := 0) rfl, by kernel_rfl, rfl⟩) ?_
    have hS := hS.pk .n rfl
    exact ⟨_, rfl, D210, rfl, hS⟩
set_option maxRecDepth 100000 in
set_option maxHeartbeats 4000000 in
theorem rec_Redact.calls {K : Nat} {g w0 : World} {D0 : Snap} {x1 : T_api_Rec} {A2 : Option Addr} {c3 : Nat} {A5 : Option Addr} {c6 : Nat} {r : (T_api_Rec)} (hf : rec_Redact.f K x1 = some r) (hS0 : St g w0 D0 []) (h4 : Sl kd_T_api_Step D0 A2 c3 (x1.fSteps)) (h7 : Sl (kdInt .u8) D0 A5 c6 (x1.fData)) (hG0 : Cell (kdArr .u32 8) D0 0 0 gl_First) (hG1 : Cell (kdArr .u32 64) D0 1 0 gl_K) :
  CallsIn (Fw none) 0 Tryd.prog 16 (List.toArray [.agg (List.toArray (c_T_api_Rec (x1) A2 c3 A5 c6))]) w0 (fun e w' => ∃ v, e = .returned v ∧ ∃ (D1 : Snap) (A90 : Option Addr) (c91 : Nat) (A93 : Option Addr) (c94 : Nat), v = .agg (List.toArray (c_T_api_Rec ((T_api_Rec.mk (r.fKind) (r.fSaga) (r.fSeq) (r.fStep) (r.fTry) (r.fBack) (r.fGood) (r.fEnd) (r.fPart) (r.fEpoch) (r.fTag) (r.fSteps) (r.fData) (r.fSalt) (r.fGone) (r.fCom))) A90 c91 A93 c94)) ∧ Stp g w0 D0 [] w' D1 [] ∧ Sl kd_T_api_Step D1 A90 c91 (r.fSteps) ∧ Sl (kdInt .u8) D1 A93 c94 (r.fData)) := by
 unfold rec_Redact.f at hf
 have hS := Stp.refl hS0
 clear hS0
 refine calls_body (n := 20) Tryd.func16 rfl Tryd.ntmps16 rfl (fun a hE => ?_)
 have hE : Env a 20 [] [(0, .agg (List.toArray (c_T_api_Rec (x1) A2 c3 A5 c6)))] := hE
 refine wpIn_seq ?_
 refine region_at ?_
 refine at_op (op_box rfl rfl rfl rfl hE rfl hS rfl (fun a b96 w _ hE hS => ?_)) rfl
 refine at_op (op_alloc (z := .agg (List.toArray (c_T_api_Rec (z_T_api_Rec) none 0 none 0))) rfl rfl rfl rfl hE rfl hS (by kernel_rfl) (fun a b98 w _ hE hS => ?_)) rfl
 refine at_end rfl ?_
 refine wpIn_seq ?_
 obtain ⟨j171, hj172, hf⟩ := jn_elim hf
 refine seq_join (fun a w => ∃ (y120 : Bool), ∃ (D121 : Snap), Env a 20 [] [(1, .pointer (some ⟨b96, 0, none⟩)), (2, .pointer (some ⟨b98, 0, none⟩)), (10, .bool (y120))] ∧ Stp g w0 D0 [] w D121 [bx b96 27 (c_T_api_Rec (x1) A2 c3 A5 c6), bx b98 27 (c_T_api_Rec (z_T_api_Rec) none 0 none 0)] ∧ Snap.le D0 D121 ∧ j171 y120 = some r) ?_ ?_
 ·clear hj172
  refine region_at ?_
  refine aL 1 (.agg (List.toArray (c_T_api_Rec (x1) A2 c3 A5 c6))) hE hS (fun a hE => ?_)
  obtain ⟨r173, h174, hf⟩ := bind_some hf
  refine aC rfl rfl rfl rfl hE rfl rfl rfl rfl (rec_Right.calls (g := g) h174 (hS.st.fore (L := [])) h4 h7) (fun a v w hR hE => ?_)
  obtain ⟨D175, rfl, hS1⟩ := hR
  have le177 := hS1.dle
  have hS := hS.callR hS1 rfl .n
  clear hS1
  refine sN 2 4 [(6, .bool ((!r173)))] hE (fun a hE => ?_)
  refine Or.elim (Bool.eq_false_or_eq_true ((!r173))).symm (fun hb => ?_) (fun hb => ?_)
  ·replace hf := cond_f hb hf
   have hE := hE.know (t := 6) (b := (!r173)) (b' := false) rfl hb
   clear hb
   refine aF 0 3 0 hE (fun a hE => ?_)
   refine aL 1 (.int .i64 (x1.fKind)) hE hS (fun a hE => ?_)
   refine sN 2 8 [(10, .bool ((!decide (x1.fKind = (1 : Int)))))] hE (fun a hE => ?_)
   refine at_end rfl ?_
   have hS := hS.pk (.c 1 rfl (.c 0 rfl .n)) rfl
   exact ⟨(!decide (x1.fKind = (1 : Int))), D175, hE.weak (by kernel_rfl), hS, le177, hf⟩
  ·replace hf := cond_t hb hf
   have hE := hE.know (t := 6) (b := (!r173)) (b' := true) rfl hb
   clear hb
   refine sN 4 8 [(10, .bool true)] hE (fun a hE => ?_)
   refine at_end rfl ?_
   have hS := hS.pk (.c 1 rfl (.c 0 rfl .n)) rfl
   exact ⟨true, D175, hE.weak (by kernel_rfl), hS, le177, hf⟩
 ·clear hE hS
  rintro a w ⟨y120, D121, hE, hS, le122, hf⟩
  replace hf := hj172 _ hf
  clear hj172
  refine cond_split hE (b := y120) rfl (fun hb => ?_) (fun hb => ?_)
  ·replace hf := cond_t hb hf
   clear hb
   refine wpIn_seq ?_
   refine region_at ?_
   refine aL 0 (.agg (List.toArray (c_T_api_Rec (x1) A2 c3 A5 c6))) hE hS (fun a hE => ?_)
   have hS := hS.pk (.c 1 rfl (.c 0 rfl .n)) rfl
   refine at_op (op_store (v := .agg (List.toArray (c_T_api_Rec (x1) A2 c3 A5 c6))) (c_T_api_Rec (x1) A2 c3 A5 c6) rfl rfl rfl rfl hE hS rfl rfl (by kernel_rfl) (by kernel_rfl) (by kernel_rfl) (by kernel_rfl) (by kernel_rfl) (fun a w _ hE hS => ?_)) rfl
   refine at_end rfl ?_
   refine wpIn_ret ?_
   obtain rfl := Option.some.inj hf
   repeat (with_reducible first | refine then_ret ?_ | refine block_ret ?_ | refine qx_ret ?_)
   refine ret_gen ([.agg (List.toArray (c_T_api_Rec (x1) A2 c3 A5 c6))]) hE (by rw [show Tryd.f16.results.toList = [.cell 2 27] from rfl]; exact ⟨_, _, _, 0, _, _, rfl, rfl, hS.heapAt (j := 0) rfl, by kernel_rfl, rfl⟩) ?_
   have hS := hS.pk .n rfl
   exact ⟨_, rfl, D121, A2, c3, A5, c6, rfl, hS, (h4.mono le122), (h7.mono le122)⟩
  ·replace hf := cond_f hb hf
   clear hb
   refine wpIn_skip ?_
   refine wpIn_seq ?_
   refine region_draw (fun j => Keeps (mfOf [(8, [b98])] j)) (by kernel_rfl) ?_
   have hS := hS.drew
   first | generalize w.drew = w at hS ⊢ | generalize w0.drew = w at hS ⊢
   refine wF 0 1 8 1 3 1 hE (fun a hE => ?_)
   refine tT 1 3 (fuel := 7) (by kernel_rfl) hE (tk_load 0 (.int .i64 (x1.fSaga)) rfl rfl rfl rfl hE rfl hS rfl rfl (by kernel_rfl) (kL (j := 0) hS rfl List.not_mem_nil) (fun a hE => ?_))
   refine wF 2 7 6 42 24 42 hE (fun a hE => ?_)
   refine tT 3 15 (fuel := 5) (by kernel_rfl) hE (tk_load 0 (.slice A2 (List.length (x1.fSteps)) c3) rfl rfl rfl rfl hE rfl hS rfl rfl (by kernel_rfl) (kL (j := 0) hS rfl List.not_mem_nil) (fun a hE => ?_))
   refine tT 5 47 (fuel := 4) (by kernel_rfl) hE (tk_load 0 (.agg (List.toArray (c_T_api_Rec (x1) A2 c3 A5 c6))) rfl rfl rfl rfl hE rfl hS rfl rfl (by kernel_rfl) (kL (j := 0) hS rfl List.not_mem_nil) (fun a hE => ?_))
   obtain ⟨r147, h148, hf⟩ := bind_some hf
   refine oG 4 63 (fuel := 3) (by kernel_rfl) (op_call rfl rfl rfl rfl hE rfl rfl rfl rfl (by kernel_rfl) (slices_Clone_api_Step_api_Step.calls (g := g) h148 (hS.st.fore (L := [])) (h4.mono le122)) (fun a v w hR hE => ?_))
   obtain ⟨D149, A151, c152, q153, rfl, hS1, h154⟩ := hR
   refine ⟨(hS1.keeps.sub (M' := []) trivial).mono (fun _ h => h), ?_⟩
   have le156 := hS1.dle
   have hS := hS.callR hS1 rfl (.c .n)
   clear hS1
   obtain ⟨r157, h158, hf⟩ := bind_some hf
   refine oG 6 127 (fuel := 2) (by kernel_rfl) (op_call rfl rfl rfl rfl hE rfl rfl rfl rfl (by kernel_rfl) (rec_Com.calls (g := g) h158 (hS.st.fore (L := [])) (h4.mono (le2 le122 le156)) (h7.mono (le2 le122 le156)) (hG0.mono (le2 le122 le156)) (hG1.mono (le2 le122 le156))) (fun a v w hR hE => ?_))
   obtain ⟨D159, rfl, hS1⟩ := hR
   refine ⟨(hS1.keeps.sub (M' := []) trivial).mono (fun _ h => h), ?_⟩
   have le161 := hS1.dle
   have hS := hS.callR hS1 rfl .n
   clear hS1
   obtain ⟨D162, q165, le163, hS, h166, h164⟩ := hS.lent (h154.mono le161)
   refine tW 7 255 (fuel := 1) (by kernel_rfl) hE (fun M => tk_build (c_T_api_Rec ({ z_T_api_Rec with fKind := (1 : Int), fSaga := x1.fSaga, fSteps := r147, fGone := true, fCom := r157 }) A151 c152 none 0) rfl rfl rfl rfl hE rfl rfl (by kernel_rfl) (fun a hE => ?_))
   have hS := hS.pk (.c 2 rfl (.c 0 rfl (.c 1 rfl .n))) rfl
   obtain ⟨v167, hv168, hf⟩ := bind_some hf
   replace hv168 := Option.some.inj hv168
   refine oG 8 511 (fuel := 0) (by kernel_rfl) (op_store (v := .agg (List.toArray (c_T_api_Rec ({ z_T_api_Rec with fKind := (1 : Int), fSaga := x1.fSaga, fSteps := r147, fGone := true, fCom := r157 }) A151 c152 none 0))) (c_T_api_Rec (v167) A151 c152 none 0) rfl rfl rfl rfl hE hS rfl rfl (by kernel_rfl) (by kernel_rfl) (by kernel_rfl) (by kernel_rfl) (by rw [← hv168]; kernel_rfl) (fun a w hkp hE hS => ⟨hkp.mono (fun _ h => h), ?_⟩))
   clear hkp
   have h169 : Sl kd_T_api_Step D162 A151 c152 (v167.fSteps) := by rw [← hv168]; exact h164
   have h170 : Sl (kdInt .u8) D162 none 0 (v167.fData) := by rw [← hv168]; exact (Sl.nil (kdInt .u8) D162)
   refine doneG (by kernel_rfl) ?_
   refine wpIn_ret ?_
   obtain rfl := Option.some.inj hf
   repeat (with_reducible first | refine then_ret ?_ | refine block_ret ?_ | refine qx_ret ?_)
   refine ret_gen ([.agg (List.toArray (c_T_api_Rec (v167) A151 c152 none 0))]) hE (by rw [show Tryd.f16.results.toList = [.cell 2 27] from rfl]; exact ⟨_, _, _, 0, _, _, rfl, rfl, hS.heapAt (j := 0) rfl, by kernel_rfl, rfl⟩) ?_
   have hS := hS.pk .n rfl
   exact ⟨_, rfl, D162, A151, c152, none, 0, rfl, hS, h169, h170⟩
set_option maxRecDepth 100000 in
set_option maxHeartbeats 4000000 in
theorem inspeximusref01_Bytes.calls {K : Nat} {g w0 : World} {D0 : Snap} {x1 : (List Int)} {x5 : (List Int)} {A2 : Option Addr} {c3 : Nat} {A6 : Option Addr} {c7 : Nat} {r : (Bool)} (hf : inspeximusref01_Bytes.f K x1 x5 = some r) (hS0 : St g w0 D0 []) (h4 : Sl (kdInt .u8) D0 A2 c3 (x1)) (h8 : Sl (kdInt .u8) D0 A6 c7 (x5)) :
  CallsIn (Fw none) 0 Tryd.prog 19 (List.toArray [.slice A2 (List.length (x1)) c3, .slice A6 (List.length (x5)) c7]) w0 (fun e w' => ∃ v, e = .returned v ∧ ∃ (D1 : Snap), v = .bool (r) ∧ Stp g w0 D0 [] w' D1 []) := by
 unfold inspeximusref01_Bytes.f at hf
 have hS := Stp.refl hS0
 clear hS0
 refine calls_body (n := 26) Tryd.func19 rfl Tryd.ntmps19 rfl (fun a hE => ?_)
 have hE : Env a 26 [] [(0, .slice A2 (List.length (x1)) c3), (1, .slice A6 (List.length (x5)) c7)] := hE
 refine wpIn_seq ?_
 refine region_at ?_
 refine sN 1 1 [(4, .bool false)] hE (fun a hE => ?_)
 refine at_end rfl ?_
 refine wpIn_seq ?_
 refine wpIn_seq ?_
 refine region_at ?_
 refine sN 5 5 [(10, .bool ((!decide (((List.length (x1) : Nat) : Int) = ((List.length (x5) : Nat) : Int)))))] hE (fun a hE => ?_)
 refine at_end rfl ?_
 refine cond_split hE (b := (!decide (((List.length (x1) : Nat) : Int) = ((List.length (x5) : Nat) : Int)))) rfl (fun hb => ?_) (fun hb => ?_)
 ·replace hf := cond_t hb hf
  clear hb
  refine wpIn_seq ?_
  refine region_at ?_
  refine sN 1 1 [(4, .bool false)] hE (fun a hE => ?_)
  refine at_end rfl ?_
  refine wpIn_ret ?_
  obtain rfl := Option.some.inj hf
  repeat (with_reducible first | refine then_ret ?_ | refine block_ret ?_ | refine qx_ret ?_)
  refine ret_gen ([.bool false]) hE (by rw [show Tryd.f19.results.toList = [.tmp 4] from rfl]; exact ⟨_, _, rfl, rfl, rfl⟩) ?_
  exact ⟨_, rfl, D0, rfl, hS⟩
 ·replace hf := cond_f hb hf
  clear hb
  refine wpIn_skip ?_
  refine wpIn_seq ?_
  refine wpIn_seq ?_
  refine region_at ?_
  refine sN 1 1 [(5, .int .i64 ((0 : Int)))] hE (fun a hE => ?_)
  refine at_end rfl ?_
  obtain ⟨s1152, hf, hs1153⟩ := bind_some hf
  refine block_loop (fun a w => ∃ (z1149 : Unit), ∃ (D1150 : Snap), Env a 26 [] [] ∧ Stp g w0 D0 [] w D1150 [] ∧ Snap.le D0 D1150 ∧ (Sum.inr z1149) = s1152) (fun k a w => ∃ (y1047 : Int), ∃ (D1048 : Snap), Env a 26 [] [(0, .slice A2 (List.length (x1)) c3), (1, .slice A6 (List.length (x5)) c7), (5, .int .i64 (y1047))] ∧ Stp g w0 D0 [] w D1048 [] ∧ Snap.le D0 D1048 ∧ inspeximusref01_Bytes_l1.l K x1 x5 k y1047 = some s1152) K ?_ ?_ ?_
  ·exact ⟨(0 : Int), D0, hE.weak (by kernel_rfl), hS, Snap.le.refl _, hf⟩
  ·clear hE hS hf
   rintro a w ⟨z1149, D1150, hE, hS, le1151, rfl⟩
   have hf := hs1153
   clear hs1153
   refine wpIn_seq ?_
   refine region_at ?_
   refine sN 1 1 [(4, .bool true)] hE (fun a hE => ?_)
   refine at_end rfl ?_
   refine wpIn_ret ?_
   obtain rfl := Option.some.inj hf
   repeat (with_reducible first | refine then_ret ?_ | refine block_ret ?_ | refine qx_ret ?_)
   refine ret_gen ([.bool true]) hE (by rw [show Tryd.f19.results.toList = [.tmp 4] from rfl]; exact ⟨_, _, rfl, rfl, rfl⟩) ?_
   exact ⟨_, rfl, D1150, rfl, hS⟩
  ·clear hE hS hf
   rintro k a w ⟨y1047, D1048, hE, hS, le1049, hf⟩
   obtain ⟨k, rfl, hf⟩ := inspeximusref01_Bytes_l1.some _ _ hf
   refine ⟨k, rfl, ?_⟩
   unfold inspeximusref01_Bytes_l1.b at hf
   refine wpIn_seq ?_
   refine wpIn_seq ?_
   refine region_at ?_
   refine sN 4 4 [(14, .bool ((decide (y1047 < ((List.length (x1) : Nat) : Int)))))] hE (fun a hE => ?_)
   refine at_end rfl ?_
   refine cond_split hE (b := (decide (y1047 < ((List.length (x1) : Nat) : Int)))) rfl (fun hb => ?_) (fun hb => ?_)
   ·replace hf := cond_t hb hf
    clear hb
    refine wpIn_skip ?_
    refine wpIn_seq ?_
    refine wpIn_block ?_
    refine wpIn_seq ?_
    refine region_draw (fun j => Keeps (mfOf [] j)) (by kernel_rfl) ?_
    have hS := hS.drew
    first | generalize w.drew = w at hS ⊢ | generalize w0.drew = w at hS ⊢
    refine wP 0 1 8 (.slice A2 (List.length (x1)) c3) hE (fun a hE => ?_)
    refine wP 1 3 7 (.int .i64 (y1047)) hE (fun a hE => ?_)
    refine wP 4 19 6 (.slice A6 (List.length (x5)) c7) hE (fun a hE => ?_)
    refine wP 5 51 5 (.int .i64 (y1047)) hE (fun a hE => ?_)
    obtain ⟨x1226, h1227, hf⟩ := bind_some hf
    refine tW 2 55 (fuel := 4) (by kernel_rfl) hE (fun M => g_index (K := (kdInt .u8)) (e := 5) (by_ := 1) (zl := 1) rfl rfl rfl rfl hE rfl rfl rfl (by kernel_rfl) rfl (h4.mono le1049) h1227 (fun a b1228 o1229 hE h1230 => ?_))
    obtain ⟨cs1231, C1232, T1233, fr1234, hr1235, hb1236, hc1237⟩ := h1230
    obtain rfl := hr1235
    refine tT 3 63 (fuel := 3) (by kernel_rfl) hE (tk_loadX (off0 := o1229) (off := 0) (c := [.int .u8 (x1226)]) (.int .u8 (x1226)) rfl rfl rfl rfl hE rfl hS rfl hb1236 hc1237 (by kernel_rfl) (by kernel_rfl) (kD hS dn_nil) (fun a hE => ?_))
    obtain ⟨x1238, h1239, hf⟩ := bind_some hf
    refine tW 6 127 (fuel := 2) (by kernel_rfl) hE (fun M => g_index (K := (kdInt .u8)) (e := 5) (by_ := 1) (zl := 1) rfl rfl rfl rfl hE rfl rfl rfl (by kernel_rfl) rfl (h8.mono le1049) h1239 (fun a b1240 o1241 hE h1242 => ?_))
    obtain ⟨cs1243, C1244, T1245, fr1246, hr1247, hb1248, hc1249⟩ := h1242
    obtain rfl := hr1247
    refine tT 7 255 (fuel := 1) (by kernel_rfl) hE (tk_loadX (off0 := o1241) (off := 0) (c := [.int .u8 (x1238)]) (.int .u8 (x1238)) rfl rfl rfl rfl hE rfl hS rfl hb1248 hc1249 (by kernel_rfl) (by kernel_rfl) (kD hS dn_nil) (fun a hE => ?_))
    refine wP 8 511 0 (.bool ((!decide (x1226 = x1238)))) hE (fun a hE => ?_)
    refine doneG (by kernel_rfl) ?_
    refine cond_split hE (b := (!decide (x1226 = x1238))) rfl (fun hb => ?_) (fun hb => ?_)
    ·replace hf := cond_t hb hf
     clear hb
     refine wpIn_seq ?_
     refine region_at ?_
     refine sN 1 1 [(4, .bool false)] hE (fun a hE => ?_)
     refine at_end rfl ?_
     refine wpIn_ret ?_
     obtain rfl := Option.some.inj hf
     replace hf := hs1153
     obtain rfl := Option.some.inj hf
     repeat (with_reducible first | refine then_ret ?_ | refine block_ret ?_ | refine qx_ret ?_)
     refine ret_gen ([.bool false]) hE (by rw [show Tryd.f19.results.toList = [.tmp 4] from rfl]; exact ⟨_, _, rfl, rfl, rfl⟩) ?_
     exact ⟨_, rfl, D1048, rfl, hS⟩
    ·replace hf := cond_f hb hf
     clear hb
     refine wpIn_skip ?_
     refine region_at ?_
     refine sN 3 3 [(5, .int .i64 ((IntKind.wrap .i64 (y1047 + (1 : Int)))))] hE (fun a hE => ?_)
     refine at_end rfl ?_
     exact ⟨(IntKind.wrap .i64 (y1047 + (1 : Int))), D1048, hE.weak (by kernel_rfl), hS, le1049, hf⟩
   ·replace hf := cond_f hb hf
    clear hb
    refine wpIn_exit ?_
    obtain rfl := Option.some.inj hf
    exact ⟨(), D1048, hE.weak (by kernel_rfl), hS, le1049, rfl⟩
set_option maxRecDepth 100000 in
set_option maxHeartbeats 4000000 in
theorem rec_Sealed_1.calls {K : Nat} {g w0 : World} {D0 : Snap} {x3 : T_api_Rec} {b1 : Nat} {A4 : Option Addr} {c5 : Nat} {A7 : Option Addr} {c8 : Nat} {r : ((List Int))} (hf : rec_Sealed_1.f K x3 = some r) (hS0 : St g w0 D0 [bx b1 27 (c_T_api_Rec (x3) A4 c5 A7 c8)]) (h6 : Sl kd_T_api_Step D0 A4 c5 (x3.fSteps)) (h9 : Sl (kdInt .u8) D0 A7 c8 (x3.fData)) (hG0 : Cell (kdArr .u32 8) D0 0 0 gl_First) (hG1 : Cell (kdArr .u32 64) D0 1 0 gl_K) :
  CallsIn (Fw none) 0 Tryd.prog 39 (List.toArray [.pointer (some ⟨b1, 0, none⟩)]) w0 (fun e w' => ∃ v, e = .returned v ∧ ∃ (D1 : Snap) (A25 : Option Addr) (c26 : Nat) (q27 : Blk), v = .slice A25 (List.length (r)) c26 ∧ Stp g w0 D0 [bx b1 27 (c_T_api_Rec (x3) A4 c5 A7 c8)] w' D1 [bx b1 27 (c_T_api_Rec (x3) A4 c5 A7 c8), q27] ∧ OwnD (kdInt .u8) 5 D1 A25 c26 (r) q27) := by
 unfold rec_Sealed_1.f at hf
 have hS := Stp.refl hS0
 clear hS0
 refine calls_body (n := 5) Tryd.func39 rfl Tryd.ntmps39 rfl (fun a hE => ?_)
 have hE : Env a 5 [] [(0, .pointer (some ⟨b1, 0, none⟩))] := hE
 refine wpIn_seq ?_
 refine region_at ?_
 refine sN 1 1 [(1, .slice none 0 0)] hE (fun a hE => ?_)
 refine at_end rfl ?_
 refine wpIn_seq ?_
 refine region_at ?_
 refine aL 0 (.agg (List.toArray (c_T_api_Rec (x3) A4 c5 A7 c8))) hE hS (fun a hE => ?_)
 obtain ⟨r30, h31, hf⟩ := bind_some hf
 refine aC rfl rfl rfl rfl hE rfl rfl rfl rfl (rec_Com.calls (g := g) h31 (hS.st.fore (L := [])) h6 h9 hG0 hG1) (fun a v w hR hE => ?_)
 obtain ⟨D32, rfl, hS1⟩ := hR
 have le34 := hS1.dle
 have hS := hS.callR hS1 rfl .n
 clear hS1
 obtain ⟨r35, h36, hf⟩ := bind_some hf
 refine aC rfl rfl rfl rfl hE rfl rfl rfl rfl (wire_Hash.calls (g := g) h36 (hS.st.fore (L := [])) ) (fun a v w hR hE => ?_)
 obtain ⟨D37, A39, c40, q41, rfl, hS1, h42⟩ := hR
 have le44 := hS1.dle
 have hS := hS.callR hS1 rfl (.c .n)
 clear hS1
 refine sN 1 4 [(1, .slice A39 (List.length (r35)) c40)] hE (fun a hE => ?_)
 refine at_end rfl ?_
 refine wpIn_ret ?_
 obtain rfl := Option.some.inj hf
 repeat (with_reducible first | refine then_ret ?_ | refine block_ret ?_ | refine qx_ret ?_)
 refine ret_gen ([.slice A39 (List.length (r35)) c40]) hE (by rw [show Tryd.f39.results.toList = [.tmp 1] from rfl]; exact ⟨_, _, rfl, rfl, rfl⟩) ?_
 have hS := hS.pk (.c 1 rfl (.c 0 rfl .n)) rfl
 exact ⟨_, rfl, D37, A39, c40, q41, rfl, hS, h42⟩
end Go.Proofs.YtlcnliiampfigaaDoor
