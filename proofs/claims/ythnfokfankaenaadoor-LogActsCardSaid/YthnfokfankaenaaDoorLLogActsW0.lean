/-
  Proved, text by text: a call of a function of the cut comes to what its plain function computes.
  Conditions: those that each theorem names.
-/
import Derived.Test.YthnfokfankaenaaDoorProg
import Derived.Test.YthnfokfankaenaaDoorSepN
import Derived.Test.YthnfokfankaenaaDoorLLogActsDef
set_option linter.unusedVariables false
namespace Go.Proofs.YthnfokfankaenaaDoor
open Go Go.Sep
set_option maxRecDepth 100000 in
set_option maxHeartbeats 4000000 in
theorem disk_New.calls {K : Nat} {g w0 : World} {D0 : Snap} {x1 : Int} {r : ((List Int) × Int × Int)} (hf : disk_New.f K x1 = some r) (hS0 : St g w0 D0 []) :
  CallsIn (Fw none) 0 Tryd.prog 12 (List.toArray [.int .i64 (x1)]) w0 (fun e w' => ∃ v, e = .returned v ∧ ∃ (D1 : Snap) (b14 : Nat) (A16 : Option Addr) (c17 : Nat) (q18 : Blk), v = .pointer (some ⟨b14, 0, none⟩) ∧ Stp g w0 D0 [] w' D1 [bx b14 72 (c_T_disk_Disk ((T_disk_Disk.mk (r.1) (r.2.1) (r.2.2))) A16 c17), q18] ∧ OwnL (kdInt .u8) 5 D1 A16 c17 (r.1) q18) := by
 unfold disk_New.f at hf
 have hS := Stp.refl hS0
 clear hS0
 refine calls_body (n := 12) Tryd.func12 rfl Tryd.ntmps12 rfl (fun a hE => ?_)
 have hE : Env a 12 [] [(0, .int .i64 (x1))] := hE
 refine wpIn_seq ?_
 refine region_at ?_
 refine sN 1 1 [(2, .pointer none)] hE (fun a hE => ?_)
 refine at_end rfl ?_
 refine wpIn_seq ?_
 obtain ⟨j32, hj33, hf⟩ := jn_elim hf
 refine seq_join (fun a w => ∃ (y26 : Bool), ∃ (D27 : Snap), Env a 12 [] [(0, .int .i64 (x1)), (8, .bool (y26))] ∧ Stp g w0 D0 [] w D27 [] ∧ Snap.le D0 D27 ∧ j32 y26 = some r) ?_ ?_
 ·clear hj33
  refine region_at ?_
  refine sN 3 3 [(5, .bool ((decide (x1 < (1 : Int)))))] hE (fun a hE => ?_)
  refine Or.elim (Bool.eq_false_or_eq_true ((decide (x1 < (1 : Int))))).symm (fun hb => ?_) (fun hb => ?_)
  ·replace hf := cond_f hb hf
   have hE := hE.know (t := 5) (b := (decide (x1 < (1 : Int)))) (b' := false) rfl hb
   clear hb
   refine sN 3 6 [(8, .bool ((decide ((65536 : Int) < x1))))] hE (fun a hE => ?_)
   refine at_end rfl ?_
   exact ⟨(decide ((65536 : Int) < x1)), D0, hE.weak (by kernel_rfl), hS, Snap.le.refl _, hf⟩
  ·replace hf := cond_t hb hf
   have hE := hE.know (t := 5) (b := (decide (x1 < (1 : Int)))) (b' := true) rfl hb
   clear hb
   refine sN 3 6 [(8, .bool true)] hE (fun a hE => ?_)
   refine at_end rfl ?_
   exact ⟨true, D0, hE.weak (by kernel_rfl), hS, Snap.le.refl _, hf⟩
 ·clear hE hS
  rintro a w ⟨y26, D27, hE, hS, le28, hf⟩
  replace hf := hj33 _ hf
  clear hj33
  refine cond_split hE (b := y26) rfl (fun hb => ?_) (fun hb => ?_)
  ·replace hf := cond_t hb hf
   clear hb
   refine wpIn_seq ?_
   refine region_at ?_
   refine sN 1 1 [(2, .pointer none)] hE (fun a hE => ?_)
   refine at_end rfl ?_
   refine wpIn_ret ?_
   cases hf
  ·replace hf := cond_f hb hf
   clear hb
   refine wpIn_skip ?_
   refine wpIn_seq ?_
   refine region_at ?_
   refine sN 1 1 [(9, .int .i64 (x1))] hE (fun a hE => ?_)
   refine at_op (op_tk hE (tk_build (c_T_disk_Disk ({ z_T_disk_Disk with fRoom := x1 }) none 0) rfl rfl rfl rfl hE rfl rfl (by kernel_rfl) (fun a hE => ?_))) rfl
   refine at_op (op_box rfl rfl rfl rfl hE rfl hS rfl (fun a b29 w _ hE hS => ?_)) rfl
   refine sN 1 4 [(2, .pointer (some ⟨b29, 0, none⟩))] hE (fun a hE => ?_)
   refine at_end rfl ?_
   refine wpIn_ret ?_
   have hS := hS.nils
   obtain rfl := Option.some.inj hf
   repeat (with_reducible first | refine then_ret ?_ | refine block_ret ?_ | refine qx_ret ?_)
   refine ret_gen ([.pointer (some ⟨b29, 0, none⟩)]) hE (by rw [show Tryd.f12.results.toList = [.tmp 2] from rfl]; exact ⟨_, _, rfl, rfl, rfl⟩) ?_
   have hS := hS.pk (.c 1 rfl (.c 0 rfl .n)) rfl
   exact ⟨_, rfl, D27, b29, none, 0, none, rfl, hS, (OwnD.nil (kdInt .u8) 5 D27)⟩
set_option maxRecDepth 100000 in
set_option maxHeartbeats 4000000 in
theorem disk_Disk_Bytes.calls {K : Nat} {g w0 : World} {D0 : Snap} {x3 : (List Int)} {x9 : Int} {x10 : Int} {b1 : Nat} {A4 : Option Addr} {c5 : Nat} {q6 : Blk} {r : ((List Int))} (hf : disk_Disk_Bytes.f K x3 x9 x10 = some r) (hS0 : St g w0 D0 [bx b1 72 (c_T_disk_Disk ((T_disk_Disk.mk (x3) (x9) (x10))) A4 c5), q6]) (h7 : OwnL (kdInt .u8) 5 D0 A4 c5 (x3) q6) :
  CallsIn (Fw none) 0 Tryd.prog 25 (List.toArray [.pointer (some ⟨b1, 0, none⟩)]) w0 (fun e w' => ∃ v, e = .returned v ∧ ∃ (D1 : Snap) (A27 : Option Addr) (c28 : Nat) (q29 : Blk) (q32 : Blk), v = .slice A27 (List.length (r)) c28 ∧ Stp g w0 D0 [bx b1 72 (c_T_disk_Disk ((T_disk_Disk.mk (x3) (x9) (x10))) A4 c5), q6] w' D1 [bx b1 72 (c_T_disk_Disk ((T_disk_Disk.mk (x3) (x9) (x10))) A4 c5), q29, q32] ∧ OwnD (kdInt .u8) 5 D1 A27 c28 (r) q29 ∧ OwnL (kdInt .u8) 5 D1 A4 c5 (x3) q32) := by
 unfold disk_Disk_Bytes.f at hf
 have hS := Stp.refl hS0
 clear hS0
 refine calls_body (n := 11) Tryd.func25 rfl Tryd.ntmps25 rfl (fun a hE => ?_)
 have hE : Env a 11 [] [(0, .pointer (some ⟨b1, 0, none⟩))] := hE
 refine wpIn_seq ?_
 refine region_at ?_
 refine sN 1 1 [(2, .slice none 0 0)] hE (fun a hE => ?_)
 refine at_end rfl ?_
 refine wpIn_seq ?_
 refine wpIn_seq ?_
 refine region_at ?_
 refine sN 1 1 [(3, .pointer (some ⟨b1, 0, none⟩))] hE (fun a hE => ?_)
 refine at_op (op_tk hE (tk_bin (r := .bool false) rfl rfl rfl rfl hE rfl rfl rfl (eqptr_run (by kernel_rfl) _) (fun a hE => ?_))) rfl
 refine at_end rfl ?_
 refine wpIn_cond_false (hE.eval rfl) ?_
 refine wpIn_skip ?_
 refine wpIn_seq ?_
 refine region_at ?_
 refine at_op (op_buildSlice (K := (kdInt .u8)) (e := 5) (cs := []) ([] : List Int) rfl rfl rfl rfl hE rfl hS rfl (by kernel_rfl) rfl rfl (by exact (show RL (kdInt .u8) D0 ([] : List Int) ([]) from rfl)) (fun a A35 q36 w _ hE h37 hS => ?_)) rfl
 refine sN 2 3 [(7, .pointer (some ⟨b1, 0, none⟩))] hE (fun a hE => ?_)
 refine aF 0 33 0 hE (fun a hE => ?_)
 refine aL 1 (.slice A4 (List.length (x3)) c5) hE hS (fun a hE => ?_)
 have hS := hS.pk (.c 2 rfl (.c 0 rfl (.c 1 rfl .n))) rfl
 obtain ⟨D39, q42, le40, hS, h43, h41⟩ := hS.lent h7
 have hS := hS.pk (.c 1 rfl (.c 0 rfl (.c 2 rfl .n))) rfl
 obtain ⟨l44, h45, hf⟩ := bind_some hf
 refine at_op (g_append (K := (kdInt .u8)) (e := 5) (bytes := 1) (l := ([] : List Int)) (m := x3) rfl rfl rfl rfl hE rfl hS rfl rfl (by kernel_rfl) rfl rfl (h37.mono le40) h41 h45 (fun a A46 c47 q48 w _ hE h49 hS => ?_)) rfl
 refine sN 1 7 [(2, .slice A46 (List.length (l44)) c47)] hE (fun a hE => ?_)
 refine at_end rfl ?_
 refine wpIn_ret ?_
 obtain rfl := Option.some.inj hf
 repeat (with_reducible first | refine then_ret ?_ | refine block_ret ?_ | refine qx_ret ?_)
 refine ret_gen ([.slice A46 (List.length (l44)) c47]) hE (by rw [show Tryd.f25.results.toList = [.tmp 2] from rfl]; exact ⟨_, _, rfl, rfl, rfl⟩) ?_
 have hS := hS.pk (.c 2 rfl (.c 0 rfl (.c 1 rfl .n))) rfl
 exact ⟨_, rfl, D39, A46, c47, q48, q42, rfl, hS, h49, h43⟩
set_option maxRecDepth 100000 in
set_option maxHeartbeats 4000000 in
theorem log_entries.calls {K : Nat} {g w0 : World} {D0 : Snap} {x1 : (List Int)} {A2 : Option Addr} {c3 : Nat} {r : ((List Int))} (hf : log_entries.f K x1 = some r) (hS0 : St g w0 D0 []) (h4 : Sl (kdInt .u8) D0 A2 c3 (x1)) :
  CallsIn (Fw none) 0 Tryd.prog 31 (List.toArray [.slice A2 (List.length (x1)) c3]) w0 (fun e w' => ∃ v, e = .returned v ∧ ∃ (D1 : Snap) (b7 : Nat) (A9 : Option Addr) (c10 : Nat), v = .func (.func 42) #[] #[.pointer (some ⟨b7, 0, none⟩)] ∧ Stp g w0 D0 [] w' D1 [bx b7 33 ([.slice A9 (List.length (r)) c10])] ∧ Sl (kdInt .u8) D1 A9 c10 (r)) := by
 unfold log_entries.f at hf
 have hS := Stp.refl hS0
 clear hS0
 refine calls_body (n := 4) Tryd.func31 rfl Tryd.ntmps31 rfl (fun a hE => ?_)
 have hE : Env a 4 [] [(0, .slice A2 (List.length (x1)) c3)] := hE
 refine wpIn_seq ?_
 refine region_at ?_
 refine at_op (op_box rfl rfl rfl rfl hE rfl hS rfl (fun a b12 w _ hE hS => ?_)) rfl
 refine sN 1 2 [(2, .nilFunc)] hE (fun a hE => ?_)
 refine at_end rfl ?_
 refine wpIn_seq ?_
 refine region_at ?_
 refine sN 2 2 [(2, .func (.func 42) #[] #[.pointer (some ⟨b12, 0, none⟩)])] hE (fun a hE => ?_)
 refine at_end rfl ?_
 refine wpIn_ret ?_
 obtain rfl := Option.some.inj hf
 repeat (with_reducible first | refine then_ret ?_ | refine block_ret ?_ | refine qx_ret ?_)
 refine ret_gen ([.func (.func 42) #[] #[.pointer (some ⟨b12, 0, none⟩)]]) hE (by rw [show Tryd.f31.results.toList = [.tmp 2] from rfl]; exact ⟨_, _, rfl, rfl, rfl⟩) ?_
 exact ⟨_, rfl, D0, b12, A2, c3, rfl, hS, h4⟩
set_option maxRecDepth 100000 in
set_option maxHeartbeats 4000000 in
theorem slices_Clone_byte_byte.calls {K : Nat} {g w0 : World} {D0 : Snap} {x1 : (List Int)} {A2 : Option Addr} {c3 : Nat} {r : ((List Int))} (hf : slices_Clone_byte_byte.f K x1 = some r) (hS0 : St g w0 D0 []) (h4 : Sl (kdInt .u8) D0 A2 c3 (x1)) :
  CallsIn (Fw none) 0 Tryd.prog 65 (List.toArray [.slice A2 (List.length (x1)) c3]) w0 (fun e w' => ∃ v, e = .returned v ∧ ∃ (D1 : Snap) (A16 : Option Addr) (c17 : Nat) (q18 : Blk), v = .slice A16 (List.length (r)) c17 ∧ Stp g w0 D0 [] w' D1 [q18] ∧ OwnD (kdInt .u8) 5 D1 A16 c17 (r) q18) := by
 unfold slices_Clone_byte_byte.f at hf
 have hS := Stp.refl hS0
 clear hS0
 refine calls_body (n := 8) Tryd.func65 rfl Tryd.ntmps65 rfl (fun a hE => ?_)
 have hE : Env a 8 [] [(0, .slice A2 (List.length (x1)) c3)] := hE
 refine wpIn_seq ?_
 refine region_at ?_
 refine sN 1 1 [(2, .slice none 0 0)] hE (fun a hE => ?_)
 refine at_end rfl ?_
 refine wpIn_seq ?_
 refine wpIn_seq ?_
 refine region_at ?_
 refine sN 1 1 [(3, .slice A2 (List.length (x1)) c3)] hE (fun a hE => ?_)
 refine at_op (op_tk hE (tk_bin (r := .bool ((Option.isNone A2))) rfl rfl rfl rfl hE rfl rfl rfl (eqnil_run (by kernel_rfl) _ _ _) (fun a hE => ?_))) rfl
 refine at_end rfl ?_
 refine cond_split hE (b := (Option.isNone A2)) rfl (fun hb => ?_) (fun hb => ?_)
 ·have hx := Sl.of_none h4 hb rfl
  clear hb
  rw [hx] at hf
  replace hf : (some ([] : List Int)) = some r := hf
  refine wpIn_seq ?_
  refine region_at ?_
  refine sN 1 1 [(2, .slice none 0 0)] hE (fun a hE => ?_)
  refine at_end rfl ?_
  refine wpIn_ret ?_
  have hS := hS.nils
  obtain rfl := Option.some.inj hf
  repeat (with_reducible first | refine then_ret ?_ | refine block_ret ?_ | refine qx_ret ?_)
  refine ret_gen ([.slice none 0 0]) hE (by rw [show Tryd.f65.results.toList = [.tmp 2] from rfl]; exact ⟨_, _, rfl, rfl, rfl⟩) ?_
  exact ⟨_, rfl, D0, none, 0, none, rfl, hS, (OwnD.nil (kdInt .u8) 5 D0)⟩
 ·clear hb
  refine wpIn_skip ?_
  refine wpIn_seq ?_
  refine region_at ?_
  refine at_op (op_buildSlice (K := (kdInt .u8)) (e := 5) (cs := []) ([] : List Int) rfl rfl rfl rfl hE rfl hS rfl (by kernel_rfl) rfl rfl (by exact (show RL (kdInt .u8) D0 ([] : List Int) ([]) from rfl)) (fun a A22 q23 w _ hE h24 hS => ?_)) rfl
  refine sN 1 2 [(6, .slice A2 (List.length (x1)) c3)] hE (fun a hE => ?_)
  obtain ⟨l26, h27, hf⟩ := bind_some hf
  refine at_op (g_append (K := (kdInt .u8)) (e := 5) (bytes := 1) (l := ([] : List Int)) (m := x1) rfl rfl rfl rfl hE rfl hS rfl rfl (by kernel_rfl) rfl rfl h24 h4 h27 (fun a A28 c29 q30 w _ hE h31 hS => ?_)) rfl
  refine sN 1 4 [(2, .slice A28 (List.length (l26)) c29)] hE (fun a hE => ?_)
  refine at_end rfl ?_
  refine wpIn_ret ?_
  obtain rfl := Option.some.inj hf
  repeat (with_reducible first | refine then_ret ?_ | refine block_ret ?_ | refine qx_ret ?_)
  refine ret_gen ([.slice A28 (List.length (l26)) c29]) hE (by rw [show Tryd.f65.results.toList = [.tmp 2] from rfl]; exact ⟨_, _, rfl, rfl, rfl⟩) ?_
  exact ⟨_, rfl, D0, A28, c29, q30, rfl, hS, h31⟩
set_option maxRecDepth 100000 in
set_option maxHeartbeats 4000000 in
theorem wire_Read.calls {K : Nat} {g w0 : World} {D0 : Snap} {x1 : (List Int)} {A2 : Option Addr} {c3 : Nat} {r : (T_wire_Reader)} (hf : wire_Read.f K x1 = some r) (hS0 : St g w0 D0 []) (h4 : Sl (kdInt .u8) D0 A2 c3 (x1)) :
  CallsIn (Fw none) 0 Tryd.prog 52 (List.toArray [.slice A2 (List.length (x1)) c3]) w0 (fun e w' => ∃ v, e = .returned v ∧ ∃ (D1 : Snap) (b22 : Nat) (A24 : Option Addr) (c25 : Nat), v = .pointer (some ⟨b22, 0, none⟩) ∧ Stp g w0 D0 [] w' D1 [bx b22 102 (c_T_wire_Reader ((T_wire_Reader.mk (r.fB) (r.fBad))) A24 c25)] ∧ Sl (kdInt .u8) D1 A24 c25 (r.fB)) := by
 unfold wire_Read.f at hf
 have hS := Stp.refl hS0
 clear hS0
 refine calls_body (n := 7) Tryd.func52 rfl Tryd.ntmps52 rfl (fun a hE => ?_)
 have hE : Env a 7 [] [(0, .slice A2 (List.length (x1)) c3)] := hE
 refine wpIn_seq ?_
 refine region_at ?_
 refine sN 1 1 [(2, .pointer none)] hE (fun a hE => ?_)
 refine at_end rfl ?_
 refine wpIn_seq ?_
 refine region_at ?_
 refine sN 1 1 [(3, .slice A2 (List.length (x1)) c3)] hE (fun a hE => ?_)
 obtain ⟨r27, h28, hf⟩ := bind_some hf
 refine aC rfl rfl rfl rfl hE rfl rfl rfl rfl (slices_Clone_byte_byte.calls (g := g) h28 (hS.st.fore (L := [])) h4) (fun a v w hR hE => ?_)
 obtain ⟨D29, A31, c32, q33, rfl, hS1, h34⟩ := hR
 have le36 := hS1.dle
 have hS := hS.callR hS1 rfl (.c .n)
 clear hS1
 obtain ⟨D37, q40, le38, hS, h41, h39⟩ := hS.lent h34
 refine at_op (op_tk hE (tk_build (c_T_wire_Reader ((T_wire_Reader.mk (r27) ((0 : Int)))) A31 c32) rfl rfl rfl rfl hE rfl rfl (by kernel_rfl) (fun a hE => ?_))) rfl
 refine at_op (op_box rfl rfl rfl rfl hE rfl hS rfl (fun a b42 w _ hE hS => ?_)) rfl
 refine sN 1 5 [(2, .pointer (some ⟨b42, 0, none⟩))] hE (fun a hE => ?_)
 refine at_end rfl ?_
 refine wpIn_ret ?_
 obtain rfl := Option.some.inj hf
 repeat (with_reducible first | refine then_ret ?_ | refine block_ret ?_ | refine qx_ret ?_)
 refine ret_gen ([.pointer (some ⟨b42, 0, none⟩)]) hE (by rw [show Tryd.f52.results.toList = [.tmp 2] from rfl]; exact ⟨_, _, rfl, rfl, rfl⟩) ?_
 have hS := hS.pk (.c 0 rfl .n) rfl
 exact ⟨_, rfl, D37, b42, A31, c32, rfl, hS, h39⟩
set_option maxRecDepth 100000 in
set_option maxHeartbeats 4000000 in
theorem wire_Reader_Bad.calls {K : Nat} {g w0 : World} {D0 : Snap} {x3 : T_wire_Reader} {b1 : Nat} {A4 : Option Addr} {c5 : Nat} {r : (Int)} (hf : wire_Reader_Bad.f K x3 = some r) (hS0 : St g w0 D0 [bx b1 102 (c_T_wire_Reader (x3) A4 c5)]) (h6 : Sl (kdInt .u8) D0 A4 c5 (x3.fB)) :
  CallsIn (Fw none) 0 Tryd.prog 54 (List.toArray [.pointer (some ⟨b1, 0, none⟩)]) w0 (fun e w' => ∃ v, e = .returned v ∧ ∃ (D1 : Snap), v = .int .i64 (r) ∧ Stp g w0 D0 [bx b1 102 (c_T_wire_Reader (x3) A4 c5)] w' D1 [bx b1 102 (c_T_wire_Reader (x3) A4 c5)]) := by
 unfold wire_Reader_Bad.f at hf
 have hS := Stp.refl hS0
 clear hS0
 refine calls_body (n := 9) Tryd.func54 rfl Tryd.ntmps54 rfl (fun a hE => ?_)
 have hE : Env a 9 [] [(0, .pointer (some ⟨b1, 0, none⟩))] := hE
 refine wpIn_seq ?_
 refine region_at ?_
 refine sN 1 1 [(2, .int .i64 ((0 : Int)))] hE (fun a hE => ?_)
 refine at_end rfl ?_
 refine wpIn_seq ?_
 refine wpIn_seq ?_
 refine region_at ?_
 refine sN 1 1 [(3, .pointer (some ⟨b1, 0, none⟩))] hE (fun a hE => ?_)
 refine at_op (op_tk hE (tk_bin (r := .bool false) rfl rfl rfl rfl hE rfl rfl rfl (eqptr_run (by kernel_rfl) _) (fun a hE => ?_))) rfl
 refine at_end rfl ?_
 refine wpIn_cond_false (hE.eval rfl) ?_
 refine wpIn_skip ?_
 refine wpIn_seq ?_
 refine region_at ?_
 refine sN 2 2 [(6, .pointer (some ⟨b1, 0, none⟩))] hE (fun a hE => ?_)
 refine aF 1 27 1 hE (fun a hE => ?_)
 refine aL 0 (.int .i64 (x3.fBad)) hE hS (fun a hE => ?_)
 refine sN 1 5 [(2, .int .i64 (x3.fBad))] hE (fun a hE => ?_)
 refine at_end rfl ?_
 refine wpIn_ret ?_
 obtain rfl := Option.some.inj hf
 repeat (with_reducible first | refine then_ret ?_ | refine block_ret ?_ | refine qx_ret ?_)
 refine ret_gen ([.int .i64 (x3.fBad)]) hE (by rw [show Tryd.f54.results.toList = [.tmp 2] from rfl]; exact ⟨_, _, rfl, rfl, rfl⟩) ?_
 exact ⟨_, rfl, D0, rfl, hS⟩
set_option maxRecDepth 100000 in
set_option maxHeartbeats 4000000 in
theorem wire_number.calls {K : Nat} {g w0 : World} {D0 : Snap} {x1 : (List Int)} {A2 : Option Addr} {c3 : Nat} {r : (Int × Int × Int)} (hf : wire_number.f K x1 = some r) (hS0 : St g w0 D0 []) (h4 : Sl (kdInt .u8) D0 A2 c3 (x1)) :
  CallsIn (Fw none) 0 Tryd.prog 68 (List.toArray [.slice A2 (List.length (x1)) c3]) w0 (fun e w' => ∃ v, e = .returned v ∧ ∃ (D1 : Snap), v = .tuple #[.int .i64 (r.1), .int .i64 (r.2.1), .int .i64 (r.2.2)] ∧ Stp g w0 D0 [] w' D1 []) := by
 unfold wire_number.f at hf
 have hS := Stp.refl hS0
 clear hS0
 refine calls_body (n := 39) Tryd.func68 rfl Tryd.ntmps68 rfl (fun a hE => ?_)
 have hE : Env a 39 [] [(0, .slice A2 (List.length (x1)) c3)] := hE
 refine wpIn_seq ?_
 refine region_at ?_
 refine sN 3 3 [(2, .int .i64 ((0 : Int))), (3, .int .i64 ((0 : Int))), (4, .int .i64 ((0 : Int)))] hE (fun a hE => ?_)
 refine at_end rfl ?_
 refine wpIn_seq ?_
 refine region_at ?_
 refine sN 1 1 [(5, .int .i64 ((0 : Int)))] hE (fun a hE => ?_)
 refine at_end rfl ?_
 refine wpIn_seq ?_
 refine wpIn_seq ?_
 refine region_at ?_
 refine sN 3 3 [(8, .slice A2 (List.length (x1)) c3), (9, .int .i64 (((List.length (x1) : Nat) : Int))), (10, .int .i64 ((0 : Int)))] hE (fun a hE => ?_)
 refine at_end rfl ?_
 obtain ⟨s576, hf, hs577⟩ := bind_some hf
 refine block_loop (fun a w => ∃ (z573 : Unit), ∃ (D574 : Snap), Env a 39 [] [] ∧ Stp g w0 D0 [] w D574 [] ∧ Snap.le D0 D574 ∧ (Sum.inr z573) = s576) (fun k a w => ∃ (y523 : Int × Int), ∃ (D524 : Snap), Env a 39 [] [(5, .int .i64 (y523.1)), (8, .slice A2 (List.length (x1)) c3), (9, .int .i64 (((List.length (x1) : Nat) : Int))), (10, .int .i64 (y523.2))] ∧ Stp g w0 D0 [] w D524 [] ∧ Snap.le D0 D524 ∧ wire_number_l1.l K x1 k y523 = some s576) K ?_ ?_ ?_
 ·exact ⟨((0 : Int), (0 : Int)), D0, hE.weak (by kernel_rfl), hS, Snap.le.refl _, hf⟩
 ·clear hE hS hf
  rintro a w ⟨z573, D574, hE, hS, le575, rfl⟩
  have hf := hs577
  clear hs577
  refine wpIn_seq ?_
  refine region_at ?_
  refine sN 3 3 [(2, .int .i64 ((0 : Int))), (3, .int .i64 ((0 : Int))), (4, .int .i64 ((3 : Int)))] hE (fun a hE => ?_)
  refine at_end rfl ?_
  refine wpIn_ret ?_
  obtain rfl := Option.some.inj hf
  repeat (with_reducible first | refine then_ret ?_ | refine block_ret ?_ | refine qx_ret ?_)
  refine ret_gen ([.int .i64 ((0 : Int)), .int .i64 ((0 : Int)), .int .i64 ((3 : Int))]) hE (by rw [show Tryd.f68.results.toList = [.tmp 2, .tmp 3, .tmp 4] from rfl]; exact ⟨_, _, rfl, rfl, ⟨_, _, rfl, rfl, ⟨_, _, rfl, rfl, rfl⟩⟩⟩) ?_
  exact ⟨_, rfl, D574, rfl, hS⟩
 ·clear hE hS hf
  rintro k a w ⟨y523, D524, hE, hS, le525, hf⟩
  obtain ⟨k, rfl, hf⟩ := wire_number_l1.some _ hf
  refine ⟨k, rfl, ?_⟩
  unfold wire_number_l1.b at hf
  refine wpIn_seq ?_
  refine region_at ?_
  refine sN 1 1 [(11, .bool ((decide (y523.2 < ((List.length (x1) : Nat) : Int)))))] hE (fun a hE => ?_)
  refine at_end rfl ?_
  refine wpIn_seq ?_
  refine cond_split hE (b := (decide (y523.2 < ((List.length (x1) : Nat) : Int)))) rfl (fun hb => ?_) (fun hb => ?_)
  ·replace hf := cond_t hb hf
   clear hb
   refine wpIn_skip ?_
   refine wpIn_seq ?_
   refine wpIn_block ?_
   refine wpIn_seq ?_
   refine region_at ?_
   refine sN 1 1 [(12, .int .i64 (y523.2))] hE (fun a hE => ?_)
   obtain ⟨x600, h601, hf⟩ := bind_some hf
   refine at_op (op_tk hE (g_index (K := (kdInt .u8)) (e := 5) (by_ := 1) (zl := 1) rfl rfl rfl rfl hE rfl rfl rfl (by kernel_rfl) rfl (h4.mono le525) h601 (fun a b602 o603 hE h604 => ?_))) rfl
   obtain ⟨cs605, C606, T607, fr608, hr609, hb610, hc611⟩ := h604
   obtain rfl := hr609
   refine at_op (op_tk hE (tk_loadX (off0 := o603) (off := 0) (c := [.int .u8 (x600)]) (.int .u8 (x600)) rfl rfl rfl rfl hE rfl hS rfl hb610 hc611 (by kernel_rfl) (by kernel_rfl) (kD hS dn_nil) (fun a hE => ?_))) rfl
   refine sN 2 5 [(6, .int .i64 (y523.2)), (7, .int .u8 (x600))] hE (fun a hE => ?_)
   refine at_end rfl ?_
   refine wpIn_seq ?_
   obtain ⟨j620, hj621, hf⟩ := jn_elim hf
   refine seq_join (fun a w => ∃ (y617 : Bool), ∃ (D618 : Snap), Env a 39 [] [(5, .int .i64 (y523.1)), (6, .int .i64 (y523.2)), (7, .int .u8 (x600)), (8, .slice A2 (List.length (x1)) c3), (9, .int .i64 (((List.length (x1) : Nat) : Int))), (10, .int .i64 (y523.2)), (24, .bool (y617))] ∧ Stp g w0 D0 [] w D618 [] ∧ Snap.le D524 D618 ∧ j620 y617 = some s576) ?_ ?_
   ·clear hj621
    refine region_at ?_
    refine sN 3 3 [(17, .bool ((decide (y523.2 = (0 : Int)))))] hE (fun a hE => ?_)
    refine Or.elim (Bool.eq_false_or_eq_true ((decide (y523.2 = (0 : Int))))).symm (fun hb => ?_) (fun hb => ?_)
    ·replace hf := cond_f hb hf
     have hE := hE.know (t := 17) (b := (decide (y523.2 = (0 : Int)))) (b' := false) rfl hb
     clear hb
     refine sN 7 10 [(24, .bool ((decide (y523.2 = (5 : Int)))))] hE (fun a hE => ?_)
     refine at_end rfl ?_
     exact ⟨(decide (y523.2 = (5 : Int))), D524, hE.weak (by kernel_rfl), hS, Snap.le.refl _, hf⟩
    ·replace hf := cond_t hb hf
     have hE := hE.know (t := 17) (b := (decide (y523.2 = (0 : Int)))) (b' := true) rfl hb
     clear hb
     refine sN 4 7 [(21, .bool ((decide (x600 = (128 : Int)))))] hE (fun a hE => ?_)
     refine Or.elim (Bool.eq_false_or_eq_true ((decide (x600 = (128 : Int))))).symm (fun hb => ?_) (fun hb => ?_)
     ·replace hf := cond_f hb hf
      have hE := hE.know (t := 21) (b := (decide (x600 = (128 : Int)))) (b' := false) rfl hb
      clear hb
      refine sN 3 10 [(24, .bool ((decide (y523.2 = (5 : Int)))))] hE (fun a hE => ?_)
      refine at_end rfl ?_
      exact ⟨(decide (y523.2 = (5 : Int))), D524, hE.weak (by kernel_rfl), hS, Snap.le.refl _, hf⟩
     ·replace hf := cond_t hb hf
      have hE := hE.know (t := 21) (b := (decide (x600 = (128 : Int)))) (b' := true) rfl hb
      clear hb
      refine sN 3 10 [(24, .bool true)] hE (fun a hE => ?_)
      refine at_end rfl ?_
      exact ⟨true, D524, hE.weak (by kernel_rfl), hS, Snap.le.refl _, hf⟩
   ·clear hE hS
    rintro a w ⟨y617, D618, hE, hS, le619, hf⟩
    replace hf := hj621 _ hf
    clear hj621
    refine cond_split hE (b := y617) rfl (fun hb => ?_) (fun hb => ?_)
    ·replace hf := cond_t hb hf
     clear hb
     refine wpIn_seq ?_
     refine region_at ?_
     refine sN 3 3 [(2, .int .i64 ((0 : Int))), (3, .int .i64 ((0 : Int))), (4, .int .i64 ((2 : Int)))] hE (fun a hE => ?_)
     refine at_end rfl ?_
     refine wpIn_ret ?_
     obtain rfl := Option.some.inj hf
     replace hf := hs577
     obtain rfl := Option.some.inj hf
     repeat (with_reducible first | refine then_ret ?_ | refine block_ret ?_ | refine qx_ret ?_)
     refine ret_gen ([.int .i64 ((0 : Int)), .int .i64 ((0 : Int)), .int .i64 ((2 : Int))]) hE (by rw [show Tryd.f68.results.toList = [.tmp 2, .tmp 3, .tmp 4] from rfl]; exact ⟨_, _, rfl, rfl, ⟨_, _, rfl, rfl, ⟨_, _, rfl, rfl, rfl⟩⟩⟩) ?_
     exact ⟨_, rfl, D618, rfl, hS⟩
    ·replace hf := cond_f hb hf
     clear hb
     refine wpIn_skip ?_
     refine wpIn_seq ?_
     refine region_at ?_
     refine sN 7 7 [(5, .int .i64 ((bor .i64 (IntKind.wrap .i64 (y523.1 * 2 ^ 7)) (IntKind.wrap .i64 (Int.tmod x600 128)))))] hE (fun a hE => ?_)
     refine at_end rfl ?_
     refine wpIn_seq ?_
     refine region_at ?_
     refine sN 2 2 [(32, .bool ((decide (x600 < (128 : Int)))))] hE (fun a hE => ?_)
     refine at_end rfl ?_
     refine cond_split hE (b := (decide (x600 < (128 : Int)))) rfl (fun hb => ?_) (fun hb => ?_)
     ·replace hf := cond_t hb hf
      clear hb
      refine wpIn_seq ?_
      refine wpIn_seq ?_
      refine region_at ?_
      refine sN 2 2 [(34, .bool ((decide ((2147483647 : Int) < (bor .i64 (IntKind.wrap .i64 (y523.1 * 2 ^ 7)) (IntKind.wrap .i64 (Int.tmod x600 128)))))))] hE (fun a hE => ?_)
      refine at_end rfl ?_
      refine cond_split hE (b := (decide ((2147483647 : Int) < (bor .i64 (IntKind.wrap .i64 (y523.1 * 2 ^ 7)) (IntKind.wrap .i64 (Int.tmod x600 128)))))) rfl (fun hb => ?_) (fun hb => ?_)
      ·replace hf := cond_t hb hf
       clear hb
       refine wpIn_seq ?_
       refine region_at ?_
       refine sN 3 3 [(2, .int .i64 ((0 : Int))), (3, .int .i64 ((0 : Int))), (4, .int .i64 ((2 : Int)))] hE (fun a hE => ?_)
       refine at_end rfl ?_
       refine wpIn_ret ?_
       obtain rfl := Option.some.inj hf
       replace hf := hs577
       obtain rfl := Option.some.inj hf
       repeat (with_reducible first | refine then_ret ?_ | refine block_ret ?_ | refine qx_ret ?_)
       refine ret_gen ([.int .i64 ((0 : Int)), .int .i64 ((0 : Int)), .int .i64 ((2 : Int))]) hE (by rw [show Tryd.f68.results.toList = [.tmp 2, .tmp 3, .tmp 4] from rfl]; exact ⟨_, _, rfl, rfl, ⟨_, _, rfl, rfl, ⟨_, _, rfl, rfl, rfl⟩⟩⟩) ?_
       exact ⟨_, rfl, D618, rfl, hS⟩
      ·replace hf := cond_f hb hf
       clear hb
       refine wpIn_skip ?_
       refine wpIn_seq ?_
       refine region_at ?_
       refine sN 6 6 [(2, .int .i64 ((bor .i64 (IntKind.wrap .i64 (y523.1 * 2 ^ 7)) (IntKind.wrap .i64 (Int.tmod x600 128))))), (3, .int .i64 ((IntKind.wrap .i64 (y523.2 + (1 : Int))))), (4, .int .i64 ((0 : Int)))] hE (fun a hE => ?_)
       refine at_end rfl ?_
       refine wpIn_ret ?_
       obtain rfl := Option.some.inj hf
       replace hf := hs577
       obtain rfl := Option.some.inj hf
       repeat (with_reducible first | refine then_ret ?_ | refine block_ret ?_ | refine qx_ret ?_)
       refine ret_gen ([.int .i64 ((bor .i64 (IntKind.wrap .i64 (y523.1 * 2 ^ 7)) (IntKind.wrap .i64 (Int.tmod x600 128)))), .int .i64 ((IntKind.wrap .i64 (y523.2 + (1 : Int)))), .int .i64 ((0 : Int))]) hE (by rw [show Tryd.f68.results.toList = [.tmp 2, .tmp 3, .tmp 4] from rfl]; exact ⟨_, _, rfl, rfl, ⟨_, _, rfl, rfl, ⟨_, _, rfl, rfl, rfl⟩⟩⟩) ?_
       exact ⟨_, rfl, D618, rfl, hS⟩
     ·replace hf := cond_f hb hf
      clear hb
      refine wpIn_skip ?_
      refine region_at ?_
      refine sN 2 2 [(10, .int .i64 ((IntKind.wrap .i64 (y523.2 + (1 : Int)))))] hE (fun a hE => ?_)
      refine at_end rfl ?_
      exact ⟨((bor .i64 (IntKind.wrap .i64 (y523.1 * 2 ^ 7)) (IntKind.wrap .i64 (Int.tmod x600 128))), (IntKind.wrap .i64 (y523.2 + (1 : Int)))), D618, hE.weak (by kernel_rfl), hS, (le2 le525 le619), hf⟩
  ·replace hf := cond_f hb hf
   clear hb
   refine wpIn_exit ?_
   obtain rfl := Option.some.inj hf
   exact ⟨(), D524, hE.weak (by kernel_rfl), hS, le525, rfl⟩
set_option maxRecDepth 100000 in
set_option maxHeartbeats 4000000 in
theorem wire_Reader_Bytes_1.calls {K : Nat} {g w0 : World} {D0 : Snap} {x3 : (List Int)} {x7 : Int} {b1 : Nat} {A4 : Option Addr} {c5 : Nat} {r : ((List Int) × Int × Int)} (hf : wire_Reader_Bytes_1.f K x3 x7 = some r) (hS0 : St g w0 D0 [bx b1 3 ([.int .i64 (x7)])]) (h6 : Sl (kdInt .u8) D0 A4 c5 (x3)) :
  CallsIn (Fw none) 0 Tryd.prog 67 (List.toArray [.slice A4 (List.length (x3)) c5, .pointer (some ⟨b1, 0, none⟩)]) w0 (fun e w' => ∃ v, e = .returned v ∧ ∃ (D1 : Snap) (A28 : Option Addr) (c29 : Nat) (q30 : Blk), v = .tuple #[.slice A28 (List.length (r.1)) c29, .int .i64 (r.2.1), .int .i64 (r.2.2)] ∧ Stp g w0 D0 [bx b1 3 ([.int .i64 (x7)])] w' D1 [bx b1 3 ([.int .i64 (x7)]), q30] ∧ OwnD (kdInt .u8) 5 D1 A28 c29 (r.1) q30) := by
 unfold wire_Reader_Bytes_1.f at hf
 have hS := Stp.refl hS0
 clear hS0
 refine calls_body (n := 40) Tryd.func67 rfl Tryd.ntmps67 rfl (fun a hE => ?_)
 have hE : Env a 40 [] [(0, .slice A4 (List.length (x3)) c5), (1, .pointer (some ⟨b1, 0, none⟩))] := hE
 refine wpIn_seq ?_
 refine region_at ?_
 refine sN 3 3 [(3, .slice none 0 0), (4, .int .i64 ((0 : Int))), (5, .int .i64 ((0 : Int)))] hE (fun a hE => ?_)
 refine at_end rfl ?_
 refine wpIn_seq ?_
 refine region_at ?_
 refine sN 1 1 [(10, .slice A4 (List.length (x3)) c5)] hE (fun a hE => ?_)
 obtain ⟨r33, h34, hf⟩ := bind_some hf
 refine aC rfl rfl rfl rfl hE rfl rfl rfl rfl (wire_number.calls (g := g) h34 (hS.st.fore (L := [])) h6) (fun a v w hR hE => ?_)
 obtain ⟨D35, rfl, hS1⟩ := hR
 have le37 := hS1.dle
 have hS := hS.callR hS1 rfl .n
 clear hS1
 refine sN 7 9 [(6, .int .i64 (r33.1)), (7, .int .i64 (r33.2.1)), (8, .int .i64 (r33.2.2))] hE (fun a hE => ?_)
 refine at_end rfl ?_
 refine wpIn_seq ?_
 refine wpIn_block ?_
 refine wpIn_seq ?_
 refine region_at ?_
 refine sN 3 3 [(15, .bool ((!decide (r33.2.2 = (0 : Int)))))] hE (fun a hE => ?_)
 refine at_end rfl ?_
 refine cond_split hE (b := (!decide (r33.2.2 = (0 : Int)))) rfl (fun hb => ?_) (fun hb => ?_)
 ·replace hf := cond_t hb hf
  clear hb
  refine wpIn_seq ?_
  refine region_at ?_
  refine sN 4 4 [(3, .slice none 0 0), (4, .int .i64 ((0 : Int))), (5, .int .i64 (r33.2.2))] hE (fun a hE => ?_)
  refine at_end rfl ?_
  refine wpIn_ret ?_
  have hS := hS.nils
  obtain rfl := Option.some.inj hf
  repeat (with_reducible first | refine then_ret ?_ | refine block_ret ?_ | refine qx_ret ?_)
  refine ret_gen ([.slice none 0 0, .int .i64 ((0 : Int)), .int .i64 (r33.2.2)]) hE (by rw [show Tryd.f67.results.toList = [.tmp 3, .tmp 4, .tmp 5] from rfl]; exact ⟨_, _, rfl, rfl, ⟨_, _, rfl, rfl, ⟨_, _, rfl, rfl, rfl⟩⟩⟩) ?_
  have hS := hS.pk (.c 1 rfl (.c 0 rfl .n)) rfl
  exact ⟨_, rfl, D35, none, 0, none, rfl, hS, (OwnD.nil (kdInt .u8) 5 D35)⟩
 ·replace hf := cond_f hb hf
  clear hb
  refine wpIn_seq ?_
  refine region_at ?_
  refine sN 1 1 [(20, .int .i64 (r33.1))] hE (fun a hE => ?_)
  refine aL 0 (.int .i64 (x7)) hE hS (fun a hE => ?_)
  refine sN 2 4 [(19, .bool ((decide (x7 < r33.1))))] hE (fun a hE => ?_)
  refine at_end rfl ?_
  refine cond_split hE (b := (decide (x7 < r33.1))) rfl (fun hb => ?_) (fun hb => ?_)
  ·replace hf := cond_t hb hf
   clear hb
   refine wpIn_seq ?_
   refine region_at ?_
   refine sN 3 3 [(3, .slice none 0 0), (4, .int .i64 ((0 : Int))), (5, .int .i64 ((4 : Int)))] hE (fun a hE => ?_)
   refine at_end rfl ?_
   refine wpIn_ret ?_
   have hS := hS.nils
   obtain rfl := Option.some.inj hf
   repeat (with_reducible first | refine then_ret ?_ | refine block_ret ?_ | refine qx_ret ?_)
   refine ret_gen ([.slice none 0 0, .int .i64 ((0 : Int)), .int .i64 ((4 : Int))]) hE (by rw [show Tryd.f67.results.toList = [.tmp 3, .tmp 4, .tmp 5] from rfl]; exact ⟨_, _, rfl, rfl, ⟨_, _, rfl, rfl, ⟨_, _, rfl, rfl, rfl⟩⟩⟩) ?_
   have hS := hS.pk (.c 1 rfl (.c 0 rfl .n)) rfl
   exact ⟨_, rfl, D35, none, 0, none, rfl, hS, (OwnD.nil (kdInt .u8) 5 D35)⟩
  ·replace hf := cond_f hb hf
   clear hb
   refine wpIn_seq ?_
   refine region_at ?_
   refine sN 7 7 [(23, .bool ((decide ((IntKind.wrap .i64 (((List.length (x3) : Nat) : Int) - r33.2.1)) < r33.1))))] hE (fun a hE => ?_)
   refine at_end rfl ?_
   refine cond_split hE (b := (decide ((IntKind.wrap .i64 (((List.length (x3) : Nat) : Int) - r33.2.1)) < r33.1))) rfl (fun hb => ?_) (fun hb => ?_)
   ·replace hf := cond_t hb hf
    clear hb
    refine wpIn_seq ?_
    refine region_at ?_
    refine sN 3 3 [(3, .slice none 0 0), (4, .int .i64 ((0 : Int))), (5, .int .i64 ((3 : Int)))] hE (fun a hE => ?_)
    refine at_end rfl ?_
    refine wpIn_ret ?_
    have hS := hS.nils
    obtain rfl := Option.some.inj hf
    repeat (with_reducible first | refine then_ret ?_ | refine block_ret ?_ | refine qx_ret ?_)
    refine ret_gen ([.slice none 0 0, .int .i64 ((0 : Int)), .int .i64 ((3 : Int))]) hE (by rw [show Tryd.f67.results.toList = [.tmp 3, .tmp 4, .tmp 5] from rfl]; exact ⟨_, _, rfl, rfl, ⟨_, _, rfl, rfl, ⟨_, _, rfl, rfl, rfl⟩⟩⟩) ?_
    have hS := hS.pk (.c 1 rfl (.c 0 rfl .n)) rfl
    exact ⟨_, rfl, D35, none, 0, none, rfl, hS, (OwnD.nil (kdInt .u8) 5 D35)⟩
   ·replace hf := cond_f hb hf
    clear hb
    refine wpIn_skip ?_
    refine wpIn_seq ?_
    refine region_at ?_
    refine sN 5 5 [(30, .slice A4 (List.length (x3)) c5), (31, .int .i64 (r33.2.1)), (34, .int .i64 ((IntKind.wrap .i64 (r33.2.1 + r33.1))))] hE (fun a hE => ?_)
    obtain ⟨l41, h42, hf⟩ := bind_some hf
    refine at_op (op_tk hE (g_slice (K := (kdInt .u8)) (e := 5) (by_ := 1) (zl := 1) rfl rfl rfl rfl hE rfl rfl (by kernel_rfl) ⟨_, rfl⟩ ⟨_, rfl⟩ (h6.mono le37) h42 (fun a A43 c44 hE h45 => ?_))) rfl
    obtain ⟨r46, h47, hf⟩ := bind_some hf
    refine aC rfl rfl rfl rfl hE rfl rfl rfl rfl (slices_Clone_byte_byte.calls (g := g) h47 (hS.st.fore (L := [])) h45) (fun a v w hR hE => ?_)
    obtain ⟨D48, A50, c51, q52, rfl, hS1, h53⟩ := hR
    have le55 := hS1.dle
    have hS := hS.callR hS1 rfl (.c .n)
    clear hS1
    refine sN 6 13 [(3, .slice A50 (List.length (r46)) c51), (4, .int .i64 ((IntKind.wrap .i64 (r33.2.1 + r33.1)))), (5, .int .i64 ((0 : Int)))] hE (fun a hE => ?_)
    refine at_end rfl ?_
    refine wpIn_ret ?_
    obtain rfl := Option.some.inj hf
    repeat (with_reducible first | refine then_ret ?_ | refine block_ret ?_ | refine qx_ret ?_)
    refine ret_gen ([.slice A50 (List.length (r46)) c51, .int .i64 ((IntKind.wrap .i64 (r33.2.1 + r33.1))), .int .i64 ((0 : Int))]) hE (by rw [show Tryd.f67.results.toList = [.tmp 3, .tmp 4, .tmp 5] from rfl]; exact ⟨_, _, rfl, rfl, ⟨_, _, rfl, rfl, ⟨_, _, rfl, rfl, rfl⟩⟩⟩) ?_
    have hS := hS.pk (.c 1 rfl (.c 0 rfl .n)) rfl
    exact ⟨_, rfl, D48, A50, c51, q52, rfl, hS, h53⟩
set_option maxRecDepth 100000 in
set_option maxHeartbeats 4000000 in
theorem wire_Reader_Fail.calls {K : Nat} {g w0 : World} {D0 : Snap} {x3 : Int} {x4 : T_wire_Reader} {b1 : Nat} {A5 : Option Addr} {c6 : Nat} {r : (T_wire_Reader)} (hf : wire_Reader_Fail.f K x3 x4 = some r) (hS0 : St g w0 D0 [bx b1 102 (c_T_wire_Reader (x4) A5 c6)]) (h7 : Sl (kdInt .u8) D0 A5 c6 (x4.fB)) :
  CallsIn (Fw none) 0 Tryd.prog 76 (List.toArray [.pointer (some ⟨b1, 0, none⟩), .int .i64 (x3)]) w0 (fun e w' => ∃ v, e = .returned v ∧ ∃ (D1 : Snap) (A17 : Option Addr) (c18 : Nat), v = .tuple #[] ∧ Stp g w0 D0 [bx b1 102 (c_T_wire_Reader (x4) A5 c6)] w' D1 [bx b1 102 (c_T_wire_Reader ((T_wire_Reader.mk (r.fB) (r.fBad))) A17 c18)] ∧ Sl (kdInt .u8) D1 A17 c18 (r.fB)) := by
 unfold wire_Reader_Fail.f at hf
 have hS := Stp.refl hS0
 clear hS0
 refine calls_body (n := 24) Tryd.func76 rfl Tryd.ntmps76 rfl (fun a hE => ?_)
 have hE : Env a 24 [] [(0, .pointer (some ⟨b1, 0, none⟩)), (1, .int .i64 (x3))] := hE
 obtain ⟨j27, hj28, hf⟩ := jn_elim hf
 refine seq_join (fun a w => ∃ (y20 : Bool), ∃ (D21 : Snap), Env a 24 [] [(0, .pointer (some ⟨b1, 0, none⟩)), (1, .int .i64 (x3)), (16, .bool (y20))] ∧ Stp g w0 D0 [bx b1 102 (c_T_wire_Reader (x4) A5 c6)] w D21 [bx b1 102 (c_T_wire_Reader (x4) A5 c6)] ∧ Snap.le D0 D21 ∧ j27 y20 = some r) ?_ ?_
 ·clear hj28
  refine region_at ?_
  refine sN 1 1 [(4, .pointer (some ⟨b1, 0, none⟩))] hE (fun a hE => ?_)
  refine at_op (op_tk hE (tk_bin (r := .bool true) rfl rfl rfl rfl hE rfl rfl rfl (neptr_run (by kernel_rfl) _) (fun a hE => ?_))) rfl
  refine sN 3 5 [(6, .bool true), (8, .pointer (some ⟨b1, 0, none⟩))] hE (fun a hE => ?_)
  refine aF 1 27 1 hE (fun a hE => ?_)
  refine aL 0 (.int .i64 (x4.fBad)) hE hS (fun a hE => ?_)
  refine sN 3 10 [(13, .bool ((decide (x4.fBad = (0 : Int)))))] hE (fun a hE => ?_)
  refine Or.elim (Bool.eq_false_or_eq_true ((decide (x4.fBad = (0 : Int))))).symm (fun hb => ?_) (fun hb => ?_)
  ·replace hf := cond_f hb hf
   have hE := hE.know (t := 13) (b := (decide (x4.fBad = (0 : Int)))) (b' := false) rfl hb
   clear hb
   refine sN 3 13 [(16, .bool false)] hE (fun a hE => ?_)
   refine at_end rfl ?_
   exact ⟨false, D0, hE.weak (by kernel_rfl), hS, Snap.le.refl _, hf⟩
  ·replace hf := cond_t hb hf
   have hE := hE.know (t := 13) (b := (decide (x4.fBad = (0 : Int)))) (b' := true) rfl hb
   clear hb
   refine sN 3 13 [(16, .bool ((!decide (x3 = (0 : Int)))))] hE (fun a hE => ?_)
   refine at_end rfl ?_
   exact ⟨(!decide (x3 = (0 : Int))), D0, hE.weak (by kernel_rfl), hS, Snap.le.refl _, hf⟩
 ·clear hE hS
  rintro a w ⟨y20, D21, hE, hS, le22, hf⟩
  replace hf := hj28 _ hf
  clear hj28
  refine cond_split hE (b := y20) rfl (fun hb => ?_) (fun hb => ?_)
  ·replace hf := cond_t hb hf
   clear hb
   refine region_at ?_
   refine sN 4 4 [(18, .pointer (some ⟨b1, 0, none⟩)), (19, .int .i64 (x3)), (20, .pointer (some ⟨b1, 0, none⟩))] hE (fun a hE => ?_)
   refine aF 0 33 0 hE (fun a hE => ?_)
   obtain ⟨v23, hv24, hf⟩ := bind_some hf
   replace hv24 := Option.some.inj hv24
   refine at_op (op_store (v := .slice none 0 0) (c_T_wire_Reader ((T_wire_Reader.mk (([] : List Int)) (v23.fBad))) none 0) rfl rfl rfl rfl hE hS rfl rfl (by kernel_rfl) (by kernel_rfl) (by kernel_rfl) (by kernel_rfl) (by rw [← hv24]; kernel_rfl) (fun a w _ hE hS => ?_)) rfl
   refine sN 1 7 [(22, .pointer (some ⟨b1, 0, none⟩))] hE (fun a hE => ?_)
   refine aF 1 27 1 hE (fun a hE => ?_)
   obtain ⟨v25, hv26, hf⟩ := bind_some hf
   replace hv26 := Option.some.inj hv26
   refine at_op (op_store (v := .int .i64 (x3)) (c_T_wire_Reader ((T_wire_Reader.mk (([] : List Int)) (v25.fBad))) none 0) rfl rfl rfl rfl hE hS rfl rfl (by kernel_rfl) (by kernel_rfl) (by kernel_rfl) (by kernel_rfl) (by rw [← hv26]; kernel_rfl) (fun a w _ hE hS => ?_)) rfl
   refine at_end rfl ?_
   obtain rfl := Option.some.inj hf
   repeat (with_reducible first | refine then_ret ?_ | refine block_ret ?_ | refine qx_ret ?_)
   refine ret_genN ([]) hE (by rw [show Tryd.f76.results.toList = [] from rfl]; exact rfl) ?_
   exact ⟨_, rfl, D21, none, 0, rfl, hS, (Sl.nil (kdInt .u8) D21)⟩
  ·replace hf := cond_f hb hf
   clear hb
   refine wpIn_skip ?_
   obtain rfl := Option.some.inj hf
   repeat (with_reducible first | refine then_ret ?_ | refine block_ret ?_ | refine qx_ret ?_)
   refine ret_genN ([]) hE (by rw [show Tryd.f76.results.toList = [] from rfl]; exact rfl) ?_
   exact ⟨_, rfl, D21, A5, c6, rfl, hS, (h7.mono le22)⟩
set_option maxRecDepth 100000 in
set_option maxHeartbeats 4000000 in
theorem wire_take_byte.calls {K : Nat} {g w0 : World} {D0 : Snap} {x5 : T_wire_Reader} {x9 : Int} {b1 : Nat} {b2 : Nat} {A6 : Option Addr} {c7 : Nat} {r : ((List Int) × T_wire_Reader)} (hf : wire_take_byte.f K x5 x9 = some r) (hS0 : St g w0 D0 [bx b1 102 (c_T_wire_Reader (x5) A6 c7), bx b2 3 ([.int .i64 (x9)])]) (h8 : Sl (kdInt .u8) D0 A6 c7 (x5.fB)) :
  CallsIn (Fw none) 0 Tryd.prog 66 (List.toArray [.pointer (some ⟨b1, 0, none⟩), .func (.func 67) #[] #[.pointer (some ⟨b2, 0, none⟩)]]) w0 (fun e w' => ∃ v, e = .returned v ∧ ∃ (D1 : Snap) (A54 : Option Addr) (c55 : Nat) (q56 : Blk) (A59 : Option Addr) (c60 : Nat), v = .slice A54 (List.length (r.1)) c55 ∧ Stp g w0 D0 [bx b1 102 (c_T_wire_Reader (x5) A6 c7), bx b2 3 ([.int .i64 (x9)])] w' D1 [bx b1 102 (c_T_wire_Reader ((T_wire_Reader.mk (r.2.fB) (r.2.fBad))) A59 c60), bx b2 3 ([.int .i64 (x9)]), q56] ∧ OwnD (kdInt .u8) 5 D1 A54 c55 (r.1) q56 ∧ Sl (kdInt .u8) D1 A59 c60 (r.2.fB)) := by
 unfold wire_take_byte.f at hf
 have hS := Stp.refl hS0
 clear hS0
 refine calls_body (n := 39) Tryd.func66 rfl Tryd.ntmps66 rfl (fun a hE => ?_)
 have hE : Env a 39 [] [(0, .pointer (some ⟨b1, 0, none⟩)), (1, .func (.func 67) #[] #[.pointer (some ⟨b2, 0, none⟩)])] := hE
 refine wpIn_seq ?_
 refine region_at ?_
 refine sN 1 1 [(4, .slice none 0 0)] hE (fun a hE => ?_)
 refine at_end rfl ?_
 refine wpIn_seq ?_
 refine region_at ?_
 refine sN 1 1 [(5, .slice none 0 0)] hE (fun a hE => ?_)
 refine at_end rfl ?_
 refine wpIn_seq ?_
 refine wpIn_seq ?_
 refine region_at ?_
 refine sN 1 1 [(9, .pointer (some ⟨b1, 0, none⟩))] hE (fun a hE => ?_)
 obtain ⟨r67, h68, hf⟩ := bind_some hf
 refine aC rfl rfl rfl rfl hE rfl rfl rfl rfl (wire_Reader_Bad.calls (g := g) h68 (hS.st.fore (L := [bx b1 102 (c_T_wire_Reader (x5) A6 c7)])) h8) (fun a v w hR hE => ?_)
 obtain ⟨D69, rfl, hS1⟩ := hR
 have le71 := hS1.dle
 have hS := hS.callR hS1 rfl (.c .n)
 clear hS1
 refine sN 1 3 [(11, .bool ((!decide (r67 = (0 : Int)))))] hE (fun a hE => ?_)
 refine at_end rfl ?_
 refine cond_split hE (b := (!decide (r67 = (0 : Int)))) rfl (fun hb => ?_) (fun hb => ?_)
 ·replace hf := cond_t hb hf
  clear hb
  refine wpIn_seq ?_
  refine region_at ?_
  refine sN 2 2 [(4, .slice none 0 0)] hE (fun a hE => ?_)
  refine at_end rfl ?_
  refine wpIn_ret ?_
  have hS := hS.nils
  obtain rfl := Option.some.inj hf
  repeat (with_reducible first | refine then_ret ?_ | refine block_ret ?_ | refine qx_ret ?_)
  refine ret_gen ([.slice none 0 0]) hE (by rw [show Tryd.f66.results.toList = [.tmp 4] from rfl]; exact ⟨_, _, rfl, rfl, rfl⟩) ?_
  have hS := hS.pk (.c 1 rfl (.c 2 rfl (.c 0 rfl .n))) rfl
  exact ⟨_, rfl, D69, none, 0, none, A6, c7, rfl, hS, (OwnD.nil (kdInt .u8) 5 D69), (h8.mono le71)⟩
 ·replace hf := cond_f hb hf
  clear hb
  refine wpIn_skip ?_
  refine wpIn_seq ?_
  refine region_at ?_
  refine sN 3 3 [(14, .func (.func 67) #[] #[.pointer (some ⟨b2, 0, none⟩)]), (16, .pointer (some ⟨b1, 0, none⟩))] hE (fun a hE => ?_)
  refine aF 0 33 0 hE (fun a hE => ?_)
  refine aL 0 (.slice A6 (List.length (x5.fB)) c7) hE hS (fun a hE => ?_)
  have hS := hS.pk (.c 1 rfl (.c 0 rfl .n)) rfl
  obtain ⟨r73, h74, hf⟩ := bind_some hf
  refine aC rfl rfl rfl rfl hE rfl rfl rfl rfl (wire_Reader_Bytes_1.calls (g := g) h74 (hS.st.fore (L := [bx b2 3 ([.int .i64 (x9)])])) (h8.mono le71)) (fun a v w hR hE => ?_)
  obtain ⟨D75, A77, c78, q79, rfl, hS1, h80⟩ := hR
  have le82 := hS1.dle
  have hS := hS.callR hS1 rfl (.c (.c .n))
  clear hS1
  refine sN 7 13 [(6, .slice A77 (List.length (r73.1)) c78), (7, .int .i64 (r73.2.1)), (8, .int .i64 (r73.2.2))] hE (fun a hE => ?_)
  refine at_end rfl ?_
  refine wpIn_seq ?_
  refine wpIn_seq ?_
  refine region_at ?_
  refine sN 2 2 [(24, .bool ((!decide (r73.2.2 = (0 : Int)))))] hE (fun a hE => ?_)
  refine at_end rfl ?_
  refine cond_split hE (b := (!decide (r73.2.2 = (0 : Int)))) rfl (fun hb => ?_) (fun hb => ?_)
  ·replace hf := cond_t hb hf
   clear hb
   refine wpIn_seq ?_
   refine region_at ?_
   refine sN 2 2 [(25, .pointer (some ⟨b1, 0, none⟩)), (26, .int .i64 (r73.2.2))] hE (fun a hE => ?_)
   have hS := hS.pk (.c 2 rfl (.c 0 rfl (.c 1 rfl .n))) rfl
   obtain ⟨r91, h92, hf⟩ := bind_some hf
   refine aC rfl rfl rfl rfl hE rfl rfl rfl rfl (wire_Reader_Fail.calls (g := g) h92 (hS.st.fore (L := [bx b1 102 (c_T_wire_Reader (x5) A6 c7)])) (h8.mono (le2 le71 le82))) (fun a v w hR hE => ?_)
   obtain ⟨D93, A95, c96, rfl, hS1, h97⟩ := hR
   have le98 := hS1.dle
   have hS := hS.callR hS1 rfl (.c .n)
   clear hS1
   refine at_end rfl ?_
   refine wpIn_seq ?_
   refine region_at ?_
   refine sN 2 2 [(4, .slice none 0 0)] hE (fun a hE => ?_)
   refine at_end rfl ?_
   refine wpIn_ret ?_
   have hS := hS.nils
   obtain rfl := Option.some.inj hf
   repeat (with_reducible first | refine then_ret ?_ | refine block_ret ?_ | refine qx_ret ?_)
   refine ret_gen ([.slice none 0 0]) hE (by rw [show Tryd.f66.results.toList = [.tmp 4] from rfl]; exact ⟨_, _, rfl, rfl, rfl⟩) ?_
   have hS := hS.pk (.c 1 rfl (.c 2 rfl (.c 0 rfl .n))) rfl
   exact ⟨_, rfl, D93, none, 0, none, A95, c96, rfl, hS, (OwnD.nil (kdInt .u8) 5 D93), h97⟩
  ·replace hf := cond_f hb hf
   clear hb
   refine wpIn_skip ?_
   refine wpIn_seq ?_
   refine region_at ?_
   refine sN 3 3 [(29, .pointer (some ⟨b1, 0, none⟩)), (31, .pointer (some ⟨b1, 0, none⟩))] hE (fun a hE => ?_)
   refine aF 0 33 0 hE (fun a hE => ?_)
   refine aL 2 (.slice A6 (List.length (x5.fB)) c7) hE hS (fun a hE => ?_)
   refine sN 1 6 [(34, .int .i64 (r73.2.1))] hE (fun a hE => ?_)
   obtain ⟨l100, h101, hf⟩ := bind_some hf
   refine at_op (op_tk hE (g_slice (K := (kdInt .u8)) (e := 5) (by_ := 1) (zl := 1) rfl rfl rfl rfl hE rfl rfl (by kernel_rfl) ⟨_, rfl⟩ rfl (h8.mono (le2 le71 le82)) h101 (fun a A102 c103 hE h104 => ?_))) rfl
   refine sN 1 8 [(36, .pointer (some ⟨b1, 0, none⟩))] hE (fun a hE => ?_)
   refine aF 0 33 0 hE (fun a hE => ?_)
   have hS := hS.pk (.c 2 rfl (.c 0 rfl (.c 1 rfl .n))) rfl
   obtain ⟨v105, hv106, hf⟩ := bind_some hf
   replace hv106 := Option.some.inj hv106
   refine at_op (op_store (v := .slice A102 (List.length (l100)) c103) (c_T_wire_Reader (v105) A102 c103) rfl rfl rfl rfl hE hS rfl rfl (by kernel_rfl) (by kernel_rfl) (by kernel_rfl) (by kernel_rfl) (by rw [← hv106]; kernel_rfl) (fun a w _ hE hS => ?_)) rfl
   have h107 : Sl (kdInt .u8) D75 A102 c103 (v105.fB) := by rw [← hv106]; exact h104
   refine at_end rfl ?_
   refine wpIn_seq ?_
   refine region_at ?_
   refine sN 2 2 [(4, .slice A77 (List.length (r73.1)) c78)] hE (fun a hE => ?_)
   refine at_end rfl ?_
   refine wpIn_ret ?_
   obtain rfl := Option.some.inj hf
   repeat (with_reducible first | refine then_ret ?_ | refine block_ret ?_ | refine qx_ret ?_)
   refine ret_gen ([.slice A77 (List.length (r73.1)) c78]) hE (by rw [show Tryd.f66.results.toList = [.tmp 4] from rfl]; exact ⟨_, _, rfl, rfl, rfl⟩) ?_
   exact ⟨_, rfl, D75, A77, c78, q79, A102, c103, rfl, hS, h80, h107⟩
set_option maxRecDepth 100000 in
set_option maxHeartbeats 4000000 in
theorem wire_Reader_Bytes.calls {K : Nat} {g w0 : World} {D0 : Snap} {x3 : Int} {x4 : T_wire_Reader} {b1 : Nat} {A5 : Option Addr} {c6 : Nat} {r : ((List Int) × T_wire_Reader)} (hf : wire_Reader_Bytes.f K x3 x4 = some r) (hS0 : St g w0 D0 [bx b1 102 (c_T_wire_Reader (x4) A5 c6)]) (h7 : Sl (kdInt .u8) D0 A5 c6 (x4.fB)) :
  CallsIn (Fw none) 0 Tryd.prog 53 (List.toArray [.pointer (some ⟨b1, 0, none⟩), .int .i64 (x3)]) w0 (fun e w' => ∃ v, e = .returned v ∧ ∃ (D1 : Snap) (A23 : Option Addr) (c24 : Nat) (q25 : Blk) (A28 : Option Addr) (c29 : Nat), v = .slice A23 (List.length (r.1)) c24 ∧ Stp g w0 D0 [bx b1 102 (c_T_wire_Reader (x4) A5 c6)] w' D1 [bx b1 102 (c_T_wire_Reader ((T_wire_Reader.mk (r.2.fB) (r.2.fBad))) A28 c29), q25] ∧ OwnD (kdInt .u8) 5 D1 A23 c24 (r.1) q25 ∧ Sl (kdInt .u8) D1 A28 c29 (r.2.fB)) := by
 unfold wire_Reader_Bytes.f at hf
 have hS := Stp.refl hS0
 clear hS0
 refine calls_body (n := 8) Tryd.func53 rfl Tryd.ntmps53 rfl (fun a hE => ?_)
 have hE : Env a 8 [] [(0, .pointer (some ⟨b1, 0, none⟩)), (1, .int .i64 (x3))] := hE
 refine wpIn_seq ?_
 refine region_at ?_
 refine at_op (op_box rfl rfl rfl rfl hE rfl hS rfl (fun a b31 w _ hE hS => ?_)) rfl
 refine sN 1 2 [(4, .slice none 0 0)] hE (fun a hE => ?_)
 refine at_end rfl ?_
 refine wpIn_seq ?_
 refine region_at ?_
 refine sN 2 2 [(5, .pointer (some ⟨b1, 0, none⟩)), (6, .func (.func 67) #[] #[.pointer (some ⟨b31, 0, none⟩)])] hE (fun a hE => ?_)
 have hS := hS.pk (.c 1 rfl (.c 0 rfl .n)) rfl
 obtain ⟨r33, h34, hf⟩ := bind_some hf
 refine aC rfl rfl rfl rfl hE rfl rfl rfl rfl (wire_take_byte.calls (g := g) h34 (hS.st.fore (L := [bx b1 102 (c_T_wire_Reader (x4) A5 c6), bx b31 3 ([.int .i64 (x3)])])) h7) (fun a v w hR hE => ?_)
 obtain ⟨D35, A37, c38, q39, A42, c43, rfl, hS1, h40, h44⟩ := hR
 have le45 := hS1.dle
 have hS := hS.callR hS1 rfl (.c (.c (.c .n)))
 clear hS1
 refine sN 1 4 [(4, .slice A37 (List.length (r33.1)) c38)] hE (fun a hE => ?_)
 refine at_end rfl ?_
 refine wpIn_ret ?_
 obtain rfl := Option.some.inj hf
 repeat (with_reducible first | refine then_ret ?_ | refine block_ret ?_ | refine qx_ret ?_)
 refine ret_gen ([.slice A37 (List.length (r33.1)) c38]) hE (by rw [show Tryd.f53.results.toList = [.tmp 4] from rfl]; exact ⟨_, _, rfl, rfl, rfl⟩) ?_
 have hS := hS.pk (.c 0 rfl (.c 2 rfl .n)) rfl
 exact ⟨_, rfl, D35, A37, c38, q39, A42, c43, rfl, hS, h40, h44⟩
set_option maxRecDepth 100000 in
set_option maxHeartbeats 4000000 in
theorem mac_row.calls {K : Nat} {g w0 : World} {D0 : Snap} {x1 : Int} {x2 : Int} {r : ((List Int))} (hf : mac_row.f K x1 x2 = some r) (hS0 : St g w0 D0 []) :
  CallsIn (Fw none) 0 Tryd.prog 61 (List.toArray [.int .u64 (x1), .int .i64 (x2)]) w0 (fun e w' => ∃ v, e = .returned v ∧ ∃ (D1 : Snap) (A184 : Option Addr) (c185 : Nat) (q186 : Blk), v = .slice A184 (List.length (r)) c185 ∧ Stp g w0 D0 [] w' D1 [q186] ∧ OwnD (kdInt .u8) 5 D1 A184 c185 (r) q186) := by
 unfold mac_row.f at hf
 have hS := Stp.refl hS0
 clear hS0
 refine calls_body (n := 26) Tryd.func61 rfl Tryd.ntmps61 rfl (fun a hE => ?_)
 have hE : Env a 26 [] [(0, .int .u64 (x1)), (1, .int .i64 (x2))] := hE
 refine wpIn_seq ?_
 refine region_at ?_
 refine sN 1 1 [(4, .slice none 0 0)] hE (fun a hE => ?_)
 refine at_end rfl ?_
 refine wpIn_seq ?_
 refine region_at ?_
 refine sN 1 1 [(7, .int .i64 (x2))] hE (fun a hE => ?_)
 obtain ⟨l189, h190, hf⟩ := bind_some hf
 refine at_op (op_makeSlice (K := (kdInt .u8)) (e := 5) (bytes := 1) (z := (0 : Int)) (cz := [.int .u8 ((0 : Int))]) rfl rfl rfl rfl hE rfl hS rfl rfl (by kernel_rfl) (by kernel_rfl) rfl rfl rfl h190 (fun a A191 c192 q193 w _ hE h194 hS => ?_)) rfl
 refine sN 1 3 [(5, .slice A191 (List.length (l189)) c192)] hE (fun a hE => ?_)
 refine at_end rfl ?_
 refine wpIn_seq ?_
 refine wpIn_seq ?_
 refine region_at ?_
 refine sN 3 3 [(10, .int .i64 (((List.length (l189) : Nat) : Int))), (11, .int .i64 ((0 : Int)))] hE (fun a hE => ?_)
 refine at_end rfl ?_
 obtain ⟨s354, hf, hs355⟩ := bind_some hf
 refine block_loop (fun a w => ∃ (z346 : (List Int)), ∃ (q351 : Blk), ∃ (D347 : Snap), Env a 26 [] [(5, .slice A191 (List.length (z346)) c192)] ∧ Stp g w0 D0 [] w D347 [q351] ∧ Snap.le D0 D347 ∧ OwnD (kdInt .u8) 5 D347 A191 c192 (z346) q351 ∧ z346 = s354) (fun k a w => ∃ (y316 : Int × (List Int) × Int), ∃ (q321 : Blk), ∃ (D317 : Snap), Env a 26 [] [(0, .int .u64 (y316.1)), (1, .int .i64 (x2)), (5, .slice A191 (List.length (y316.2.1)) c192), (10, .int .i64 (((List.length (l189) : Nat) : Int))), (11, .int .i64 (y316.2.2))] ∧ Stp g w0 D0 [] w D317 [q321] ∧ Snap.le D0 D317 ∧ OwnD (kdInt .u8) 5 D317 A191 c192 (y316.2.1) q321 ∧ mac_row_l1.l K x2 l189 k y316 = some s354) K ?_ ?_ ?_
 ·exact ⟨(x1, l189, (0 : Int)), q193, D0, hE.weak (by kernel_rfl), hS, Snap.le.refl _, h194, hf⟩
 ·clear hE hS hf
  rintro a w ⟨z346, q351, D347, hE, hS, le348, h352, rfl⟩
  have hf := hs355
  clear hs355
  refine wpIn_seq ?_
  refine region_at ?_
  refine sN 2 2 [(4, .slice A191 (List.length (z346)) c192)] hE (fun a hE => ?_)
  refine at_end rfl ?_
  refine wpIn_ret ?_
  obtain rfl := Option.some.inj hf
  repeat (with_reducible first | refine then_ret ?_ | refine block_ret ?_ | refine qx_ret ?_)
  refine ret_gen ([.slice A191 (List.length (z346)) c192]) hE (by rw [show Tryd.f61.results.toList = [.tmp 4] from rfl]; exact ⟨_, _, rfl, rfl, rfl⟩) ?_
  exact ⟨_, rfl, D347, A191, c192, q351, rfl, hS, h352⟩
 ·clear hE hS hf
  rintro k a w ⟨y316, q321, D317, hE, hS, le318, h322, hf⟩
  obtain ⟨k, rfl, hf⟩ := mac_row_l1.some _ _ hf
  refine ⟨k, rfl, ?_⟩
  unfold mac_row_l1.b at hf
  refine wpIn_seq ?_
  refine region_at ?_
  refine sN 1 1 [(12, .bool ((decide (y316.2.2 < ((List.length (l189) : Nat) : Int)))))] hE (fun a hE => ?_)
  refine at_end rfl ?_
  refine wpIn_seq ?_
  refine cond_split hE (b := (decide (y316.2.2 < ((List.length (l189) : Nat) : Int)))) rfl (fun hb => ?_) (fun hb => ?_)
  ·replace hf := cond_t hb hf
   clear hb
   refine wpIn_skip ?_
   refine wpIn_seq ?_
   refine wpIn_block ?_
   refine wpIn_seq ?_
   refine region_at ?_
   refine sN 2 2 [(6, .int .i64 (y316.2.2))] hE (fun a hE => ?_)
   refine at_end rfl ?_
   refine wpIn_seq ?_
   refine region_at ?_
   refine sN 7 7 [(14, .slice A191 (List.length (y316.2.1)) c192), (18, .int .i64 ((IntKind.wrap .i64 ((IntKind.wrap .i64 (x2 - (1 : Int))) - y316.2.2)))), (20, .int .u8 ((IntKind.wrap .u8 y316.1)))] hE (fun a hE => ?_)
   obtain ⟨x363, h364, hf⟩ := bind_some hf
   refine at_op (op_tk hE (tk_indexO (K := (kdInt .u8)) (T := 5) (by_ := 1) (zl := 1) rfl rfl rfl rfl hE rfl rfl rfl (by kernel_rfl) h322 h364 (fun a b365 u366 hq hE => ?_))) rfl
   subst hq
   refine at_op (op_storeO (K := (kdInt .u8)) (T := 5) (l := y316.2.1) ((IntKind.wrap .u8 y316.1)) rfl rfl rfl rfl hE hS h322 rfl rfl (inI_of h364) (rfl) (by kernel_rfl) (by kernel_rfl) (fun a u367 w _ hE h368 hS => ?_)) rfl
   have hE : Env a 26 [] [(0, .int .u64 (y316.1)), (1, .int .i64 (x2)), (5, .slice A191 (List.length ((List.set (y316.2.1) (Int.toNat ((IntKind.wrap .i64 ((IntKind.wrap .i64 (x2 - (1 : Int))) - y316.2.2)))) ((IntKind.wrap .u8 y316.1))))) c192), (6, .int .i64 (y316.2.2)), (10, .int .i64 (((List.length (l189) : Nat) : Int))), (11, .int .i64 (y316.2.2)), (12, .bool ((decide (y316.2.2 < ((List.length (l189) : Nat) : Int))))), (14, .slice A191 (List.length ((List.set (y316.2.1) (Int.toNat ((IntKind.wrap .i64 ((IntKind.wrap .i64 (x2 - (1 : Int))) - y316.2.2)))) ((IntKind.wrap .u8 y316.1))))) c192), (18, .int .i64 ((IntKind.wrap .i64 ((IntKind.wrap .i64 (x2 - (1 : Int))) - y316.2.2)))), (20, .int .u8 ((IntKind.wrap .u8 y316.1))), (21, .pointer (some ⟨b365, Int.toNat ((IntKind.wrap .i64 ((IntKind.wrap .i64 (x2 - (1 : Int))) - y316.2.2))) * 1, none⟩))] := by have h := hE.weak (E' := [(0, .int .u64 (y316.1)), (1, .int .i64 (x2)), (5, .slice A191 (List.length (y316.2.1)) c192), (6, .int .i64 (y316.2.2)), (10, .int .i64 (((List.length (l189) : Nat) : Int))), (11, .int .i64 (y316.2.2)), (12, .bool ((decide (y316.2.2 < ((List.length (l189) : Nat) : Int))))), (14, .slice A191 (List.length (y316.2.1)) c192), (18, .int .i64 ((IntKind.wrap .i64 ((IntKind.wrap .i64 (x2 - (1 : Int))) - y316.2.2)))), (20, .int .u8 ((IntKind.wrap .u8 y316.1))), (21, .pointer (some ⟨b365, Int.toNat ((IntKind.wrap .i64 ((IntKind.wrap .i64 (x2 - (1 : Int))) - y316.2.2))) * 1, none⟩))]) (by kernel_rfl); simpa only [List.length_set] using h
   refine at_end rfl ?_
   refine region_at ?_
   refine sN 3 3 [(0, .int .u64 ((Int.fdiv y316.1 (2 ^ 8))))] hE (fun a hE => ?_)
   refine at_end rfl ?_
   refine region_at ?_
   refine sN 2 2 [(11, .int .i64 ((IntKind.wrap .i64 (y316.2.2 + (1 : Int)))))] hE (fun a hE => ?_)
   refine at_end rfl ?_
   exact ⟨((Int.fdiv y316.1 (2 ^ 8)), (List.set (y316.2.1) (Int.toNat ((IntKind.wrap .i64 ((IntKind.wrap .i64 (x2 - (1 : Int))) - y316.2.2)))) ((IntKind.wrap .u8 y316.1))), (IntKind.wrap .i64 (y316.2.2 + (1 : Int)))), (some (b365, u367)), D317, hE.weak (by kernel_rfl), hS, le318, h368, hf⟩
  ·replace hf := cond_f hb hf
   clear hb
   refine wpIn_exit ?_
   obtain rfl := Option.some.inj hf
   exact ⟨y316.2.1, q321, D317, hE.weak (by kernel_rfl), hS, le318, h322, rfl⟩
set_option maxRecDepth 100000 in
set_option maxHeartbeats 4000000 in
theorem slices_Grow_byte_byte.calls {K : Nat} {g w0 : World} {D0 : Snap} {x1 : Int} {r : ((List Int))} (hf : slices_Grow_byte_byte.f K x1 = some r) (hS0 : St g w0 D0 []) :
  CallsIn (Fw none) 0 Tryd.prog 70 (List.toArray [.slice none 0 0, .int .i64 (x1)]) w0 (fun e w' => ∃ v, e = .returned v ∧ ∃ (D1 : Snap) (A22 : Option Addr) (c23 : Nat) (q24 : Blk), v = .slice A22 (List.length (r)) c23 ∧ Stp g w0 D0 [] w' D1 [q24] ∧ OwnD (kdInt .u8) 5 D1 A22 c23 (r) q24) := by
 unfold slices_Grow_byte_byte.f at hf
 have hS := Stp.refl hS0
 clear hS0
 refine calls_body (n := 27) Tryd.func70 rfl Tryd.ntmps70 rfl (fun a hE => ?_)
 have hE : Env a 27 [] [(0, .slice none 0 0), (1, .int .i64 (x1))] := hE
 refine wpIn_seq ?_
 refine region_at ?_
 refine sN 1 1 [(4, .slice none 0 0)] hE (fun a hE => ?_)
 refine at_end rfl ?_
 refine wpIn_seq ?_
 refine wpIn_seq ?_
 refine region_at ?_
 refine sN 2 2 [(6, .bool ((decide (x1 < (0 : Int)))))] hE (fun a hE => ?_)
 refine at_end rfl ?_
 refine cond_split hE (b := (decide (x1 < (0 : Int)))) rfl (fun hb => ?_) (fun hb => ?_)
 ·replace hf := cond_t hb hf
  clear hb
  refine region_at ?_
  cases hf
 ·replace hf := cond_f hb hf
  clear hb
  refine wpIn_skip ?_
  refine wpIn_seq ?_
  refine wpIn_seq ?_
  refine region_at ?_
  refine sN 2 2 [(8, .int .i64 (x1)), (9, .slice none 0 0)] hE (fun a hE => ?_)
  refine at_op (op_tk hE (tk_capNil rfl rfl rfl rfl hE rfl rfl (by kernel_rfl) (fun a hE => ?_))) rfl
  refine sN 5 8 [(1, .int .i64 ((IntKind.wrap .i64 (x1 - (IntKind.wrap .i64 (((0 : Nat) : Int) - ((0 : Nat) : Int)))))))] hE (fun a hE => ?_)
  refine at_end rfl ?_
  refine wpIn_seq ?_
  refine region_at ?_
  refine sN 2 2 [(16, .bool ((decide ((0 : Int) < (IntKind.wrap .i64 (x1 - (IntKind.wrap .i64 (((0 : Nat) : Int) - ((0 : Nat) : Int)))))))))] hE (fun a hE => ?_)
  refine at_end rfl ?_
  refine cond_split hE (b := (decide ((0 : Int) < (IntKind.wrap .i64 (x1 - (IntKind.wrap .i64 (((0 : Nat) : Int) - ((0 : Nat) : Int)))))))) rfl (fun hb => ?_) (fun hb => ?_)
  ·replace hf := cond_t hb hf
   clear hb
   refine region_at ?_
   refine sN 2 2 [(17, .slice none 0 0), (18, .slice none 0 0)] hE (fun a hE => ?_)
   refine at_op (op_tk hE (tk_capNil rfl rfl rfl rfl hE rfl rfl (by kernel_rfl) (fun a hE => ?_))) rfl
   refine at_op (op_tk hE (tk_sliceNil (e := 5) (sz := 1) (by_ := 1) (zl := 1) rfl rfl rfl rfl hE rfl rfl (by kernel_rfl) rfl ⟨_, rfl⟩ (fun a hE => ?_))) rfl
   refine sN 1 5 [(21, .int .i64 ((IntKind.wrap .i64 (x1 - (IntKind.wrap .i64 (((0 : Nat) : Int) - ((0 : Nat) : Int)))))))] hE (fun a hE => ?_)
   obtain ⟨l37, h38, hf⟩ := bind_some hf
   refine at_op (op_appendZ (K := (kdInt .u8)) (e := 5) (bytes := 1) (z := (0 : Int)) (cz := [.int .u8 ((0 : Int))]) rfl rfl rfl rfl hE rfl hS rfl rfl (by kernel_rfl) (by kernel_rfl) (by kernel_rfl) rfl rfl rfl h38 (fun a A39 c40 q41 w _ hE h42 hS => ?_)) rfl
   refine sN 2 8 [(24, .int .i64 (((0 : Nat) : Int)))] hE (fun a hE => ?_)
   obtain ⟨l44, h45, hf⟩ := bind_some hf
   refine at_op (op_tk hE (op_prefixO (K := (kdInt .u8)) (T := 5) (by_ := 1) (zl := 1) rfl rfl rfl rfl hE rfl rfl (by kernel_rfl) ⟨_, rfl⟩ h42 h45 (fun a hE h46 => ?_))) rfl
   refine sN 1 10 [(0, .slice A39 (List.length (l44)) c40)] hE (fun a hE => ?_)
   refine at_end rfl ?_
   refine wpIn_seq ?_
   refine region_at ?_
   refine sN 2 2 [(4, .slice A39 (List.length (l44)) c40)] hE (fun a hE => ?_)
   refine at_end rfl ?_
   refine wpIn_ret ?_
   obtain rfl := Option.some.inj hf
   repeat (with_reducible first | refine then_ret ?_ | refine block_ret ?_ | refine qx_ret ?_)
   refine ret_gen ([.slice A39 (List.length (l44)) c40]) hE (by rw [show Tryd.f70.results.toList = [.tmp 4] from rfl]; exact ⟨_, _, rfl, rfl, rfl⟩) ?_
   exact ⟨_, rfl, D0, A39, c40, q41, rfl, hS, h46⟩
  ·replace hf := cond_f hb hf
   clear hb
   refine wpIn_skip ?_
   refine wpIn_seq ?_
   refine region_at ?_
   refine sN 2 2 [(4, .slice none 0 0)] hE (fun a hE => ?_)
   refine at_end rfl ?_
   refine wpIn_ret ?_
   have hS := hS.nils
   obtain rfl := Option.some.inj hf
   repeat (with_reducible first | refine then_ret ?_ | refine block_ret ?_ | refine qx_ret ?_)
   refine ret_gen ([.slice none 0 0]) hE (by rw [show Tryd.f70.results.toList = [.tmp 4] from rfl]; exact ⟨_, _, rfl, rfl, rfl⟩) ?_
   exact ⟨_, rfl, D0, none, 0, none, rfl, hS, (OwnD.nil (kdInt .u8) 5 D0)⟩
set_option maxRecDepth 100000 in
set_option maxHeartbeats 4000000 in
theorem slices_Concat_byte_byte.calls {K : Nat} {g w0 : World} {D0 : Snap} {x1 : (List (List Int))} {A2 : Option Addr} {c3 : Nat} {r : ((List Int))} (hf : slices_Concat_byte_byte.f K x1 = some r) (hS0 : St g w0 D0 []) (h4 : Sl (kdSlice (kdInt .u8)) D0 A2 c3 (x1)) :
  CallsIn (Fw none) 0 Tryd.prog 57 (List.toArray [.slice A2 (List.length (x1)) c3]) w0 (fun e w' => ∃ v, e = .returned v ∧ ∃ (D1 : Snap) (A589 : Option Addr) (c590 : Nat) (q591 : Blk), v = .slice A589 (List.length (r)) c590 ∧ Stp g w0 D0 [] w' D1 [q591] ∧ OwnD (kdInt .u8) 5 D1 A589 c590 (r) q591) := by
 unfold slices_Concat_byte_byte.f at hf
 have hS := Stp.refl hS0
 clear hS0
 refine calls_body (n := 36) Tryd.func57 rfl Tryd.ntmps57 rfl (fun a hE => ?_)
 have hE : Env a 36 [] [(0, .slice A2 (List.length (x1)) c3)] := hE
 refine wpIn_seq ?_
 refine region_at ?_
 refine sN 1 1 [(2, .slice none 0 0)] hE (fun a hE => ?_)
 refine at_end rfl ?_
 refine wpIn_seq ?_
 refine region_at ?_
 refine sN 1 1 [(3, .int .i64 ((0 : Int)))] hE (fun a hE => ?_)
 refine at_end rfl ?_
 refine wpIn_seq ?_
 refine wpIn_seq ?_
 refine region_at ?_
 refine sN 3 3 [(9, .slice A2 (List.length (x1)) c3), (10, .int .i64 (((List.length (x1) : Nat) : Int))), (11, .int .i64 ((0 : Int)))] hE (fun a hE => ?_)
 refine at_end rfl ?_
 obtain ⟨s782, hf, hs783⟩ := bind_some hf
 refine block_loop (fun a w => ∃ (z779 : Int), ∃ (D780 : Snap), Env a 36 [] [(0, .slice A2 (List.length (x1)) c3), (3, .int .i64 (z779))] ∧ Stp g w0 D0 [] w D780 [] ∧ Snap.le D0 D780 ∧ z779 = s782) (fun k a w => ∃ (y743 : Int × Int), ∃ (D744 : Snap), Env a 36 [] [(0, .slice A2 (List.length (x1)) c3), (3, .int .i64 (y743.1)), (9, .slice A2 (List.length (x1)) c3), (10, .int .i64 (((List.length (x1) : Nat) : Int))), (11, .int .i64 (y743.2))] ∧ Stp g w0 D0 [] w D744 [] ∧ Snap.le D0 D744 ∧ slices_Concat_byte_byte_l1.l K x1 k y743 = some s782) K ?_ ?_ ?_
 ·exact ⟨((0 : Int), (0 : Int)), D0, hE.weak (by kernel_rfl), hS, Snap.le.refl _, hf⟩
 ·clear hE hS hf
  rintro a w ⟨z779, D780, hE, hS, le781, rfl⟩
  have hf := hs783
  clear hs783
  refine wpIn_seq ?_
  refine region_at ?_
  refine sN 1 1 [(23, .int .i64 (z779))] hE (fun a hE => ?_)
  obtain ⟨r814, h815, hf⟩ := bind_some hf
  refine aC rfl rfl rfl rfl hE rfl rfl rfl rfl (slices_Grow_byte_byte.calls (g := g) h815 (hS.st.fore (L := [])) ) (fun a v w hR hE => ?_)
  obtain ⟨D816, A818, c819, q820, rfl, hS1, h821⟩ := hR
  have le823 := hS1.dle
  have hS := hS.callR hS1 rfl (.c .n)
  clear hS1
  refine sN 1 3 [(6, .slice A818 (List.length (r814)) c819)] hE (fun a hE => ?_)
  refine at_end rfl ?_
  refine wpIn_seq ?_
  refine wpIn_seq ?_
  refine region_at ?_
  refine sN 3 3 [(25, .slice A2 (List.length (x1)) c3), (26, .int .i64 (((List.length (x1) : Nat) : Int))), (27, .int .i64 ((0 : Int)))] hE (fun a hE => ?_)
  refine at_end rfl ?_
  obtain ⟨s1132, hf, hs1133⟩ := bind_some hf
  refine block_loop (fun a w => ∃ (z1124 : (List Int)), ∃ (A1127 : Option Addr), ∃ (c1128 : Nat), ∃ (q1129 : Blk), ∃ (D1125 : Snap), Env a 36 [] [(6, .slice A1127 (List.length (z1124)) c1128)] ∧ Stp g w0 D0 [] w D1125 [q1129] ∧ Snap.le D816 D1125 ∧ OwnD (kdInt .u8) 5 D1125 A1127 c1128 (z1124) q1129 ∧ z1124 = s1132) (fun k a w => ∃ (y1064 : (List Int) × Int), ∃ (A1067 : Option Addr), ∃ (c1068 : Nat), ∃ (q1069 : Blk), ∃ (D1065 : Snap), Env a 36 [] [(6, .slice A1067 (List.length (y1064.1)) c1068), (25, .slice A2 (List.length (x1)) c3), (26, .int .i64 (((List.length (x1) : Nat) : Int))), (27, .int .i64 (y1064.2))] ∧ Stp g w0 D0 [] w D1065 [q1069] ∧ Snap.le D816 D1065 ∧ OwnD (kdInt .u8) 5 D1065 A1067 c1068 (y1064.1) q1069 ∧ slices_Concat_byte_byte_l2.l K x1 k y1064 = some s1132) K ?_ ?_ ?_
  ·exact ⟨(r814, (0 : Int)), A818, c819, q820, D816, hE.weak (by kernel_rfl), hS, Snap.le.refl _, h821, hf⟩
  ·clear hE hS hf
   rintro a w ⟨z1124, A1127, c1128, q1129, D1125, hE, hS, le1126, h1130, rfl⟩
   have hf := hs1133
   clear hs1133
   refine wpIn_seq ?_
   refine region_at ?_
   refine sN 2 2 [(2, .slice A1127 (List.length (z1124)) c1128)] hE (fun a hE => ?_)
   refine at_end rfl ?_
   refine wpIn_ret ?_
   obtain rfl := Option.some.inj hf
   repeat (with_reducible first | refine then_ret ?_ | refine block_ret ?_ | refine qx_ret ?_)
   refine ret_gen ([.slice A1127 (List.length (z1124)) c1128]) hE (by rw [show Tryd.f57.results.toList = [.tmp 2] from rfl]; exact ⟨_, _, rfl, rfl, rfl⟩) ?_
   exact ⟨_, rfl, D1125, A1127, c1128, q1129, rfl, hS, h1130⟩
  ·clear hE hS hf
   rintro k a w ⟨y1064, A1067, c1068, q1069, D1065, hE, hS, le1066, h1070, hf⟩
   obtain ⟨k, rfl, hf⟩ := slices_Concat_byte_byte_l2.some _ hf
   refine ⟨k, rfl, ?_⟩
   unfold slices_Concat_byte_byte_l2.b at hf
   refine wpIn_seq ?_
   refine region_at ?_
   refine sN 1 1 [(28, .bool ((decide (y1064.2 < ((List.length (x1) : Nat) : Int)))))] hE (fun a hE => ?_)
   refine at_end rfl ?_
   refine wpIn_seq ?_
   refine cond_split hE (b := (decide (y1064.2 < ((List.length (x1) : Nat) : Int)))) rfl (fun hb => ?_) (fun hb => ?_)
   ·replace hf := cond_t hb hf
    clear hb
    refine wpIn_skip ?_
    refine wpIn_seq ?_
    refine wpIn_block ?_
    refine wpIn_seq ?_
    refine region_at ?_
    obtain ⟨x1156, h1157, hf⟩ := bind_some hf
    refine at_op (op_tk hE (g_index (K := (kdSlice (kdInt .u8))) (e := 33) (by_ := 24) (zl := 1) rfl rfl rfl rfl hE rfl rfl rfl (by kernel_rfl) rfl (h4.mono (le2 (le2 le781 le823) le1066)) h1157 (fun a b1158 o1159 hE h1160 => ?_))) rfl
    obtain ⟨cs1161, C1162, T1163, fr1164, hr1165, hb1166, hc1167⟩ := h1160
    obtain ⟨A1168, c1169, rfl, h1170⟩ := hr1165
    refine at_op (op_tk hE (tk_loadX (off0 := o1159) (off := 0) (c := [.slice A1168 (List.length (x1156)) c1169]) (.slice A1168 (List.length (x1156)) c1169) rfl rfl rfl rfl hE rfl hS rfl hb1166 hc1167 (by kernel_rfl) (by kernel_rfl) (kD hS dn_nil) (fun a hE => ?_))) rfl
    refine sN 1 3 [(8, .slice A1168 (List.length (x1156)) c1169)] hE (fun a hE => ?_)
    refine at_end rfl ?_
    refine region_at ?_
    refine sN 2 2 [(31, .slice A1067 (List.length (y1064.1)) c1068), (32, .slice A1168 (List.length (x1156)) c1169)] hE (fun a hE => ?_)
    obtain ⟨l1171, h1172, hf⟩ := bind_some hf
    refine at_op (g_append (K := (kdInt .u8)) (e := 5) (bytes := 1) (l := y1064.1) (m := x1156) rfl rfl rfl rfl hE rfl hS rfl rfl (by kernel_rfl) rfl rfl h1070 h1170 h1172 (fun a A1173 c1174 q1175 w _ hE h1176 hS => ?_)) rfl
    refine sN 1 4 [(6, .slice A1173 (List.length (l1171)) c1174)] hE (fun a hE => ?_)
    refine at_end rfl ?_
    refine region_at ?_
    refine sN 2 2 [(27, .int .i64 ((IntKind.wrap .i64 (y1064.2 + (1 : Int)))))] hE (fun a hE => ?_)
    refine at_end rfl ?_
    exact ⟨(l1171, (IntKind.wrap .i64 (y1064.2 + (1 : Int)))), A1173, c1174, q1175, D1065, hE.weak (by kernel_rfl), hS, le1066, h1176, hf⟩
   ·replace hf := cond_f hb hf
    clear hb
    refine wpIn_exit ?_
    obtain rfl := Option.some.inj hf
    exact ⟨y1064.1, A1067, c1068, q1069, D1065, hE.weak (by kernel_rfl), hS, le1066, h1070, rfl⟩
 ·clear hE hS hf
  rintro k a w ⟨y743, D744, hE, hS, le745, hf⟩
  obtain ⟨k, rfl, hf⟩ := slices_Concat_byte_byte_l1.some _ hf
  refine ⟨k, rfl, ?_⟩
  unfold slices_Concat_byte_byte_l1.b at hf
  refine wpIn_seq ?_
  refine region_at ?_
  refine sN 1 1 [(12, .bool ((decide (y743.2 < ((List.length (x1) : Nat) : Int)))))] hE (fun a hE => ?_)
  refine at_end rfl ?_
  refine wpIn_seq ?_
  refine cond_split hE (b := (decide (y743.2 < ((List.length (x1) : Nat) : Int)))) rfl (fun hb => ?_) (fun hb => ?_)
  ·replace hf := cond_t hb hf
   clear hb
   refine wpIn_skip ?_
   refine wpIn_seq ?_
   refine wpIn_block ?_
   refine wpIn_seq ?_
   refine region_at ?_
   obtain ⟨x799, h800, hf⟩ := bind_some hf
   refine at_op (op_tk hE (g_index (K := (kdSlice (kdInt .u8))) (e := 33) (by_ := 24) (zl := 1) rfl rfl rfl rfl hE rfl rfl rfl (by kernel_rfl) rfl (h4.mono le745) h800 (fun a b801 o802 hE h803 => ?_))) rfl
   obtain ⟨cs804, C805, T806, fr807, hr808, hb809, hc810⟩ := h803
   obtain ⟨A811, c812, rfl, h813⟩ := hr808
   refine at_op (op_tk hE (tk_loadX (off0 := o802) (off := 0) (c := [.slice A811 (List.length (x799)) c812]) (.slice A811 (List.length (x799)) c812) rfl rfl rfl rfl hE rfl hS rfl hb809 hc810 (by kernel_rfl) (by kernel_rfl) (kD hS dn_nil) (fun a hE => ?_))) rfl
   refine sN 1 3 [(5, .slice A811 (List.length (x799)) c812)] hE (fun a hE => ?_)
   refine at_end rfl ?_
   refine wpIn_seq ?_
   refine region_at ?_
   refine sN 5 5 [(3, .int .i64 ((IntKind.wrap .i64 (y743.1 + ((List.length (x799) : Nat) : Int)))))] hE (fun a hE => ?_)
   refine at_end rfl ?_
   refine wpIn_seq ?_
   refine region_at ?_
   refine sN 2 2 [(20, .bool ((decide ((IntKind.wrap .i64 (y743.1 + ((List.length (x799) : Nat) : Int))) < (0 : Int)))))] hE (fun a hE => ?_)
   refine at_end rfl ?_
   refine cond_split hE (b := (decide ((IntKind.wrap .i64 (y743.1 + ((List.length (x799) : Nat) : Int))) < (0 : Int)))) rfl (fun hb => ?_) (fun hb => ?_)
   ·replace hf := cond_t hb hf
    clear hb
    refine region_at ?_
    cases hf
   ·replace hf := cond_f hb hf
    clear hb
    refine wpIn_skip ?_
    refine region_at ?_
    refine sN 2 2 [(11, .int .i64 ((IntKind.wrap .i64 (y743.2 + (1 : Int)))))] hE (fun a hE => ?_)
    refine at_end rfl ?_
    exact ⟨((IntKind.wrap .i64 (y743.1 + ((List.length (x799) : Nat) : Int))), (IntKind.wrap .i64 (y743.2 + (1 : Int)))), D744, hE.weak (by kernel_rfl), hS, le745, hf⟩
  ·replace hf := cond_f hb hf
   clear hb
   refine wpIn_exit ?_
   obtain rfl := Option.some.inj hf
   exact ⟨y743.1, D744, hE.weak (by kernel_rfl), hS, le745, rfl⟩
set_option maxRecDepth 100000 in
set_option maxHeartbeats 4000000 in
theorem mac_Of_1.calls {K : Nat} {g w0 : World} {D0 : Snap} {x1 : (List Int)} {A2 : Option Addr} {c3 : Nat} {r : ((List Int))} (hf : mac_Of_1.f K x1 = some r) (hS0 : St g w0 D0 []) (h4 : Sl (kdInt .u8) D0 A2 c3 (x1)) :
  CallsIn (Fw none) 0 Tryd.prog 60 (List.toArray [.slice A2 (List.length (x1)) c3]) w0 (fun e w' => ∃ v, e = .returned v ∧ ∃ (D1 : Snap) (A39 : Option Addr) (c40 : Nat) (q41 : Blk), v = .slice A39 (List.length (r)) c40 ∧ Stp g w0 D0 [] w' D1 [q41] ∧ OwnD (kdInt .u8) 5 D1 A39 c40 (r) q41) := by
 unfold mac_Of_1.f at hf
 have hS := Stp.refl hS0
 clear hS0
 refine calls_body (n := 10) Tryd.func60 rfl Tryd.ntmps60 rfl (fun a hE => ?_)
 have hE : Env a 10 [] [(0, .slice A2 (List.length (x1)) c3)] := hE
 refine wpIn_seq ?_
 refine region_at ?_
 refine sN 1 1 [(2, .slice none 0 0)] hE (fun a hE => ?_)
 refine at_end rfl ?_
 refine wpIn_seq ?_
 refine region_at ?_
 refine sN 3 3 [(5, .int .u64 ((IntKind.wrap .u64 ((List.length (x1) : Nat) : Int))))] hE (fun a hE => ?_)
 obtain ⟨r44, h45, hf⟩ := bind_some hf
 refine aC rfl rfl rfl rfl hE rfl rfl rfl rfl (mac_row.calls (g := g) h45 (hS.st.fore (L := [])) ) (fun a v w hR hE => ?_)
 obtain ⟨D46, A48, c49, q50, rfl, hS1, h51⟩ := hR
 have le53 := hS1.dle
 have hS := hS.callR hS1 rfl (.c .n)
 clear hS1
 refine sN 1 5 [(7, .slice A2 (List.length (x1)) c3)] hE (fun a hE => ?_)
 obtain ⟨D54, q57, le55, hS, h58, h56⟩ := hS.lent h51
 refine at_op (op_buildSlice (K := (kdSlice (kdInt .u8))) (e := 33) (cs := [.slice A48 (List.length (r44)) c49] ++ ([.slice A2 (List.length (x1)) c3] ++ [])) ([r44, x1] : List (List Int)) rfl rfl rfl rfl hE rfl hS rfl (by kernel_rfl) rfl rfl (by exact (show RL (kdSlice (kdInt .u8)) D54 ([r44, x1] : List (List Int)) ([.slice A48 (List.length (r44)) c49] ++ ([.slice A2 (List.length (x1)) c3] ++ [])) from ⟨_, _, rfl, (kslice h56), ⟨_, _, rfl, (kslice (h4.mono (le2 le53 le55))), rfl⟩⟩)) (fun a A59 q60 w _ hE h61 hS => ?_)) rfl
 obtain ⟨D63, q66, le64, hS, h67, h65⟩ := hS.lent h61
 obtain ⟨r68, h69, hf⟩ := bind_some hf
 refine aC rfl rfl rfl rfl hE rfl rfl rfl rfl (slices_Concat_byte_byte.calls (g := g) h69 (hS.st.fore (L := [])) h65) (fun a v w hR hE => ?_)
 obtain ⟨D70, A72, c73, q74, rfl, hS1, h75⟩ := hR
 have le77 := hS1.dle
 have hS := hS.callR hS1 rfl (.c .n)
 clear hS1
 refine sN 1 8 [(2, .slice A72 (List.length (r68)) c73)] hE (fun a hE => ?_)
 refine at_end rfl ?_
 refine wpIn_ret ?_
 obtain rfl := Option.some.inj hf
 repeat (with_reducible first | refine then_ret ?_ | refine block_ret ?_ | refine qx_ret ?_)
 refine ret_gen ([.slice A72 (List.length (r68)) c73]) hE (by rw [show Tryd.f60.results.toList = [.tmp 2] from rfl]; exact ⟨_, _, rfl, rfl, rfl⟩) ?_
 have hS := hS.pk (.c 0 rfl .n) rfl
 exact ⟨_, rfl, D70, A72, c73, q74, rfl, hS, h75⟩
set_option maxRecDepth 100000 in
set_option maxHeartbeats 4000000 in
theorem mac_joined_byte.calls {K : Nat} {g w0 : World} {D0 : Snap} {x1 : (List (List Int))} {A2 : Option Addr} {c3 : Nat} {r : ((List Int))} (hf : mac_joined_byte.f K x1 = some r) (hS0 : St g w0 D0 []) (h4 : Sl (kdSlice (kdInt .u8)) D0 A2 c3 (x1)) :
  CallsIn (Fw none) 0 Tryd.prog 59 (List.toArray [.slice A2 (List.length (x1)) c3, .func (.func 60) #[] #[]]) w0 (fun e w' => ∃ v, e = .returned v ∧ ∃ (D1 : Snap) (A541 : Option Addr) (c542 : Nat) (q543 : Blk), v = .slice A541 (List.length (r)) c542 ∧ Stp g w0 D0 [] w' D1 [q543] ∧ OwnD (kdInt .u8) 5 D1 A541 c542 (r) q543) := by
 unfold mac_joined_byte.f at hf
 have hS := Stp.refl hS0
 clear hS0
 refine calls_body (n := 21) Tryd.func59 rfl Tryd.ntmps59 rfl (fun a hE => ?_)
 have hE : Env a 21 [] [(0, .slice A2 (List.length (x1)) c3), (1, .func (.func 60) #[] #[])] := hE
 refine wpIn_seq ?_
 refine region_at ?_
 refine sN 1 1 [(4, .slice none 0 0)] hE (fun a hE => ?_)
 refine at_end rfl ?_
 refine wpIn_seq ?_
 refine region_at ?_
 refine sN 1 1 [(5, .slice none 0 0)] hE (fun a hE => ?_)
 refine at_end rfl ?_
 refine wpIn_seq ?_
 refine wpIn_seq ?_
 refine region_at ?_
 refine sN 3 3 [(8, .slice A2 (List.length (x1)) c3), (9, .int .i64 (((List.length (x1) : Nat) : Int))), (10, .int .i64 ((0 : Int)))] hE (fun a hE => ?_)
 refine at_end rfl ?_
 obtain ⟨s1005, hf, hs1006⟩ := bind_some hf
 have hS := hS.nils
 refine block_loop (fun a w => ∃ (z997 : (List Int)), ∃ (A1000 : Option Addr), ∃ (c1001 : Nat), ∃ (q1002 : Blk), ∃ (D998 : Snap), Env a 21 [] [(5, .slice A1000 (List.length (z997)) c1001)] ∧ Stp g w0 D0 [] w D998 [q1002] ∧ Snap.le D0 D998 ∧ OwnD (kdInt .u8) 5 D998 A1000 c1001 (z997) q1002 ∧ z997 = s1005) (fun k a w => ∃ (y907 : (List Int) × Int), ∃ (A910 : Option Addr), ∃ (c911 : Nat), ∃ (q912 : Blk), ∃ (D908 : Snap), Env a 21 [] [(1, .func (.func 60) #[] #[]), (5, .slice A910 (List.length (y907.1)) c911), (8, .slice A2 (List.length (x1)) c3), (9, .int .i64 (((List.length (x1) : Nat) : Int))), (10, .int .i64 (y907.2))] ∧ Stp g w0 D0 [] w D908 [q912] ∧ Snap.le D0 D908 ∧ OwnD (kdInt .u8) 5 D908 A910 c911 (y907.1) q912 ∧ mac_joined_byte_l1.l K x1 k y907 = some s1005) K ?_ ?_ ?_
 ·exact ⟨(([] : List Int), (0 : Int)), none, 0, none, D0, hE.weak (by kernel_rfl), hS, Snap.le.refl _, (OwnD.nil (kdInt .u8) 5 D0), hf⟩
 ·clear hE hS hf
  rintro a w ⟨z997, A1000, c1001, q1002, D998, hE, hS, le999, h1003, rfl⟩
  have hf := hs1006
  clear hs1006
  refine wpIn_seq ?_
  refine region_at ?_
  refine sN 2 2 [(4, .slice A1000 (List.length (z997)) c1001)] hE (fun a hE => ?_)
  refine at_end rfl ?_
  refine wpIn_ret ?_
  obtain rfl := Option.some.inj hf
  repeat (with_reducible first | refine then_ret ?_ | refine block_ret ?_ | refine qx_ret ?_)
  refine ret_gen ([.slice A1000 (List.length (z997)) c1001]) hE (by rw [show Tryd.f59.results.toList = [.tmp 4] from rfl]; exact ⟨_, _, rfl, rfl, rfl⟩) ?_
  exact ⟨_, rfl, D998, A1000, c1001, q1002, rfl, hS, h1003⟩
 ·clear hE hS hf
  rintro k a w ⟨y907, A910, c911, q912, D908, hE, hS, le909, h913, hf⟩
  obtain ⟨k, rfl, hf⟩ := mac_joined_byte_l1.some _ hf
  refine ⟨k, rfl, ?_⟩
  unfold mac_joined_byte_l1.b at hf
  refine wpIn_seq ?_
  refine region_at ?_
  refine sN 1 1 [(11, .bool ((decide (y907.2 < ((List.length (x1) : Nat) : Int)))))] hE (fun a hE => ?_)
  refine at_end rfl ?_
  refine wpIn_seq ?_
  refine cond_split hE (b := (decide (y907.2 < ((List.length (x1) : Nat) : Int)))) rfl (fun hb => ?_) (fun hb => ?_)
  ·replace hf := cond_t hb hf
   clear hb
   refine wpIn_skip ?_
   refine wpIn_seq ?_
   refine wpIn_block ?_
   refine wpIn_seq ?_
   refine region_at ?_
   obtain ⟨x1044, h1045, hf⟩ := bind_some hf
   refine at_op (op_tk hE (g_index (K := (kdSlice (kdInt .u8))) (e := 33) (by_ := 24) (zl := 1) rfl rfl rfl rfl hE rfl rfl rfl (by kernel_rfl) rfl (h4.mono le909) h1045 (fun a b1046 o1047 hE h1048 => ?_))) rfl
   obtain ⟨cs1049, C1050, T1051, fr1052, hr1053, hb1054, hc1055⟩ := h1048
   obtain ⟨A1056, c1057, rfl, h1058⟩ := hr1053
   refine at_op (op_tk hE (tk_loadX (off0 := o1047) (off := 0) (c := [.slice A1056 (List.length (x1044)) c1057]) (.slice A1056 (List.length (x1044)) c1057) rfl rfl rfl rfl hE rfl hS rfl hb1054 hc1055 (by kernel_rfl) (by kernel_rfl) (kD hS dn_nil) (fun a hE => ?_))) rfl
   refine sN 1 3 [(7, .slice A1056 (List.length (x1044)) c1057)] hE (fun a hE => ?_)
   refine at_end rfl ?_
   refine region_at ?_
   refine sN 3 3 [(14, .slice A910 (List.length (y907.1)) c911), (15, .func (.func 60) #[] #[]), (16, .slice A1056 (List.length (x1044)) c1057)] hE (fun a hE => ?_)
   obtain ⟨r1059, h1060, hf⟩ := bind_some hf
   refine aC rfl rfl rfl rfl hE rfl rfl rfl rfl (mac_Of_1.calls (g := g) h1060 (hS.st.fore (L := [])) h1058) (fun a v w hR hE => ?_)
   obtain ⟨D1061, A1063, c1064, q1065, rfl, hS1, h1066⟩ := hR
   have le1068 := hS1.dle
   have hS := hS.callR hS1 rfl (.c .n)
   clear hS1
   obtain ⟨D1069, q1072, le1070, hS, h1073, h1071⟩ := hS.lent h1066
   have hS := hS.pk (.c 1 rfl (.c 0 rfl .n)) rfl
   obtain ⟨l1074, h1075, hf⟩ := bind_some hf
   refine at_op (g_append (K := (kdInt .u8)) (e := 5) (bytes := 1) (l := y907.1) (m := r1059) rfl rfl rfl rfl hE rfl hS rfl rfl (by kernel_rfl) rfl rfl (h913.mono (le2 le1068 le1070)) h1071 h1075 (fun a A1076 c1077 q1078 w _ hE h1079 hS => ?_)) rfl
   refine sN 1 6 [(5, .slice A1076 (List.length (l1074)) c1077)] hE (fun a hE => ?_)
   refine at_end rfl ?_
   refine region_at ?_
   refine sN 2 2 [(10, .int .i64 ((IntKind.wrap .i64 (y907.2 + (1 : Int)))))] hE (fun a hE => ?_)
   refine at_end rfl ?_
   have hS := hS.pk (.c 0 rfl .n) rfl
   exact ⟨(l1074, (IntKind.wrap .i64 (y907.2 + (1 : Int)))), A1076, c1077, q1078, D1069, hE.weak (by kernel_rfl), hS, (le2 (le2 le909 le1068) le1070), h1079, hf⟩
  ·replace hf := cond_f hb hf
   clear hb
   refine wpIn_exit ?_
   obtain rfl := Option.some.inj hf
   exact ⟨y907.1, A910, c911, q912, D908, hE.weak (by kernel_rfl), hS, le909, h913, rfl⟩
set_option maxRecDepth 100000 in
set_option maxHeartbeats 4000000 in
theorem sha_Fill.calls {K : Nat} {g w0 : World} {D0 : Snap} {x1 : Int} {r : ((List Int))} (hf : sha_Fill.f K x1 = some r) (hS0 : St g w0 D0 []) :
  CallsIn (Fw none) 0 Tryd.prog 72 (List.toArray [.int .i64 (x1)]) w0 (fun e w' => ∃ v, e = .returned v ∧ ∃ (D1 : Snap) (A486 : Option Addr) (c487 : Nat) (q488 : Blk), v = .slice A486 (List.length (r)) c487 ∧ Stp g w0 D0 [] w' D1 [q488] ∧ OwnD (kdInt .u8) 5 D1 A486 c487 (r) q488) := by
 unfold sha_Fill.f at hf
 have hS := Stp.refl hS0
 clear hS0
 refine calls_body (n := 34) Tryd.func72 rfl Tryd.ntmps72 rfl (fun a hE => ?_)
 have hE : Env a 34 [] [(0, .int .i64 (x1))] := hE
 refine wpIn_seq ?_
 refine region_at ?_
 refine sN 1 1 [(2, .slice none 0 0)] hE (fun a hE => ?_)
 refine at_end rfl ?_
 refine wpIn_seq ?_
 refine wpIn_seq ?_
 refine region_at ?_
 refine sN 2 2 [(7, .bool ((decide (x1 < (0 : Int)))))] hE (fun a hE => ?_)
 refine at_end rfl ?_
 refine cond_split hE (b := (decide (x1 < (0 : Int)))) rfl (fun hb => ?_) (fun hb => ?_)
 ·replace hf := cond_t hb hf
  clear hb
  refine wpIn_seq ?_
  refine region_at ?_
  refine sN 1 1 [(2, .slice none 0 0)] hE (fun a hE => ?_)
  refine at_end rfl ?_
  refine wpIn_ret ?_
  have hS := hS.nils
  obtain rfl := Option.some.inj hf
  repeat (with_reducible first | refine then_ret ?_ | refine block_ret ?_ | refine qx_ret ?_)
  refine ret_gen ([.slice none 0 0]) hE (by rw [show Tryd.f72.results.toList = [.tmp 2] from rfl]; exact ⟨_, _, rfl, rfl, rfl⟩) ?_
  exact ⟨_, rfl, D0, none, 0, none, rfl, hS, (OwnD.nil (kdInt .u8) 5 D0)⟩
 ·replace hf := cond_f hb hf
  clear hb
  refine wpIn_skip ?_
  refine wpIn_seq ?_
  refine region_at ?_
  refine at_op (op_buildSlice (K := (kdInt .u8)) (e := 5) (cs := [.int .u8 ((128 : Int))] ++ []) ([(128 : Int)] : List Int) rfl rfl rfl rfl hE rfl hS rfl (by kernel_rfl) rfl rfl (by exact (show RL (kdInt .u8) D0 ([(128 : Int)] : List Int) ([.int .u8 ((128 : Int))] ++ []) from ⟨_, _, rfl, rfl, rfl⟩)) (fun a A492 q493 w _ hE h494 hS => ?_)) rfl
  refine sN 1 2 [(3, .slice A492 (List.length (([(128 : Int)] : List Int))) 1)] hE (fun a hE => ?_)
  refine at_end rfl ?_
  refine wpIn_seq ?_
  obtain ⟨s664, hf, hs665⟩ := bind_some hf
  refine block_loop (fun a w => ∃ (z656 : (List Int)), ∃ (A659 : Option Addr), ∃ (c660 : Nat), ∃ (q661 : Blk), ∃ (D657 : Snap), Env a 34 [] [(0, .int .i64 (x1)), (3, .slice A659 (List.length (z656)) c660)] ∧ Stp g w0 D0 [] w D657 [q661] ∧ Snap.le D0 D657 ∧ OwnD (kdInt .u8) 5 D657 A659 c660 (z656) q661 ∧ z656 = s664) (fun k a w => ∃ (y624 : (List Int)), ∃ (A627 : Option Addr), ∃ (c628 : Nat), ∃ (q629 : Blk), ∃ (D625 : Snap), Env a 34 [] [(0, .int .i64 (x1)), (3, .slice A627 (List.length (y624)) c628)] ∧ Stp g w0 D0 [] w D625 [q629] ∧ Snap.le D0 D625 ∧ OwnD (kdInt .u8) 5 D625 A627 c628 (y624) q629 ∧ sha_Fill_l1.l K x1 k y624 = some s664) K ?_ ?_ ?_
  ·exact ⟨([(128 : Int)] : List Int), A492, 1, q493, D0, hE.weak (by kernel_rfl), hS, Snap.le.refl _, h494, hf⟩
  ·clear hE hS hf
   rintro a w ⟨z656, A659, c660, q661, D657, hE, hS, le658, h662, rfl⟩
   have hf := hs665
   clear hs665
   refine wpIn_seq ?_
   refine region_at ?_
   refine sN 4 4 [(4, .int .u64 ((IntKind.wrap .u64 ((IntKind.wrap .u64 x1) * (8 : Int)))))] hE (fun a hE => ?_)
   refine at_end rfl ?_
   refine wpIn_seq ?_
   refine wpIn_seq ?_
   refine region_at ?_
   refine sN 1 1 [(5, .int .i64 ((7 : Int)))] hE (fun a hE => ?_)
   refine at_end rfl ?_
   obtain ⟨s940, hf, hs941⟩ := bind_some hf
   refine block_loop (fun a w => ∃ (z932 : (List Int)), ∃ (A935 : Option Addr), ∃ (c936 : Nat), ∃ (q937 : Blk), ∃ (D933 : Snap), Env a 34 [] [(3, .slice A935 (List.length (z932)) c936)] ∧ Stp g w0 D0 [] w D933 [q937] ∧ Snap.le D657 D933 ∧ OwnD (kdInt .u8) 5 D933 A935 c936 (z932) q937 ∧ z932 = s940) (fun k a w => ∃ (y882 : (List Int) × Int), ∃ (A885 : Option Addr), ∃ (c886 : Nat), ∃ (q887 : Blk), ∃ (D883 : Snap), Env a 34 [] [(3, .slice A885 (List.length (y882.1)) c886), (4, .int .u64 ((IntKind.wrap .u64 ((IntKind.wrap .u64 x1) * (8 : Int))))), (5, .int .i64 (y882.2))] ∧ Stp g w0 D0 [] w D883 [q887] ∧ Snap.le D657 D883 ∧ OwnD (kdInt .u8) 5 D883 A885 c886 (y882.1) q887 ∧ sha_Fill_l2.l K x1 k y882 = some s940) K ?_ ?_ ?_
   ·exact ⟨(z656, (7 : Int)), A659, c660, q661, D657, hE.weak (by kernel_rfl), hS, Snap.le.refl _, h662, hf⟩
   ·clear hE hS hf
    rintro a w ⟨z932, A935, c936, q937, D933, hE, hS, le934, h938, rfl⟩
    have hf := hs941
    clear hs941
    refine wpIn_seq ?_
    refine region_at ?_
    refine sN 2 2 [(2, .slice A935 (List.length (z932)) c936)] hE (fun a hE => ?_)
    refine at_end rfl ?_
    refine wpIn_ret ?_
    obtain rfl := Option.some.inj hf
    repeat (with_reducible first | refine then_ret ?_ | refine block_ret ?_ | refine qx_ret ?_)
    refine ret_gen ([.slice A935 (List.length (z932)) c936]) hE (by rw [show Tryd.f72.results.toList = [.tmp 2] from rfl]; exact ⟨_, _, rfl, rfl, rfl⟩) ?_
    exact ⟨_, rfl, D933, A935, c936, q937, rfl, hS, h938⟩
   ·clear hE hS hf
    rintro k a w ⟨y882, A885, c886, q887, D883, hE, hS, le884, h888, hf⟩
    obtain ⟨k, rfl, hf⟩ := sha_Fill_l2.some _ hf
    refine ⟨k, rfl, ?_⟩
    unfold sha_Fill_l2.b at hf
    refine wpIn_seq ?_
    refine wpIn_seq ?_
    refine region_at ?_
    refine sN 2 2 [(22, .bool ((decide ((0 : Int) ≤ y882.2))))] hE (fun a hE => ?_)
    refine at_end rfl ?_
    refine cond_split hE (b := (decide ((0 : Int) ≤ y882.2))) rfl (fun hb => ?_) (fun hb => ?_)
    ·replace hf := cond_t hb hf
     clear hb
     refine wpIn_skip ?_
     refine wpIn_seq ?_
     refine wpIn_block ?_
     refine region_at ?_
     refine sN 4 4 [(25, .slice A885 (List.length (y882.1)) c886), (26, .int .u64 ((IntKind.wrap .u64 ((IntKind.wrap .u64 x1) * (8 : Int))))), (28, .int .i64 ((IntKind.wrap .i64 ((8 : Int) * y882.2))))] hE (fun a hE => ?_)
     obtain ⟨hq959, hf⟩ := chk_not hf
     refine at_op (op_tk hE (tk_bin (r := .int .u64 ((Int.fdiv (IntKind.wrap .u64 ((IntKind.wrap .u64 x1) * (8 : Int))) (2 ^ (min (Int.toNat (IntKind.wrap .i64 ((8 : Int) * y882.2))) 64))))) rfl rfl rfl rfl hE rfl rfl rfl (shr_run hq959) (fun a hE => ?_))) rfl
     refine sN 1 6 [(30, .int .u8 ((IntKind.wrap .u8 (Int.fdiv (IntKind.wrap .u64 ((IntKind.wrap .u64 x1) * (8 : Int))) (2 ^ (min (Int.toNat (IntKind.wrap .i64 ((8 : Int) * y882.2))) 64))))))] hE (fun a hE => ?_)
     refine at_op (op_buildSlice (K := (kdInt .u8)) (e := 5) (cs := [.int .u8 ((IntKind.wrap .u8 (Int.fdiv (IntKind.wrap .u64 ((IntKind.wrap .u64 x1) * (8 : Int))) (2 ^ (min (Int.toNat (IntKind.wrap .i64 ((8 : Int) * y882.2))) 64)))))] ++ []) ([(IntKind.wrap .u8 (Int.fdiv (IntKind.wrap .u64 ((IntKind.wrap .u64 x1) * (8 : Int))) (2 ^ (min (Int.toNat (IntKind.wrap .i64 ((8 : Int) * y882.2))) 64))))] : List Int) rfl rfl rfl rfl hE rfl hS rfl (by kernel_rfl) rfl rfl (by exact (show RL (kdInt .u8) D883 ([(IntKind.wrap .u8 (Int.fdiv (IntKind.wrap .u64 ((IntKind.wrap .u64 x1) * (8 : Int))) (2 ^ (min (Int.toNat (IntKind.wrap .i64 ((8 : Int) * y882.2))) 64))))] : List Int) ([.int .u8 ((IntKind.wrap .u8 (Int.fdiv (IntKind.wrap .u64 ((IntKind.wrap .u64 x1) * (8 : Int))) (2 ^ (min (Int.toNat (IntKind.wrap .i64 ((8 : Int) * y882.2))) 64)))))] ++ []) from ⟨_, _, rfl, rfl, rfl⟩)) (fun a A960 q961 w _ hE h962 hS => ?_)) rfl
     obtain ⟨D964, q967, le965, hS, h968, h966⟩ := hS.lent h962
     have hS := hS.pk (.c 1 rfl (.c 0 rfl .n)) rfl
     obtain ⟨l969, h970, hf⟩ := bind_some hf
     refine at_op (g_append (K := (kdInt .u8)) (e := 5) (bytes := 1) (l := y882.1) (m := ([(IntKind.wrap .u8 (Int.fdiv (IntKind.wrap .u64 ((IntKind.wrap .u64 x1) * (8 : Int))) (2 ^ (min (Int.toNat (IntKind.wrap .i64 ((8 : Int) * y882.2))) 64))))] : List Int)) rfl rfl rfl rfl hE rfl hS rfl rfl (by kernel_rfl) rfl rfl (h888.mono le965) h966 h970 (fun a A971 c972 q973 w _ hE h974 hS => ?_)) rfl
     refine sN 1 9 [(3, .slice A971 (List.length (l969)) c972)] hE (fun a hE => ?_)
     refine at_end rfl ?_
     refine region_at ?_
     refine sN 3 3 [(5, .int .i64 ((IntKind.wrap .i64 (y882.2 - (1 : Int)))))] hE (fun a hE => ?_)
     refine at_end rfl ?_
     have hS := hS.pk (.c 0 rfl .n) rfl
     exact ⟨(l969, (IntKind.wrap .i64 (y882.2 - (1 : Int)))), A971, c972, q973, D964, hE.weak (by kernel_rfl), hS, (le2 le884 le965), h974, hf⟩
    ·replace hf := cond_f hb hf
     clear hb
     refine wpIn_exit ?_
     obtain rfl := Option.some.inj hf
     exact ⟨y882.1, A885, c886, q887, D883, hE.weak (by kernel_rfl), hS, le884, h888, rfl⟩
  ·clear hE hS hf
   rintro k a w ⟨y624, A627, c628, q629, D625, hE, hS, le626, h630, hf⟩
   obtain ⟨k, rfl, hf⟩ := sha_Fill_l1.some _ hf
   refine ⟨k, rfl, ?_⟩
   unfold sha_Fill_l1.b at hf
   refine wpIn_seq ?_
   refine wpIn_seq ?_
   refine region_at ?_
   refine sN 6 6 [(14, .bool ((!decide ((Int.tmod (IntKind.wrap .i64 (x1 + ((List.length (y624) : Nat) : Int))) 64) = (56 : Int)))))] hE (fun a hE => ?_)
   refine at_end rfl ?_
   refine cond_split hE (b := (!decide ((Int.tmod (IntKind.wrap .i64 (x1 + ((List.length (y624) : Nat) : Int))) 64) = (56 : Int)))) rfl (fun hb => ?_) (fun hb => ?_)
   ·replace hf := cond_t hb hf
    clear hb
    refine wpIn_skip ?_
    refine wpIn_block ?_
    refine region_at ?_
    refine sN 1 1 [(15, .slice A627 (List.length (y624)) c628)] hE (fun a hE => ?_)
    refine at_op (op_buildSlice (K := (kdInt .u8)) (e := 5) (cs := [.int .u8 ((0 : Int))] ++ []) ([(0 : Int)] : List Int) rfl rfl rfl rfl hE rfl hS rfl (by kernel_rfl) rfl rfl (by exact (show RL (kdInt .u8) D625 ([(0 : Int)] : List Int) ([.int .u8 ((0 : Int))] ++ []) from ⟨_, _, rfl, rfl, rfl⟩)) (fun a A666 q667 w _ hE h668 hS => ?_)) rfl
    obtain ⟨D670, q673, le671, hS, h674, h672⟩ := hS.lent h668
    have hS := hS.pk (.c 1 rfl (.c 0 rfl .n)) rfl
    obtain ⟨l675, h676, hf⟩ := bind_some hf
    refine at_op (g_append (K := (kdInt .u8)) (e := 5) (bytes := 1) (l := y624) (m := ([(0 : Int)] : List Int)) rfl rfl rfl rfl hE rfl hS rfl rfl (by kernel_rfl) rfl rfl (h630.mono le671) h672 h676 (fun a A677 c678 q679 w _ hE h680 hS => ?_)) rfl
    refine sN 1 4 [(3, .slice A677 (List.length (l675)) c678)] hE (fun a hE => ?_)
    refine at_end rfl ?_
    have hS := hS.pk (.c 0 rfl .n) rfl
    exact ⟨l675, A677, c678, q679, D670, hE.weak (by kernel_rfl), hS, (le2 le626 le671), h680, hf⟩
   ·replace hf := cond_f hb hf
    clear hb
    refine wpIn_exit ?_
    obtain rfl := Option.some.inj hf
    exact ⟨y624, A627, c628, q629, D625, hE.weak (by kernel_rfl), hS, le626, h630, rfl⟩
set_option maxRecDepth 100000 in
set_option maxHeartbeats 4000000 in
theorem sha_blocks.calls {K : Nat} {g w0 : World} {D0 : Snap} {x1 : (List Int)} {A2 : Option Addr} {c3 : Nat} {r : ((List Int))} (hf : sha_blocks.f K x1 = some r) (hS0 : St g w0 D0 []) (h4 : Sl (kdInt .u8) D0 A2 c3 (x1)) :
  CallsIn (Fw none) 0 Tryd.prog 71 (List.toArray [.slice A2 (List.length (x1)) c3]) w0 (fun e w' => ∃ v, e = .returned v ∧ ∃ (D1 : Snap) (b7 : Nat) (A9 : Option Addr) (c10 : Nat), v = .func (.func 77) #[] #[.pointer (some ⟨b7, 0, none⟩)] ∧ Stp g w0 D0 [] w' D1 [bx b7 33 ([.slice A9 (List.length (r)) c10])] ∧ Sl (kdInt .u8) D1 A9 c10 (r)) := by
 unfold sha_blocks.f at hf
 have hS := Stp.refl hS0
 clear hS0
 refine calls_body (n := 4) Tryd.func71 rfl Tryd.ntmps71 rfl (fun a hE => ?_)
 have hE : Env a 4 [] [(0, .slice A2 (List.length (x1)) c3)] := hE
 refine wpIn_seq ?_
 refine region_at ?_
 refine at_op (op_box rfl rfl rfl rfl hE rfl hS rfl (fun a b12 w _ hE hS => ?_)) rfl
 refine sN 1 2 [(2, .nilFunc)] hE (fun a hE => ?_)
 refine at_end rfl ?_
 refine wpIn_seq ?_
 refine region_at ?_
 refine sN 2 2 [(2, .func (.func 77) #[] #[.pointer (some ⟨b12, 0, none⟩)])] hE (fun a hE => ?_)
 refine at_end rfl ?_
 refine wpIn_ret ?_
 obtain rfl := Option.some.inj hf
 repeat (with_reducible first | refine then_ret ?_ | refine block_ret ?_ | refine qx_ret ?_)
 refine ret_gen ([.func (.func 77) #[] #[.pointer (some ⟨b12, 0, none⟩)]]) hE (by rw [show Tryd.f71.results.toList = [.tmp 2] from rfl]; exact ⟨_, _, rfl, rfl, rfl⟩) ?_
 exact ⟨_, rfl, D0, b12, A2, c3, rfl, hS, h4⟩
set_option maxRecDepth 100000 in
set_option maxHeartbeats 4000000 in
theorem math_bits_RotateLeft32.calls {K : Nat} {g w0 : World} {D0 : Snap} {x1 : Int} {x2 : Int} {r : (Int)} (hf : math_bits_RotateLeft32.f K x1 x2 = some r) (hS0 : St g w0 D0 []) :
  CallsIn (Fw none) 0 Tryd.prog 81 (List.toArray [.int .u32 (x1), .int .i64 (x2)]) w0 (fun e w' => ∃ v, e = .returned v ∧ ∃ (D1 : Snap), v = .int .u32 (r) ∧ Stp g w0 D0 [] w' D1 []) := by
 unfold math_bits_RotateLeft32.f at hf
 have hS := Stp.refl hS0
 clear hS0
 refine calls_body (n := 17) Tryd.func81 rfl Tryd.ntmps81 rfl (fun a hE => ?_)
 have hE : Env a 17 [] [(0, .int .u32 (x1)), (1, .int .i64 (x2))] := hE
 refine wpIn_seq ?_
 refine region_at ?_
 refine sN 1 1 [(4, .int .u32 ((0 : Int)))] hE (fun a hE => ?_)
 refine at_end rfl ?_
 refine wpIn_seq ?_
 refine region_at ?_
 refine sN 4 4 [(5, .int .u64 ((band .u64 (IntKind.wrap .u64 x2) (31 : Int))))] hE (fun a hE => ?_)
 refine at_end rfl ?_
 refine wpIn_seq ?_
 refine region_at ?_
 refine sN 2 2 [(9, .int .u32 (x1)), (10, .int .u64 ((band .u64 (IntKind.wrap .u64 x2) (31 : Int))))] hE (fun a hE => ?_)
 obtain ⟨hq5, hf⟩ := chk_not hf
 refine at_op (op_tk hE (tk_bin (r := .int .u32 ((IntKind.wrap .u32 (x1 * 2 ^ (min (Int.toNat (band .u64 (IntKind.wrap .u64 x2) (31 : Int))) 32))))) rfl rfl rfl rfl hE rfl rfl rfl (shl_run hq5) (fun a hE => ?_))) rfl
 refine sN 3 6 [(12, .int .u32 (x1)), (14, .int .u64 ((IntKind.wrap .u64 ((32 : Int) - (band .u64 (IntKind.wrap .u64 x2) (31 : Int))))))] hE (fun a hE => ?_)
 obtain ⟨hq6, hf⟩ := chk_not hf
 refine at_op (op_tk hE (tk_bin (r := .int .u32 ((Int.fdiv x1 (2 ^ (min (Int.toNat (IntKind.wrap .u64 ((32 : Int) - (band .u64 (IntKind.wrap .u64 x2) (31 : Int))))) 32))))) rfl rfl rfl rfl hE rfl rfl rfl (shr_run hq6) (fun a hE => ?_))) rfl
 refine sN 2 9 [(4, .int .u32 ((bor .u32 (IntKind.wrap .u32 (x1 * 2 ^ (min (Int.toNat (band .u64 (IntKind.wrap .u64 x2) (31 : Int))) 32))) (Int.fdiv x1 (2 ^ (min (Int.toNat (IntKind.wrap .u64 ((32 : Int) - (band .u64 (IntKind.wrap .u64 x2) (31 : Int))))) 32))))))] hE (fun a hE => ?_)
 refine at_end rfl ?_
 refine wpIn_ret ?_
 obtain rfl := Option.some.inj hf
 repeat (with_reducible first | refine then_ret ?_ | refine block_ret ?_ | refine qx_ret ?_)
 refine ret_gen ([.int .u32 ((bor .u32 (IntKind.wrap .u32 (x1 * 2 ^ (min (Int.toNat (band .u64 (IntKind.wrap .u64 x2) (31 : Int))) 32))) (Int.fdiv x1 (2 ^ (min (Int.toNat (IntKind.wrap .u64 ((32 : Int) - (band .u64 (IntKind.wrap .u64 x2) (31 : Int))))) 32)))))]) hE (by rw [show Tryd.f81.results.toList = [.tmp 4] from rfl]; exact ⟨_, _, rfl, rfl, rfl⟩) ?_
 exact ⟨_, rfl, D0, rfl, hS⟩
set_option maxRecDepth 100000 in
set_option maxHeartbeats 4000000 in
theorem sha_moved.calls {K : Nat} {g w0 : World} {D0 : Snap} {x1 : Int} {x2 : Int} {x3 : Int} {x4 : Int} {r : (Int)} (hf : sha_moved.f K x1 x2 x3 x4 = some r) (hS0 : St g w0 D0 []) :
  CallsIn (Fw none) 0 Tryd.prog 80 (List.toArray [.int .u32 (x1), .int .i64 (x2), .int .i64 (x3), .int .i64 (x4)]) w0 (fun e w' => ∃ v, e = .returned v ∧ ∃ (D1 : Snap), v = .int .u32 (r) ∧ Stp g w0 D0 [] w' D1 []) := by
 unfold sha_moved.f at hf
 have hS := Stp.refl hS0
 clear hS0
 refine calls_body (n := 22) Tryd.func80 rfl Tryd.ntmps80 rfl (fun a hE => ?_)
 have hE : Env a 22 [] [(0, .int .u32 (x1)), (1, .int .i64 (x2)), (2, .int .i64 (x3)), (3, .int .i64 (x4))] := hE
 refine wpIn_seq ?_
 refine region_at ?_
 refine sN 1 1 [(8, .int .u32 ((0 : Int)))] hE (fun a hE => ?_)
 refine at_end rfl ?_
 refine wpIn_seq ?_
 refine region_draw (fun j => Keeps (mfOf [] j)) (by kernel_rfl) ?_
 have hS := hS.drew
 first | generalize w.drew = w at hS ⊢ | generalize w0.drew = w at hS ⊢
 refine wP 0 1 13 (.int .u32 (x1)) hE (fun a hE => ?_)
 refine wP 1 3 12 (.int .i64 (x2)) hE (fun a hE => ?_)
 refine wP 2 7 11 (.int .i64 ((IntKind.wrap .i64 (0 - x2)))) hE (fun a hE => ?_)
 refine wP 4 23 10 (.int .u32 (x1)) hE (fun a hE => ?_)
 refine wP 5 55 9 (.int .i64 (x3)) hE (fun a hE => ?_)
 refine wP 6 119 8 (.int .i64 ((IntKind.wrap .i64 (0 - x3)))) hE (fun a hE => ?_)
 refine wP 9 631 7 (.int .u32 (x1)) hE (fun a hE => ?_)
 refine wP 10 1655 6 (.int .i64 (x4)) hE (fun a hE => ?_)
 obtain ⟨hq38, hf⟩ := chk_not hf
 refine tW 11 3703 (fuel := 5) (by kernel_rfl) hE (fun M => tk_bin (r := .int .u32 ((Int.fdiv x1 (2 ^ (min (Int.toNat x4) 32))))) rfl rfl rfl rfl hE rfl rfl rfl (shr_run hq38) (fun a hE => ?_))
 obtain ⟨r39, h40, hf⟩ := bind_some hf
 refine oG 3 3711 (fuel := 4) (by kernel_rfl) (op_call rfl rfl rfl rfl hE rfl rfl rfl rfl (by kernel_rfl) (math_bits_RotateLeft32.calls (g := g) h40 (hS.st.fore (L := [])) ) (fun a v w hR hE => ?_))
 obtain ⟨D41, rfl, hS1⟩ := hR
 refine ⟨(hS1.keeps.sub (M' := []) trivial).mono (fun _ h => h), ?_⟩
 have le43 := hS1.dle
 have hS := hS.callR hS1 rfl .n
 clear hS1
 obtain ⟨r44, h45, hf⟩ := bind_some hf
 refine oG 7 3839 (fuel := 3) (by kernel_rfl) (op_call rfl rfl rfl rfl hE rfl rfl rfl rfl (by kernel_rfl) (math_bits_RotateLeft32.calls (g := g) h45 (hS.st.fore (L := [])) ) (fun a v w hR hE => ?_))
 obtain ⟨D46, rfl, hS1⟩ := hR
 refine ⟨(hS1.keeps.sub (M' := []) trivial).mono (fun _ h => h), ?_⟩
 have le48 := hS1.dle
 have hS := hS.callR hS1 rfl .n
 clear hS1
 refine wP 8 4095 2 (.int .u32 ((bxor .u32 r39 r44))) hE (fun a hE => ?_)
 refine wP 12 8191 1 (.int .u32 ((bxor .u32 (bxor .u32 r39 r44) (Int.fdiv x1 (2 ^ (min (Int.toNat x4) 32)))))) hE (fun a hE => ?_)
 refine wP 13 16383 0 (.int .u32 ((bxor .u32 (bxor .u32 r39 r44) (Int.fdiv x1 (2 ^ (min (Int.toNat x4) 32)))))) hE (fun a hE => ?_)
 refine doneG (by kernel_rfl) ?_
 refine wpIn_ret ?_
 obtain rfl := Option.some.inj hf
 repeat (with_reducible first | refine then_ret ?_ | refine block_ret ?_ | refine qx_ret ?_)
 refine ret_gen ([.int .u32 ((bxor .u32 (bxor .u32 r39 r44) (Int.fdiv x1 (2 ^ (min (Int.toNat x4) 32)))))]) hE (by rw [show Tryd.f80.results.toList = [.tmp 8] from rfl]; exact ⟨_, _, rfl, rfl, rfl⟩) ?_
 exact ⟨_, rfl, D46, rfl, hS⟩
set_option maxRecDepth 100000 in
set_option maxHeartbeats 4000000 in
theorem sha_schedule.calls {K : Nat} {g w0 : World} {D0 : Snap} {x1 : (List Int)} {A2 : Option Addr} {c3 : Nat} {r : ((Vector Int 64))} (hf : sha_schedule.f K x1 = some r) (hS0 : St g w0 D0 []) (h4 : Sl (kdInt .u8) D0 A2 c3 (x1)) :
  CallsIn (Fw none) 0 Tryd.prog 78 (List.toArray [.slice A2 (List.length (x1)) c3]) w0 (fun e w' => ∃ v, e = .returned v ∧ ∃ (D1 : Snap), v = .agg (List.toArray (acells .u32 64 (r))) ∧ Stp g w0 D0 [] w' D1 []) := by
 unfold sha_schedule.f at hf
 have hS := Stp.refl hS0
 clear hS0
 refine calls_body (n := 70) Tryd.func78 rfl Tryd.ntmps78 rfl (fun a hE => ?_)
 have hE : Env a 70 [] [(0, .slice A2 (List.length (x1)) c3)] := hE
 refine wpIn_seq ?_
 refine region_at ?_
 refine at_op (op_alloc (z := .agg (List.toArray (acells .u32 64 ((Vector.replicate 64 (0 : Int)))))) rfl rfl rfl rfl hE rfl hS (by kernel_rfl) (fun a b2911 w _ hE hS => ?_)) rfl
 refine at_end rfl ?_
 refine wpIn_seq ?_
 refine region_at ?_
 refine at_op (op_alloc (z := .agg (List.toArray (acells .u32 64 ((Vector.replicate 64 (0 : Int)))))) rfl rfl rfl rfl hE rfl hS (by kernel_rfl) (fun a b2913 w _ hE hS => ?_)) rfl
 refine at_end rfl ?_
 refine wpIn_seq ?_
 refine wpIn_seq ?_
 refine region_at ?_
 refine sN 1 1 [(5, .int .i64 ((0 : Int)))] hE (fun a hE => ?_)
 refine at_end rfl ?_
 obtain ⟨s5334, hf, hs5335⟩ := bind_some hf
 have hS := hS.pk (.c 1 rfl (.c 0 rfl .n)) rfl
 refine block_loop (fun a w => ∃ (z5331 : (Vector Int 64)), ∃ (D5332 : Snap), Env a 70 [] [(2, .pointer (some ⟨b2911, 0, none⟩)), (3, .pointer (some ⟨b2913, 0, none⟩))] ∧ Stp g w0 D0 [] w D5332 [bx b2911 114 (acells .u32 64 ((Vector.replicate 64 (0 : Int)))), bx b2913 114 (acells .u32 64 (z5331))] ∧ Snap.le D0 D5332 ∧ z5331 = s5334) (fun k a w => ∃ (y4844 : Int × (Vector Int 64)), ∃ (D4845 : Snap), Env a 70 [] [(0, .slice A2 (List.length (x1)) c3), (2, .pointer (some ⟨b2911, 0, none⟩)), (3, .pointer (some ⟨b2913, 0, none⟩)), (5, .int .i64 (y4844.1))] ∧ Stp g w0 D0 [] w D4845 [bx b2911 114 (acells .u32 64 ((Vector.replicate 64 (0 : Int)))), bx b2913 114 (acells .u32 64 (y4844.2))] ∧ Snap.le D0 D4845 ∧ sha_schedule_l1.l K x1 k y4844 = some s5334) K ?_ ?_ ?_
 ·exact ⟨((0 : Int), (Vector.replicate 64 (0 : Int))), D0, hE.weak (by kernel_rfl), hS, Snap.le.refl _, hf⟩
 ·clear hE hS hf
  rintro a w ⟨z5331, D5332, hE, hS, le5333, rfl⟩
  have hf := hs5335
  clear hs5335
  refine wpIn_seq ?_
  refine region_at ?_
  refine aL 1 (.agg (List.toArray (acells .u32 64 (z5331)))) hE hS (fun a hE => ?_)
  refine at_op (op_store (v := .agg (List.toArray (acells .u32 64 (z5331)))) (acells .u32 64 (z5331)) rfl rfl rfl rfl hE hS rfl rfl (by kernel_rfl) (by kernel_rfl) (by kernel_rfl) (by kernel_rfl) (by kernel_rfl) (fun a w _ hE hS => ?_)) rfl
  refine at_end rfl ?_
  refine wpIn_ret ?_
  obtain rfl := Option.some.inj hf
  repeat (with_reducible first | refine then_ret ?_ | refine block_ret ?_ | refine qx_ret ?_)
  refine ret_gen ([.agg (List.toArray (acells .u32 64 (z5331)))]) hE (by rw [show Tryd.f78.results.toList = [.cell 2 114] from rfl]; exact ⟨_, _, _, 0, _, _, rfl, rfl, hS.heapAt (j := 0) rfl, by kernel_rfl, rfl⟩) ?_
  have hS := hS.pk .n rfl
  exact ⟨_, rfl, D5332, rfl, hS⟩
 ·clear hE hS hf
  rintro k a w ⟨y4844, D4845, hE, hS, le4846, hf⟩
  obtain ⟨k, rfl, hf⟩ := sha_schedule_l1.some _ hf
  refine ⟨k, rfl, ?_⟩
  unfold sha_schedule_l1.b at hf
  refine wpIn_seq ?_
  refine region_at ?_
  refine sN 1 1 [(6, .bool ((decide (y4844.1 < (64 : Int)))))] hE (fun a hE => ?_)
  refine at_end rfl ?_
  refine wpIn_seq ?_
  refine cond_split hE (b := (decide (y4844.1 < (64 : Int)))) rfl (fun hb => ?_) (fun hb => ?_)
  ·replace hf := cond_t hb hf
   clear hb
   refine wpIn_skip ?_
   obtain ⟨j5577, hj5578, hf⟩ := jn_elim hf
   refine seq_join (fun a w => ∃ (y5574 : (Vector Int 64)), ∃ (D5575 : Snap), Env a 70 [] [(0, .slice A2 (List.length (x1)) c3), (2, .pointer (some ⟨b2911, 0, none⟩)), (3, .pointer (some ⟨b2913, 0, none⟩)), (5, .int .i64 (y4844.1))] ∧ Stp g w0 D0 [] w D5575 [bx b2911 114 (acells .u32 64 ((Vector.replicate 64 (0 : Int)))), bx b2913 114 (acells .u32 64 (y5574))] ∧ Snap.le D4845 D5575 ∧ j5577 y5574 = some s5334) ?_ ?_
   ·clear hj5578
    refine wpIn_block ?_
    refine wpIn_seq ?_
    refine region_at ?_
    refine sN 2 2 [(4, .int .i64 (y4844.1))] hE (fun a hE => ?_)
    refine at_end rfl ?_
    refine wpIn_seq ?_
    refine wpIn_seq ?_
    refine region_at ?_
    refine sN 2 2 [(9, .bool ((decide (y4844.1 < (16 : Int)))))] hE (fun a hE => ?_)
    refine at_end rfl ?_
    refine cond_split hE (b := (decide (y4844.1 < (16 : Int)))) rfl (fun hb => ?_) (fun hb => ?_)
    ·replace hf := cond_t hb hf
     clear hb
     refine wpIn_seq ?_
     refine region_draw (fun j => Keeps (mfOf [(35, [b2913])] j)) (by kernel_rfl) ?_
     have hS := hS.drew
     first | generalize w.drew = w at hS ⊢ | generalize w0.drew = w at hS ⊢
     refine wP 0 1 35 (.int .i64 (y4844.1)) hE (fun a hE => ?_)
     refine wP 1 3 34 (.slice A2 (List.length (x1)) c3) hE (fun a hE => ?_)
     refine wP 2 7 33 (.int .i64 (y4844.1)) hE (fun a hE => ?_)
     refine wP 3 15 32 (.int .i64 ((IntKind.wrap .i64 ((4 : Int) * y4844.1)))) hE (fun a hE => ?_)
     refine wP 8 271 31 (.slice A2 (List.length (x1)) c3) hE (fun a hE => ?_)
     refine wP 9 783 30 (.int .i64 (y4844.1)) hE (fun a hE => ?_)
     refine wP 10 1807 29 (.int .i64 ((IntKind.wrap .i64 ((4 : Int) * y4844.1)))) hE (fun a hE => ?_)
     refine wP 11 3855 28 (.int .i64 ((IntKind.wrap .i64 ((IntKind.wrap .i64 ((4 : Int) * y4844.1)) + (1 : Int))))) hE (fun a hE => ?_)
     refine wP 17 134927 27 (.slice A2 (List.length (x1)) c3) hE (fun a hE => ?_)
     refine wP 18 397071 26 (.int .i64 (y4844.1)) hE (fun a hE => ?_)
     refine wP 19 921359 25 (.int .i64 ((IntKind.wrap .i64 ((4 : Int) * y4844.1)))) hE (fun a hE => ?_)
     refine wP 20 1969935 24 (.int .i64 ((IntKind.wrap .i64 ((IntKind.wrap .i64 ((4 : Int) * y4844.1)) + (2 : Int))))) hE (fun a hE => ?_)
     refine wP 26 69078799 23 (.slice A2 (List.length (x1)) c3) hE (fun a hE => ?_)
     refine wP 27 203296527 22 (.int .i64 (y4844.1)) hE (fun a hE => ?_)
     refine wP 28 471731983 21 (.int .i64 ((IntKind.wrap .i64 ((4 : Int) * y4844.1)))) hE (fun a hE => ?_)
     refine wP 29 1008602895 20 (.int .i64 ((IntKind.wrap .i64 ((IntKind.wrap .i64 ((4 : Int) * y4844.1)) + (3 : Int))))) hE (fun a hE => ?_)
     obtain ⟨x5732, h5733, hf⟩ := bind_some hf
     refine tW 4 1008602911 (fuel := 19) (by kernel_rfl) hE (fun M => g_index (K := (kdInt .u8)) (e := 5) (by_ := 1) (zl := 1) rfl rfl rfl rfl hE rfl rfl rfl (by kernel_rfl) rfl (h4.mono le4846) h5733 (fun a b5734 o5735 hE h5736 => ?_))
     obtain ⟨cs5737, C5738, T5739, fr5740, hr5741, hb5742, hc5743⟩ := h5736
     obtain rfl := hr5741
     refine tT 5 1008602943 (fuel := 18) (by kernel_rfl) hE (tk_loadX (off0 := o5735) (off := 0) (c := [.int .u8 (x5732)]) (.int .u8 (x5732)) rfl rfl rfl rfl hE rfl hS rfl hb5742 hc5743 (by kernel_rfl) (by kernel_rfl) (kD hS dn_nil) (fun a hE => ?_))
     refine tW 6 1008603007 (fuel := 17) (by kernel_rfl) hE (fun M => tk_pure (.int .u32 ((IntKind.wrap .u32 x5732))) hE rfl rfl rfl rfl (fun _ _ _ e => by cases e; rfl) (by kernel_rfl) (fun a hE => ?_))
     refine wP 7 1008603135 16 (.int .u32 ((IntKind.wrap .u32 ((IntKind.wrap .u32 x5732) * 2 ^ 24)))) hE (fun a hE => ?_)
     obtain ⟨x5744, h5745, hf⟩ := bind_some hf
     refine tW 12 1008607231 (fuel := 15) (by kernel_rfl) hE (fun M => g_index (K := (kdInt .u8)) (e := 5) (by_ := 1) (zl := 1) rfl rfl rfl rfl hE rfl rfl rfl (by kernel_rfl) rfl (h4.mono le4846) h5745 (fun a b5746 o5747 hE h5748 => ?_))
     obtain ⟨cs5749, C5750, T5751, fr5752, hr5753, hb5754, hc5755⟩ := h5748
     obtain rfl := hr5753
     refine tT 13 1008615423 (fuel := 14) (by kernel_rfl) hE (tk_loadX (off0 := o5747) (off := 0) (c := [.int .u8 (x5744)]) (.int .u8 (x5744)) rfl rfl rfl rfl hE rfl hS rfl hb5754 hc5755 (by kernel_rfl) (by kernel_rfl) (kD hS dn_nil) (fun a hE => ?_))
     refine tW 14 1008631807 (fuel := 13) (by kernel_rfl) hE (fun M => tk_pure (.int .u32 ((IntKind.wrap .u32 x5744))) hE rfl rfl rfl rfl (fun _ _ _ e => by cases e; rfl) (by kernel_rfl) (fun a hE => ?_))
     refine wP 15 1008664575 12 (.int .u32 ((IntKind.wrap .u32 ((IntKind.wrap .u32 x5744) * 2 ^ 16)))) hE (fun a hE => ?_)
     refine wP 16 1008730111 11 (.int .u32 ((bor .u32 (IntKind.wrap .u32 ((IntKind.wrap .u32 x5732) * 2 ^ 24)) (IntKind.wrap .u32 ((IntKind.wrap .u32 x5744) * 2 ^ 16))))) hE (fun a hE => ?_)
     obtain ⟨x5756, h5757, hf⟩ := bind_some hf
     refine tW 21 1010827263 (fuel := 10) (by kernel_rfl) hE (fun M => g_index (K := (kdInt .u8)) (e := 5) (by_ := 1) (zl := 1) rfl rfl rfl rfl hE rfl rfl rfl (by kernel_rfl) rfl (h4.mono le4846) h5757 (fun a b5758 o5759 hE h5760 => ?_))
     obtain ⟨cs5761, C5762, T5763, fr5764, hr5765, hb5766, hc5767⟩ := h5760
     obtain rfl := hr5765
     refine tT 22 1015021567 (fuel := 9) (by kernel_rfl) hE (tk_loadX (off0 := o5759) (off := 0) (c := [.int .u8 (x5756)]) (.int .u8 (x5756)) rfl rfl rfl rfl hE rfl hS rfl hb5766 hc5767 (by kernel_rfl) (by kernel_rfl) (kD hS dn_nil) (fun a hE => ?_))
     refine tW 23 1023410175 (fuel := 8) (by kernel_rfl) hE (fun M => tk_pure (.int .u32 ((IntKind.wrap .u32 x5756))) hE rfl rfl rfl rfl (fun _ _ _ e => by cases e; rfl) (by kernel_rfl) (fun a hE => ?_))
     refine wP 24 1040187391 7 (.int .u32 ((IntKind.wrap .u32 ((IntKind.wrap .u32 x5756) * 2 ^ 8)))) hE (fun a hE => ?_)
     refine wP 25 1073741823 6 (.int .u32 ((bor .u32 (bor .u32 (IntKind.wrap .u32 ((IntKind.wrap .u32 x5732) * 2 ^ 24)) (IntKind.wrap .u32 ((IntKind.wrap .u32 x5744) * 2 ^ 16))) (IntKind.wrap .u32 ((IntKind.wrap .u32 x5756) * 2 ^ 8))))) hE (fun a hE => ?_)
     obtain ⟨x5768, h5769, hf⟩ := bind_some hf
     refine tW 30 2147483647 (fuel := 5) (by kernel_rfl) hE (fun M => g_index (K := (kdInt .u8)) (e := 5) (by_ := 1) (zl := 1) rfl rfl rfl rfl hE rfl rfl rfl (by kernel_rfl) rfl (h4.mono le4846) h5769 (fun a b5770 o5771 hE h5772 => ?_))
     obtain ⟨cs5773, C5774, T5775, fr5776, hr5777, hb5778, hc5779⟩ := h5772
     obtain rfl := hr5777
     refine tT 31 4294967295 (fuel := 4) (by kernel_rfl) hE (tk_loadX (off0 := o5771) (off := 0) (c := [.int .u8 (x5768)]) (.int .u8 (x5768)) rfl rfl rfl rfl hE rfl hS rfl hb5778 hc5779 (by kernel_rfl) (by kernel_rfl) (kD hS dn_nil) (fun a hE => ?_))
     refine tW 32 8589934591 (fuel := 3) (by kernel_rfl) hE (fun M => tk_pure (.int .u32 ((IntKind.wrap .u32 x5768))) hE rfl rfl rfl rfl (fun _ _ _ e => by cases e; rfl) (by kernel_rfl) (fun a hE => ?_))
     refine wP 33 17179869183 2 (.int .u32 ((bor .u32 (bor .u32 (bor .u32 (IntKind.wrap .u32 ((IntKind.wrap .u32 x5732) * 2 ^ 24)) (IntKind.wrap .u32 ((IntKind.wrap .u32 x5744) * 2 ^ 16))) (IntKind.wrap .u32 ((IntKind.wrap .u32 x5756) * 2 ^ 8))) (IntKind.wrap .u32 x5768)))) hE (fun a hE => ?_)
     obtain ⟨hm5780, hf⟩ := chk_some hf
     refine tW 34 34359738367 (fuel := 1) (by kernel_rfl) hE (fun M => tk_indexPA (N := 64) (k := .u32) (m := y4844.1) rfl rfl rfl rfl hE rfl rfl rfl (by kernel_rfl) hm5780 (fun a hE => ?_))
     have hS := hS.pk (.c 1 rfl (.c 0 rfl .n)) rfl
     obtain ⟨v5781, hv5782, hf⟩ := bind_some hf
     replace hv5782 := Option.some.inj hv5782
     refine oG 35 68719476735 (fuel := 0) (by kernel_rfl) (op_storePA (N := 64) (k := .u32) (v := y4844.2) (m := y4844.1) (z := (bor .u32 (bor .u32 (bor .u32 (IntKind.wrap .u32 ((IntKind.wrap .u32 x5732) * 2 ^ 24)) (IntKind.wrap .u32 ((IntKind.wrap .u32 x5744) * 2 ^ 16))) (IntKind.wrap .u32 ((IntKind.wrap .u32 x5756) * 2 ^ 8))) (IntKind.wrap .u32 x5768))) rfl rfl rfl rfl hE hS rfl rfl (by kernel_rfl) hm5780 (fun a w hkp hE hS => ⟨hkp.mono (fun _ h => h), ?_⟩))
     clear hkp
     rw [hv5782] at hS
     refine doneG (by kernel_rfl) ?_
     refine wpIn_exit ?_
     have hS := hS.pk (.c 1 rfl (.c 0 rfl .n)) rfl
     exact ⟨v5781, D4845, hE.weak (by kernel_rfl), hS, Snap.le.refl _, hf⟩
    ·replace hf := cond_f hb hf
     clear hb
     refine wpIn_skip ?_
     refine region_draw (fun j => Keeps (mfOf [(23, [b2913])] j)) (by kernel_rfl) ?_
     have hS := hS.drew
     first | generalize w.drew = w at hS ⊢ | generalize w0.drew = w at hS ⊢
     refine wP 0 1 23 (.int .i64 (y4844.1)) hE (fun a hE => ?_)
     refine wP 1 3 22 (.int .i64 (y4844.1)) hE (fun a hE => ?_)
     refine wP 2 7 21 (.int .i64 ((IntKind.wrap .i64 (y4844.1 - (2 : Int))))) hE (fun a hE => ?_)
     refine wP 6 71 20 (.int .i64 (y4844.1)) hE (fun a hE => ?_)
     refine wP 7 199 19 (.int .i64 ((IntKind.wrap .i64 (y4844.1 - (7 : Int))))) hE (fun a hE => ?_)
     refine wP 11 2247 18 (.int .i64 (y4844.1)) hE (fun a hE => ?_)
     refine wP 12 6343 17 (.int .i64 ((IntKind.wrap .i64 (y4844.1 - (15 : Int))))) hE (fun a hE => ?_)
     refine wP 17 137415 16 (.int .i64 (y4844.1)) hE (fun a hE => ?_)
     refine wP 18 399559 15 (.int .i64 ((IntKind.wrap .i64 (y4844.1 - (16 : Int))))) hE (fun a hE => ?_)
     obtain ⟨hm5800, hf⟩ := chk_some hf
     refine tW 3 399567 (fuel := 14) (by kernel_rfl) hE (fun M => tk_indexPA (N := 64) (k := .u32) (m := (IntKind.wrap .i64 (y4844.1 - (2 : Int)))) rfl rfl rfl rfl hE rfl rfl rfl (by kernel_rfl) hm5800 (fun a hE => ?_))
     refine tT 4 399583 (fuel := 13) (by kernel_rfl) hE (tk_loadPA 1 (N := 64) (k := .u32) (v := y4844.2) (m := (IntKind.wrap .i64 (y4844.1 - (2 : Int)))) rfl rfl rfl rfl hE rfl hS rfl rfl (by kernel_rfl) hm5800 (kL (j := 1) hS rfl List.not_mem_nil) (fun a hE => ?_))
     obtain ⟨hm5801, hf⟩ := chk_some hf
     refine tW 8 399839 (fuel := 12) (by kernel_rfl) hE (fun M => tk_indexPA (N := 64) (k := .u32) (m := (IntKind.wrap .i64 (y4844.1 - (7 : Int)))) rfl rfl rfl rfl hE rfl rfl rfl (by kernel_rfl) hm5801 (fun a hE => ?_))
     refine tT 9 400351 (fuel := 11) (by kernel_rfl) hE (tk_loadPA 1 (N := 64) (k := .u32) (v := y4844.2) (m := (IntKind.wrap .i64 (y4844.1 - (7 : Int)))) rfl rfl rfl rfl hE rfl hS rfl rfl (by kernel_rfl) hm5801 (kL (j := 1) hS rfl List.not_mem_nil) (fun a hE => ?_))
     obtain ⟨hm5802, hf⟩ := chk_some hf
     refine tW 13 408543 (fuel := 10) (by kernel_rfl) hE (fun M => tk_indexPA (N := 64) (k := .u32) (m := (IntKind.wrap .i64 (y4844.1 - (15 : Int)))) rfl rfl rfl rfl hE rfl rfl rfl (by kernel_rfl) hm5802 (fun a hE => ?_))
     refine tT 14 424927 (fuel := 9) (by kernel_rfl) hE (tk_loadPA 1 (N := 64) (k := .u32) (v := y4844.2) (m := (IntKind.wrap .i64 (y4844.1 - (15 : Int)))) rfl rfl rfl rfl hE rfl hS rfl rfl (by kernel_rfl) hm5802 (kL (j := 1) hS rfl List.not_mem_nil) (fun a hE => ?_))
     obtain ⟨hm5803, hf⟩ := chk_some hf
     refine tW 19 949215 (fuel := 8) (by kernel_rfl) hE (fun M => tk_indexPA (N := 64) (k := .u32) (m := (IntKind.wrap .i64 (y4844.1 - (16 : Int)))) rfl rfl rfl rfl hE rfl rfl rfl (by kernel_rfl) hm5803 (fun a hE => ?_))
     refine tT 20 1997791 (fuel := 7) (by kernel_rfl) hE (tk_loadPA 1 (N := 64) (k := .u32) (v := y4844.2) (m := (IntKind.wrap .i64 (y4844.1 - (16 : Int)))) rfl rfl rfl rfl hE rfl hS rfl rfl (by kernel_rfl) hm5803 (kL (j := 1) hS rfl List.not_mem_nil) (fun a hE => ?_))
     obtain ⟨r5804, h5805, hf⟩ := bind_some hf
     refine oG 5 1997823 (fuel := 6) (by kernel_rfl) (op_call rfl rfl rfl rfl hE rfl rfl rfl rfl (by kernel_rfl) (sha_moved.calls (g := g) h5805 (hS.st.fore (L := [])) ) (fun a v w hR hE => ?_))
     obtain ⟨D5806, rfl, hS1⟩ := hR
     refine ⟨(hS1.keeps.sub (M' := []) trivial).mono (fun _ h => h), ?_⟩
     have le5808 := hS1.dle
     have hS := hS.callR hS1 rfl .n
     clear hS1
     refine wP 10 1998847 5 (.int .u32 ((IntKind.wrap .u32 (r5804 + (vget (y4844.2) (Int.toNat ((IntKind.wrap .i64 (y4844.1 - (7 : Int)))))))))) hE (fun a hE => ?_)
     obtain ⟨r5809, h5810, hf⟩ := bind_some hf
     refine oG 15 2031615 (fuel := 4) (by kernel_rfl) (op_call rfl rfl rfl rfl hE rfl rfl rfl rfl (by kernel_rfl) (sha_moved.calls (g := g) h5810 (hS.st.fore (L := [])) ) (fun a v w hR hE => ?_))
     obtain ⟨D5811, rfl, hS1⟩ := hR
     refine ⟨(hS1.keeps.sub (M' := []) trivial).mono (fun _ h => h), ?_⟩
     have le5813 := hS1.dle
     have hS := hS.callR hS1 rfl .n
     clear hS1
     refine wP 16 2097151 3 (.int .u32 ((IntKind.wrap .u32 ((IntKind.wrap .u32 (r5804 + (vget (y4844.2) (Int.toNat ((IntKind.wrap .i64 (y4844.1 - (7 : Int)))))))) + r5809)))) hE (fun a hE => ?_)
     refine wP 21 4194303 2 (.int .u32 ((IntKind.wrap .u32 ((IntKind.wrap .u32 ((IntKind.wrap .u32 (r5804 + (vget (y4844.2) (Int.toNat ((IntKind.wrap .i64 (y4844.1 - (7 : Int)))))))) + r5809)) + (vget (y4844.2) (Int.toNat ((IntKind.wrap .i64 (y4844.1 - (16 : Int)))))))))) hE (fun a hE => ?_)
     obtain ⟨hm5814, hf⟩ := chk_some hf
     refine tW 22 8388607 (fuel := 1) (by kernel_rfl) hE (fun M => tk_indexPA (N := 64) (k := .u32) (m := y4844.1) rfl rfl rfl rfl hE rfl rfl rfl (by kernel_rfl) hm5814 (fun a hE => ?_))
     have hS := hS.pk (.c 1 rfl (.c 0 rfl .n)) rfl
     obtain ⟨v5815, hv5816, hf⟩ := bind_some hf
     replace hv5816 := Option.some.inj hv5816
     refine oG 23 16777215 (fuel := 0) (by kernel_rfl) (op_storePA (N := 64) (k := .u32) (v := y4844.2) (m := y4844.1) (z := (IntKind.wrap .u32 ((IntKind.wrap .u32 ((IntKind.wrap .u32 (r5804 + (vget (y4844.2) (Int.toNat ((IntKind.wrap .i64 (y4844.1 - (7 : Int)))))))) + r5809)) + (vget (y4844.2) (Int.toNat ((IntKind.wrap .i64 (y4844.1 - (16 : Int))))))))) rfl rfl rfl rfl hE hS rfl rfl (by kernel_rfl) hm5814 (fun a w hkp hE hS => ⟨hkp.mono (fun _ h => h), ?_⟩))
     clear hkp
     rw [hv5816] at hS
     refine doneG (by kernel_rfl) ?_
     have hS := hS.pk (.c 1 rfl (.c 0 rfl .n)) rfl
     exact ⟨v5815, D5811, hE.weak (by kernel_rfl), hS, (le2 le5808 le5813), hf⟩
   ·clear hE hS
    rintro a w ⟨y5574, D5575, hE, hS, le5576, hf⟩
    replace hf := hj5578 _ hf
    clear hj5578
    refine region_at ?_
    refine sN 2 2 [(5, .int .i64 ((IntKind.wrap .i64 (y4844.1 + (1 : Int)))))] hE (fun a hE => ?_)
    refine at_end rfl ?_
    exact ⟨((IntKind.wrap .i64 (y4844.1 + (1 : Int))), y5574), D5575, hE.weak (by kernel_rfl), hS, (le2 le4846 le5576), hf⟩
  ·replace hf := cond_f hb hf
   clear hb
   refine wpIn_exit ?_
   obtain rfl := Option.some.inj hf
   exact ⟨y4844.2, D4845, hE.weak (by kernel_rfl), hS, le4846, rfl⟩
set_option maxRecDepth 100000 in
set_option maxHeartbeats 4000000 in
theorem sha_turned.calls {K : Nat} {g w0 : World} {D0 : Snap} {x1 : Int} {x2 : Int} {x3 : Int} {x4 : Int} {r : (Int)} (hf : sha_turned.f K x1 x2 x3 x4 = some r) (hS0 : St g w0 D0 []) :
  CallsIn (Fw none) 0 Tryd.prog 79 (List.toArray [.int .u32 (x1), .int .i64 (x2), .int .i64 (x3), .int .i64 (x4)]) w0 (fun e w' => ∃ v, e = .returned v ∧ ∃ (D1 : Snap), v = .int .u32 (r) ∧ Stp g w0 D0 [] w' D1 []) := by
 unfold sha_turned.f at hf
 have hS := Stp.refl hS0
 clear hS0
 refine calls_body (n := 23) Tryd.func79 rfl Tryd.ntmps79 rfl (fun a hE => ?_)
 have hE : Env a 23 [] [(0, .int .u32 (x1)), (1, .int .i64 (x2)), (2, .int .i64 (x3)), (3, .int .i64 (x4))] := hE
 refine wpIn_seq ?_
 refine region_at ?_
 refine sN 1 1 [(8, .int .u32 ((0 : Int)))] hE (fun a hE => ?_)
 refine at_end rfl ?_
 refine wpIn_seq ?_
 refine region_at ?_
 refine sN 3 3 [(9, .int .u32 (x1)), (11, .int .i64 ((IntKind.wrap .i64 (0 - x2))))] hE (fun a hE => ?_)
 obtain ⟨r20, h21, hf⟩ := bind_some hf
 refine aC rfl rfl rfl rfl hE rfl rfl rfl rfl (math_bits_RotateLeft32.calls (g := g) h21 (hS.st.fore (L := [])) ) (fun a v w hR hE => ?_)
 obtain ⟨D22, rfl, hS1⟩ := hR
 have le24 := hS1.dle
 have hS := hS.callR hS1 rfl .n
 clear hS1
 refine sN 3 7 [(13, .int .u32 (x1)), (15, .int .i64 ((IntKind.wrap .i64 (0 - x3))))] hE (fun a hE => ?_)
 obtain ⟨r25, h26, hf⟩ := bind_some hf
 refine aC rfl rfl rfl rfl hE rfl rfl rfl rfl (math_bits_RotateLeft32.calls (g := g) h26 (hS.st.fore (L := [])) ) (fun a v w hR hE => ?_)
 obtain ⟨D27, rfl, hS1⟩ := hR
 have le29 := hS1.dle
 have hS := hS.callR hS1 rfl .n
 clear hS1
 refine sN 4 12 [(17, .int .u32 ((bxor .u32 r20 r25))), (18, .int .u32 (x1)), (20, .int .i64 ((IntKind.wrap .i64 (0 - x4))))] hE (fun a hE => ?_)
 obtain ⟨r30, h31, hf⟩ := bind_some hf
 refine aC rfl rfl rfl rfl hE rfl rfl rfl rfl (math_bits_RotateLeft32.calls (g := g) h31 (hS.st.fore (L := [])) ) (fun a v w hR hE => ?_)
 obtain ⟨D32, rfl, hS1⟩ := hR
 have le34 := hS1.dle
 have hS := hS.callR hS1 rfl .n
 clear hS1
 refine sN 2 15 [(8, .int .u32 ((bxor .u32 (bxor .u32 r20 r25) r30)))] hE (fun a hE => ?_)
 refine at_end rfl ?_
 refine wpIn_ret ?_
 obtain rfl := Option.some.inj hf
 repeat (with_reducible first | refine then_ret ?_ | refine block_ret ?_ | refine qx_ret ?_)
 refine ret_gen ([.int .u32 ((bxor .u32 (bxor .u32 r20 r25) r30))]) hE (by rw [show Tryd.f79.results.toList = [.tmp 8] from rfl]; exact ⟨_, _, rfl, rfl, rfl⟩) ?_
 exact ⟨_, rfl, D32, rfl, hS⟩
set_option maxRecDepth 100000 in
set_option maxHeartbeats 4000000 in
theorem sha_Turn.calls {K : Nat} {g w0 : World} {D0 : Snap} {x1 : (Vector Int 8)} {x2 : (List Int)} {A3 : Option Addr} {c4 : Nat} {r : ((Vector Int 8))} (hf : sha_Turn.f K x1 x2 = some r) (hS0 : St g w0 D0 []) (h5 : Sl (kdInt .u8) D0 A3 c4 (x2)) (hG1 : Cell (kdArr .u32 64) D0 1 0 gl_K) :
  CallsIn (Fw none) 0 Tryd.prog 73 (List.toArray [.agg (List.toArray (acells .u32 8 (x1))), .slice A3 (List.length (x2)) c4]) w0 (fun e w' => ∃ v, e = .returned v ∧ ∃ (D1 : Snap), v = .agg (List.toArray (acells .u32 8 (r))) ∧ Stp g w0 D0 [] w' D1 []) := by
 unfold sha_Turn.f at hf
 have hS := Stp.refl hS0
 clear hS0
 refine calls_body (n := 94) Tryd.func73 rfl Tryd.ntmps73 rfl (fun a hE => ?_)
 have hE : Env a 94 [] [(0, .agg (List.toArray (acells .u32 8 (x1)))), (1, .slice A3 (List.length (x2)) c4)] := hE
 refine wpIn_seq ?_
 refine region_at ?_
 refine at_op (op_box rfl rfl rfl rfl hE rfl hS rfl (fun a b742 w _ hE hS => ?_)) rfl
 refine at_op (op_alloc (z := .agg (List.toArray (acells .u32 8 ((Vector.replicate 8 (0 : Int)))))) rfl rfl rfl rfl hE rfl hS (by kernel_rfl) (fun a b744 w _ hE hS => ?_)) rfl
 refine at_end rfl ?_
 refine wpIn_seq ?_
 refine wpIn_seq ?_
 refine region_at ?_
 refine sN 3 3 [(13, .bool ((!decide (((List.length (x2) : Nat) : Int) = (64 : Int)))))] hE (fun a hE => ?_)
 refine at_end rfl ?_
 refine cond_split hE (b := (!decide (((List.length (x2) : Nat) : Int) = (64 : Int)))) rfl (fun hb => ?_) (fun hb => ?_)
 ·replace hf := cond_t hb hf
  clear hb
  refine wpIn_seq ?_
  refine region_at ?_
  refine aL 1 (.agg (List.toArray (acells .u32 8 (x1)))) hE hS (fun a hE => ?_)
  refine at_op (op_store (v := .agg (List.toArray (acells .u32 8 (x1)))) (acells .u32 8 (x1)) rfl rfl rfl rfl hE hS rfl rfl (by kernel_rfl) (by kernel_rfl) (by kernel_rfl) (by kernel_rfl) (by kernel_rfl) (fun a w _ hE hS => ?_)) rfl
  refine at_end rfl ?_
  refine wpIn_ret ?_
  obtain rfl := Option.some.inj hf
  repeat (with_reducible first | refine then_ret ?_ | refine block_ret ?_ | refine qx_ret ?_)
  refine ret_gen ([.agg (List.toArray (acells .u32 8 (x1)))]) hE (by rw [show Tryd.f73.results.toList = [.cell 4 98] from rfl]; exact ⟨_, _, _, 0, _, _, rfl, rfl, hS.heapAt (j := 0) rfl, by kernel_rfl, rfl⟩) ?_
  have hS := hS.pk .n rfl
  exact ⟨_, rfl, D0, rfl, hS⟩
 ·replace hf := cond_f hb hf
  clear hb
  refine wpIn_skip ?_
  refine wpIn_seq ?_
  refine region_at ?_
  refine aL 1 (.agg (List.toArray (acells .u32 8 (x1)))) hE hS (fun a hE => ?_)
  refine at_op (op_alloc (z := .agg (List.toArray (acells .u32 8 ((Vector.replicate 8 (0 : Int)))))) rfl rfl rfl rfl hE rfl hS (by kernel_rfl) (fun a b746 w _ hE hS => ?_)) rfl
  refine at_op (op_store (v := .agg (List.toArray (acells .u32 8 (x1)))) (acells .u32 8 (x1)) rfl rfl rfl rfl hE hS rfl rfl (by kernel_rfl) (by kernel_rfl) (by kernel_rfl) (by kernel_rfl) (by kernel_rfl) (fun a w _ hE hS => ?_)) rfl
  refine at_end rfl ?_
  refine wpIn_seq ?_
  refine wpIn_seq ?_
  refine region_at ?_
  refine sN 1 1 [(16, .slice A3 (List.length (x2)) c4)] hE (fun a hE => ?_)
  obtain ⟨r1045, h1046, hf⟩ := bind_some hf
  refine aC rfl rfl rfl rfl hE rfl rfl rfl rfl (sha_schedule.calls (g := g) h1046 (hS.st.fore (L := [])) h5) (fun a v w hR hE => ?_)
  obtain ⟨D1047, rfl, hS1⟩ := hR
  have le1049 := hS1.dle
  have hS := hS.callR hS1 rfl .n
  clear hS1
  refine sN 1 3 [(18, .int .i64 ((0 : Int)))] hE (fun a hE => ?_)
  refine at_end rfl ?_
  obtain ⟨s1248, hf, hs1249⟩ := bind_some hf
  have hS := hS.pk (.c 2 rfl (.c 1 rfl (.c 0 rfl .n))) rfl
  refine block_loop (fun a w => ∃ (z1245 : (Vector Int 8)), ∃ (D1246 : Snap), Env a 94 [] [(2, .pointer (some ⟨b742, 0, none⟩)), (4, .pointer (some ⟨b744, 0, none⟩)), (5, .pointer (some ⟨b746, 0, none⟩))] ∧ Stp g w0 D0 [] w D1246 [bx b742 98 (acells .u32 8 (x1)), bx b744 98 (acells .u32 8 ((Vector.replicate 8 (0 : Int)))), bx b746 98 (acells .u32 8 (z1245))] ∧ Snap.le D1047 D1246 ∧ z1245 = s1248) (fun k a w => ∃ (y1147 : Int × (Vector Int 8)), ∃ (D1148 : Snap), Env a 94 [] [(2, .pointer (some ⟨b742, 0, none⟩)), (4, .pointer (some ⟨b744, 0, none⟩)), (5, .pointer (some ⟨b746, 0, none⟩)), (17, .agg (List.toArray (acells .u32 64 (r1045)))), (18, .int .i64 (y1147.1))] ∧ Stp g w0 D0 [] w D1148 [bx b742 98 (acells .u32 8 (x1)), bx b744 98 (acells .u32 8 ((Vector.replicate 8 (0 : Int)))), bx b746 98 (acells .u32 8 (y1147.2))] ∧ Snap.le D1047 D1148 ∧ sha_Turn_l1.l K r1045 k y1147 = some s1248) K ?_ ?_ ?_
  ·exact ⟨((0 : Int), x1), D1047, hE.weak (by kernel_rfl), hS, Snap.le.refl _, hf⟩
  ·clear hE hS hf
   rintro a w ⟨z1245, D1246, hE, hS, le1247, rfl⟩
   have hf := hs1249
   clear hs1249
   refine wpIn_seq ?_
   refine wpIn_seq ?_
   refine region_at ?_
   refine sN 1 1 [(81, .int .i64 ((0 : Int)))] hE (fun a hE => ?_)
   refine at_end rfl ?_
   obtain ⟨s1456, hf, hs1457⟩ := bind_some hf
   refine block_loop (fun a w => ∃ (z1453 : (Vector Int 8)), ∃ (D1454 : Snap), Env a 94 [] [(2, .pointer (some ⟨b742, 0, none⟩)), (4, .pointer (some ⟨b744, 0, none⟩))] ∧ Stp g w0 D0 [] w D1454 [bx b742 98 (acells .u32 8 (z1453)), bx b744 98 (acells .u32 8 ((Vector.replicate 8 (0 : Int))))] ∧ Snap.le D1246 D1454 ∧ z1453 = s1456) (fun k a w => ∃ (y1427 : Int × (Vector Int 8)), ∃ (D1428 : Snap), Env a 94 [] [(2, .pointer (some ⟨b742, 0, none⟩)), (4, .pointer (some ⟨b744, 0, none⟩)), (5, .pointer (some ⟨b746, 0, none⟩)), (81, .int .i64 (y1427.1))] ∧ Stp g w0 D0 [] w D1428 [bx b742 98 (acells .u32 8 (y1427.2)), bx b744 98 (acells .u32 8 ((Vector.replicate 8 (0 : Int)))), bx b746 98 (acells .u32 8 (z1245))] ∧ Snap.le D1246 D1428 ∧ sha_Turn_l2.l K z1245 k y1427 = some s1456) K ?_ ?_ ?_
   ·exact ⟨((0 : Int), x1), D1246, hE.weak (by kernel_rfl), hS, Snap.le.refl _, hf⟩
   ·clear hE hS hf
    rintro a w ⟨z1453, D1454, hE, hS, le1455, rfl⟩
    have hf := hs1457
    clear hs1457
    refine wpIn_seq ?_
    refine region_at ?_
    refine aL 0 (.agg (List.toArray (acells .u32 8 (z1453)))) hE hS (fun a hE => ?_)
    have hS := hS.pk (.c 1 rfl (.c 0 rfl .n)) rfl
    refine at_op (op_store (v := .agg (List.toArray (acells .u32 8 (z1453)))) (acells .u32 8 (z1453)) rfl rfl rfl rfl hE hS rfl rfl (by kernel_rfl) (by kernel_rfl) (by kernel_rfl) (by kernel_rfl) (by kernel_rfl) (fun a w _ hE hS => ?_)) rfl
    refine at_end rfl ?_
    refine wpIn_ret ?_
    obtain rfl := Option.some.inj hf
    repeat (with_reducible first | refine then_ret ?_ | refine block_ret ?_ | refine qx_ret ?_)
    refine ret_gen ([.agg (List.toArray (acells .u32 8 (z1453)))]) hE (by rw [show Tryd.f73.results.toList = [.cell 4 98] from rfl]; exact ⟨_, _, _, 0, _, _, rfl, rfl, hS.heapAt (j := 0) rfl, by kernel_rfl, rfl⟩) ?_
    have hS := hS.pk .n rfl
    exact ⟨_, rfl, D1454, rfl, hS⟩
   ·clear hE hS hf
    rintro k a w ⟨y1427, D1428, hE, hS, le1429, hf⟩
    obtain ⟨k, rfl, hf⟩ := sha_Turn_l2.some _ hf
    refine ⟨k, rfl, ?_⟩
    unfold sha_Turn_l2.b at hf
    refine wpIn_seq ?_
    refine region_at ?_
    refine sN 1 1 [(82, .bool ((decide (y1427.1 < (8 : Int)))))] hE (fun a hE => ?_)
    refine at_end rfl ?_
    refine wpIn_seq ?_
    refine cond_split hE (b := (decide (y1427.1 < (8 : Int)))) rfl (fun hb => ?_) (fun hb => ?_)
    ·replace hf := cond_t hb hf
     clear hb
     refine wpIn_skip ?_
     refine wpIn_seq ?_
     refine wpIn_block ?_
     refine wpIn_seq ?_
     refine region_at ?_
     refine sN 2 2 [(10, .int .i64 (y1427.1))] hE (fun a hE => ?_)
     refine at_end rfl ?_
     refine region_draw (fun j => Keeps (mfOf [(8, [b742])] j)) (by kernel_rfl) ?_
     have hS := hS.drew
     first | generalize w.drew = w at hS ⊢ | generalize w0.drew = w at hS ⊢
     refine wP 0 1 8 (.int .i64 (y1427.1)) hE (fun a hE => ?_)
     refine wP 3 9 7 (.int .i64 (y1427.1)) hE (fun a hE => ?_)
     obtain ⟨hm1473, hf⟩ := chk_some hf
     refine tW 1 11 (fuel := 6) (by kernel_rfl) hE (fun M => tk_indexPA (N := 8) (k := .u32) (m := y1427.1) rfl rfl rfl rfl hE rfl rfl rfl (by kernel_rfl) hm1473 (fun a hE => ?_))
     refine tT 2 15 (fuel := 5) (by kernel_rfl) hE (tk_loadPA 0 (N := 8) (k := .u32) (v := y1427.2) (m := y1427.1) rfl rfl rfl rfl hE rfl hS rfl rfl (by kernel_rfl) hm1473 (kL (j := 0) hS rfl List.not_mem_nil) (fun a hE => ?_))
     obtain ⟨hm1474, hf⟩ := chk_some hf
     refine tW 4 31 (fuel := 4) (by kernel_rfl) hE (fun M => tk_indexPA (N := 8) (k := .u32) (m := y1427.1) rfl rfl rfl rfl hE rfl rfl rfl (by kernel_rfl) hm1474 (fun a hE => ?_))
     refine tT 5 63 (fuel := 3) (by kernel_rfl) hE (tk_loadPA 2 (N := 8) (k := .u32) (v := z1245) (m := y1427.1) rfl rfl rfl rfl hE rfl hS rfl rfl (by kernel_rfl) hm1474 (kL (j := 2) hS rfl List.not_mem_nil) (fun a hE => ?_))
     refine wP 6 127 2 (.int .u32 ((IntKind.wrap .u32 ((vget (y1427.2) (Int.toNat (y1427.1))) + (vget (z1245) (Int.toNat (y1427.1))))))) hE (fun a hE => ?_)
     obtain ⟨hm1475, hf⟩ := chk_some hf
     refine tW 7 255 (fuel := 1) (by kernel_rfl) hE (fun M => tk_indexPA (N := 8) (k := .u32) (m := y1427.1) rfl rfl rfl rfl hE rfl rfl rfl (by kernel_rfl) hm1475 (fun a hE => ?_))
     obtain ⟨v1476, hv1477, hf⟩ := bind_some hf
     replace hv1477 := Option.some.inj hv1477
     refine oG 8 511 (fuel := 0) (by kernel_rfl) (op_storePA (N := 8) (k := .u32) (v := y1427.2) (m := y1427.1) (z := (IntKind.wrap .u32 ((vget (y1427.2) (Int.toNat (y1427.1))) + (vget (z1245) (Int.toNat (y1427.1)))))) rfl rfl rfl rfl hE hS rfl rfl (by kernel_rfl) hm1475 (fun a w hkp hE hS => ⟨hkp.mono (fun _ h => h), ?_⟩))
     clear hkp
     rw [hv1477] at hS
     refine doneG (by kernel_rfl) ?_
     refine region_at ?_
     refine sN 2 2 [(81, .int .i64 ((IntKind.wrap .i64 (y1427.1 + (1 : Int)))))] hE (fun a hE => ?_)
     refine at_end rfl ?_
     exact ⟨((IntKind.wrap .i64 (y1427.1 + (1 : Int))), v1476), D1428, hE.weak (by kernel_rfl), hS, le1429, hf⟩
    ·replace hf := cond_f hb hf
     clear hb
     refine wpIn_exit ?_
     obtain rfl := Option.some.inj hf
     have hS := hS.pk (.c 0 rfl (.c 1 rfl .n)) rfl
     exact ⟨y1427.2, D1428, hE.weak (by kernel_rfl), hS, le1429, rfl⟩
  ·clear hE hS hf
   rintro k a w ⟨y1147, D1148, hE, hS, le1149, hf⟩
   obtain ⟨k, rfl, hf⟩ := sha_Turn_l1.some _ hf
   refine ⟨k, rfl, ?_⟩
   unfold sha_Turn_l1.b at hf
   refine wpIn_seq ?_
   refine region_at ?_
   refine sN 1 1 [(19, .bool ((decide (y1147.1 < (64 : Int)))))] hE (fun a hE => ?_)
   refine at_end rfl ?_
   refine wpIn_seq ?_
   refine cond_split hE (b := (decide (y1147.1 < (64 : Int)))) rfl (fun hb => ?_) (fun hb => ?_)
   ·replace hf := cond_t hb hf
    clear hb
    refine wpIn_skip ?_
    refine wpIn_seq ?_
    refine wpIn_block ?_
    refine wpIn_seq ?_
    refine region_at ?_
    refine sN 1 1 [(20, .int .i64 (y1147.1))] hE (fun a hE => ?_)
    obtain ⟨x1296, h1297, hf⟩ := bind_some hf
    refine at_op (op_tk hE (tk_indexA (N := 64) (k := .u32) (v := r1045) rfl rfl rfl rfl hE rfl rfl rfl (by kernel_rfl) h1297 (fun a hE => ?_))) rfl
    refine sN 2 4 [(6, .int .i64 (y1147.1)), (7, .int .u32 (x1296))] hE (fun a hE => ?_)
    refine at_end rfl ?_
    refine wpIn_seq ?_
    refine region_draw (fun j => Keeps (mfOf [] j)) (by kernel_rfl) ?_
    have hS := hS.drew
    first | generalize w.drew = w at hS ⊢ | generalize w0.drew = w at hS ⊢
    refine wP 19 524288 25 (.int .i64 (y1147.1)) hE (fun a hE => ?_)
    refine wP 23 8912896 24 (.int .u32 (x1296)) hE (fun a hE => ?_)
    refine tW 0 8912897 (fuel := 23) (by kernel_rfl) hE (fun M => tk_indexPA (N := 8) (k := .u32) (m := (7 : Int)) rfl rfl rfl rfl hE rfl rfl rfl (by kernel_rfl) (by kernel_rfl) (fun a hE => ?_))
    refine tT 1 8912899 (fuel := 22) (by kernel_rfl) hE (tk_loadPA 2 (N := 8) (k := .u32) (v := y1147.2) (m := (7 : Int)) rfl rfl rfl rfl hE rfl hS rfl rfl (by kernel_rfl) (by kernel_rfl) (kL (j := 2) hS rfl List.not_mem_nil) (fun a hE => ?_))
    refine tW 2 8912903 (fuel := 21) (by kernel_rfl) hE (fun M => tk_indexPA (N := 8) (k := .u32) (m := (4 : Int)) rfl rfl rfl rfl hE rfl rfl rfl (by kernel_rfl) (by kernel_rfl) (fun a hE => ?_))
    refine tT 3 8912911 (fuel := 20) (by kernel_rfl) hE (tk_loadPA 2 (N := 8) (k := .u32) (v := y1147.2) (m := (4 : Int)) rfl rfl rfl rfl hE rfl hS rfl rfl (by kernel_rfl) (by kernel_rfl) (kL (j := 2) hS rfl List.not_mem_nil) (fun a hE => ?_))
    refine tW 6 8912975 (fuel := 19) (by kernel_rfl) hE (fun M => tk_indexPA (N := 8) (k := .u32) (m := (4 : Int)) rfl rfl rfl rfl hE rfl rfl rfl (by kernel_rfl) (by kernel_rfl) (fun a hE => ?_))
    refine tT 7 8913103 (fuel := 18) (by kernel_rfl) hE (tk_loadPA 2 (N := 8) (k := .u32) (v := y1147.2) (m := (4 : Int)) rfl rfl rfl rfl hE rfl hS rfl rfl (by kernel_rfl) (by kernel_rfl) (kL (j := 2) hS rfl List.not_mem_nil) (fun a hE => ?_))
    refine tW 8 8913359 (fuel := 17) (by kernel_rfl) hE (fun M => tk_indexPA (N := 8) (k := .u32) (m := (5 : Int)) rfl rfl rfl rfl hE rfl rfl rfl (by kernel_rfl) (by kernel_rfl) (fun a hE => ?_))
    refine tT 9 8913871 (fuel := 16) (by kernel_rfl) hE (tk_loadPA 2 (N := 8) (k := .u32) (v := y1147.2) (m := (5 : Int)) rfl rfl rfl rfl hE rfl hS rfl rfl (by kernel_rfl) (by kernel_rfl) (kL (j := 2) hS rfl List.not_mem_nil) (fun a hE => ?_))
    refine wP 10 8914895 15 (.int .u32 ((band .u32 (vget (y1147.2) (Int.toNat ((4 : Int)))) (vget (y1147.2) (Int.toNat ((5 : Int))))))) hE (fun a hE => ?_)
    refine tW 11 8916943 (fuel := 14) (by kernel_rfl) hE (fun M => tk_indexPA (N := 8) (k := .u32) (m := (4 : Int)) rfl rfl rfl rfl hE rfl rfl rfl (by kernel_rfl) (by kernel_rfl) (fun a hE => ?_))
    refine tT 12 8921039 (fuel := 13) (by kernel_rfl) hE (tk_loadPA 2 (N := 8) (k := .u32) (v := y1147.2) (m := (4 : Int)) rfl rfl rfl rfl hE rfl hS rfl rfl (by kernel_rfl) (by kernel_rfl) (kL (j := 2) hS rfl List.not_mem_nil) (fun a hE => ?_))
    refine wP 13 8929231 12 (.int .u32 ((bnot .u32 (vget (y1147.2) (Int.toNat ((4 : Int))))))) hE (fun a hE => ?_)
    refine tW 14 8945615 (fuel := 11) (by kernel_rfl) hE (fun M => tk_indexPA (N := 8) (k := .u32) (m := (6 : Int)) rfl rfl rfl rfl hE rfl rfl rfl (by kernel_rfl) (by kernel_rfl) (fun a hE => ?_))
    refine tT 15 8978383 (fuel := 10) (by kernel_rfl) hE (tk_loadPA 2 (N := 8) (k := .u32) (v := y1147.2) (m := (6 : Int)) rfl rfl rfl rfl hE rfl hS rfl rfl (by kernel_rfl) (by kernel_rfl) (kL (j := 2) hS rfl List.not_mem_nil) (fun a hE => ?_))
    refine wP 16 9043919 9 (.int .u32 ((band .u32 (bnot .u32 (vget (y1147.2) (Int.toNat ((4 : Int))))) (vget (y1147.2) (Int.toNat ((6 : Int))))))) hE (fun a hE => ?_)
    refine wP 17 9174991 8 (.int .u32 ((bxor .u32 (band .u32 (vget (y1147.2) (Int.toNat ((4 : Int)))) (vget (y1147.2) (Int.toNat ((5 : Int))))) (band .u32 (bnot .u32 (vget (y1147.2) (Int.toNat ((4 : Int))))) (vget (y1147.2) (Int.toNat ((6 : Int)))))))) hE (fun a hE => ?_)
    obtain ⟨hm1311, hf⟩ := chk_some hf
    refine tW 20 10223567 (fuel := 7) (by kernel_rfl) hE (fun M => tk_indexPA (N := 64) (k := .u32) (m := y1147.1) rfl rfl rfl rfl hE rfl rfl rfl (by kernel_rfl) hm1311 (fun a hE => ?_))
    obtain ⟨cs1312, C1313, T1314, fr1315, hr1316, hb1317, hc1318⟩ := (Cell.elemA (N := 64) (m := y1147.1) (hG1.mono (le2 le1049 le1149)) hm1311)
    obtain rfl := hr1316
    refine tT 21 12320719 (fuel := 6) (by kernel_rfl) hE (tk_loadX (off0 := (0 + Int.toNat (y1147.1))) (off := 0) (c := [.int .u32 ((vget (gl_K) (Int.toNat (y1147.1))))]) (.int .u32 ((vget (gl_K) (Int.toNat (y1147.1))))) rfl rfl rfl rfl hE rfl hS rfl hb1317 hc1318 (by kernel_rfl) (by kernel_rfl) (kD hS dn_nil) (fun a hE => ?_))
    obtain ⟨r1319, h1320, hf⟩ := bind_some hf
    refine oG 4 12320735 (fuel := 5) (by kernel_rfl) (op_call rfl rfl rfl rfl hE rfl rfl rfl rfl (by kernel_rfl) (sha_turned.calls (g := g) h1320 (hS.st.fore (L := [])) ) (fun a v w hR hE => ?_))
    obtain ⟨D1321, rfl, hS1⟩ := hR
    refine ⟨(hS1.keeps.sub (M' := []) trivial).mono (fun _ h => h), ?_⟩
    have le1323 := hS1.dle
    have hS := hS.callR hS1 rfl .n
    clear hS1
    refine wP 5 12320767 4 (.int .u32 ((IntKind.wrap .u32 ((vget (y1147.2) (Int.toNat ((7 : Int)))) + r1319)))) hE (fun a hE => ?_)
    refine wP 18 12582911 3 (.int .u32 ((IntKind.wrap .u32 ((IntKind.wrap .u32 ((vget (y1147.2) (Int.toNat ((7 : Int)))) + r1319)) + (bxor .u32 (band .u32 (vget (y1147.2) (Int.toNat ((4 : Int)))) (vget (y1147.2) (Int.toNat ((5 : Int))))) (band .u32 (bnot .u32 (vget (y1147.2) (Int.toNat ((4 : Int))))) (vget (y1147.2) (Int.toNat ((6 : Int)))))))))) hE (fun a hE => ?_)
    refine wP 22 16777215 2 (.int .u32 ((IntKind.wrap .u32 ((IntKind.wrap .u32 ((IntKind.wrap .u32 ((vget (y1147.2) (Int.toNat ((7 : Int)))) + r1319)) + (bxor .u32 (band .u32 (vget (y1147.2) (Int.toNat ((4 : Int)))) (vget (y1147.2) (Int.toNat ((5 : Int))))) (band .u32 (bnot .u32 (vget (y1147.2) (Int.toNat ((4 : Int))))) (vget (y1147.2) (Int.toNat ((6 : Int)))))))) + (vget (gl_K) (Int.toNat (y1147.1))))))) hE (fun a hE => ?_)
    refine wP 24 33554431 1 (.int .u32 ((IntKind.wrap .u32 ((IntKind.wrap .u32 ((IntKind.wrap .u32 ((IntKind.wrap .u32 ((vget (y1147.2) (Int.toNat ((7 : Int)))) + r1319)) + (bxor .u32 (band .u32 (vget (y1147.2) (Int.toNat ((4 : Int)))) (vget (y1147.2) (Int.toNat ((5 : Int))))) (band .u32 (bnot .u32 (vget (y1147.2) (Int.toNat ((4 : Int))))) (vget (y1147.2) (Int.toNat ((6 : Int)))))))) + (vget (gl_K) (Int.toNat (y1147.1))))) + x1296)))) hE (fun a hE => ?_)
    refine wP 25 67108863 0 (.int .u32 ((IntKind.wrap .u32 ((IntKind.wrap .u32 ((IntKind.wrap .u32 ((IntKind.wrap .u32 ((vget (y1147.2) (Int.toNat ((7 : Int)))) + r1319)) + (bxor .u32 (band .u32 (vget (y1147.2) (Int.toNat ((4 : Int)))) (vget (y1147.2) (Int.toNat ((5 : Int))))) (band .u32 (bnot .u32 (vget (y1147.2) (Int.toNat ((4 : Int))))) (vget (y1147.2) (Int.toNat ((6 : Int)))))))) + (vget (gl_K) (Int.toNat (y1147.1))))) + x1296)))) hE (fun a hE => ?_)
    refine doneG (by kernel_rfl) ?_
    refine wpIn_seq ?_
    refine region_draw (fun j => Keeps (mfOf [] j)) (by kernel_rfl) ?_
    have hS := hS.drew
    first | generalize w.drew = w at hS ⊢ | generalize w0.drew = w at hS ⊢
    refine tW 0 1 (fuel := 21) (by kernel_rfl) hE (fun M => tk_indexPA (N := 8) (k := .u32) (m := (0 : Int)) rfl rfl rfl rfl hE rfl rfl rfl (by kernel_rfl) (by kernel_rfl) (fun a hE => ?_))
    refine tT 1 3 (fuel := 20) (by kernel_rfl) hE (tk_loadPA 2 (N := 8) (k := .u32) (v := y1147.2) (m := (0 : Int)) rfl rfl rfl rfl hE rfl hS rfl rfl (by kernel_rfl) (by kernel_rfl) (kL (j := 2) hS rfl List.not_mem_nil) (fun a hE => ?_))
    refine tW 3 11 (fuel := 19) (by kernel_rfl) hE (fun M => tk_indexPA (N := 8) (k := .u32) (m := (0 : Int)) rfl rfl rfl rfl hE rfl rfl rfl (by kernel_rfl) (by kernel_rfl) (fun a hE => ?_))
    refine tT 4 27 (fuel := 18) (by kernel_rfl) hE (tk_loadPA 2 (N := 8) (k := .u32) (v := y1147.2) (m := (0 : Int)) rfl rfl rfl rfl hE rfl hS rfl rfl (by kernel_rfl) (by kernel_rfl) (kL (j := 2) hS rfl List.not_mem_nil) (fun a hE => ?_))
    refine tW 5 59 (fuel := 17) (by kernel_rfl) hE (fun M => tk_indexPA (N := 8) (k := .u32) (m := (1 : Int)) rfl rfl rfl rfl hE rfl rfl rfl (by kernel_rfl) (by kernel_rfl) (fun a hE => ?_))
    refine tT 6 123 (fuel := 16) (by kernel_rfl) hE (tk_loadPA 2 (N := 8) (k := .u32) (v := y1147.2) (m := (1 : Int)) rfl rfl rfl rfl hE rfl hS rfl rfl (by kernel_rfl) (by kernel_rfl) (kL (j := 2) hS rfl List.not_mem_nil) (fun a hE => ?_))
    refine wP 7 251 15 (.int .u32 ((band .u32 (vget (y1147.2) (Int.toNat ((0 : Int)))) (vget (y1147.2) (Int.toNat ((1 : Int))))))) hE (fun a hE => ?_)
    refine tW 8 507 (fuel := 14) (by kernel_rfl) hE (fun M => tk_indexPA (N := 8) (k := .u32) (m := (0 : Int)) rfl rfl rfl rfl hE rfl rfl rfl (by kernel_rfl) (by kernel_rfl) (fun a hE => ?_))
    refine tT 9 1019 (fuel := 13) (by kernel_rfl) hE (tk_loadPA 2 (N := 8) (k := .u32) (v := y1147.2) (m := (0 : Int)) rfl rfl rfl rfl hE rfl hS rfl rfl (by kernel_rfl) (by kernel_rfl) (kL (j := 2) hS rfl List.not_mem_nil) (fun a hE => ?_))
    refine tW 10 2043 (fuel := 12) (by kernel_rfl) hE (fun M => tk_indexPA (N := 8) (k := .u32) (m := (2 : Int)) rfl rfl rfl rfl hE rfl rfl rfl (by kernel_rfl) (by kernel_rfl) (fun a hE => ?_))
    refine tT 11 4091 (fuel := 11) (by kernel_rfl) hE (tk_loadPA 2 (N := 8) (k := .u32) (v := y1147.2) (m := (2 : Int)) rfl rfl rfl rfl hE rfl hS rfl rfl (by kernel_rfl) (by kernel_rfl) (kL (j := 2) hS rfl List.not_mem_nil) (fun a hE => ?_))
    refine wP 12 8187 10 (.int .u32 ((band .u32 (vget (y1147.2) (Int.toNat ((0 : Int)))) (vget (y1147.2) (Int.toNat ((2 : Int))))))) hE (fun a hE => ?_)
    refine wP 13 16379 9 (.int .u32 ((bxor .u32 (band .u32 (vget (y1147.2) (Int.toNat ((0 : Int)))) (vget (y1147.2) (Int.toNat ((1 : Int))))) (band .u32 (vget (y1147.2) (Int.toNat ((0 : Int)))) (vget (y1147.2) (Int.toNat ((2 : Int)))))))) hE (fun a hE => ?_)
    refine tW 14 32763 (fuel := 8) (by kernel_rfl) hE (fun M => tk_indexPA (N := 8) (k := .u32) (m := (1 : Int)) rfl rfl rfl rfl hE rfl rfl rfl (by kernel_rfl) (by kernel_rfl) (fun a hE => ?_))
    refine tT 15 65531 (fuel := 7) (by kernel_rfl) hE (tk_loadPA 2 (N := 8) (k := .u32) (v := y1147.2) (m := (1 : Int)) rfl rfl rfl rfl hE rfl hS rfl rfl (by kernel_rfl) (by kernel_rfl) (kL (j := 2) hS rfl List.not_mem_nil) (fun a hE => ?_))
    refine tW 16 131067 (fuel := 6) (by kernel_rfl) hE (fun M => tk_indexPA (N := 8) (k := .u32) (m := (2 : Int)) rfl rfl rfl rfl hE rfl rfl rfl (by kernel_rfl) (by kernel_rfl) (fun a hE => ?_))
    refine tT 17 262139 (fuel := 5) (by kernel_rfl) hE (tk_loadPA 2 (N := 8) (k := .u32) (v := y1147.2) (m := (2 : Int)) rfl rfl rfl rfl hE rfl hS rfl rfl (by kernel_rfl) (by kernel_rfl) (kL (j := 2) hS rfl List.not_mem_nil) (fun a hE => ?_))
    refine wP 18 524283 4 (.int .u32 ((band .u32 (vget (y1147.2) (Int.toNat ((1 : Int)))) (vget (y1147.2) (Int.toNat ((2 : Int))))))) hE (fun a hE => ?_)
    refine wP 19 1048571 3 (.int .u32 ((bxor .u32 (bxor .u32 (band .u32 (vget (y1147.2) (Int.toNat ((0 : Int)))) (vget (y1147.2) (Int.toNat ((1 : Int))))) (band .u32 (vget (y1147.2) (Int.toNat ((0 : Int)))) (vget (y1147.2) (Int.toNat ((2 : Int)))))) (band .u32 (vget (y1147.2) (Int.toNat ((1 : Int)))) (vget (y1147.2) (Int.toNat ((2 : Int)))))))) hE (fun a hE => ?_)
    obtain ⟨r1329, h1330, hf⟩ := bind_some hf
    refine oG 2 1048575 (fuel := 2) (by kernel_rfl) (op_call rfl rfl rfl rfl hE rfl rfl rfl rfl (by kernel_rfl) (sha_turned.calls (g := g) h1330 (hS.st.fore (L := [])) ) (fun a v w hR hE => ?_))
    obtain ⟨D1331, rfl, hS1⟩ := hR
    refine ⟨(hS1.keeps.sub (M' := []) trivial).mono (fun _ h => h), ?_⟩
    have le1333 := hS1.dle
    have hS := hS.callR hS1 rfl .n
    clear hS1
    refine wP 20 2097151 1 (.int .u32 ((IntKind.wrap .u32 (r1329 + (bxor .u32 (bxor .u32 (band .u32 (vget (y1147.2) (Int.toNat ((0 : Int)))) (vget (y1147.2) (Int.toNat ((1 : Int))))) (band .u32 (vget (y1147.2) (Int.toNat ((0 : Int)))) (vget (y1147.2) (Int.toNat ((2 : Int)))))) (band .u32 (vget (y1147.2) (Int.toNat ((1 : Int)))) (vget (y1147.2) (Int.toNat ((2 : Int)))))))))) hE (fun a hE => ?_)
    refine wP 21 4194303 0 (.int .u32 ((IntKind.wrap .u32 (r1329 + (bxor .u32 (bxor .u32 (band .u32 (vget (y1147.2) (Int.toNat ((0 : Int)))) (vget (y1147.2) (Int.toNat ((1 : Int))))) (band .u32 (vget (y1147.2) (Int.toNat ((0 : Int)))) (vget (y1147.2) (Int.toNat ((2 : Int)))))) (band .u32 (vget (y1147.2) (Int.toNat ((1 : Int)))) (vget (y1147.2) (Int.toNat ((2 : Int)))))))))) hE (fun a hE => ?_)
    refine doneG (by kernel_rfl) ?_
    refine wpIn_seq ?_
    refine region_draw (fun j => Keeps (mfOf [(2, [b746])] j)) (by kernel_rfl) ?_
    have hS := hS.drew
    first | generalize w.drew = w at hS ⊢ | generalize w0.drew = w at hS ⊢
    refine tW 0 1 (fuel := 2) (by kernel_rfl) hE (fun M => tk_slicePA (N := 8) (k := .u32) (zl := 1) (zh := 8) rfl rfl rfl rfl hE rfl rfl (by kernel_rfl) ⟨_, rfl⟩ rfl (by kernel_rfl) (fun a hE => ?_))
    refine tW 1 3 (fuel := 1) (by kernel_rfl) hE (fun M => tk_slicePA (N := 8) (k := .u32) (zl := 0) (zh := 7) rfl rfl rfl rfl hE rfl rfl (by kernel_rfl) rfl ⟨_, rfl⟩ (by kernel_rfl) (fun a hE => ?_))
    have hS := hS.pk (.c 2 rfl (.c 0 rfl (.c 1 rfl .n))) rfl
    obtain ⟨v1336, hv1337, hf⟩ := bind_some hf
    replace hv1337 := Option.some.inj hv1337
    refine oG 2 7 (fuel := 0) (by kernel_rfl) (op_copyPA (e := 97) (N := 8) (k := .u32) (v := y1147.2) (cc := 7) (p := 1) (q := 0) rfl rfl rfl rfl rfl hE rfl hS rfl rfl (by kernel_rfl) (by kernel_rfl) (by kernel_rfl) (by kernel_rfl) (fun a w hkp hE hS => ⟨hkp.mono (fun _ h => h), ?_⟩))
    clear hkp
    rw [hv1337] at hS
    refine doneG (by kernel_rfl) ?_
    refine wpIn_seq ?_
    refine region_at ?_
    refine at_op (op_tk hE (tk_indexPA (N := 8) (k := .u32) (m := (4 : Int)) rfl rfl rfl rfl hE rfl rfl rfl (by kernel_rfl) (by kernel_rfl) (fun a hE => ?_))) rfl
    refine at_op (op_tk hE (tk_loadPA 0 (N := 8) (k := .u32) (v := v1336) (m := (4 : Int)) rfl rfl rfl rfl hE rfl hS rfl rfl (by kernel_rfl) (by kernel_rfl) (kL (j := 0) hS rfl List.not_mem_nil) (fun a hE => ?_))) rfl
    refine sN 2 4 [(74, .int .u32 ((IntKind.wrap .u32 ((vget (v1336) (Int.toNat ((4 : Int)))) + (IntKind.wrap .u32 ((IntKind.wrap .u32 ((IntKind.wrap .u32 ((IntKind.wrap .u32 ((vget (y1147.2) (Int.toNat ((7 : Int)))) + r1319)) + (bxor .u32 (band .u32 (vget (y1147.2) (Int.toNat ((4 : Int)))) (vget (y1147.2) (Int.toNat ((5 : Int))))) (band .u32 (bnot .u32 (vget (y1147.2) (Int.toNat ((4 : Int))))) (vget (y1147.2) (Int.toNat ((6 : Int)))))))) + (vget (gl_K) (Int.toNat (y1147.1))))) + x1296))))))] hE (fun a hE => ?_)
    refine at_op (op_tk hE (tk_indexPA (N := 8) (k := .u32) (m := (4 : Int)) rfl rfl rfl rfl hE rfl rfl rfl (by kernel_rfl) (by kernel_rfl) (fun a hE => ?_))) rfl
    obtain ⟨v1338, hv1339, hf⟩ := bind_some hf
    replace hv1339 := Option.some.inj hv1339
    refine at_op (op_storePA (N := 8) (k := .u32) (v := v1336) (m := (4 : Int)) (z := (IntKind.wrap .u32 ((vget (v1336) (Int.toNat ((4 : Int)))) + (IntKind.wrap .u32 ((IntKind.wrap .u32 ((IntKind.wrap .u32 ((IntKind.wrap .u32 ((vget (y1147.2) (Int.toNat ((7 : Int)))) + r1319)) + (bxor .u32 (band .u32 (vget (y1147.2) (Int.toNat ((4 : Int)))) (vget (y1147.2) (Int.toNat ((5 : Int))))) (band .u32 (bnot .u32 (vget (y1147.2) (Int.toNat ((4 : Int))))) (vget (y1147.2) (Int.toNat ((6 : Int)))))))) + (vget (gl_K) (Int.toNat (y1147.1))))) + x1296))))) rfl rfl rfl rfl hE hS rfl rfl (by kernel_rfl) (by kernel_rfl) (fun a w _ hE hS => ?_)) rfl
    rw [hv1339] at hS
    refine at_end rfl ?_
    refine region_at ?_
    refine sN 3 3 [(78, .int .u32 ((IntKind.wrap .u32 ((IntKind.wrap .u32 ((IntKind.wrap .u32 ((IntKind.wrap .u32 ((IntKind.wrap .u32 ((vget (y1147.2) (Int.toNat ((7 : Int)))) + r1319)) + (bxor .u32 (band .u32 (vget (y1147.2) (Int.toNat ((4 : Int)))) (vget (y1147.2) (Int.toNat ((5 : Int))))) (band .u32 (bnot .u32 (vget (y1147.2) (Int.toNat ((4 : Int))))) (vget (y1147.2) (Int.toNat ((6 : Int)))))))) + (vget (gl_K) (Int.toNat (y1147.1))))) + x1296)) + (IntKind.wrap .u32 (r1329 + (bxor .u32 (bxor .u32 (band .u32 (vget (y1147.2) (Int.toNat ((0 : Int)))) (vget (y1147.2) (Int.toNat ((1 : Int))))) (band .u32 (vget (y1147.2) (Int.toNat ((0 : Int)))) (vget (y1147.2) (Int.toNat ((2 : Int)))))) (band .u32 (vget (y1147.2) (Int.toNat ((1 : Int)))) (vget (y1147.2) (Int.toNat ((2 : Int))))))))))))] hE (fun a hE => ?_)
    refine at_op (op_tk hE (tk_indexPA (N := 8) (k := .u32) (m := (0 : Int)) rfl rfl rfl rfl hE rfl rfl rfl (by kernel_rfl) (by kernel_rfl) (fun a hE => ?_))) rfl
    obtain ⟨v1340, hv1341, hf⟩ := bind_some hf
    replace hv1341 := Option.some.inj hv1341
    refine at_op (op_storePA (N := 8) (k := .u32) (v := v1338) (m := (0 : Int)) (z := (IntKind.wrap .u32 ((IntKind.wrap .u32 ((IntKind.wrap .u32 ((IntKind.wrap .u32 ((IntKind.wrap .u32 ((vget (y1147.2) (Int.toNat ((7 : Int)))) + r1319)) + (bxor .u32 (band .u32 (vget (y1147.2) (Int.toNat ((4 : Int)))) (vget (y1147.2) (Int.toNat ((5 : Int))))) (band .u32 (bnot .u32 (vget (y1147.2) (Int.toNat ((4 : Int))))) (vget (y1147.2) (Int.toNat ((6 : Int)))))))) + (vget (gl_K) (Int.toNat (y1147.1))))) + x1296)) + (IntKind.wrap .u32 (r1329 + (bxor .u32 (bxor .u32 (band .u32 (vget (y1147.2) (Int.toNat ((0 : Int)))) (vget (y1147.2) (Int.toNat ((1 : Int))))) (band .u32 (vget (y1147.2) (Int.toNat ((0 : Int)))) (vget (y1147.2) (Int.toNat ((2 : Int)))))) (band .u32 (vget (y1147.2) (Int.toNat ((1 : Int)))) (vget (y1147.2) (Int.toNat ((2 : Int))))))))))) rfl rfl rfl rfl hE hS rfl rfl (by kernel_rfl) (by kernel_rfl) (fun a w _ hE hS => ?_)) rfl
    rw [hv1341] at hS
    refine at_end rfl ?_
    refine region_at ?_
    refine sN 2 2 [(18, .int .i64 ((IntKind.wrap .i64 (y1147.1 + (1 : Int)))))] hE (fun a hE => ?_)
    refine at_end rfl ?_
    have hS := hS.pk (.c 1 rfl (.c 2 rfl (.c 0 rfl .n))) rfl
    exact ⟨((IntKind.wrap .i64 (y1147.1 + (1 : Int))), v1340), D1331, hE.weak (by kernel_rfl), hS, (le2 (le2 le1149 le1323) le1333), hf⟩
   ·replace hf := cond_f hb hf
    clear hb
    refine wpIn_exit ?_
    obtain rfl := Option.some.inj hf
    exact ⟨y1147.2, D1148, hE.weak (by kernel_rfl), hS, le1149, rfl⟩
set_option maxRecDepth 100000 in
set_option maxHeartbeats 4000000 in
theorem sha_Sum.calls {K : Nat} {g w0 : World} {D0 : Snap} {x1 : (List (List Int))} {A2 : Option Addr} {c3 : Nat} {r : ((Vector Int 32))} (hf : sha_Sum.f K x1 = some r) (hS0 : St g w0 D0 []) (h4 : Sl (kdSlice (kdInt .u8)) D0 A2 c3 (x1)) (hG0 : Cell (kdArr .u32 8) D0 0 0 gl_First) (hG1 : Cell (kdArr .u32 64) D0 1 0 gl_K) :
  CallsIn (Fw none) 0 Tryd.prog 58 (List.toArray [.slice A2 (List.length (x1)) c3]) w0 (fun e w' => ∃ v, e = .returned v ∧ ∃ (D1 : Snap), v = .agg (List.toArray (acells .u8 32 (r))) ∧ Stp g w0 D0 [] w' D1 []) := by
 unfold sha_Sum.f at hf
 have hS := Stp.refl hS0
 clear hS0
 refine calls_bodyM (n := 38) Tryd.func58 rfl Tryd.ntmps58 rfl (fun a hE => ?_)
 have hE : Env a 38 [] [(0, .slice A2 (List.length (x1)) c3)] := hE
 refine wpIn_seq ?_
 refine region_at ?_
 refine at_op (op_alloc (z := .agg (List.toArray (acells .u8 32 ((Vector.replicate 32 (0 : Int)))))) rfl rfl rfl rfl hE rfl hS (by kernel_rfl) (fun a b432 w _ hE hS => ?_)) rfl
 refine at_end rfl ?_
 refine wpIn_seq ?_
 refine region_at ?_
 refine sN 1 1 [(8, .slice A2 (List.length (x1)) c3)] hE (fun a hE => ?_)
 obtain ⟨r434, h435, hf⟩ := bind_some hf
 refine aC rfl rfl rfl rfl hE rfl rfl rfl rfl (slices_Concat_byte_byte.calls (g := g) h435 (hS.st.fore (L := [])) h4) (fun a v w hR hE => ?_)
 obtain ⟨D436, A438, c439, q440, rfl, hS1, h441⟩ := hR
 have le443 := hS1.dle
 have hS := hS.callR hS1 rfl (.c .n)
 clear hS1
 refine sN 1 3 [(3, .slice A438 (List.length (r434)) c439)] hE (fun a hE => ?_)
 refine at_end rfl ?_
 refine wpIn_seq ?_
 refine region_at ?_
 obtain ⟨cs444, C445, T446, fr447, hr448, hb449, hc450⟩ := (hG0.mono le443)
 obtain rfl := hr448
 refine at_op (op_tk hE (tk_loadX (off0 := 0) (off := 0) (c := acells .u32 8 (gl_First)) (.agg (List.toArray (acells .u32 8 (gl_First)))) rfl rfl rfl rfl hE rfl hS rfl hb449 hc450 (by kernel_rfl) (by kernel_rfl) (kD hS dn_nil) (fun a hE => ?_))) rfl
 refine at_op (op_alloc (z := .agg (List.toArray (acells .u32 8 ((Vector.replicate 8 (0 : Int)))))) rfl rfl rfl rfl hE rfl hS (by kernel_rfl) (fun a b451 w _ hE hS => ?_)) rfl
 refine at_op (op_store (v := .agg (List.toArray (acells .u32 8 (gl_First)))) (acells .u32 8 (gl_First)) rfl rfl rfl rfl hE hS rfl rfl (by kernel_rfl) (by kernel_rfl) (by kernel_rfl) (by kernel_rfl) (by kernel_rfl) (fun a w _ hE hS => ?_)) rfl
 refine at_end rfl ?_
 refine wpIn_seq ?_
 refine wpIn_seq ?_
 refine region_at ?_
 refine sN 3 3 [(11, .slice A438 (List.length (r434)) c439), (13, .int .i64 (((List.length (r434) : Nat) : Int)))] hE (fun a hE => ?_)
 obtain ⟨r607, h608, hf⟩ := bind_some hf
 refine aC rfl rfl rfl rfl hE rfl rfl rfl rfl (sha_Fill.calls (g := g) h608 (hS.st.fore (L := [])) ) (fun a v w hR hE => ?_)
 obtain ⟨D609, A611, c612, q613, rfl, hS1, h614⟩ := hR
 have le616 := hS1.dle
 have hS := hS.callR hS1 rfl (.c .n)
 clear hS1
 obtain ⟨D617, q620, le618, hS, h621, h619⟩ := hS.lent h614
 have hS := hS.pk (.c 2 rfl (.c 0 rfl (.c 1 rfl (.c 3 rfl .n)))) rfl
 obtain ⟨l622, h623, hf⟩ := bind_some hf
 refine at_op (g_append (K := (kdInt .u8)) (e := 5) (bytes := 1) (l := r434) (m := r607) rfl rfl rfl rfl hE rfl hS rfl rfl (by kernel_rfl) rfl rfl (h441.mono (le2 le616 le618)) h619 h623 (fun a A624 c625 q626 w _ hE h627 hS => ?_)) rfl
 obtain ⟨D629, q632, le630, hS, h633, h631⟩ := hS.lent h627
 obtain ⟨r634, h635, hf⟩ := bind_some hf
 refine aC rfl rfl rfl rfl hE rfl rfl rfl rfl (sha_blocks.calls (g := g) h635 (hS.st.fore (L := [])) h631) (fun a v w hR hE => ?_)
 obtain ⟨D636, b638, A640, c641, rfl, hS1, h642⟩ := hR
 have le643 := hS1.dle
 have hS := hS.callR hS1 rfl (.c .n)
 clear hS1
 refine at_end rfl ?_
 refine wpIn_block ?_
 have hEo650 := hE
 refine range_in2 (captured := #[.pointer (some ⟨b638, 0, none⟩)]) hE hS rfl (by kernel_rfl) (fun fn649 l647 d648 w q645 hq646 hS => ?_)
 refine calls_body (n := 13) Tryd.func77 rfl Tryd.ntmps77 rfl (fun a hE => ?_)
 have hE : Env a 13 [] [(0, .func (.yield l647) #[] #[]), (1, .pointer (some ⟨b638, 0, none⟩))] := hE
 obtain ⟨s734, hf, hs735⟩ := bind_some hf
 have hS := hS.pk (.c 6 rfl (.c 5 rfl (.c 2 rfl (.c 0 rfl (.c 1 rfl .n))))) rfl
 refine block_loop (fun a w => ∃ (z728 : (Vector Int 8) × (List Int)), ∃ (A731 : Option Addr), ∃ (c732 : Nat), ∃ (D729 : Snap), Env a 13 [] [] ∧ Stp g w0 D0 [] w D729 [bx b432 48 (acells .u8 32 ((Vector.replicate 32 (0 : Int)))), bx b451 98 (acells .u32 8 (z728.1)), bx b638 33 ([.slice A731 (List.length (z728.2)) c732]), q645 .ready none, dk d648] ∧ Snap.le D636 D729 ∧ Sl (kdInt .u8) D729 A731 c732 (z728.2) ∧ z728 = s734) (fun k a w => ∃ (y691 : (Vector Int 8) × (List Int)), ∃ (A694 : Option Addr), ∃ (c695 : Nat), ∃ (D692 : Snap), Env a 13 [] [(0, .func (.yield l647) #[] #[]), (1, .pointer (some ⟨b638, 0, none⟩))] ∧ Stp g w0 D0 [] w D692 [bx b432 48 (acells .u8 32 ((Vector.replicate 32 (0 : Int)))), bx b451 98 (acells .u32 8 (y691.1)), bx b638 33 ([.slice A694 (List.length (y691.2)) c695]), q645 .ready none, dk d648] ∧ Snap.le D636 D692 ∧ Sl (kdInt .u8) D692 A694 c695 (y691.2) ∧ sha_Sum_l1.l K k y691 = some s734) K ?_ ?_ ?_
 ·exact ⟨(gl_First, r634), A640, c641, D636, hE.weak (by kernel_rfl), hS, Snap.le.refl _, h642, hf⟩
 ·clear hE hS hf
  rintro a w ⟨z728, A731, c732, D729, hE, hS, le730, h733, rfl⟩
  have hf := hs735
  clear hs735
  refine ret_genN ([]) hE (by rw [show Tryd.f77.results.toList = [] from rfl]; rfl) ?_
  have hS := hS.pk (.c 3 rfl (.c 0 rfl (.c 1 rfl (.c 2 rfl (.c 4 rfl .n))))) rfl
  refine range_done2 hq646 hS hEo650 (fun w a hS hE => ?_)
  refine wpIn_seq ?_
  refine region_at ?_
  refine at_op (op_alloc (z := .agg (List.toArray (acells .u8 32 ((Vector.replicate 32 (0 : Int)))))) rfl rfl rfl rfl hE rfl hS (by kernel_rfl) (fun a b761 w _ hE hS => ?_)) rfl
  refine at_end rfl ?_
  refine wpIn_seq ?_
  refine wpIn_seq ?_
  refine region_at ?_
  refine sN 1 1 [(21, .int .i64 ((0 : Int)))] hE (fun a hE => ?_)
  refine at_end rfl ?_
  obtain ⟨s847, hf, hs848⟩ := bind_some hf
  have hS := hS.pk (.c 1 rfl (.c 2 rfl (.c 0 rfl (.c 4 rfl .n)))) rfl
  refine block_loop (fun a w => ∃ (z844 : (Vector Int 32)), ∃ (D845 : Snap), Env a 38 [markD d648] [(2, .pointer (some ⟨b432, 0, none⟩)), (6, .pointer (some ⟨b761, 0, none⟩))] ∧ Stp g w0 D0 [] w D845 [bx b432 48 (acells .u8 32 ((Vector.replicate 32 (0 : Int)))), bx b761 48 (acells .u8 32 (z844)), dk d648] ∧ Snap.le D729 D845 ∧ z844 = s847) (fun k a w => ∃ (y828 : Int × (Vector Int 32)), ∃ (D829 : Snap), Env a 38 [markD d648] [(2, .pointer (some ⟨b432, 0, none⟩)), (4, .pointer (some ⟨b451, 0, none⟩)), (6, .pointer (some ⟨b761, 0, none⟩)), (21, .int .i64 (y828.1))] ∧ Stp g w0 D0 [] w D829 [bx b432 48 (acells .u8 32 ((Vector.replicate 32 (0 : Int)))), bx b451 98 (acells .u32 8 (z728.1)), bx b761 48 (acells .u8 32 (y828.2)), dk d648] ∧ Snap.le D729 D829 ∧ sha_Sum_l2.l K z728 k y828 = some s847) K ?_ ?_ ?_
  ·exact ⟨((0 : Int), (Vector.replicate 32 (0 : Int))), D729, hE.weak (by kernel_rfl), hS, Snap.le.refl _, hf⟩
  ·clear hE hS hf
   rintro a w ⟨z844, D845, hE, hS, le846, rfl⟩
   have hf := hs848
   clear hs848
   refine wpIn_seq ?_
   refine region_at ?_
   refine aL 1 (.agg (List.toArray (acells .u8 32 (z844)))) hE hS (fun a hE => ?_)
   refine at_op (op_store (v := .agg (List.toArray (acells .u8 32 (z844)))) (acells .u8 32 (z844)) rfl rfl rfl rfl hE hS rfl rfl (by kernel_rfl) (by kernel_rfl) (by kernel_rfl) (by kernel_rfl) (by kernel_rfl) (fun a w _ hE hS => ?_)) rfl
   refine at_end rfl ?_
   refine wpIn_ret ?_
   have hS := hS.pk (.c 2 rfl (.c 0 rfl (.c 1 rfl .n))) rfl
   obtain rfl := Option.some.inj hf
   repeat (with_reducible first | refine then_ret ?_ | refine block_ret ?_ | refine qx_ret ?_)
   refine ret_M1 ([.agg (List.toArray (acells .u8 32 (z844)))]) hE hS (fun w hS => ⟨by rw [show Tryd.f58.results.toList = [.cell 2 48] from rfl]; exact ⟨_, _, _, 0, _, _, rfl, rfl, hS.heapAt (j := 0) rfl, by kernel_rfl, rfl⟩, ?_⟩)
   have hS := hS.pk .n rfl
   exact ⟨_, rfl, D845, rfl, hS⟩
  ·clear hE hS hf
   rintro k a w ⟨y828, D829, hE, hS, le830, hf⟩
   obtain ⟨k, rfl, hf⟩ := sha_Sum_l2.some _ hf
   refine ⟨k, rfl, ?_⟩
   unfold sha_Sum_l2.b at hf
   refine wpIn_seq ?_
   refine region_at ?_
   refine sN 1 1 [(22, .bool ((decide (y828.1 < (32 : Int)))))] hE (fun a hE => ?_)
   refine at_end rfl ?_
   refine wpIn_seq ?_
   refine cond_split hE (b := (decide (y828.1 < (32 : Int)))) rfl (fun hb => ?_) (fun hb => ?_)
   ·replace hf := cond_t hb hf
    clear hb
    refine wpIn_skip ?_
    refine wpIn_seq ?_
    refine wpIn_block ?_
    refine wpIn_seq ?_
    refine region_at ?_
    refine sN 2 2 [(7, .int .i64 (y828.1))] hE (fun a hE => ?_)
    refine at_end rfl ?_
    refine region_at ?_
    refine sN 3 3 [(24, .int .i64 (y828.1)), (26, .int .i64 ((IntKind.wrap .i64 (Int.tdiv y828.1 4))))] hE (fun a hE => ?_)
    obtain ⟨hm854, hf⟩ := chk_some hf
    refine at_op (op_tk hE (tk_indexPA (N := 8) (k := .u32) (m := (IntKind.wrap .i64 (Int.tdiv y828.1 4))) rfl rfl rfl rfl hE rfl rfl rfl (by kernel_rfl) hm854 (fun a hE => ?_))) rfl
    refine at_op (op_tk hE (tk_loadPA 1 (N := 8) (k := .u32) (v := z728.1) (m := (IntKind.wrap .i64 (Int.tdiv y828.1 4))) rfl rfl rfl rfl hE rfl hS rfl rfl (by kernel_rfl) hm854 (kL (j := 1) hS rfl List.not_mem_nil) (fun a hE => ?_))) rfl
    refine sN 4 9 [(32, .int .i64 ((IntKind.wrap .i64 ((24 : Int) - (IntKind.wrap .i64 ((8 : Int) * (Int.tmod y828.1 4)))))))] hE (fun a hE => ?_)
    obtain ⟨hq855, hf⟩ := chk_not hf
    refine at_op (op_tk hE (tk_bin (r := .int .u32 ((Int.fdiv (vget (z728.1) (Int.toNat ((IntKind.wrap .i64 (Int.tdiv y828.1 4))))) (2 ^ (min (Int.toNat (IntKind.wrap .i64 ((24 : Int) - (IntKind.wrap .i64 ((8 : Int) * (Int.tmod y828.1 4)))))) 32))))) rfl rfl rfl rfl hE rfl rfl rfl (shr_run hq855) (fun a hE => ?_))) rfl
    refine sN 1 11 [(34, .int .u8 ((IntKind.wrap .u8 (Int.fdiv (vget (z728.1) (Int.toNat ((IntKind.wrap .i64 (Int.tdiv y828.1 4))))) (2 ^ (min (Int.toNat (IntKind.wrap .i64 ((24 : Int) - (IntKind.wrap .i64 ((8 : Int) * (Int.tmod y828.1 4)))))) 32))))))] hE (fun a hE => ?_)
    obtain ⟨hm856, hf⟩ := chk_some hf
    refine at_op (op_tk hE (tk_indexPA (N := 32) (k := .u8) (m := y828.1) rfl rfl rfl rfl hE rfl rfl rfl (by kernel_rfl) hm856 (fun a hE => ?_))) rfl
    have hS := hS.pk (.c 2 rfl (.c 0 rfl (.c 1 rfl (.c 3 rfl .n)))) rfl
    obtain ⟨v857, hv858, hf⟩ := bind_some hf
    replace hv858 := Option.some.inj hv858
    refine at_op (op_storePA (N := 32) (k := .u8) (v := y828.2) (m := y828.1) (z := (IntKind.wrap .u8 (Int.fdiv (vget (z728.1) (Int.toNat ((IntKind.wrap .i64 (Int.tdiv y828.1 4))))) (2 ^ (min (Int.toNat (IntKind.wrap .i64 ((24 : Int) - (IntKind.wrap .i64 ((8 : Int) * (Int.tmod y828.1 4)))))) 32))))) rfl rfl rfl rfl hE hS rfl rfl (by kernel_rfl) hm856 (fun a w _ hE hS => ?_)) rfl
    rw [hv858] at hS
    refine at_end rfl ?_
    refine region_at ?_
    refine sN 2 2 [(21, .int .i64 ((IntKind.wrap .i64 (y828.1 + (1 : Int)))))] hE (fun a hE => ?_)
    refine at_end rfl ?_
    have hS := hS.pk (.c 1 rfl (.c 2 rfl (.c 0 rfl (.c 3 rfl .n)))) rfl
    exact ⟨((IntKind.wrap .i64 (y828.1 + (1 : Int))), v857), D829, hE.weak (by kernel_rfl), hS, le830, hf⟩
   ·replace hf := cond_f hb hf
    clear hb
    refine wpIn_exit ?_
    obtain rfl := Option.some.inj hf
    have hS := hS.pk (.c 0 rfl (.c 2 rfl (.c 3 rfl .n))) rfl
    exact ⟨y828.2, D829, hE.weak (by kernel_rfl), hS, le830, rfl⟩
 ·clear hE hS hf
  rintro k a w ⟨y691, A694, c695, D692, hE, hS, le693, h696, hf⟩
  obtain ⟨k, rfl, hf⟩ := sha_Sum_l1.some hf
  refine ⟨k, rfl, ?_⟩
  unfold sha_Sum_l1.b at hf
  refine wpIn_seq ?_
  refine wpIn_seq ?_
  refine region_at ?_
  refine aL 2 (.slice A694 (List.length (y691.2)) c695) hE hS (fun a hE => ?_)
  refine sN 2 3 [(5, .bool ((decide ((64 : Int) ≤ ((List.length (y691.2) : Nat) : Int)))))] hE (fun a hE => ?_)
  refine at_end rfl ?_
  refine cond_split hE (b := (decide ((64 : Int) ≤ ((List.length (y691.2) : Nat) : Int)))) rfl (fun hb => ?_) (fun hb => ?_)
  ·replace hf := cond_t hb hf
   clear hb
   refine wpIn_skip ?_
   refine wpIn_seq ?_
   refine wpIn_block ?_
   refine wpIn_seq ?_
   refine region_at ?_
   refine sN 1 1 [(8, .func (.yield l647) #[] #[])] hE (fun a hE => ?_)
   refine aL 2 (.slice A694 (List.length (y691.2)) c695) hE hS (fun a hE => ?_)
   obtain ⟨l746, h747, hf⟩ := bind_some hf
   refine at_op (op_tk hE (g_slice (K := (kdInt .u8)) (e := 5) (by_ := 1) (zl := 1) rfl rfl rfl rfl hE rfl rfl (by kernel_rfl) rfl ⟨_, rfl⟩ h696 h747 (fun a A748 c749 hE h750 => ?_))) rfl
   have hS := hS.pk (.c 3 rfl (.c 0 rfl (.c 1 rfl (.c 2 rfl (.c 4 rfl .n))))) rfl
   refine at_op (op_yield2 (args := [.slice A748 (List.length (l746)) c749]) hq646 rfl rfl rfl rfl hE rfl rfl rfl hS hEo650 rfl (by kernel_rfl) (fun a hE => ?_)) rfl
   refine region_at ?_
   refine sN 1 1 [(5, .slice A748 (List.length (l746)) c749)] hE (fun a hE => ?_)
   refine at_end rfl ?_
   refine begin_in2 hq646 hS (fun w hS => ?_)
   refine wpIn_block ?_
   refine region_at ?_
   refine aL 2 (.agg (List.toArray (acells .u32 8 (y691.1)))) hE hS (fun a hE => ?_)
   refine sN 1 2 [(19, .slice A748 (List.length (l746)) c749)] hE (fun a hE => ?_)
   obtain ⟨r751, h752, hf⟩ := bind_some hf
   refine aC rfl rfl rfl rfl hE rfl rfl rfl rfl (sha_Turn.calls (g := g) h752 (hS.st.fore (L := [])) h750 (hG1.mono (le2 (le2 (le2 (le2 (le2 le443 le616) le618) le630) le643) le693))) (fun a v w hR hE => ?_)
   obtain ⟨D753, rfl, hS1⟩ := hR
   have le755 := hS1.dle
   have hS := hS.callR hS1 rfl .n
   clear hS1
   have hS := hS.pk (.c 2 rfl (.c 0 rfl (.c 1 rfl (.c 3 rfl (.c 4 rfl .n))))) rfl
   refine at_op (op_store (v := .agg (List.toArray (acells .u32 8 (r751)))) (acells .u32 8 (r751)) rfl rfl rfl rfl hE hS rfl rfl (by kernel_rfl) (by kernel_rfl) (by kernel_rfl) (by kernel_rfl) (by kernel_rfl) (fun a w _ hE hS => ?_)) rfl
   refine at_end rfl ?_
   have hS := hS.pk (.c 1 rfl (.c 0 rfl (.c 2 rfl (.c 3 rfl (.c 4 rfl .n))))) rfl
   refine round_normal2 (a1 := a) hq646 hS (fun w a hS hE => ?_)
   refine sN 1 5 [(12, .bool false)] hE (fun a hE => ?_)
   refine at_end rfl ?_
   refine wpIn_cond_false (hE.eval rfl) ?_
   refine wpIn_skip ?_
   refine region_at ?_
   refine aL 3 (.slice A694 (List.length (y691.2)) c695) hE hS (fun a hE => ?_)
   obtain ⟨l756, h757, hf⟩ := bind_some hf
   refine at_op (op_tk hE (g_slice (K := (kdInt .u8)) (e := 5) (by_ := 1) (zl := 1) rfl rfl rfl rfl hE rfl rfl (by kernel_rfl) ⟨_, rfl⟩ rfl (h696.mono le755) h757 (fun a A758 c759 hE h760 => ?_))) rfl
   have hS := hS.pk (.c 3 rfl (.c 0 rfl (.c 1 rfl (.c 2 rfl (.c 4 rfl .n))))) rfl
   refine at_op (op_store (v := .slice A758 (List.length (l756)) c759) ([.slice A758 (List.length (l756)) c759]) rfl rfl rfl rfl hE hS rfl rfl (by kernel_rfl) (by kernel_rfl) (by kernel_rfl) (by kernel_rfl) (by kernel_rfl) (fun a w _ hE hS => ?_)) rfl
   refine at_end rfl ?_
   have hS := hS.pk (.c 3 rfl (.c 2 rfl (.c 0 rfl (.c 1 rfl (.c 4 rfl .n))))) rfl
   exact ⟨(r751, l756), A758, c759, D753, hE.weak (by kernel_rfl), hS, (le2 le693 le755), h760, hf⟩
  ·replace hf := cond_f hb hf
   clear hb
   refine wpIn_exit ?_
   obtain rfl := Option.some.inj hf
   exact ⟨(y691.1, y691.2), A694, c695, D692, hE.weak (by kernel_rfl), hS, le693, h696, rfl⟩
set_option maxRecDepth 100000 in
set_option maxHeartbeats 4000000 in
theorem mac_Of.calls {K : Nat} {g w0 : World} {D0 : Snap} {x1 : Int} {x2 : (List (List Int))} {A3 : Option Addr} {c4 : Nat} {r : ((Vector Int 32))} (hf : mac_Of.f K x1 x2 = some r) (hS0 : St g w0 D0 []) (h5 : Sl (kdSlice (kdInt .u8)) D0 A3 c4 (x2)) (hG0 : Cell (kdArr .u32 8) D0 0 0 gl_First) (hG1 : Cell (kdArr .u32 64) D0 1 0 gl_K) :
  CallsIn (Fw none) 0 Tryd.prog 48 (List.toArray [.int .i64 (x1), .slice A3 (List.length (x2)) c4]) w0 (fun e w' => ∃ v, e = .returned v ∧ ∃ (D1 : Snap), v = .agg (List.toArray (acells .u8 32 (r))) ∧ Stp g w0 D0 [] w' D1 []) := by
 unfold mac_Of.f at hf
 have hS := Stp.refl hS0
 clear hS0
 refine calls_body (n := 12) Tryd.func48 rfl Tryd.ntmps48 rfl (fun a hE => ?_)
 have hE : Env a 12 [] [(0, .int .i64 (x1)), (1, .slice A3 (List.length (x2)) c4)] := hE
 refine wpIn_seq ?_
 refine region_at ?_
 refine at_op (op_alloc (z := .agg (List.toArray (acells .u8 32 ((Vector.replicate 32 (0 : Int)))))) rfl rfl rfl rfl hE rfl hS (by kernel_rfl) (fun a b46 w _ hE hS => ?_)) rfl
 refine at_end rfl ?_
 refine wpIn_seq ?_
 refine region_at ?_
 refine sN 2 2 [(6, .int .u8 ((IntKind.wrap .u8 x1)))] hE (fun a hE => ?_)
 refine at_op (op_buildSlice (K := (kdInt .u8)) (e := 5) (cs := [.int .u8 ((IntKind.wrap .u8 x1))] ++ []) ([(IntKind.wrap .u8 x1)] : List Int) rfl rfl rfl rfl hE rfl hS rfl (by kernel_rfl) rfl rfl (by exact (show RL (kdInt .u8) D0 ([(IntKind.wrap .u8 x1)] : List Int) ([.int .u8 ((IntKind.wrap .u8 x1))] ++ []) from ⟨_, _, rfl, rfl, rfl⟩)) (fun a A48 q49 w _ hE h50 hS => ?_)) rfl
 refine sN 1 4 [(8, .slice A3 (List.length (x2)) c4)] hE (fun a hE => ?_)
 obtain ⟨r52, h53, hf⟩ := bind_some hf
 refine aC rfl rfl rfl rfl hE rfl rfl rfl rfl (mac_joined_byte.calls (g := g) h53 (hS.st.fore (L := [])) h5) (fun a v w hR hE => ?_)
 obtain ⟨D54, A56, c57, q58, rfl, hS1, h59⟩ := hR
 have le61 := hS1.dle
 have hS := hS.callR hS1 rfl (.c .n)
 clear hS1
 have hS := hS.pk (.c 1 rfl (.c 0 rfl (.c 2 rfl .n))) rfl
 obtain ⟨D62, q65, le63, hS, h66, h64⟩ := hS.lent (h50.mono le61)
 have hS := hS.pk (.c 1 rfl (.c 0 rfl (.c 2 rfl .n))) rfl
 obtain ⟨D67, q70, le68, hS, h71, h69⟩ := hS.lent (h59.mono le63)
 refine at_op (op_buildSlice (K := (kdSlice (kdInt .u8))) (e := 33) (cs := [.slice A48 (List.length (([(IntKind.wrap .u8 x1)] : List Int))) 1] ++ ([.slice A56 (List.length (r52)) c57] ++ [])) ([([(IntKind.wrap .u8 x1)] : List Int), r52] : List (List Int)) rfl rfl rfl rfl hE rfl hS rfl (by kernel_rfl) rfl rfl (by exact (show RL (kdSlice (kdInt .u8)) D67 ([([(IntKind.wrap .u8 x1)] : List Int), r52] : List (List Int)) ([.slice A48 (List.length (([(IntKind.wrap .u8 x1)] : List Int))) 1] ++ ([.slice A56 (List.length (r52)) c57] ++ [])) from ⟨_, _, rfl, (kslice (h64.mono le68)), ⟨_, _, rfl, (kslice h69), rfl⟩⟩)) (fun a A72 q73 w _ hE h74 hS => ?_)) rfl
 obtain ⟨D76, q79, le77, hS, h80, h78⟩ := hS.lent h74
 obtain ⟨r81, h82, hf⟩ := bind_some hf
 refine aC rfl rfl rfl rfl hE rfl rfl rfl rfl (sha_Sum.calls (g := g) h82 (hS.st.fore (L := [])) h78 (hG0.mono (le2 (le2 (le2 le61 le63) le68) le77)) (hG1.mono (le2 (le2 (le2 le61 le63) le68) le77))) (fun a v w hR hE => ?_)
 obtain ⟨D83, rfl, hS1⟩ := hR
 have le85 := hS1.dle
 have hS := hS.callR hS1 rfl .n
 clear hS1
 have hS := hS.pk (.c 3 rfl (.c 0 rfl (.c 1 rfl (.c 2 rfl .n)))) rfl
 refine at_op (op_store (v := .agg (List.toArray (acells .u8 32 (r81)))) (acells .u8 32 (r81)) rfl rfl rfl rfl hE hS rfl rfl (by kernel_rfl) (by kernel_rfl) (by kernel_rfl) (by kernel_rfl) (by kernel_rfl) (fun a w _ hE hS => ?_)) rfl
 refine at_end rfl ?_
 refine wpIn_ret ?_
 obtain rfl := Option.some.inj hf
 repeat (with_reducible first | refine then_ret ?_ | refine block_ret ?_ | refine qx_ret ?_)
 refine ret_gen ([.agg (List.toArray (acells .u8 32 (r81)))]) hE (by rw [show Tryd.f48.results.toList = [.cell 4 48] from rfl]; exact ⟨_, _, _, 0, _, _, rfl, rfl, hS.heapAt (j := 0) rfl, by kernel_rfl, rfl⟩) ?_
 have hS := hS.pk .n rfl
 exact ⟨_, rfl, D83, rfl, hS⟩
set_option maxRecDepth 100000 in
set_option maxHeartbeats 4000000 in
theorem log_at_behind.calls {K : Nat} {g w0 : World} {D0 : Snap} {x1 : T_log_at} {x2 : (List Int)} {A3 : Option Addr} {c4 : Nat} {r : (T_log_at)} (hf : log_at_behind.f K x1 x2 = some r) (hS0 : St g w0 D0 []) (h5 : Sl (kdInt .u8) D0 A3 c4 (x2)) (hG0 : Cell (kdArr .u32 8) D0 0 0 gl_First) (hG1 : Cell (kdArr .u32 64) D0 1 0 gl_K) :
  CallsIn (Fw none) 0 Tryd.prog 37 (List.toArray [.agg (List.toArray (c_T_log_at (x1))), .slice A3 (List.length (x2)) c4]) w0 (fun e w' => ∃ v, e = .returned v ∧ ∃ (D1 : Snap), v = .agg (List.toArray (c_T_log_at ((T_log_at.mk (r.fCount) (r.fChain))))) ∧ Stp g w0 D0 [] w' D1 []) := by
 unfold log_at_behind.f at hf
 have hS := Stp.refl hS0
 clear hS0
 refine calls_body (n := 14) Tryd.func37 rfl Tryd.ntmps37 rfl (fun a hE => ?_)
 have hE : Env a 14 [] [(0, .agg (List.toArray (c_T_log_at (x1)))), (1, .slice A3 (List.length (x2)) c4)] := hE
 refine wpIn_seq ?_
 refine region_at ?_
 refine at_op (op_box rfl rfl rfl rfl hE rfl hS rfl (fun a b60 w _ hE hS => ?_)) rfl
 refine at_op (op_alloc (z := .agg (List.toArray (c_T_log_at ((T_log_at.mk ((0 : Int)) ((Vector.replicate 32 (0 : Int)))))))) rfl rfl rfl rfl hE rfl hS (by kernel_rfl) (fun a b62 w _ hE hS => ?_)) rfl
 refine at_end rfl ?_
 refine wpIn_seq ?_
 refine region_draw (fun j => Keeps (mfOf [(9, [b62])] j)) (by kernel_rfl) ?_
 have hS := hS.drew
 first | generalize w.drew = w at hS ⊢ | generalize w0.drew = w at hS ⊢
 refine wP 5 32 9 (.slice A3 (List.length (x2)) c4) hE (fun a hE => ?_)
 refine wF 0 33 8 0 3 0 hE (fun a hE => ?_)
 refine tT 1 35 (fuel := 7) (by kernel_rfl) hE (tk_load 1 (.int .i64 (x1.fCount)) rfl rfl rfl rfl hE rfl hS rfl rfl (by kernel_rfl) (kL (j := 1) hS rfl List.not_mem_nil) (fun a hE => ?_))
 refine wP 2 39 6 (.int .i64 ((IntKind.wrap .i64 (x1.fCount + (1 : Int))))) hE (fun a hE => ?_)
 refine wF 3 47 5 1 48 1 hE (fun a hE => ?_)
 have hS := hS.pk (.c 1 rfl (.c 0 rfl .n)) rfl
 obtain ⟨D89, le90, e91, hS⟩ := hS.freezeB
 have hc92 : Cell kd_T_log_at D89 b60 0 (x1) := ⟨c_T_log_at (x1), _, _, _, (kd_T_log_at_mk (D := D89) (x := x1) rfl rfl), e91, fun j u hu => by show (List.toArray (c_T_log_at (x1)))[0 + j]? = some u; simpa using hu⟩
 obtain ⟨l93, h94, hf⟩ := bind_some hf
 refine tW 4 63 (fuel := 4) (by kernel_rfl) hE (fun M => tk_sliceArrAt (kk := .u8) (e := 5) (v := x1.fChain) (off := 1) (cs := c_T_log_at (x1)) rfl rfl rfl rfl hE rfl rfl (by kernel_rfl) rfl rfl e91 (by kernel_rfl) rfl h94 (fun a A95 c96 hE h97 => ?_))
 refine oG 6 127 (fuel := 3) (by kernel_rfl) (op_buildSlice (K := (kdSlice (kdInt .u8))) (e := 33) (cs := [.slice A95 (List.length (l93)) c96] ++ ([.slice A3 (List.length (x2)) c4] ++ [])) ([l93, x2] : List (List Int)) rfl rfl rfl rfl hE rfl hS rfl (by kernel_rfl) rfl rfl (by exact (show RL (kdSlice (kdInt .u8)) D89 ([l93, x2] : List (List Int)) ([.slice A95 (List.length (l93)) c96] ++ ([.slice A3 (List.length (x2)) c4] ++ [])) from ⟨_, _, rfl, (kslice h97), ⟨_, _, rfl, (kslice (h5.mono le90)), rfl⟩⟩)) (fun a A98 q99 w hkp hE h100 hS => ⟨hkp.mono (fun _ h => absurd h List.not_mem_nil), ?_⟩))
 clear hkp
 obtain ⟨D102, q105, le103, hS, h106, h104⟩ := hS.lent h100
 obtain ⟨r107, h108, hf⟩ := bind_some hf
 refine oG 7 255 (fuel := 2) (by kernel_rfl) (op_call rfl rfl rfl rfl hE rfl rfl rfl rfl (by kernel_rfl) (mac_Of.calls (g := g) h108 (hS.st.fore (L := [])) h104 (hG0.mono (le2 le90 le103)) (hG1.mono (le2 le90 le103))) (fun a v w hR hE => ?_))
 obtain ⟨D109, rfl, hS1⟩ := hR
 refine ⟨(hS1.keeps.sub (M' := []) trivial).mono (fun _ h => h), ?_⟩
 have le111 := hS1.dle
 have hS := hS.callR hS1 rfl .n
 clear hS1
 refine tW 8 511 (fuel := 1) (by kernel_rfl) hE (fun M => tk_build (c_T_log_at ((T_log_at.mk ((IntKind.wrap .i64 (x1.fCount + (1 : Int)))) (r107)))) rfl rfl rfl rfl hE rfl rfl (by kernel_rfl) (fun a hE => ?_))
 have hS := hS.pk (.c 1 rfl (.c 0 rfl .n)) rfl
 obtain ⟨v112, hv113, hf⟩ := bind_some hf
 replace hv113 := Option.some.inj hv113
 refine oG 9 1023 (fuel := 0) (by kernel_rfl) (op_store (v := .agg (List.toArray (c_T_log_at ((T_log_at.mk ((IntKind.wrap .i64 (x1.fCount + (1 : Int)))) (r107)))))) (c_T_log_at (v112)) rfl rfl rfl rfl hE hS rfl rfl (by kernel_rfl) (by kernel_rfl) (by kernel_rfl) (by kernel_rfl) (by rw [← hv113]; kernel_rfl) (fun a w hkp hE hS => ⟨hkp.mono (fun _ h => h), ?_⟩))
 clear hkp
 refine doneG (by kernel_rfl) ?_
 refine wpIn_ret ?_
 obtain rfl := Option.some.inj hf
 repeat (with_reducible first | refine then_ret ?_ | refine block_ret ?_ | refine qx_ret ?_)
 refine ret_gen ([.agg (List.toArray (c_T_log_at (v112)))]) hE (by rw [show Tryd.f37.results.toList = [.cell 4 62] from rfl]; exact ⟨_, _, _, 0, _, _, rfl, rfl, hS.heapAt (j := 0) rfl, by kernel_rfl, rfl⟩) ?_
 have hS := hS.pk .n rfl
 exact ⟨_, rfl, D109, rfl, hS⟩
set_option maxRecDepth 100000 in
set_option maxHeartbeats 4000000 in
theorem slices_Reverse_byte_byte.calls {K : Nat} {g w0 : World} {D0 : Snap} {x1 : (List Int)} {A2 : Option Addr} {c3 : Nat} {q4 : Blk} {r : ((List Int))} (hf : slices_Reverse_byte_byte.f K x1 = some r) (hS0 : St g w0 D0 [q4]) (h5 : OwnD (kdInt .u8) 5 D0 A2 c3 (x1) q4) :
  CallsIn (Fw none) 0 Tryd.prog 51 (List.toArray [.slice A2 (List.length (x1)) c3]) w0 (fun e w' => ∃ v, e = .returned v ∧ ∃ (D1 : Snap) (q436 : Blk), v = .tuple #[] ∧ Stp g w0 D0 [q4] w' D1 [q436] ∧ OwnD (kdInt .u8) 5 D1 A2 c3 (r) q436) := by
 unfold slices_Reverse_byte_byte.f at hf
 have hS := Stp.refl hS0
 clear hS0
 refine calls_body (n := 28) Tryd.func51 rfl Tryd.ntmps51 rfl (fun a hE => ?_)
 have hE : Env a 28 [] [(0, .slice A2 (List.length (x1)) c3)] := hE
 refine wpIn_seq ?_
 refine region_at ?_
 refine sN 5 5 [(2, .int .i64 ((0 : Int))), (3, .int .i64 ((IntKind.wrap .i64 (((List.length (x1) : Nat) : Int) - (1 : Int)))))] hE (fun a hE => ?_)
 refine at_end rfl ?_
 obtain ⟨s738, hf, hs739⟩ := bind_some hf
 refine block_loop (fun a w => ∃ (z730 : (List Int)), ∃ (q735 : Blk), ∃ (D731 : Snap), Env a 28 [] [] ∧ Stp g w0 D0 [q4] w D731 [q735] ∧ Snap.le D0 D731 ∧ OwnD (kdInt .u8) 5 D731 A2 c3 (z730) q735 ∧ z730 = s738) (fun k a w => ∃ (y586 : (List Int) × Int × Int), ∃ (q591 : Blk), ∃ (D587 : Snap), Env a 28 [] [(0, .slice A2 (List.length (y586.1)) c3), (2, .int .i64 (y586.2.1)), (3, .int .i64 (y586.2.2))] ∧ Stp g w0 D0 [q4] w D587 [q591] ∧ Snap.le D0 D587 ∧ OwnD (kdInt .u8) 5 D587 A2 c3 (y586.1) q591 ∧ slices_Reverse_byte_byte_l1.l K k y586 = some s738) K ?_ ?_ ?_
 ·exact ⟨(x1, (0 : Int), (IntKind.wrap .i64 (((List.length (x1) : Nat) : Int) - (1 : Int)))), q4, D0, hE.weak (by kernel_rfl), hS, Snap.le.refl _, h5, hf⟩
 ·clear hE hS hf
  rintro a w ⟨z730, q735, D731, hE, hS, le732, h736, rfl⟩
  have hf := hs739
  clear hs739
  obtain rfl := Option.some.inj hf
  repeat (with_reducible first | refine then_ret ?_ | refine block_ret ?_ | refine qx_ret ?_)
  refine ret_genN ([]) hE (by rw [show Tryd.f51.results.toList = [] from rfl]; exact rfl) ?_
  exact ⟨_, rfl, D731, q735, rfl, hS, h736⟩
 ·clear hE hS hf
  rintro k a w ⟨y586, q591, D587, hE, hS, le588, h592, hf⟩
  obtain ⟨k, rfl, hf⟩ := slices_Reverse_byte_byte_l1.some hf
  refine ⟨k, rfl, ?_⟩
  unfold slices_Reverse_byte_byte_l1.b at hf
  refine wpIn_seq ?_
  refine wpIn_seq ?_
  refine region_at ?_
  refine sN 3 3 [(9, .bool ((decide (y586.2.1 < y586.2.2))))] hE (fun a hE => ?_)
  refine at_end rfl ?_
  refine cond_split hE (b := (decide (y586.2.1 < y586.2.2))) rfl (fun hb => ?_) (fun hb => ?_)
  ·replace hf := cond_t hb hf
   clear hb
   refine wpIn_skip ?_
   refine wpIn_seq ?_
   refine wpIn_block ?_
   refine region_draw (fun j => Keeps (mfOf [(13, ids [q591]), (15, ids [q591])] j)) (by kernel_rfl) ?_
   have hS := hS.drew
   first | generalize w.drew = w at hS ⊢ | generalize w0.drew = w at hS ⊢
   refine wP 0 1 15 (.slice A2 (List.length (y586.1)) c3) hE (fun a hE => ?_)
   refine wP 1 3 14 (.int .i64 (y586.2.1)) hE (fun a hE => ?_)
   refine wP 2 7 13 (.slice A2 (List.length (y586.1)) c3) hE (fun a hE => ?_)
   refine wP 3 15 12 (.int .i64 (y586.2.2)) hE (fun a hE => ?_)
   refine wP 4 31 11 (.slice A2 (List.length (y586.1)) c3) hE (fun a hE => ?_)
   refine wP 5 63 10 (.int .i64 (y586.2.2)) hE (fun a hE => ?_)
   refine wP 8 319 9 (.slice A2 (List.length (y586.1)) c3) hE (fun a hE => ?_)
   refine wP 9 831 8 (.int .i64 (y586.2.1)) hE (fun a hE => ?_)
   obtain ⟨x836, h837, hf⟩ := bind_some hf
   refine tW 6 895 (fuel := 7) (by kernel_rfl) hE (fun M => tk_indexO (K := (kdInt .u8)) (T := 5) (by_ := 1) (zl := 1) rfl rfl rfl rfl hE rfl rfl rfl (by kernel_rfl) h592 h837 (fun a b838 u839 hq hE => ?_))
   subst hq
   obtain ⟨cs840, C841, hr842, hb843, hc844⟩ := OwnD.cell h592 h837
   obtain rfl := hr842
   refine tT 7 1023 (fuel := 6) (by kernel_rfl) hE (tk_loadO 0 (off0 := Int.toNat (y586.2.2) * 1) (off := 0) (c := [.int .u8 (x836)]) (Cl := C841) (T := 5) (fr := (0, 0)) (.int .u8 (x836)) rfl rfl rfl rfl hE rfl hS rfl (by rw [hb843]; rfl) hc844 (by kernel_rfl) (kL (j := 0) hS rfl List.not_mem_nil) (fun a hE => ?_))
   obtain ⟨x845, h846, hf⟩ := bind_some hf
   refine tW 10 2047 (fuel := 5) (by kernel_rfl) hE (fun M => tk_indexO (K := (kdInt .u8)) (T := 5) (by_ := 1) (zl := 1) rfl rfl rfl rfl hE rfl rfl rfl (by kernel_rfl) h592 h846 (fun a b847 u848 hq hE => ?_))
   obtain ⟨rfl, rfl⟩ := some_pair hq
   obtain ⟨cs849, C850, hr851, hb852, hc853⟩ := OwnD.cell h592 h846
   obtain rfl := hr851
   refine tT 11 4095 (fuel := 4) (by kernel_rfl) hE (tk_loadO 0 (off0 := Int.toNat (y586.2.1) * 1) (off := 0) (c := [.int .u8 (x845)]) (Cl := C850) (T := 5) (fr := (0, 0)) (.int .u8 (x845)) rfl rfl rfl rfl hE rfl hS rfl (by rw [hb852]; rfl) hc853 (by kernel_rfl) (kL (j := 0) hS rfl List.not_mem_nil) (fun a hE => ?_))
   obtain ⟨x854, h855, hf⟩ := bind_some hf
   refine tW 12 8191 (fuel := 3) (by kernel_rfl) hE (fun M => tk_indexO (K := (kdInt .u8)) (T := 5) (by_ := 1) (zl := 1) rfl rfl rfl rfl hE rfl rfl rfl (by kernel_rfl) h592 h855 (fun a b856 u857 hq hE => ?_))
   obtain ⟨rfl, rfl⟩ := some_pair hq
   refine oG 13 16383 (fuel := 2) (by kernel_rfl) (op_storeO (K := (kdInt .u8)) (T := 5) (l := y586.1) (x836) rfl rfl rfl rfl hE hS h592 rfl rfl (inI_of h855) (rfl) (by kernel_rfl) (by kernel_rfl) (fun a u858 w hkp hE h859 hS => ⟨hkp.mono (fun _ h => h), ?_⟩))
   clear hkp
   have hE : Env a 28 [] [(0, .slice A2 (List.length ((List.set (y586.1) (Int.toNat (y586.2.1)) (x836)))) c3), (2, .int .i64 (y586.2.1)), (3, .int .i64 (y586.2.2)), (9, .bool ((decide (y586.2.1 < y586.2.2)))), (14, .slice A2 (List.length ((List.set (y586.1) (Int.toNat (y586.2.1)) (x836)))) c3), (15, .int .i64 (y586.2.1)), (16, .slice A2 (List.length ((List.set (y586.1) (Int.toNat (y586.2.1)) (x836)))) c3), (17, .int .i64 (y586.2.2)), (18, .slice A2 (List.length ((List.set (y586.1) (Int.toNat (y586.2.1)) (x836)))) c3), (19, .int .i64 (y586.2.2)), (20, .pointer (some ⟨b838, Int.toNat (y586.2.2) * 1, none⟩)), (21, .int .u8 (x836)), (22, .slice A2 (List.length ((List.set (y586.1) (Int.toNat (y586.2.1)) (x836)))) c3), (23, .int .i64 (y586.2.1)), (24, .pointer (some ⟨b838, Int.toNat (y586.2.1) * 1, none⟩)), (25, .int .u8 (x845)), (26, .pointer (some ⟨b838, Int.toNat (y586.2.1) * 1, none⟩))] := by have h := hE.weak (E' := [(0, .slice A2 (List.length (y586.1)) c3), (2, .int .i64 (y586.2.1)), (3, .int .i64 (y586.2.2)), (9, .bool ((decide (y586.2.1 < y586.2.2)))), (14, .slice A2 (List.length (y586.1)) c3), (15, .int .i64 (y586.2.1)), (16, .slice A2 (List.length (y586.1)) c3), (17, .int .i64 (y586.2.2)), (18, .slice A2 (List.length (y586.1)) c3), (19, .int .i64 (y586.2.2)), (20, .pointer (some ⟨b838, Int.toNat (y586.2.2) * 1, none⟩)), (21, .int .u8 (x836)), (22, .slice A2 (List.length (y586.1)) c3), (23, .int .i64 (y586.2.1)), (24, .pointer (some ⟨b838, Int.toNat (y586.2.1) * 1, none⟩)), (25, .int .u8 (x845)), (26, .pointer (some ⟨b838, Int.toNat (y586.2.1) * 1, none⟩))]) (by kernel_rfl); simpa only [List.length_set] using h
   obtain ⟨x861, h862, hf⟩ := bind_some hf
   refine tW 14 32767 (fuel := 1) (by kernel_rfl) hE (fun M => tk_indexO (K := (kdInt .u8)) (T := 5) (by_ := 1) (zl := 1) rfl rfl rfl rfl hE rfl rfl rfl (by kernel_rfl) h859 h862 (fun a b863 u864 hq hE => ?_))
   obtain ⟨rfl, rfl⟩ := some_pair hq
   refine oG 15 65535 (fuel := 0) (by kernel_rfl) (op_storeO (K := (kdInt .u8)) (T := 5) (l := (List.set (y586.1) (Int.toNat (y586.2.1)) (x836))) (x845) rfl rfl rfl rfl hE hS h859 rfl rfl (inI_of h862) (rfl) (by kernel_rfl) (by kernel_rfl) (fun a u865 w hkp hE h866 hS => ⟨hkp.mono (fun _ h => h), ?_⟩))
   clear hkp
   have hE : Env a 28 [] [(0, .slice A2 (List.length ((List.set ((List.set (y586.1) (Int.toNat (y586.2.1)) (x836))) (Int.toNat (y586.2.2)) (x845)))) c3), (2, .int .i64 (y586.2.1)), (3, .int .i64 (y586.2.2)), (9, .bool ((decide (y586.2.1 < y586.2.2)))), (14, .slice A2 (List.length ((List.set ((List.set (y586.1) (Int.toNat (y586.2.1)) (x836))) (Int.toNat (y586.2.2)) (x845)))) c3), (15, .int .i64 (y586.2.1)), (16, .slice A2 (List.length ((List.set ((List.set (y586.1) (Int.toNat (y586.2.1)) (x836))) (Int.toNat (y586.2.2)) (x845)))) c3), (17, .int .i64 (y586.2.2)), (18, .slice A2 (List.length ((List.set ((List.set (y586.1) (Int.toNat (y586.2.1)) (x836))) (Int.toNat (y586.2.2)) (x845)))) c3), (19, .int .i64 (y586.2.2)), (20, .pointer (some ⟨b838, Int.toNat (y586.2.2) * 1, none⟩)), (21, .int .u8 (x836)), (22, .slice A2 (List.length ((List.set ((List.set (y586.1) (Int.toNat (y586.2.1)) (x836))) (Int.toNat (y586.2.2)) (x845)))) c3), (23, .int .i64 (y586.2.1)), (24, .pointer (some ⟨b838, Int.toNat (y586.2.1) * 1, none⟩)), (25, .int .u8 (x845)), (26, .pointer (some ⟨b838, Int.toNat (y586.2.1) * 1, none⟩)), (27, .pointer (some ⟨b838, Int.toNat (y586.2.2) * 1, none⟩))] := by have h := hE.weak (E' := [(0, .slice A2 (List.length ((List.set (y586.1) (Int.toNat (y586.2.1)) (x836)))) c3), (2, .int .i64 (y586.2.1)), (3, .int .i64 (y586.2.2)), (9, .bool ((decide (y586.2.1 < y586.2.2)))), (14, .slice A2 (List.length ((List.set (y586.1) (Int.toNat (y586.2.1)) (x836)))) c3), (15, .int .i64 (y586.2.1)), (16, .slice A2 (List.length ((List.set (y586.1) (Int.toNat (y586.2.1)) (x836)))) c3), (17, .int .i64 (y586.2.2)), (18, .slice A2 (List.length ((List.set (y586.1) (Int.toNat (y586.2.1)) (x836)))) c3), (19, .int .i64 (y586.2.2)), (20, .pointer (some ⟨b838, Int.toNat (y586.2.2) * 1, none⟩)), (21, .int .u8 (x836)), (22, .slice A2 (List.length ((List.set (y586.1) (Int.toNat (y586.2.1)) (x836)))) c3), (23, .int .i64 (y586.2.1)), (24, .pointer (some ⟨b838, Int.toNat (y586.2.1) * 1, none⟩)), (25, .int .u8 (x845)), (26, .pointer (some ⟨b838, Int.toNat (y586.2.1) * 1, none⟩)), (27, .pointer (some ⟨b838, Int.toNat (y586.2.2) * 1, none⟩))]) (by kernel_rfl); simpa only [List.length_set] using h
   refine doneG (by kernel_rfl) ?_
   refine region_at ?_
   refine sN 6 6 [(2, .int .i64 ((IntKind.wrap .i64 (y586.2.1 + (1 : Int))))), (3, .int .i64 ((IntKind.wrap .i64 (y586.2.2 - (1 : Int)))))] hE (fun a hE => ?_)
   refine at_end rfl ?_
   exact ⟨((List.set ((List.set (y586.1) (Int.toNat (y586.2.1)) (x836))) (Int.toNat (y586.2.2)) (x845)), (IntKind.wrap .i64 (y586.2.1 + (1 : Int))), (IntKind.wrap .i64 (y586.2.2 - (1 : Int)))), (some (b838, u865)), D587, hE.weak (by kernel_rfl), hS, le588, h866, hf⟩
  ·replace hf := cond_f hb hf
   clear hb
   refine wpIn_exit ?_
   obtain rfl := Option.some.inj hf
   exact ⟨y586.1, q591, D587, hE.weak (by kernel_rfl), hS, le588, h592, rfl⟩
set_option maxRecDepth 100000 in
set_option maxHeartbeats 4000000 in
theorem wire_Num.calls {K : Nat} {g w0 : World} {D0 : Snap} {x1 : Int} {r : ((List Int))} (hf : wire_Num.f K x1 = some r) (hS0 : St g w0 D0 []) :
  CallsIn (Fw none) 0 Tryd.prog 41 (List.toArray [.int .i64 (x1)]) w0 (fun e w' => ∃ v, e = .returned v ∧ ∃ (D1 : Snap) (A306 : Option Addr) (c307 : Nat) (q308 : Blk), v = .slice A306 (List.length (r)) c307 ∧ Stp g w0 D0 [] w' D1 [q308] ∧ OwnD (kdInt .u8) 5 D1 A306 c307 (r) q308) := by
 unfold wire_Num.f at hf
 have hS := Stp.refl hS0
 clear hS0
 refine calls_body (n := 30) Tryd.func41 rfl Tryd.ntmps41 rfl (fun a hE => ?_)
 have hE : Env a 30 [] [(0, .int .i64 (x1))] := hE
 refine wpIn_seq ?_
 refine region_at ?_
 refine sN 1 1 [(2, .slice none 0 0)] hE (fun a hE => ?_)
 refine at_end rfl ?_
 refine wpIn_seq ?_
 obtain ⟨j614, hj615, hf⟩ := jn_elim hf
 refine seq_join (fun a w => ∃ (y316 : Bool), ∃ (D317 : Snap), Env a 30 [] [(0, .int .i64 (x1)), (9, .bool (y316))] ∧ Stp g w0 D0 [] w D317 [] ∧ Snap.le D0 D317 ∧ j614 y316 = some r) ?_ ?_
 ·clear hj615
  refine region_at ?_
  refine sN 3 3 [(6, .bool ((decide (x1 < (0 : Int)))))] hE (fun a hE => ?_)
  refine Or.elim (Bool.eq_false_or_eq_true ((decide (x1 < (0 : Int))))).symm (fun hb => ?_) (fun hb => ?_)
  ·replace hf := cond_f hb hf
   have hE := hE.know (t := 6) (b := (decide (x1 < (0 : Int)))) (b' := false) rfl hb
   clear hb
   refine sN 3 6 [(9, .bool ((decide ((2147483647 : Int) < x1))))] hE (fun a hE => ?_)
   refine at_end rfl ?_
   exact ⟨(decide ((2147483647 : Int) < x1)), D0, hE.weak (by kernel_rfl), hS, Snap.le.refl _, hf⟩
  ·replace hf := cond_t hb hf
   have hE := hE.know (t := 6) (b := (decide (x1 < (0 : Int)))) (b' := true) rfl hb
   clear hb
   refine sN 3 6 [(9, .bool true)] hE (fun a hE => ?_)
   refine at_end rfl ?_
   exact ⟨true, D0, hE.weak (by kernel_rfl), hS, Snap.le.refl _, hf⟩
 ·clear hE hS
  rintro a w ⟨y316, D317, hE, hS, le318, hf⟩
  replace hf := hj615 _ hf
  clear hj615
  refine cond_split hE (b := y316) rfl (fun hb => ?_) (fun hb => ?_)
  ·replace hf := cond_t hb hf
   clear hb
   refine wpIn_seq ?_
   refine region_at ?_
   refine sN 1 1 [(2, .slice none 0 0)] hE (fun a hE => ?_)
   refine at_end rfl ?_
   refine wpIn_ret ?_
   have hS := hS.nils
   obtain rfl := Option.some.inj hf
   repeat (with_reducible first | refine then_ret ?_ | refine block_ret ?_ | refine qx_ret ?_)
   refine ret_gen ([.slice none 0 0]) hE (by rw [show Tryd.f41.results.toList = [.tmp 2] from rfl]; exact ⟨_, _, rfl, rfl, rfl⟩) ?_
   exact ⟨_, rfl, D317, none, 0, none, rfl, hS, (OwnD.nil (kdInt .u8) 5 D317)⟩
  ·replace hf := cond_f hb hf
   clear hb
   refine wpIn_skip ?_
   refine wpIn_seq ?_
   refine region_at ?_
   refine sN 3 3 [(12, .int .u8 ((IntKind.wrap .u8 (Int.tmod x1 128))))] hE (fun a hE => ?_)
   refine at_op (op_buildSlice (K := (kdInt .u8)) (e := 5) (cs := [.int .u8 ((IntKind.wrap .u8 (Int.tmod x1 128)))] ++ []) ([(IntKind.wrap .u8 (Int.tmod x1 128))] : List Int) rfl rfl rfl rfl hE rfl hS rfl (by kernel_rfl) rfl rfl (by exact (show RL (kdInt .u8) D317 ([(IntKind.wrap .u8 (Int.tmod x1 128))] : List Int) ([.int .u8 ((IntKind.wrap .u8 (Int.tmod x1 128)))] ++ []) from ⟨_, _, rfl, rfl, rfl⟩)) (fun a A320 q321 w _ hE h322 hS => ?_)) rfl
   refine sN 1 5 [(3, .slice A320 (List.length (([(IntKind.wrap .u8 (Int.tmod x1 128))] : List Int))) 1)] hE (fun a hE => ?_)
   refine at_end rfl ?_
   refine wpIn_seq ?_
   refine wpIn_seq ?_
   refine region_at ?_
   refine sN 3 3 [(0, .int .i64 ((Int.fdiv x1 (2 ^ 7))))] hE (fun a hE => ?_)
   refine at_end rfl ?_
   obtain ⟨s572, hf, hs573⟩ := bind_some hf
   refine block_loop (fun a w => ∃ (z564 : (List Int)), ∃ (A567 : Option Addr), ∃ (c568 : Nat), ∃ (q569 : Blk), ∃ (D565 : Snap), Env a 30 [] [(3, .slice A567 (List.length (z564)) c568)] ∧ Stp g w0 D0 [] w D565 [q569] ∧ Snap.le D317 D565 ∧ OwnD (kdInt .u8) 5 D565 A567 c568 (z564) q569 ∧ z564 = s572) (fun k a w => ∃ (y516 : Int × (List Int)), ∃ (A519 : Option Addr), ∃ (c520 : Nat), ∃ (q521 : Blk), ∃ (D517 : Snap), Env a 30 [] [(0, .int .i64 (y516.1)), (3, .slice A519 (List.length (y516.2)) c520)] ∧ Stp g w0 D0 [] w D517 [q521] ∧ Snap.le D317 D517 ∧ OwnD (kdInt .u8) 5 D517 A519 c520 (y516.2) q521 ∧ wire_Num_l1.l K k y516 = some s572) K ?_ ?_ ?_
   ·exact ⟨((Int.fdiv x1 (2 ^ 7)), ([(IntKind.wrap .u8 (Int.tmod x1 128))] : List Int)), A320, 1, q321, D317, hE.weak (by kernel_rfl), hS, Snap.le.refl _, h322, hf⟩
   ·clear hE hS hf
    rintro a w ⟨z564, A567, c568, q569, D565, hE, hS, le566, h570, rfl⟩
    have hf := hs573
    clear hs573
    refine wpIn_seq ?_
    refine region_at ?_
    refine sN 1 1 [(27, .slice A567 (List.length (z564)) c568)] hE (fun a hE => ?_)
    obtain ⟨r606, h607, hf⟩ := bind_some hf
    refine aC rfl rfl rfl rfl hE rfl rfl rfl rfl (slices_Reverse_byte_byte.calls (g := g) h607 (hS.st.fore (L := [q569])) h570) (fun a v w hR hE => ?_)
    obtain ⟨D608, q610, rfl, hS1, h611⟩ := hR
    have le613 := hS1.dle
    have hS := hS.callR hS1 rfl (.c .n)
    clear hS1
    have hl612 := slices_Reverse_byte_byte.len h607
    have hE : Env a 30 [] [(3, .slice A567 (List.length (r606)) c568), (27, .slice A567 (List.length (r606)) c568), (28, .tuple #[])] := by have h := hE.weak (E' := [(3, .slice A567 (List.length (z564)) c568), (27, .slice A567 (List.length (z564)) c568), (28, .tuple #[])]) (by kernel_rfl); simpa only [hl612] using h
    clear hl612
    refine at_end rfl ?_
    refine wpIn_seq ?_
    refine region_at ?_
    refine sN 2 2 [(2, .slice A567 (List.length (r606)) c568)] hE (fun a hE => ?_)
    refine at_end rfl ?_
    refine wpIn_ret ?_
    obtain rfl := Option.some.inj hf
    repeat (with_reducible first | refine then_ret ?_ | refine block_ret ?_ | refine qx_ret ?_)
    refine ret_gen ([.slice A567 (List.length (r606)) c568]) hE (by rw [show Tryd.f41.results.toList = [.tmp 2] from rfl]; exact ⟨_, _, rfl, rfl, rfl⟩) ?_
    exact ⟨_, rfl, D608, A567, c568, q610, rfl, hS, h611⟩
   ·clear hE hS hf
    rintro k a w ⟨y516, A519, c520, q521, D517, hE, hS, le518, h522, hf⟩
    obtain ⟨k, rfl, hf⟩ := wire_Num_l1.some hf
    refine ⟨k, rfl, ?_⟩
    unfold wire_Num_l1.b at hf
    refine wpIn_seq ?_
    refine wpIn_seq ?_
    refine region_at ?_
    refine sN 2 2 [(17, .bool ((decide ((0 : Int) < y516.1))))] hE (fun a hE => ?_)
    refine at_end rfl ?_
    refine cond_split hE (b := (decide ((0 : Int) < y516.1))) rfl (fun hb => ?_) (fun hb => ?_)
    ·replace hf := cond_t hb hf
     clear hb
     refine wpIn_skip ?_
     refine wpIn_seq ?_
     refine wpIn_block ?_
     refine region_at ?_
     refine sN 5 5 [(20, .slice A519 (List.length (y516.2)) c520), (24, .int .u8 ((bor .u8 (IntKind.wrap .u8 (Int.tmod y516.1 128)) (128 : Int))))] hE (fun a hE => ?_)
     refine at_op (op_buildSlice (K := (kdInt .u8)) (e := 5) (cs := [.int .u8 ((bor .u8 (IntKind.wrap .u8 (Int.tmod y516.1 128)) (128 : Int)))] ++ []) ([(bor .u8 (IntKind.wrap .u8 (Int.tmod y516.1 128)) (128 : Int))] : List Int) rfl rfl rfl rfl hE rfl hS rfl (by kernel_rfl) rfl rfl (by exact (show RL (kdInt .u8) D517 ([(bor .u8 (IntKind.wrap .u8 (Int.tmod y516.1 128)) (128 : Int))] : List Int) ([.int .u8 ((bor .u8 (IntKind.wrap .u8 (Int.tmod y516.1 128)) (128 : Int)))] ++ []) from ⟨_, _, rfl, rfl, rfl⟩)) (fun a A590 q591 w _ hE h592 hS => ?_)) rfl
     obtain ⟨D594, q597, le595, hS, h598, h596⟩ := hS.lent h592
     have hS := hS.pk (.c 1 rfl (.c 0 rfl .n)) rfl
     obtain ⟨l599, h600, hf⟩ := bind_some hf
     refine at_op (g_append (K := (kdInt .u8)) (e := 5) (bytes := 1) (l := y516.2) (m := ([(bor .u8 (IntKind.wrap .u8 (Int.tmod y516.1 128)) (128 : Int))] : List Int)) rfl rfl rfl rfl hE rfl hS rfl rfl (by kernel_rfl) rfl rfl (h522.mono le595) h596 h600 (fun a A601 c602 q603 w _ hE h604 hS => ?_)) rfl
     refine sN 1 8 [(3, .slice A601 (List.length (l599)) c602)] hE (fun a hE => ?_)
     refine at_end rfl ?_
     refine region_at ?_
     refine sN 3 3 [(0, .int .i64 ((Int.fdiv y516.1 (2 ^ 7))))] hE (fun a hE => ?_)
     refine at_end rfl ?_
     have hS := hS.pk (.c 0 rfl .n) rfl
     exact ⟨((Int.fdiv y516.1 (2 ^ 7)), l599), A601, c602, q603, D594, hE.weak (by kernel_rfl), hS, (le2 le518 le595), h604, hf⟩
    ·replace hf := cond_f hb hf
     clear hb
     refine wpIn_exit ?_
     obtain rfl := Option.some.inj hf
     exact ⟨y516.2, A519, c520, q521, D517, hE.weak (by kernel_rfl), hS, le518, h522, rfl⟩
set_option maxRecDepth 100000 in
set_option maxHeartbeats 4000000 in
theorem wire_Bytes.calls {K : Nat} {g w0 : World} {D0 : Snap} {x1 : (List Int)} {A2 : Option Addr} {c3 : Nat} {r : ((List Int))} (hf : wire_Bytes.f K x1 = some r) (hS0 : St g w0 D0 []) (h4 : Sl (kdInt .u8) D0 A2 c3 (x1)) :
  CallsIn (Fw none) 0 Tryd.prog 47 (List.toArray [.slice A2 (List.length (x1)) c3]) w0 (fun e w' => ∃ v, e = .returned v ∧ ∃ (D1 : Snap) (A22 : Option Addr) (c23 : Nat) (q24 : Blk), v = .slice A22 (List.length (r)) c23 ∧ Stp g w0 D0 [] w' D1 [q24] ∧ OwnD (kdInt .u8) 5 D1 A22 c23 (r) q24) := by
 unfold wire_Bytes.f at hf
 have hS := Stp.refl hS0
 clear hS0
 refine calls_body (n := 8) Tryd.func47 rfl Tryd.ntmps47 rfl (fun a hE => ?_)
 have hE : Env a 8 [] [(0, .slice A2 (List.length (x1)) c3)] := hE
 refine wpIn_seq ?_
 refine region_at ?_
 refine sN 1 1 [(2, .slice none 0 0)] hE (fun a hE => ?_)
 refine at_end rfl ?_
 refine wpIn_seq ?_
 refine region_at ?_
 refine sN 2 2 [(4, .int .i64 (((List.length (x1) : Nat) : Int)))] hE (fun a hE => ?_)
 obtain ⟨r27, h28, hf⟩ := bind_some hf
 refine aC rfl rfl rfl rfl hE rfl rfl rfl rfl (wire_Num.calls (g := g) h28 (hS.st.fore (L := [])) ) (fun a v w hR hE => ?_)
 obtain ⟨D29, A31, c32, q33, rfl, hS1, h34⟩ := hR
 have le36 := hS1.dle
 have hS := hS.callR hS1 rfl (.c .n)
 clear hS1
 refine sN 1 4 [(6, .slice A2 (List.length (x1)) c3)] hE (fun a hE => ?_)
 obtain ⟨l37, h38, hf⟩ := bind_some hf
 refine at_op (g_append (K := (kdInt .u8)) (e := 5) (bytes := 1) (l := r27) (m := x1) rfl rfl rfl rfl hE rfl hS rfl rfl (by kernel_rfl) rfl rfl h34 (h4.mono le36) h38 (fun a A39 c40 q41 w _ hE h42 hS => ?_)) rfl
 refine sN 1 6 [(2, .slice A39 (List.length (l37)) c40)] hE (fun a hE => ?_)
 refine at_end rfl ?_
 refine wpIn_ret ?_
 obtain rfl := Option.some.inj hf
 repeat (with_reducible first | refine then_ret ?_ | refine block_ret ?_ | refine qx_ret ?_)
 refine ret_gen ([.slice A39 (List.length (l37)) c40]) hE (by rw [show Tryd.f47.results.toList = [.tmp 2] from rfl]; exact ⟨_, _, rfl, rfl, rfl⟩) ?_
 exact ⟨_, rfl, D29, A39, c40, q41, rfl, hS, h42⟩
set_option maxRecDepth 100000 in
set_option maxHeartbeats 4000000 in
theorem wire_All.calls {K : Nat} {g w0 : World} {D0 : Snap} {x1 : (List (List Int))} {A2 : Option Addr} {c3 : Nat} {r : ((List Int))} (hf : wire_All.f K x1 = some r) (hS0 : St g w0 D0 []) (h4 : Sl (kdSlice (kdInt .u8)) D0 A2 c3 (x1)) :
  CallsIn (Fw none) 0 Tryd.prog 46 (List.toArray [.slice A2 (List.length (x1)) c3]) w0 (fun e w' => ∃ v, e = .returned v ∧ ∃ (D1 : Snap) (A15 : Option Addr) (c16 : Nat) (q17 : Blk), v = .slice A15 (List.length (r)) c16 ∧ Stp g w0 D0 [] w' D1 [q17] ∧ OwnD (kdInt .u8) 5 D1 A15 c16 (r) q17) := by
 unfold wire_All.f at hf
 have hS := Stp.refl hS0
 clear hS0
 refine calls_body (n := 5) Tryd.func46 rfl Tryd.ntmps46 rfl (fun a hE => ?_)
 have hE : Env a 5 [] [(0, .slice A2 (List.length (x1)) c3)] := hE
 refine wpIn_seq ?_
 refine region_at ?_
 refine sN 1 1 [(2, .slice none 0 0)] hE (fun a hE => ?_)
 refine at_end rfl ?_
 refine wpIn_seq ?_
 refine region_at ?_
 refine sN 1 1 [(3, .slice A2 (List.length (x1)) c3)] hE (fun a hE => ?_)
 obtain ⟨r20, h21, hf⟩ := bind_some hf
 refine aC rfl rfl rfl rfl hE rfl rfl rfl rfl (slices_Concat_byte_byte.calls (g := g) h21 (hS.st.fore (L := [])) h4) (fun a v w hR hE => ?_)
 obtain ⟨D22, A24, c25, q26, rfl, hS1, h27⟩ := hR
 have le29 := hS1.dle
 have hS := hS.callR hS1 rfl (.c .n)
 clear hS1
 refine sN 1 3 [(2, .slice A24 (List.length (r20)) c25)] hE (fun a hE => ?_)
 refine at_end rfl ?_
 refine wpIn_ret ?_
 obtain rfl := Option.some.inj hf
 repeat (with_reducible first | refine then_ret ?_ | refine block_ret ?_ | refine qx_ret ?_)
 refine ret_gen ([.slice A24 (List.length (r20)) c25]) hE (by rw [show Tryd.f46.results.toList = [.tmp 2] from rfl]; exact ⟨_, _, rfl, rfl, rfl⟩) ?_
 exact ⟨_, rfl, D22, A24, c25, q26, rfl, hS, h27⟩
set_option maxRecDepth 100000 in
set_option maxHeartbeats 4000000 in
theorem log_at_laid.calls {K : Nat} {g w0 : World} {D0 : Snap} {x1 : T_log_at} {x2 : (List Int)} {A3 : Option Addr} {c4 : Nat} {r : ((List Int))} (hf : log_at_laid.f K x1 x2 = some r) (hS0 : St g w0 D0 []) (h5 : Sl (kdInt .u8) D0 A3 c4 (x2)) (hG0 : Cell (kdArr .u32 8) D0 0 0 gl_First) (hG1 : Cell (kdArr .u32 64) D0 1 0 gl_K) :
  CallsIn (Fw none) 0 Tryd.prog 36 (List.toArray [.agg (List.toArray (c_T_log_at (x1))), .slice A3 (List.length (x2)) c4]) w0 (fun e w' => ∃ v, e = .returned v ∧ ∃ (D1 : Snap) (A99 : Option Addr) (c100 : Nat) (q101 : Blk), v = .slice A99 (List.length (r)) c100 ∧ Stp g w0 D0 [] w' D1 [q101] ∧ OwnD (kdInt .u8) 5 D1 A99 c100 (r) q101) := by
 unfold log_at_laid.f at hf
 have hS := Stp.refl hS0
 clear hS0
 refine calls_body (n := 15) Tryd.func36 rfl Tryd.ntmps36 rfl (fun a hE => ?_)
 have hE : Env a 15 [] [(0, .agg (List.toArray (c_T_log_at (x1)))), (1, .slice A3 (List.length (x2)) c4)] := hE
 refine wpIn_seq ?_
 refine region_at ?_
 refine at_op (op_box rfl rfl rfl rfl hE rfl hS rfl (fun a b104 w _ hE hS => ?_)) rfl
 refine sN 1 2 [(4, .slice none 0 0)] hE (fun a hE => ?_)
 refine at_end rfl ?_
 refine wpIn_seq ?_
 refine region_at ?_
 refine aL 0 (.agg (List.toArray (c_T_log_at (x1)))) hE hS (fun a hE => ?_)
 refine sN 1 2 [(7, .slice A3 (List.length (x2)) c4)] hE (fun a hE => ?_)
 obtain ⟨r106, h107, hf⟩ := bind_some hf
 refine aC rfl rfl rfl rfl hE rfl rfl rfl rfl (log_at_behind.calls (g := g) h107 (hS.st.fore (L := [])) h5 hG0 hG1) (fun a v w hR hE => ?_)
 obtain ⟨D108, rfl, hS1⟩ := hR
 have le110 := hS1.dle
 have hS := hS.callR hS1 rfl .n
 clear hS1
 refine at_op (op_tk hE (g_field (cs := c_T_log_at (r106)) (fo := 1) (ft := 48) (.agg (List.toArray (acells .u8 32 (r106.fChain)))) rfl rfl rfl rfl hE rfl rfl (by kernel_rfl) (by kernel_rfl) (fun a hE => ?_))) rfl
 refine at_op (op_alloc (z := .agg (List.toArray (acells .u8 32 ((Vector.replicate 32 (0 : Int)))))) rfl rfl rfl rfl hE rfl hS (by kernel_rfl) (fun a b111 w _ hE hS => ?_)) rfl
 refine at_op (op_store (v := .agg (List.toArray (acells .u8 32 (r106.fChain)))) (acells .u8 32 (r106.fChain)) rfl rfl rfl rfl hE hS rfl rfl (by kernel_rfl) (by kernel_rfl) (by kernel_rfl) (by kernel_rfl) (by kernel_rfl) (fun a w _ hE hS => ?_)) rfl
 refine at_end rfl ?_
 refine wpIn_seq ?_
 refine region_draw (fun j => Keeps (mfOf [] j)) (by kernel_rfl) ?_
 have hS := hS.drew
 first | generalize w.drew = w at hS ⊢ | generalize w0.drew = w at hS ⊢
 refine wP 0 1 5 (.slice A3 (List.length (x2)) c4) hE (fun a hE => ?_)
 obtain ⟨D155, le156, e157, hS⟩ := hS.freezeB
 obtain ⟨l158, h159, hf⟩ := bind_some hf
 refine tW 2 5 (fuel := 4) (by kernel_rfl) hE (fun M => g_sliceArr (kk := .u8) (e := 5) (v := r106.fChain) rfl rfl rfl rfl hE rfl rfl (by kernel_rfl) rfl ⟨_, rfl⟩ e157 rfl h159 (fun a A160 c161 hE h162 => ?_))
 obtain ⟨r163, h164, hf⟩ := bind_some hf
 refine oG 1 7 (fuel := 3) (by kernel_rfl) (op_call rfl rfl rfl rfl hE rfl rfl rfl rfl (by kernel_rfl) (wire_Bytes.calls (g := g) h164 (hS.st.fore (L := [])) (h5.mono (le2 le110 le156))) (fun a v w hR hE => ?_))
 obtain ⟨D165, A167, c168, q169, rfl, hS1, h170⟩ := hR
 refine ⟨(hS1.keeps.sub (M' := []) trivial).mono (fun _ h => h), ?_⟩
 have le172 := hS1.dle
 have hS := hS.callR hS1 rfl (.c .n)
 clear hS1
 obtain ⟨D173, q176, le174, hS, h177, h175⟩ := hS.lent h170
 refine oG 3 15 (fuel := 2) (by kernel_rfl) (op_buildSlice (K := (kdSlice (kdInt .u8))) (e := 33) (cs := [.slice A167 (List.length (r163)) c168] ++ ([.slice A160 (List.length (l158)) c161] ++ [])) ([r163, l158] : List (List Int)) rfl rfl rfl rfl hE rfl hS rfl (by kernel_rfl) rfl rfl (by exact (show RL (kdSlice (kdInt .u8)) D173 ([r163, l158] : List (List Int)) ([.slice A167 (List.length (r163)) c168] ++ ([.slice A160 (List.length (l158)) c161] ++ [])) from ⟨_, _, rfl, (kslice h175), ⟨_, _, rfl, (kslice (h162.mono (le2 le172 le174))), rfl⟩⟩)) (fun a A178 q179 w hkp hE h180 hS => ⟨hkp.mono (fun _ h => absurd h List.not_mem_nil), ?_⟩))
 clear hkp
 obtain ⟨D182, q185, le183, hS, h186, h184⟩ := hS.lent h180
 obtain ⟨r187, h188, hf⟩ := bind_some hf
 refine oG 4 31 (fuel := 1) (by kernel_rfl) (op_call rfl rfl rfl rfl hE rfl rfl rfl rfl (by kernel_rfl) (wire_All.calls (g := g) h188 (hS.st.fore (L := [])) h184) (fun a v w hR hE => ?_))
 obtain ⟨D189, A191, c192, q193, rfl, hS1, h194⟩ := hR
 refine ⟨(hS1.keeps.sub (M' := []) trivial).mono (fun _ h => h), ?_⟩
 have le196 := hS1.dle
 have hS := hS.callR hS1 rfl (.c .n)
 clear hS1
 refine wP 5 63 0 (.slice A191 (List.length (r187)) c192) hE (fun a hE => ?_)
 refine doneG (by kernel_rfl) ?_
 refine wpIn_ret ?_
 obtain rfl := Option.some.inj hf
 repeat (with_reducible first | refine then_ret ?_ | refine block_ret ?_ | refine qx_ret ?_)
 refine ret_gen ([.slice A191 (List.length (r187)) c192]) hE (by rw [show Tryd.f36.results.toList = [.tmp 4] from rfl]; exact ⟨_, _, rfl, rfl, rfl⟩) ?_
 have hS := hS.pk (.c 0 rfl .n) rfl
 exact ⟨_, rfl, D189, A191, c192, q193, rfl, hS, h194⟩
set_option maxRecDepth 100000 in
set_option maxHeartbeats 4000000 in
theorem bytes_Equal.calls {K : Nat} {g w0 : World} {D0 : Snap} {x1 : (List Int)} {x5 : (List Int)} {A2 : Option Addr} {c3 : Nat} {A6 : Option Addr} {c7 : Nat} {r : (Bool)} (hf : bytes_Equal.f K x1 x5 = some r) (hS0 : St g w0 D0 []) (h4 : Sl (kdInt .u8) D0 A2 c3 (x1)) (h8 : Sl (kdInt .u8) D0 A6 c7 (x5)) :
  CallsIn (Fw none) 0 Tryd.prog 69 (List.toArray [.slice A2 (List.length (x1)) c3, .slice A6 (List.length (x5)) c7]) w0 (fun e w' => ∃ v, e = .returned v ∧ ∃ (D1 : Snap), v = .bool (r) ∧ Stp g w0 D0 [] w' D1 []) := by
 unfold bytes_Equal.f at hf
 have hS := Stp.refl hS0
 clear hS0
 refine calls_body (n := 10) Tryd.func69 rfl Tryd.ntmps69 rfl (fun a hE => ?_)
 have hE : Env a 10 [] [(0, .slice A2 (List.length (x1)) c3), (1, .slice A6 (List.length (x5)) c7)] := hE
 refine wpIn_seq ?_
 refine region_at ?_
 refine sN 1 1 [(4, .bool false)] hE (fun a hE => ?_)
 refine at_end rfl ?_
 refine wpIn_seq ?_
 refine region_at ?_
 refine sN 1 1 [(5, .slice A2 (List.length (x1)) c3)] hE (fun a hE => ?_)
 refine at_op (op_tk hE (tk_b2s rfl rfl rfl rfl hE rfl hS rfl (by kernel_rfl) h4 (kD hS dn_nil) (fun a hE => ?_))) rfl
 refine sN 1 3 [(7, .slice A6 (List.length (x5)) c7)] hE (fun a hE => ?_)
 refine at_op (op_tk hE (tk_b2s rfl rfl rfl rfl hE rfl hS rfl (by kernel_rfl) h8 (kD hS dn_nil) (fun a hE => ?_))) rfl
 refine at_op (op_tk hE (tk_bin (r := .bool ((ByteArray.toList (bofL (x1)) == ByteArray.toList (bofL (x5))))) rfl rfl rfl rfl hE rfl rfl rfl (fun w => bstr_run _ _ w _ rfl (by decide)) (fun a hE => ?_))) rfl
 refine sN 1 6 [(4, .bool ((ByteArray.toList (bofL (x1)) == ByteArray.toList (bofL (x5)))))] hE (fun a hE => ?_)
 refine at_end rfl ?_
 refine wpIn_ret ?_
 obtain rfl := Option.some.inj hf
 repeat (with_reducible first | refine then_ret ?_ | refine block_ret ?_ | refine qx_ret ?_)
 refine ret_gen ([.bool ((ByteArray.toList (bofL (x1)) == ByteArray.toList (bofL (x5))))]) hE (by rw [show Tryd.f69.results.toList = [.tmp 4] from rfl]; exact ⟨_, _, rfl, rfl, rfl⟩) ?_
 exact ⟨_, rfl, D0, rfl, hS⟩
set_option maxRecDepth 100000 in
set_option maxHeartbeats 4000000 in
theorem bytes_HasPrefix.calls {K : Nat} {g w0 : World} {D0 : Snap} {x1 : (List Int)} {x5 : (List Int)} {A2 : Option Addr} {c3 : Nat} {A6 : Option Addr} {c7 : Nat} {r : (Bool)} (hf : bytes_HasPrefix.f K x1 x5 = some r) (hS0 : St g w0 D0 []) (h4 : Sl (kdInt .u8) D0 A2 c3 (x1)) (h8 : Sl (kdInt .u8) D0 A6 c7 (x5)) :
  CallsIn (Fw none) 0 Tryd.prog 55 (List.toArray [.slice A2 (List.length (x1)) c3, .slice A6 (List.length (x5)) c7]) w0 (fun e w' => ∃ v, e = .returned v ∧ ∃ (D1 : Snap), v = .bool (r) ∧ Stp g w0 D0 [] w' D1 []) := by
 unfold bytes_HasPrefix.f at hf
 have hS := Stp.refl hS0
 clear hS0
 refine calls_body (n := 18) Tryd.func55 rfl Tryd.ntmps55 rfl (fun a hE => ?_)
 have hE : Env a 18 [] [(0, .slice A2 (List.length (x1)) c3), (1, .slice A6 (List.length (x5)) c7)] := hE
 refine wpIn_seq ?_
 refine region_at ?_
 refine sN 1 1 [(4, .bool false)] hE (fun a hE => ?_)
 refine at_end rfl ?_
 refine wpIn_seq ?_
 refine region_at ?_
 refine sN 6 6 [(10, .bool ((decide (((List.length (x5) : Nat) : Int) ≤ ((List.length (x1) : Nat) : Int)))))] hE (fun a hE => ?_)
 refine Or.elim (Bool.eq_false_or_eq_true ((decide (((List.length (x5) : Nat) : Int) ≤ ((List.length (x1) : Nat) : Int))))).symm (fun hb => ?_) (fun hb => ?_)
 ·replace hf := cond_f hb hf
  have hE := hE.know (t := 10) (b := (decide (((List.length (x5) : Nat) : Int) ≤ ((List.length (x1) : Nat) : Int)))) (b' := false) rfl hb
  clear hb
  refine sN 8 14 [(4, .bool false)] hE (fun a hE => ?_)
  refine at_end rfl ?_
  refine wpIn_ret ?_
  obtain rfl := Option.some.inj hf
  repeat (with_reducible first | refine then_ret ?_ | refine block_ret ?_ | refine qx_ret ?_)
  refine ret_gen ([.bool false]) hE (by rw [show Tryd.f55.results.toList = [.tmp 4] from rfl]; exact ⟨_, _, rfl, rfl, rfl⟩) ?_
  exact ⟨_, rfl, D0, rfl, hS⟩
 ·replace hf := cond_t hb hf
  have hE := hE.know (t := 10) (b := (decide (((List.length (x5) : Nat) : Int) ≤ ((List.length (x1) : Nat) : Int)))) (b' := true) rfl hb
  clear hb
  refine sN 3 9 [(11, .slice A2 (List.length (x1)) c3), (13, .int .i64 (((List.length (x5) : Nat) : Int)))] hE (fun a hE => ?_)
  obtain ⟨l39, h40, hf⟩ := bind_some hf
  refine at_op (op_tk hE (g_slice (K := (kdInt .u8)) (e := 5) (by_ := 1) (zl := 1) rfl rfl rfl rfl hE rfl rfl (by kernel_rfl) rfl ⟨_, rfl⟩ h4 h40 (fun a A41 c42 hE h43 => ?_))) rfl
  refine sN 1 11 [(15, .slice A6 (List.length (x5)) c7)] hE (fun a hE => ?_)
  obtain ⟨r44, h45, hf⟩ := bind_some hf
  refine aC rfl rfl rfl rfl hE rfl rfl rfl rfl (bytes_Equal.calls (g := g) h45 (hS.st.fore (L := [])) h43 h8) (fun a v w hR hE => ?_)
  obtain ⟨D46, rfl, hS1⟩ := hR
  have le48 := hS1.dle
  have hS := hS.callR hS1 rfl .n
  clear hS1
  refine sN 2 14 [(4, .bool (r44))] hE (fun a hE => ?_)
  refine at_end rfl ?_
  refine wpIn_ret ?_
  obtain rfl := Option.some.inj hf
  repeat (with_reducible first | refine then_ret ?_ | refine block_ret ?_ | refine qx_ret ?_)
  refine ret_gen ([.bool (r44)]) hE (by rw [show Tryd.f55.results.toList = [.tmp 4] from rfl]; exact ⟨_, _, rfl, rfl, rfl⟩) ?_
  exact ⟨_, rfl, D46, rfl, hS⟩
set_option maxRecDepth 100000 in
set_option maxHeartbeats 4000000 in
theorem log_read.calls {K : Nat} {g w0 : World} {D0 : Snap} {x1 : (List Int)} {x5 : Int} {x6 : T_log_at} {A2 : Option Addr} {c3 : Nat} {r : (T_log_entry × Bool)} (hf : log_read.f K x1 x5 x6 = some r) (hS0 : St g w0 D0 []) (h4 : Sl (kdInt .u8) D0 A2 c3 (x1)) (hG0 : Cell (kdArr .u32 8) D0 0 0 gl_First) (hG1 : Cell (kdArr .u32 64) D0 1 0 gl_K) :
  CallsIn (Fw none) 0 Tryd.prog 43 (List.toArray [.slice A2 (List.length (x1)) c3, .int .i64 (x5), .agg (List.toArray (c_T_log_at (x6)))]) w0 (fun e w' => ∃ v, e = .returned v ∧ ∃ (D1 : Snap) (A122 : Option Addr) (c123 : Nat), v = .tuple #[.agg (List.toArray (c_T_log_entry ((T_log_entry.mk (r.1.fB) ((T_log_at.mk (r.1.fEnd.fCount) (r.1.fEnd.fChain))) (r.1.fNext))) A122 c123)), .bool (r.2)] ∧ Stp g w0 D0 [] w' D1 [] ∧ Sl (kdInt .u8) D1 A122 c123 (r.1.fB)) := by
 unfold log_read.f at hf
 have hS := Stp.refl hS0
 clear hS0
 refine calls_body (n := 45) Tryd.func43 rfl Tryd.ntmps43 rfl (fun a hE => ?_)
 have hE : Env a 45 [] [(0, .slice A2 (List.length (x1)) c3), (1, .int .i64 (x5)), (2, .agg (List.toArray (c_T_log_at (x6))))] := hE
 refine wpIn_seq ?_
 refine region_at ?_
 refine at_op (op_box rfl rfl rfl rfl hE rfl hS rfl (fun a b125 w _ hE hS => ?_)) rfl
 refine at_op (op_alloc (z := .agg (List.toArray (c_T_log_entry (z_T_log_entry) none 0))) rfl rfl rfl rfl hE rfl hS (by kernel_rfl) (fun a b127 w _ hE hS => ?_)) rfl
 refine sN 1 3 [(7, .bool false)] hE (fun a hE => ?_)
 refine at_end rfl ?_
 refine wpIn_seq ?_
 refine region_at ?_
 refine sN 2 2 [(11, .slice A2 (List.length (x1)) c3), (12, .int .i64 (x5))] hE (fun a hE => ?_)
 obtain ⟨l129, h130, hf⟩ := bind_some hf
 refine at_op (op_tk hE (g_slice (K := (kdInt .u8)) (e := 5) (by_ := 1) (zl := 1) rfl rfl rfl rfl hE rfl rfl (by kernel_rfl) ⟨_, rfl⟩ rfl h4 h130 (fun a A131 c132 hE h133 => ?_))) rfl
 obtain ⟨r134, h135, hf⟩ := bind_some hf
 refine aC rfl rfl rfl rfl hE rfl rfl rfl rfl (wire_Read.calls (g := g) h135 (hS.st.fore (L := [])) h133) (fun a v w hR hE => ?_)
 obtain ⟨D136, b138, A140, c141, rfl, hS1, h142⟩ := hR
 have le143 := hS1.dle
 have hS := hS.callR hS1 rfl (.c .n)
 clear hS1
 refine sN 1 5 [(8, .pointer (some ⟨b138, 0, none⟩))] hE (fun a hE => ?_)
 refine at_end rfl ?_
 refine wpIn_seq ?_
 refine region_at ?_
 refine sN 1 1 [(15, .pointer (some ⟨b138, 0, none⟩))] hE (fun a hE => ?_)
 obtain ⟨r144, h145, hf⟩ := bind_some hf
 refine aC rfl rfl rfl rfl hE rfl rfl rfl rfl (wire_Reader_Bytes.calls (g := g) h145 (hS.st.fore (L := [bx b138 102 (c_T_wire_Reader (r134) A140 c141)])) h142) (fun a v w hR hE => ?_)
 obtain ⟨D146, A148, c149, q150, A153, c154, rfl, hS1, h151, h155⟩ := hR
 have le156 := hS1.dle
 have hS := hS.callR hS1 rfl (.c (.c .n))
 clear hS1
 refine sN 1 3 [(9, .slice A148 (List.length (r144.1)) c149)] hE (fun a hE => ?_)
 refine at_end rfl ?_
 refine wpIn_seq ?_
 obtain ⟨j233, hj234, hf⟩ := jn_elim hf
 refine seq_join (fun a w => ∃ (y177 : Bool), ∃ (D178 : Snap), Env a 45 [] [(0, .slice A2 (List.length (x1)) c3), (1, .int .i64 (x5)), (5, .pointer (some ⟨b125, 0, none⟩)), (6, .pointer (some ⟨b127, 0, none⟩)), (9, .slice A148 (List.length (r144.1)) c149), (24, .bool (y177))] ∧ Stp g w0 D0 [] w D178 [bx b125 62 (c_T_log_at (x6)), bx b127 69 (c_T_log_entry (z_T_log_entry) none 0), q150] ∧ Snap.le D146 D178 ∧ j233 y177 = some r) ?_ ?_
 ·clear hj234
  refine region_at ?_
  refine sN 1 1 [(17, .pointer (some ⟨b138, 0, none⟩))] hE (fun a hE => ?_)
  obtain ⟨r235, h236, hf⟩ := bind_some hf
  refine aC rfl rfl rfl rfl hE rfl rfl rfl rfl (wire_Reader_Bad.calls (g := g) h236 (hS.st.fore (L := [bx b138 102 (c_T_wire_Reader (r144.2) A153 c154)])) h155) (fun a v w hR hE => ?_)
  obtain ⟨D237, rfl, hS1⟩ := hR
  have le239 := hS1.dle
  have hS := hS.callR hS1 rfl (.c .n)
  clear hS1
  refine sN 2 4 [(20, .bool ((!decide (r235 = (0 : Int)))))] hE (fun a hE => ?_)
  refine Or.elim (Bool.eq_false_or_eq_true ((!decide (r235 = (0 : Int))))).symm (fun hb => ?_) (fun hb => ?_)
  ·replace hf := cond_f hb hf
   have hE := hE.know (t := 20) (b := (!decide (r235 = (0 : Int)))) (b' := false) rfl hb
   clear hb
   refine sN 4 8 [(24, .bool ((decide (((List.length (r144.1) : Nat) : Int) = (0 : Int)))))] hE (fun a hE => ?_)
   refine at_end rfl ?_
   have hS := hS.pk (.c 3 rfl (.c 2 rfl (.c 1 rfl .n))) rfl
   exact ⟨(decide (((List.length (r144.1) : Nat) : Int) = (0 : Int))), D237, hE.weak (by kernel_rfl), hS, le239, hf⟩
  ·replace hf := cond_t hb hf
   have hE := hE.know (t := 20) (b := (!decide (r235 = (0 : Int)))) (b' := true) rfl hb
   clear hb
   refine sN 4 8 [(24, .bool true)] hE (fun a hE => ?_)
   refine at_end rfl ?_
   have hS := hS.pk (.c 3 rfl (.c 2 rfl (.c 1 rfl .n))) rfl
   exact ⟨true, D237, hE.weak (by kernel_rfl), hS, le239, hf⟩
 ·clear hE hS
  rintro a w ⟨y177, D178, hE, hS, le179, hf⟩
  replace hf := hj234 _ hf
  clear hj234
  refine cond_split hE (b := y177) rfl (fun hb => ?_) (fun hb => ?_)
  ·replace hf := cond_t hb hf
   clear hb
   refine wpIn_seq ?_
   refine region_at ?_
   refine at_op (op_tk hE (tk_build (c_T_log_entry (z_T_log_entry) none 0) rfl rfl rfl rfl hE rfl rfl (by kernel_rfl) (fun a hE => ?_))) rfl
   have hS := hS.pk (.c 1 rfl (.c 0 rfl (.c 2 rfl .n))) rfl
   refine at_op (op_store (v := .agg (List.toArray (c_T_log_entry (z_T_log_entry) none 0))) (c_T_log_entry (z_T_log_entry) none 0) rfl rfl rfl rfl hE hS rfl rfl (by kernel_rfl) (by kernel_rfl) (by kernel_rfl) (by kernel_rfl) (by kernel_rfl) (fun a w _ hE hS => ?_)) rfl
   refine sN 1 3 [(7, .bool false)] hE (fun a hE => ?_)
   refine at_end rfl ?_
   refine wpIn_ret ?_
   obtain rfl := Option.some.inj hf
   repeat (with_reducible first | refine then_ret ?_ | refine block_ret ?_ | refine qx_ret ?_)
   refine ret_gen ([.agg (List.toArray (c_T_log_entry (z_T_log_entry) none 0)), .bool false]) hE (by rw [show Tryd.f43.results.toList = [.cell 6 69, .tmp 7] from rfl]; exact ⟨_, _, _, 0, _, _, rfl, rfl, hS.heapAt (j := 0) rfl, by kernel_rfl, ⟨_, _, rfl, rfl, rfl⟩⟩) ?_
   have hS := hS.pk .n rfl
   exact ⟨_, rfl, D178, none, 0, rfl, hS, (Sl.nil (kdInt .u8) D178)⟩
  ·replace hf := cond_f hb hf
   clear hb
   refine wpIn_skip ?_
   refine wpIn_seq ?_
   refine region_at ?_
   refine aL 0 (.agg (List.toArray (c_T_log_at (x6)))) hE hS (fun a hE => ?_)
   refine sN 1 2 [(27, .slice A148 (List.length (r144.1)) c149)] hE (fun a hE => ?_)
   have hS := hS.pk (.c 2 rfl (.c 0 rfl (.c 1 rfl .n))) rfl
   obtain ⟨D180, q183, le181, hS, h184, h182⟩ := hS.lent (h151.mono le179)
   obtain ⟨r185, h186, hf⟩ := bind_some hf
   refine aC rfl rfl rfl rfl hE rfl rfl rfl rfl (log_at_laid.calls (g := g) h186 (hS.st.fore (L := [])) h182 (hG0.mono (le2 (le2 (le2 le143 le156) le179) le181)) (hG1.mono (le2 (le2 (le2 le143 le156) le179) le181))) (fun a v w hR hE => ?_)
   obtain ⟨D187, A189, c190, q191, rfl, hS1, h192⟩ := hR
   have le194 := hS1.dle
   have hS := hS.callR hS1 rfl (.c .n)
   clear hS1
   refine sN 1 4 [(10, .slice A189 (List.length (r185)) c190)] hE (fun a hE => ?_)
   refine at_end rfl ?_
   refine wpIn_seq ?_
   refine wpIn_seq ?_
   refine region_at ?_
   refine sN 2 2 [(29, .slice A2 (List.length (x1)) c3), (30, .int .i64 (x5))] hE (fun a hE => ?_)
   obtain ⟨l210, h211, hf⟩ := bind_some hf
   refine at_op (op_tk hE (g_slice (K := (kdInt .u8)) (e := 5) (by_ := 1) (zl := 1) rfl rfl rfl rfl hE rfl rfl (by kernel_rfl) ⟨_, rfl⟩ rfl (h4.mono (le2 (le2 (le2 (le2 le143 le156) le179) le181) le194)) h211 (fun a A212 c213 hE h214 => ?_))) rfl
   refine sN 1 4 [(32, .slice A189 (List.length (r185)) c190)] hE (fun a hE => ?_)
   obtain ⟨D215, q218, le216, hS, h219, h217⟩ := hS.lent h192
   obtain ⟨r220, h221, hf⟩ := bind_some hf
   refine aC rfl rfl rfl rfl hE rfl rfl rfl rfl (bytes_HasPrefix.calls (g := g) h221 (hS.st.fore (L := [])) (h214.mono le216) h217) (fun a v w hR hE => ?_)
   obtain ⟨D222, rfl, hS1⟩ := hR
   have le224 := hS1.dle
   have hS := hS.callR hS1 rfl .n
   clear hS1
   refine sN 1 6 [(34, .bool ((!r220)))] hE (fun a hE => ?_)
   refine at_end rfl ?_
   refine cond_split hE (b := (!r220)) rfl (fun hb => ?_) (fun hb => ?_)
   ·replace hf := cond_t hb hf
    clear hb
    refine wpIn_seq ?_
    refine region_at ?_
    refine at_op (op_tk hE (tk_build (c_T_log_entry (z_T_log_entry) none 0) rfl rfl rfl rfl hE rfl rfl (by kernel_rfl) (fun a hE => ?_))) rfl
    have hS := hS.pk (.c 3 rfl (.c 0 rfl (.c 1 rfl (.c 2 rfl .n)))) rfl
    refine at_op (op_store (v := .agg (List.toArray (c_T_log_entry (z_T_log_entry) none 0))) (c_T_log_entry (z_T_log_entry) none 0) rfl rfl rfl rfl hE hS rfl rfl (by kernel_rfl) (by kernel_rfl) (by kernel_rfl) (by kernel_rfl) (by kernel_rfl) (fun a w _ hE hS => ?_)) rfl
    refine sN 1 3 [(7, .bool false)] hE (fun a hE => ?_)
    refine at_end rfl ?_
    refine wpIn_ret ?_
    obtain rfl := Option.some.inj hf
    repeat (with_reducible first | refine then_ret ?_ | refine block_ret ?_ | refine qx_ret ?_)
    refine ret_gen ([.agg (List.toArray (c_T_log_entry (z_T_log_entry) none 0)), .bool false]) hE (by rw [show Tryd.f43.results.toList = [.cell 6 69, .tmp 7] from rfl]; exact ⟨_, _, _, 0, _, _, rfl, rfl, hS.heapAt (j := 0) rfl, by kernel_rfl, ⟨_, _, rfl, rfl, rfl⟩⟩) ?_
    have hS := hS.pk .n rfl
    exact ⟨_, rfl, D222, none, 0, rfl, hS, (Sl.nil (kdInt .u8) D222)⟩
   ·replace hf := cond_f hb hf
    clear hb
    refine wpIn_skip ?_
    refine wpIn_seq ?_
    refine region_at ?_
    refine sN 1 1 [(36, .slice A148 (List.length (r144.1)) c149)] hE (fun a hE => ?_)
    refine aL 2 (.agg (List.toArray (c_T_log_at (x6)))) hE hS (fun a hE => ?_)
    refine sN 1 3 [(38, .slice A148 (List.length (r144.1)) c149)] hE (fun a hE => ?_)
    obtain ⟨r225, h226, hf⟩ := bind_some hf
    refine aC rfl rfl rfl rfl hE rfl rfl rfl rfl (log_at_behind.calls (g := g) h226 (hS.st.fore (L := [])) (h182.mono (le2 (le2 le194 le216) le224)) (hG0.mono (le2 (le2 (le2 (le2 (le2 (le2 le143 le156) le179) le181) le194) le216) le224)) (hG1.mono (le2 (le2 (le2 (le2 (le2 (le2 le143 le156) le179) le181) le194) le216) le224))) (fun a v w hR hE => ?_)
    obtain ⟨D227, rfl, hS1⟩ := hR
    have le229 := hS1.dle
    have hS := hS.callR hS1 rfl .n
    clear hS1
    refine sN 4 8 [(43, .int .i64 ((IntKind.wrap .i64 (x5 + ((List.length (r185) : Nat) : Int)))))] hE (fun a hE => ?_)
    refine at_op (op_tk hE (tk_build (c_T_log_entry ((T_log_entry.mk (r144.1) (r225) ((IntKind.wrap .i64 (x5 + ((List.length (r185) : Nat) : Int)))))) A148 c149) rfl rfl rfl rfl hE rfl rfl (by kernel_rfl) (fun a hE => ?_))) rfl
    have hS := hS.pk (.c 3 rfl (.c 0 rfl (.c 1 rfl (.c 2 rfl .n)))) rfl
    obtain ⟨v230, hv231, hf⟩ := bind_some hf
    replace hv231 := Option.some.inj hv231
    refine at_op (op_store (v := .agg (List.toArray (c_T_log_entry ((T_log_entry.mk (r144.1) (r225) ((IntKind.wrap .i64 (x5 + ((List.length (r185) : Nat) : Int)))))) A148 c149))) (c_T_log_entry (v230) A148 c149) rfl rfl rfl rfl hE hS rfl rfl (by kernel_rfl) (by kernel_rfl) (by kernel_rfl) (by kernel_rfl) (by rw [← hv231]; kernel_rfl) (fun a w _ hE hS => ?_)) rfl
    have h232 : Sl (kdInt .u8) D180 A148 c149 (v230.fB) := by rw [← hv231]; exact h182
    refine sN 1 11 [(7, .bool true)] hE (fun a hE => ?_)
    refine at_end rfl ?_
    refine wpIn_ret ?_
    obtain rfl := Option.some.inj hf
    repeat (with_reducible first | refine then_ret ?_ | refine block_ret ?_ | refine qx_ret ?_)
    refine ret_gen ([.agg (List.toArray (c_T_log_entry (v230) A148 c149)), .bool true]) hE (by rw [show Tryd.f43.results.toList = [.cell 6 69, .tmp 7] from rfl]; exact ⟨_, _, _, 0, _, _, rfl, rfl, hS.heapAt (j := 0) rfl, by kernel_rfl, ⟨_, _, rfl, rfl, rfl⟩⟩) ?_
    have hS := hS.pk .n rfl
    exact ⟨_, rfl, D227, A148, c149, rfl, hS, (h232.mono (le2 (le2 (le2 le194 le216) le224) le229))⟩
set_option maxRecDepth 100000 in
set_option maxHeartbeats 4000000 in
theorem disk_Disk_leave.calls {K : Nat} {g w0 : World} {D0 : Snap} {x3 : Int} {x4 : (List Int)} {x10 : Int} {x11 : Int} {b1 : Nat} {A5 : Option Addr} {c6 : Nat} {q7 : Blk} {r : ((List Int) × Int)} (hf : disk_Disk_leave.f K x3 x4 x10 x11 = some r) (hS0 : St g w0 D0 [bx b1 72 (c_T_disk_Disk ((T_disk_Disk.mk (x4) (x10) (x11))) A5 c6), q7]) (h8 : OwnL (kdInt .u8) 5 D0 A5 c6 (x4) q7) :
  CallsIn (Fw none) 0 Tryd.prog 39 (List.toArray [.pointer (some ⟨b1, 0, none⟩), .int .i64 (x3)]) w0 (fun e w' => ∃ v, e = .returned v ∧ ∃ (D1 : Snap) (A23 : Option Addr) (c24 : Nat) (q25 : Blk), v = .tuple #[] ∧ Stp g w0 D0 [bx b1 72 (c_T_disk_Disk ((T_disk_Disk.mk (x4) (x10) (x11))) A5 c6), q7] w' D1 [bx b1 72 (c_T_disk_Disk ((T_disk_Disk.mk (r.1) (r.2) (x11))) A23 c24), q25] ∧ OwnL (kdInt .u8) 5 D1 A23 c24 (r.1) q25) := by
 unfold disk_Disk_leave.f at hf
 have hS := Stp.refl hS0
 clear hS0
 refine calls_body (n := 18) Tryd.func39 rfl Tryd.ntmps39 rfl (fun a hE => ?_)
 have hE : Env a 18 [] [(0, .pointer (some ⟨b1, 0, none⟩)), (1, .int .i64 (x3))] := hE
 refine wpIn_seq ?_
 refine region_at ?_
 refine sN 3 3 [(4, .pointer (some ⟨b1, 0, none⟩)), (6, .pointer (some ⟨b1, 0, none⟩))] hE (fun a hE => ?_)
 refine aF 0 33 0 hE (fun a hE => ?_)
 refine aL 0 (.slice A5 (List.length (x4)) c6) hE hS (fun a hE => ?_)
 refine sN 2 7 [(9, .int .i64 (x3)), (10, .int .i64 (x3))] hE (fun a hE => ?_)
 have hS := hS.pk (.c 1 rfl (.c 0 rfl .n)) rfl
 obtain ⟨D28, q31, le29, hS, h32, h30⟩ := hS.lent h8
 obtain ⟨l33, h34, hf⟩ := bind_some hf
 refine at_op (op_tk hE (tk_sliceFull (K := (kdInt .u8)) (e := 5) (by_ := 1) (zl0 := 1) rfl rfl rfl rfl hE rfl rfl (by kernel_rfl) rfl rfl rfl h30 h34 (fun a A35 hE h36 => ?_))) rfl
 have h38 := OwnL.full 5 h36 rfl
 have hS := hS.nils
 refine sN 1 9 [(12, .pointer (some ⟨b1, 0, none⟩))] hE (fun a hE => ?_)
 refine aF 0 33 0 hE (fun a hE => ?_)
 have hS := hS.pk (.c 2 rfl (.c 0 rfl (.c 1 rfl .n))) rfl
 refine at_op (op_store (v := .slice A35 (List.length (l33)) (List.length (l33))) (c_T_disk_Disk ((T_disk_Disk.mk (l33) (x10) (x11))) A35 ((List.length (l33)))) rfl rfl rfl rfl hE hS rfl rfl (by kernel_rfl) (by kernel_rfl) (by kernel_rfl) (by kernel_rfl) (by kernel_rfl) (fun a w _ hE hS => ?_)) rfl
 refine at_end rfl ?_
 refine region_at ?_
 refine sN 3 3 [(15, .int .i64 (x3)), (16, .pointer (some ⟨b1, 0, none⟩))] hE (fun a hE => ?_)
 refine aF 1 3 1 hE (fun a hE => ?_)
 refine at_op (op_store (v := .int .i64 (x3)) (c_T_disk_Disk ((T_disk_Disk.mk (l33) (x3) (x11))) A35 ((List.length (l33)))) rfl rfl rfl rfl hE hS rfl rfl (by kernel_rfl) (by kernel_rfl) (by kernel_rfl) (by kernel_rfl) (by kernel_rfl) (fun a w _ hE hS => ?_)) rfl
 refine at_end rfl ?_
 obtain rfl := Option.some.inj hf
 repeat (with_reducible first | refine then_ret ?_ | refine block_ret ?_ | refine qx_ret ?_)
 refine ret_genN ([]) hE (by rw [show Tryd.f39.results.toList = [] from rfl]; exact rfl) ?_
 have hS := hS.pk (.c 0 rfl (.c 1 rfl .n)) rfl
 exact ⟨_, rfl, D28, A35, (List.length (l33)), none, rfl, hS, h38⟩
set_option maxRecDepth 100000 in
set_option maxHeartbeats 4000000 in
theorem disk_Disk_Cut.calls {K : Nat} {g w0 : World} {D0 : Snap} {x3 : Int} {x4 : (List Int)} {x10 : Int} {x11 : Int} {b1 : Nat} {A5 : Option Addr} {c6 : Nat} {q7 : Blk} {r : (Int × (List Int) × Int)} (hf : disk_Disk_Cut.f K x3 x4 x10 x11 = some r) (hS0 : St g w0 D0 [bx b1 72 (c_T_disk_Disk ((T_disk_Disk.mk (x4) (x10) (x11))) A5 c6), q7]) (h8 : OwnL (kdInt .u8) 5 D0 A5 c6 (x4) q7) :
  CallsIn (Fw none) 0 Tryd.prog 32 (List.toArray [.pointer (some ⟨b1, 0, none⟩), .int .i64 (x3)]) w0 (fun e w' => ∃ v, e = .returned v ∧ ∃ (D1 : Snap) (A32 : Option Addr) (c33 : Nat) (q34 : Blk), v = .int .i64 (r.1) ∧ Stp g w0 D0 [bx b1 72 (c_T_disk_Disk ((T_disk_Disk.mk (x4) (x10) (x11))) A5 c6), q7] w' D1 [bx b1 72 (c_T_disk_Disk ((T_disk_Disk.mk (r.2.1) (r.2.2) (x11))) A32 c33), q34] ∧ OwnL (kdInt .u8) 5 D1 A32 c33 (r.2.1) q34) := by
 unfold disk_Disk_Cut.f at hf
 have hS := Stp.refl hS0
 clear hS0
 refine calls_body (n := 23) Tryd.func32 rfl Tryd.ntmps32 rfl (fun a hE => ?_)
 have hE : Env a 23 [] [(0, .pointer (some ⟨b1, 0, none⟩)), (1, .int .i64 (x3))] := hE
 refine wpIn_seq ?_
 refine region_at ?_
 refine sN 1 1 [(4, .int .i64 ((0 : Int)))] hE (fun a hE => ?_)
 refine at_end rfl ?_
 refine wpIn_seq ?_
 obtain ⟨j55, hj56, hf⟩ := jn_elim hf
 refine seq_join (fun a w => ∃ (y42 : Bool), ∃ (D43 : Snap), Env a 23 [] [(0, .pointer (some ⟨b1, 0, none⟩)), (1, .int .i64 (x3)), (19, .bool (y42))] ∧ Stp g w0 D0 [bx b1 72 (c_T_disk_Disk ((T_disk_Disk.mk (x4) (x10) (x11))) A5 c6), q7] w D43 [bx b1 72 (c_T_disk_Disk ((T_disk_Disk.mk (x4) (x10) (x11))) A5 c6), q7] ∧ Snap.le D0 D43 ∧ j55 y42 = some r) ?_ ?_
 ·clear hj56
  refine region_at ?_
  refine sN 1 1 [(5, .pointer (some ⟨b1, 0, none⟩))] hE (fun a hE => ?_)
  refine at_op (op_tk hE (tk_bin (r := .bool false) rfl rfl rfl rfl hE rfl rfl rfl (eqptr_run (by kernel_rfl) _) (fun a hE => ?_))) rfl
  refine sN 5 7 [(11, .bool ((decide (x3 < (0 : Int)))))] hE (fun a hE => ?_)
  refine Or.elim (Bool.eq_false_or_eq_true ((decide (x3 < (0 : Int))))).symm (fun hb => ?_) (fun hb => ?_)
  ·replace hf := cond_f hb hf
   have hE := hE.know (t := 11) (b := (decide (x3 < (0 : Int)))) (b' := false) rfl hb
   clear hb
   refine sN 3 10 [(12, .int .i64 (x3)), (14, .pointer (some ⟨b1, 0, none⟩))] hE (fun a hE => ?_)
   refine aF 0 33 0 hE (fun a hE => ?_)
   refine aL 0 (.slice A5 (List.length (x4)) c6) hE hS (fun a hE => ?_)
   refine sN 3 15 [(19, .bool ((decide (((List.length (x4) : Nat) : Int) < x3))))] hE (fun a hE => ?_)
   refine at_end rfl ?_
   exact ⟨(decide (((List.length (x4) : Nat) : Int) < x3)), D0, hE.weak (by kernel_rfl), hS, Snap.le.refl _, hf⟩
  ·replace hf := cond_t hb hf
   have hE := hE.know (t := 11) (b := (decide (x3 < (0 : Int)))) (b' := true) rfl hb
   clear hb
   refine sN 8 15 [(19, .bool true)] hE (fun a hE => ?_)
   refine at_end rfl ?_
   exact ⟨true, D0, hE.weak (by kernel_rfl), hS, Snap.le.refl _, hf⟩
 ·clear hE hS
  rintro a w ⟨y42, D43, hE, hS, le44, hf⟩
  replace hf := hj56 _ hf
  clear hj56
  refine cond_split hE (b := y42) rfl (fun hb => ?_) (fun hb => ?_)
  ·replace hf := cond_t hb hf
   clear hb
   refine wpIn_seq ?_
   refine region_at ?_
   refine sN 1 1 [(4, .int .i64 ((1 : Int)))] hE (fun a hE => ?_)
   refine at_end rfl ?_
   refine wpIn_ret ?_
   obtain rfl := Option.some.inj hf
   repeat (with_reducible first | refine then_ret ?_ | refine block_ret ?_ | refine qx_ret ?_)
   refine ret_gen ([.int .i64 ((1 : Int))]) hE (by rw [show Tryd.f32.results.toList = [.tmp 4] from rfl]; exact ⟨_, _, rfl, rfl, rfl⟩) ?_
   exact ⟨_, rfl, D43, A5, c6, q7, rfl, hS, (h8.mono le44)⟩
  ·replace hf := cond_f hb hf
   clear hb
   refine wpIn_skip ?_
   refine wpIn_seq ?_
   refine region_at ?_
   refine sN 2 2 [(20, .pointer (some ⟨b1, 0, none⟩)), (21, .int .i64 (x3))] hE (fun a hE => ?_)
   obtain ⟨r45, h46, hf⟩ := bind_some hf
   refine aC rfl rfl rfl rfl hE rfl rfl rfl rfl (disk_Disk_leave.calls (g := g) h46 (hS.st.fore (L := [bx b1 72 (c_T_disk_Disk ((T_disk_Disk.mk (x4) (x10) (x11))) A5 c6), q7])) (h8.mono le44)) (fun a v w hR hE => ?_)
   obtain ⟨D47, A49, c50, q51, rfl, hS1, h52⟩ := hR
   have le54 := hS1.dle
   have hS := hS.callR hS1 rfl (.c (.c .n))
   clear hS1
   refine at_end rfl ?_
   refine wpIn_seq ?_
   refine region_at ?_
   refine sN 1 1 [(4, .int .i64 ((0 : Int)))] hE (fun a hE => ?_)
   refine at_end rfl ?_
   refine wpIn_ret ?_
   obtain rfl := Option.some.inj hf
   repeat (with_reducible first | refine then_ret ?_ | refine block_ret ?_ | refine qx_ret ?_)
   refine ret_gen ([.int .i64 ((0 : Int))]) hE (by rw [show Tryd.f32.results.toList = [.tmp 4] from rfl]; exact ⟨_, _, rfl, rfl, rfl⟩) ?_
   exact ⟨_, rfl, D47, A49, c50, q51, rfl, hS, h52⟩
set_option maxRecDepth 100000 in
set_option maxHeartbeats 4000000 in
theorem log_Open.calls {K : Nat} {g w0 : World} {D0 : Snap} {x3 : (List Int)} {x9 : Int} {x10 : Int} {b1 : Nat} {A4 : Option Addr} {c5 : Nat} {q6 : Blk} {r : ((List (List Int)) × Int × (List Int) × Int × T_log_at)} (hf : log_Open.f K x3 x9 x10 = some r) (hS0 : St g w0 D0 [bx b1 72 (c_T_disk_Disk ((T_disk_Disk.mk (x3) (x9) (x10))) A4 c5), q6]) (h7 : OwnL (kdInt .u8) 5 D0 A4 c5 (x3) q6) (hG0 : Cell (kdArr .u32 8) D0 0 0 gl_First) (hG1 : Cell (kdArr .u32 64) D0 1 0 gl_K) :
  CallsIn (Fw none) 0 Tryd.prog 11 (List.toArray [.pointer (some ⟨b1, 0, none⟩)]) w0 (fun e w' => ∃ v, e = .returned v ∧ ∃ (D1 : Snap) (b1225 : Nat) (A1227 : Option Addr) (c1228 : Nat) (q1229 : Blk) (A1232 : Option Addr) (c1233 : Nat) (q1234 : Blk), v = .tuple #[.pointer (some ⟨b1225, 0, none⟩), .slice A1227 (List.length (r.1)) c1228, .int .i64 (r.2.1)] ∧ Stp g w0 D0 [bx b1 72 (c_T_disk_Disk ((T_disk_Disk.mk (x3) (x9) (x10))) A4 c5), q6] w' D1 [bx b1 72 (c_T_disk_Disk ((T_disk_Disk.mk (r.2.2.1) (r.2.2.2.1) (x10))) A1232 c1233), bx b1225 64 ([.pointer (some ⟨b1, 0, none⟩)] ++ ((c_T_log_at ((T_log_at.mk (r.2.2.2.2.fCount) (r.2.2.2.2.fChain)))))), q1229, q1234] ∧ OwnL (kdSlice (kdInt .u8)) 33 D1 A1227 c1228 (r.1) q1229 ∧ OwnL (kdInt .u8) 5 D1 A1232 c1233 (r.2.2.1) q1234) := by
 unfold log_Open.f at hf
 have hS := Stp.refl hS0
 clear hS0
 refine calls_bodyM (n := 35) Tryd.func11 rfl Tryd.ntmps11 rfl (fun a hE => ?_)
 have hE : Env a 35 [] [(0, .pointer (some ⟨b1, 0, none⟩))] := hE
 refine wpIn_seq ?_
 refine region_at ?_
 refine sN 3 3 [(2, .pointer none), (3, .slice none 0 0), (4, .int .i64 ((0 : Int)))] hE (fun a hE => ?_)
 refine at_end rfl ?_
 refine wpIn_seq ?_
 refine wpIn_seq ?_
 refine region_at ?_
 refine sN 1 1 [(9, .pointer (some ⟨b1, 0, none⟩))] hE (fun a hE => ?_)
 refine at_op (op_tk hE (tk_bin (r := .bool false) rfl rfl rfl rfl hE rfl rfl rfl (eqptr_run (by kernel_rfl) _) (fun a hE => ?_))) rfl
 refine at_end rfl ?_
 refine wpIn_cond_false (hE.eval rfl) ?_
 refine wpIn_skip ?_
 refine wpIn_seq ?_
 refine region_at ?_
 refine sN 1 1 [(11, .pointer (some ⟨b1, 0, none⟩))] hE (fun a hE => ?_)
 refine at_op (op_tk hE (tk_build ([.pointer (some ⟨b1, 0, none⟩)] ++ ((c_T_log_at ((T_log_at.mk ((0 : Int)) ((Vector.replicate 32 (0 : Int)))))))) rfl rfl rfl rfl hE rfl rfl (by kernel_rfl) (fun a hE => ?_))) rfl
 refine at_op (op_box rfl rfl rfl rfl hE rfl hS rfl (fun a b1237 w _ hE hS => ?_)) rfl
 refine at_op (op_alloc (z := .pointer none) rfl rfl rfl rfl hE rfl hS (by kernel_rfl) (fun a b1239 w _ hE hS => ?_)) rfl
 refine at_op (op_store (v := .pointer (some ⟨b1237, 0, none⟩)) ([.pointer (some ⟨b1237, 0, none⟩)]) rfl rfl rfl rfl hE hS rfl rfl (by kernel_rfl) (by kernel_rfl) (by kernel_rfl) (by kernel_rfl) (by kernel_rfl) (fun a w _ hE hS => ?_)) rfl
 refine at_end rfl ?_
 refine wpIn_seq ?_
 refine region_at ?_
 refine at_op (op_alloc (z := .slice none 0 0) rfl rfl rfl rfl hE rfl hS (by kernel_rfl) (fun a b1241 w _ hE hS => ?_)) rfl
 refine at_end rfl ?_
 refine wpIn_seq ?_
 refine region_at ?_
 refine at_op (op_alloc (z := .int .i64 ((0 : Int))) rfl rfl rfl rfl hE rfl hS (by kernel_rfl) (fun a b1243 w _ hE hS => ?_)) rfl
 refine at_op (op_store (v := .int .i64 ((0 : Int))) ([.int .i64 ((0 : Int))]) rfl rfl rfl rfl hE hS rfl rfl (by kernel_rfl) (by kernel_rfl) (by kernel_rfl) (by kernel_rfl) (by kernel_rfl) (fun a w _ hE hS => ?_)) rfl
 refine at_end rfl ?_
 refine wpIn_seq ?_
 refine wpIn_seq ?_
 refine region_at ?_
 refine sN 1 1 [(14, .pointer (some ⟨b1, 0, none⟩))] hE (fun a hE => ?_)
 have hS := hS.pk (.c 4 rfl (.c 5 rfl (.c 0 rfl (.c 1 rfl (.c 2 rfl (.c 3 rfl .n)))))) rfl
 obtain ⟨r1843, h1844, hf⟩ := bind_some hf
 refine aC rfl rfl rfl rfl hE rfl rfl rfl rfl (disk_Disk_Bytes.calls (g := g) h1844 (hS.st.fore (L := [bx b1 72 (c_T_disk_Disk ((T_disk_Disk.mk (x3) (x9) (x10))) A4 c5), q6])) h7) (fun a v w hR hE => ?_)
 obtain ⟨D1845, A1847, c1848, q1849, q1852, rfl, hS1, h1850, h1853⟩ := hR
 have le1855 := hS1.dle
 have hS := hS.callR hS1 rfl (.c (.c (.c .n)))
 clear hS1
 have hS := hS.pk (.c 1 rfl (.c 0 rfl (.c 2 rfl (.c 3 rfl (.c 4 rfl (.c 5 rfl (.c 6 rfl .n))))))) rfl
 obtain ⟨D1856, q1859, le1857, hS, h1860, h1858⟩ := hS.lent h1850
 obtain ⟨r1861, h1862, hf⟩ := bind_some hf
 refine aC rfl rfl rfl rfl hE rfl rfl rfl rfl (log_entries.calls (g := g) h1862 (hS.st.fore (L := [])) h1858) (fun a v w hR hE => ?_)
 obtain ⟨D1863, b1865, A1867, c1868, rfl, hS1, h1869⟩ := hR
 have le1870 := hS1.dle
 have hS := hS.callR hS1 rfl (.c .n)
 clear hS1
 refine at_end rfl ?_
 refine wpIn_block ?_
 have hEo1877 := hE
 refine range_in2 (captured := #[.pointer (some ⟨b1865, 0, none⟩)]) hE hS rfl (by kernel_rfl) (fun fn1876 l1874 d1875 w q1872 hq1873 hS => ?_)
 refine calls_body (n := 25) Tryd.func42 rfl Tryd.ntmps42 rfl (fun a hE => ?_)
 have hE : Env a 25 [] [(0, .func (.yield l1874) #[] #[]), (1, .pointer (some ⟨b1865, 0, none⟩))] := hE
 refine wpIn_seq ?_
 refine region_at ?_
 refine at_op (op_tk hE (tk_build (c_T_log_entry (z_T_log_entry) none 0) rfl rfl rfl rfl hE rfl rfl (by kernel_rfl) (fun a hE => ?_))) rfl
 refine at_op (op_alloc (z := .agg (List.toArray (c_T_log_entry (z_T_log_entry) none 0))) rfl rfl rfl rfl hE rfl hS (by kernel_rfl) (fun a b1878 w _ hE hS => ?_)) rfl
 refine at_op (op_store (v := .agg (List.toArray (c_T_log_entry (z_T_log_entry) none 0))) (c_T_log_entry (z_T_log_entry) none 0) rfl rfl rfl rfl hE hS rfl rfl (by kernel_rfl) (by kernel_rfl) (by kernel_rfl) (by kernel_rfl) (by kernel_rfl) (fun a w _ hE hS => ?_)) rfl
 refine at_end rfl ?_
 obtain ⟨s2316, hf, hs2317⟩ := bind_some hf
 have hS := hS.nils
 have hS := hS.pk (.c 6 rfl (.c 10 rfl (.c 9 rfl (.c 8 rfl (.c 4 rfl (.c 1 rfl (.c 11 rfl (.c 2 rfl (.c 3 rfl (.c 7 rfl (.c 0 rfl .n))))))))))) rfl
 refine block_loopR (fun _ _ => False) (fun a w => ∃ (z2308 : (List (List Int)) × Int × T_log_at), ∃ (A2311 : Option Addr), ∃ (c2312 : Nat), ∃ (q2313 : Blk), ∃ (D2309 : Snap), Env a 25 [] [] ∧ Stp g w0 D0 [bx b1 72 (c_T_disk_Disk ((T_disk_Disk.mk (x3) (x9) (x10))) A4 c5), q6] w D2309 [bx b1 72 (c_T_disk_Disk ((T_disk_Disk.mk (x3) (x9) (x10))) A4 c5), bx b1239 25 ([.pointer (some ⟨b1237, 0, none⟩)]), bx b1241 26 ([.slice A2311 (List.length (z2308.1)) c2312]), bx b1243 3 ([.int .i64 (z2308.2.1)]), bx b1865 33 ([.slice A1867 (List.length (r1861)) c1868]), bx b1237 64 ([.pointer (some ⟨b1, 0, none⟩)] ++ ((c_T_log_at (z2308.2.2)))), q1872 .ready none, dk d1875, q1852, q2313] ∧ Snap.le D1863 D2309 ∧ OwnL (kdSlice (kdInt .u8)) 33 D2309 A2311 c2312 (z2308.1) q2313 ∧ z2308 = s2316) (fun k a w => ∃ (y2164 : (List (List Int)) × Int × T_log_entry × T_log_at), ∃ (A2167 : Option Addr), ∃ (c2168 : Nat), ∃ (q2169 : Blk), ∃ (A2172 : Option Addr), ∃ (c2173 : Nat), ∃ (D2165 : Snap), Env a 25 [] [(0, .func (.yield l1874) #[] #[]), (1, .pointer (some ⟨b1865, 0, none⟩)), (3, .pointer (some ⟨b1878, 0, none⟩))] ∧ Stp g w0 D0 [bx b1 72 (c_T_disk_Disk ((T_disk_Disk.mk (x3) (x9) (x10))) A4 c5), q6] w D2165 [bx b1 72 (c_T_disk_Disk ((T_disk_Disk.mk (x3) (x9) (x10))) A4 c5), bx b1239 25 ([.pointer (some ⟨b1237, 0, none⟩)]), bx b1241 26 ([.slice A2167 (List.length (y2164.1)) c2168]), bx b1243 3 ([.int .i64 (y2164.2.1)]), bx b1865 33 ([.slice A1867 (List.length (r1861)) c1868]), bx b1878 69 (c_T_log_entry (y2164.2.2.1) A2172 c2173), bx b1237 64 ([.pointer (some ⟨b1, 0, none⟩)] ++ ((c_T_log_at (y2164.2.2.2)))), q1872 .ready none, dk d1875, q1852, q2169] ∧ Snap.le D1863 D2165 ∧ OwnL (kdSlice (kdInt .u8)) 33 D2165 A2167 c2168 (y2164.1) q2169 ∧ Sl (kdInt .u8) D2165 A2172 c2173 (y2164.2.2.1.fB) ∧ log_Open_l1.l K r1861 k y2164 = some s2316) K ?_ ?_ ?_ ?_
 ·exact ⟨(([] : List (List Int)), (0 : Int), z_T_log_entry, (T_log_at.mk ((0 : Int)) ((Vector.replicate 32 (0 : Int))))), none, 0, none, none, 0, D1863, hE.weak (by kernel_rfl), hS, Snap.le.refl _, (OwnD.nil (kdSlice (kdInt .u8)) 33 D1863), (Sl.nil (kdInt .u8) D1863), hf⟩
 ·intro _ _ h; exact h.elim
 ·clear hE hS hf
  rintro a w ⟨z2308, A2311, c2312, q2313, D2309, hE, hS, le2310, h2314, rfl⟩
  have hf := hs2317
  clear hs2317
  repeat (with_reducible first | refine then_ret ?_ | refine block_ret ?_ | refine qx_ret ?_)
  refine ret_gen ([]) hE (by rw [show Tryd.f42.results.toList = [] from rfl]; rfl) ?_
  have hS := hS.pk (.c 6 rfl (.c 0 rfl (.c 1 rfl (.c 2 rfl (.c 3 rfl (.c 4 rfl (.c 5 rfl (.c 7 rfl (.c 8 rfl (.c 9 rfl .n)))))))))) rfl
  refine range_done2 hq1873 hS hEo1877 (fun w a hS hE => ?_)
  refine wpIn_seq ?_
  refine region_at ?_
  refine sN 1 1 [(30, .pointer (some ⟨b1, 0, none⟩))] hE (fun a hE => ?_)
  refine aL 3 (.int .i64 (z2308.2.1)) hE hS (fun a hE => ?_)
  have hS := hS.pk (.c 0 rfl (.c 7 rfl (.c 1 rfl (.c 2 rfl (.c 3 rfl (.c 4 rfl (.c 5 rfl (.c 6 rfl (.c 8 rfl .n))))))))) rfl
  obtain ⟨r2441, h2442, hf⟩ := bind_some hf
  refine aC rfl rfl rfl rfl hE rfl rfl rfl rfl (disk_Disk_Cut.calls (g := g) h2442 (hS.st.fore (L := [bx b1 72 (c_T_disk_Disk ((T_disk_Disk.mk (x3) (x9) (x10))) A4 c5), q1852])) (h1853.mono (le2 (le2 le1857 le1870) le2310))) (fun a v w hR hE => ?_)
  obtain ⟨D2443, A2445, c2446, q2447, rfl, hS1, h2448⟩ := hR
  have le2450 := hS1.dle
  have hS := hS.callR hS1 rfl (.c (.c .n))
  clear hS1
  refine at_end rfl ?_
  refine wpIn_seq ?_
  refine region_draw (fun j => Keeps (mfOf [] j)) (by kernel_rfl) ?_
  have hS := hS.drew
  first | generalize w.drew = w at hS ⊢ | generalize w0.drew = w at hS ⊢
  refine tT 0 1 (fuel := 4) (by kernel_rfl) hE (tk_load 2 (.pointer (some ⟨b1237, 0, none⟩)) rfl rfl rfl rfl hE rfl hS rfl rfl (by kernel_rfl) (kL (j := 2) hS rfl List.not_mem_nil) (fun a hE => ?_))
  refine wP 2 5 3 (.pointer (some ⟨b1237, 0, none⟩)) hE (fun a hE => ?_)
  refine tT 1 7 (fuel := 2) (by kernel_rfl) hE (tk_load 3 (.slice A2311 (List.length (z2308.1)) c2312) rfl rfl rfl rfl hE rfl hS rfl rfl (by kernel_rfl) (kL (j := 3) hS rfl List.not_mem_nil) (fun a hE => ?_))
  refine wP 3 15 1 (.slice A2311 (List.length (z2308.1)) c2312) hE (fun a hE => ?_)
  refine wP 4 31 0 (.int .i64 ((0 : Int))) hE (fun a hE => ?_)
  refine doneG (by kernel_rfl) ?_
  refine wpIn_ret ?_
  have hS := hS.pk (.c 7 rfl (.c 0 rfl (.c 1 rfl (.c 2 rfl (.c 3 rfl (.c 4 rfl (.c 5 rfl (.c 6 rfl (.c 8 rfl .n))))))))) rfl
  obtain rfl := Option.some.inj hf
  repeat (with_reducible first | refine then_ret ?_ | refine block_ret ?_ | refine qx_ret ?_)
  refine ret_M1 ([.pointer (some ⟨b1237, 0, none⟩), .slice A2311 (List.length (z2308.1)) c2312, .int .i64 ((0 : Int))]) hE hS (fun w hS => ⟨by rw [show Tryd.f11.results.toList = [.tmp 2, .tmp 3, .tmp 4] from rfl]; exact ⟨_, _, rfl, rfl, ⟨_, _, rfl, rfl, ⟨_, _, rfl, rfl, rfl⟩⟩⟩, ?_⟩)
  have hS := hS.pk (.c 0 rfl (.c 6 rfl (.c 7 rfl (.c 1 rfl .n)))) rfl
  exact ⟨_, rfl, D2443, b1237, A2311, c2312, q2313, A2445, c2446, q2447, rfl, hS, (h2314.mono le2450), h2448⟩
 ·clear hE hS hf
  rintro k a w ⟨y2164, A2167, c2168, q2169, A2172, c2173, D2165, hE, hS, le2166, h2170, h2174, hf⟩
  obtain ⟨k, rfl, hf⟩ := log_Open_l1.some _ hf
  refine ⟨k, rfl, ?_⟩
  unfold log_Open_l1.b at hf
  refine wpIn_block ?_
  refine wpIn_seq ?_
  refine region_at ?_
  refine aL 4 (.slice A1867 (List.length (r1861)) c1868) hE hS (fun a hE => ?_)
  refine aF 34 3 34 hE (fun a hE => ?_)
  refine aL 5 (.int .i64 (y2164.2.2.1.fNext)) hE hS (fun a hE => ?_)
  refine aF 1 62 1 hE (fun a hE => ?_)
  refine aL 5 (.agg (List.toArray (c_T_log_at (y2164.2.2.1.fEnd)))) hE hS (fun a hE => ?_)
  obtain ⟨r2318, h2319, hf⟩ := bind_some hf
  refine aC rfl rfl rfl rfl hE rfl rfl rfl rfl (log_read.calls (g := g) h2319 (hS.st.fore (L := [])) (h1869.mono le2166) (hG0.mono (le2 (le2 (le2 le1855 le1857) le1870) le2166)) (hG1.mono (le2 (le2 (le2 le1855 le1857) le1870) le2166))) (fun a v w hR hE => ?_)
  obtain ⟨D2320, A2322, c2323, rfl, hS1, h2324⟩ := hR
  have le2325 := hS1.dle
  have hS := hS.callR hS1 rfl .n
  clear hS1
  refine sN 3 9 [(14, .agg (List.toArray (c_T_log_entry (r2318.1) A2322 c2323))), (15, .bool (r2318.2))] hE (fun a hE => ?_)
  refine at_op (op_alloc (z := .agg (List.toArray (c_T_log_entry (z_T_log_entry) none 0))) rfl rfl rfl rfl hE rfl hS (by kernel_rfl) (fun a b2326 w _ hE hS => ?_)) rfl
  refine at_op (op_store (v := .agg (List.toArray (c_T_log_entry (r2318.1) A2322 c2323))) (c_T_log_entry (r2318.1) A2322 c2323) rfl rfl rfl rfl hE hS rfl rfl (by kernel_rfl) (by kernel_rfl) (by kernel_rfl) (by kernel_rfl) (by kernel_rfl) (fun a w _ hE hS => ?_)) rfl
  refine sN 1 12 [(5, .bool (r2318.2))] hE (fun a hE => ?_)
  refine at_end rfl ?_
  refine wpIn_seq ?_
  obtain ⟨j2415, hj2416, hf⟩ := jn_elim hf
  refine seq_join (fun a w => ∃ (y2407 : Bool × (List (List Int)) × Int × T_log_at), ∃ (A2410 : Option Addr), ∃ (c2411 : Nat), ∃ (q2412 : Blk), ∃ (D2408 : Snap), Env a 25 [] [(0, .func (.yield l1874) #[] #[]), (1, .pointer (some ⟨b1865, 0, none⟩)), (3, .pointer (some ⟨b1878, 0, none⟩)), (4, .pointer (some ⟨b2326, 0, none⟩)), (23, .bool (y2407.1))] ∧ Stp g w0 D0 [bx b1 72 (c_T_disk_Disk ((T_disk_Disk.mk (x3) (x9) (x10))) A4 c5), q6] w D2408 [bx b1 72 (c_T_disk_Disk ((T_disk_Disk.mk (x3) (x9) (x10))) A4 c5), bx b1239 25 ([.pointer (some ⟨b1237, 0, none⟩)]), bx b1241 26 ([.slice A2410 (List.length (y2407.2.1)) c2411]), bx b1243 3 ([.int .i64 (y2407.2.2.1)]), bx b1865 33 ([.slice A1867 (List.length (r1861)) c1868]), bx b1878 69 (c_T_log_entry (y2164.2.2.1) A2172 c2173), bx b2326 69 (c_T_log_entry (r2318.1) A2322 c2323), bx b1237 64 ([.pointer (some ⟨b1, 0, none⟩)] ++ ((c_T_log_at (y2407.2.2.2)))), q1872 .ready none, dk d1875, q1852, q2412] ∧ Snap.le D2320 D2408 ∧ OwnL (kdSlice (kdInt .u8)) 33 D2408 A2410 c2411 (y2407.2.1) q2412 ∧ j2415 y2407 = some s2316) ?_ ?_
  ·clear hj2416
   refine region_at ?_
   refine sN 3 3 [(18, .bool ((!r2318.2)))] hE (fun a hE => ?_)
   refine Or.elim (Bool.eq_false_or_eq_true ((!r2318.2))).symm (fun hb => ?_) (fun hb => ?_)
   ·replace hf := cond_f hb hf
    have hE := hE.know (t := 18) (b := (!r2318.2)) (b' := false) rfl hb
    clear hb
    refine sN 1 4 [(19, .func (.yield l1874) #[] #[])] hE (fun a hE => ?_)
    refine aL 0 (.agg (List.toArray (c_T_log_entry (r2318.1) A2322 c2323))) hE hS (fun a hE => ?_)
    have hS := hS.pk (.c 8 rfl (.c 0 rfl (.c 1 rfl (.c 2 rfl (.c 3 rfl (.c 4 rfl (.c 5 rfl (.c 6 rfl (.c 7 rfl (.c 9 rfl (.c 10 rfl (.c 11 rfl .n)))))))))))) rfl
    refine at_op (op_yield2 (args := [.agg (List.toArray (c_T_log_entry (r2318.1) A2322 c2323))]) hq1873 rfl rfl rfl rfl hE rfl rfl rfl hS hEo1877 rfl (by kernel_rfl) (fun a hE => ?_)) rfl
    refine region_at ?_
    refine at_op (op_alloc (z := .agg (List.toArray (c_T_log_entry (z_T_log_entry) none 0))) rfl rfl rfl rfl hE rfl hS (by kernel_rfl) (fun a b2417 w _ hE hS => ?_)) rfl
    refine at_op (op_store (v := .agg (List.toArray (c_T_log_entry (r2318.1) A2322 c2323))) (c_T_log_entry (r2318.1) A2322 c2323) rfl rfl rfl rfl hE hS rfl rfl (by kernel_rfl) (by kernel_rfl) (by kernel_rfl) (by kernel_rfl) (by kernel_rfl) (fun a w _ hE hS => ?_)) rfl
    refine at_end rfl ?_
    have hS := hS.pk (.c 1 rfl (.c 0 rfl (.c 2 rfl (.c 3 rfl (.c 4 rfl (.c 5 rfl (.c 6 rfl (.c 7 rfl (.c 8 rfl (.c 9 rfl (.c 10 rfl (.c 11 rfl (.c 12 rfl .n))))))))))))) rfl
    refine begin_in2 hq1873 hS (fun w hS => ?_)
    refine wpIn_block ?_
    refine wpIn_seq ?_
    refine region_at ?_
    refine aL 5 (.slice A2167 (List.length (y2164.1)) c2168) hE hS (fun a hE => ?_)
    refine aF 0 33 0 hE (fun a hE => ?_)
    refine aL 1 (.slice A2322 (List.length (r2318.1.fB)) c2323) hE hS (fun a hE => ?_)
    refine at_op (op_buildSlice (K := (kdSlice (kdInt .u8))) (e := 33) (cs := [.slice A2322 (List.length (r2318.1.fB)) c2323] ++ []) ([r2318.1.fB] : List (List Int)) rfl rfl rfl rfl hE rfl hS rfl (by kernel_rfl) rfl rfl (by exact (show RL (kdSlice (kdInt .u8)) D2320 ([r2318.1.fB] : List (List Int)) ([.slice A2322 (List.length (r2318.1.fB)) c2323] ++ []) from ⟨_, _, rfl, (kslice h2324), rfl⟩)) (fun a A2419 q2420 w _ hE h2421 hS => ?_)) rfl
    obtain ⟨D2423, q2426, le2424, hS, h2427, h2425⟩ := hS.lent h2421
    have hS := hS.pk (.c 13 rfl (.c 0 rfl (.c 1 rfl (.c 2 rfl (.c 3 rfl (.c 4 rfl (.c 5 rfl (.c 6 rfl (.c 7 rfl (.c 8 rfl (.c 9 rfl (.c 10 rfl (.c 11 rfl (.c 12 rfl .n)))))))))))))) rfl
    obtain ⟨D2428, q2431, le2429, hS, h2432, h2430⟩ := hS.lent (h2170.mono (le2 le2325 le2424))
    obtain ⟨l2433, h2434, hf⟩ := bind_some hf
    refine at_op (g_append (K := (kdSlice (kdInt .u8))) (e := 33) (bytes := 24) (l := y2164.1) (m := ([r2318.1.fB] : List (List Int))) rfl rfl rfl rfl hE rfl hS rfl rfl (by kernel_rfl) rfl rfl h2432 (h2425.mono le2429) h2434 (fun a A2435 c2436 q2437 w _ hE h2438 hS => ?_)) rfl
    have hS := hS.pk (.c 7 rfl (.c 0 rfl (.c 1 rfl (.c 2 rfl (.c 3 rfl (.c 4 rfl (.c 5 rfl (.c 6 rfl (.c 8 rfl (.c 9 rfl (.c 10 rfl (.c 11 rfl (.c 12 rfl (.c 13 rfl .n)))))))))))))) rfl
    refine at_op (op_store (v := .slice A2435 (List.length (l2433)) c2436) ([.slice A2435 (List.length (l2433)) c2436]) rfl rfl rfl rfl hE hS rfl rfl (by kernel_rfl) (by kernel_rfl) (by kernel_rfl) (by kernel_rfl) (by kernel_rfl) (fun a w _ hE hS => ?_)) rfl
    refine at_end rfl ?_
    refine region_draw (fun j => Keeps (mfOf [(7, [b1237]), (8, [b1243])] j)) (by kernel_rfl) ?_
    have hS := hS.drew
    first | generalize w.drew = w at hS ⊢ | generalize w0.drew = w at hS ⊢
    refine tT 0 1 (fuel := 8) (by kernel_rfl) hE (tk_load 7 (.pointer (some ⟨b1237, 0, none⟩)) rfl rfl rfl rfl hE rfl hS rfl rfl (by kernel_rfl) (kL (j := 7) hS rfl List.not_mem_nil) (fun a hE => ?_))
    refine wF 1 3 7 1 62 1 hE (fun a hE => ?_)
    refine tT 2 7 (fuel := 6) (by kernel_rfl) hE (tk_load 4 (.agg (List.toArray (c_T_log_at (r2318.1.fEnd)))) rfl rfl rfl rfl hE rfl hS rfl rfl (by kernel_rfl) (kL (j := 4) hS rfl List.not_mem_nil) (fun a hE => ?_))
    refine wP 5 39 5 (.pointer (some ⟨b1237, 0, none⟩)) hE (fun a hE => ?_)
    refine wF 3 47 4 34 3 34 hE (fun a hE => ?_)
    refine tN (T := [(7, [b1237]), (8, [b1243])]) [7] 4 63 (fuel := 3) (by kernel_rfl) hE (tk_load 4 (.int .i64 (r2318.1.fNext)) rfl rfl rfl rfl hE rfl hS rfl rfl (by kernel_rfl) (kL (j := 4) hS rfl (show b2417 ∉ [b1237] from (nm_cons (hS.ne (i := 4) (j := 11) (by decide) rfl rfl) List.not_mem_nil))) (fun a hE => ?_))
    refine wF 6 127 2 1 62 1 hE (fun a hE => ?_)
    have hS := hS.pk (.c 11 rfl (.c 0 rfl (.c 1 rfl (.c 2 rfl (.c 3 rfl (.c 4 rfl (.c 5 rfl (.c 6 rfl (.c 7 rfl (.c 8 rfl (.c 9 rfl (.c 10 rfl (.c 12 rfl (.c 13 rfl .n)))))))))))))) rfl
    refine oG 7 255 (fuel := 1) (by kernel_rfl) (op_store (v := .agg (List.toArray (c_T_log_at (r2318.1.fEnd)))) ([.pointer (some ⟨b1, 0, none⟩)] ++ ((c_T_log_at (r2318.1.fEnd)))) rfl rfl rfl rfl hE hS rfl rfl (by kernel_rfl) (by kernel_rfl) (by kernel_rfl) (by kernel_rfl) (by kernel_rfl) (fun a w hkp hE hS => ⟨hkp.mono (fun _ h => h), ?_⟩))
    clear hkp
    have hS := hS.pk (.c 9 rfl (.c 0 rfl (.c 1 rfl (.c 2 rfl (.c 3 rfl (.c 4 rfl (.c 5 rfl (.c 6 rfl (.c 7 rfl (.c 8 rfl (.c 10 rfl (.c 11 rfl (.c 12 rfl (.c 13 rfl .n)))))))))))))) rfl
    refine oG 8 511 (fuel := 0) (by kernel_rfl) (op_store (v := .int .i64 (r2318.1.fNext)) ([.int .i64 (r2318.1.fNext)]) rfl rfl rfl rfl hE hS rfl rfl (by kernel_rfl) (by kernel_rfl) (by kernel_rfl) (by kernel_rfl) (by kernel_rfl) (fun a w hkp hE hS => ⟨hkp.mono (fun _ h => h), ?_⟩))
    clear hkp
    refine doneG (by kernel_rfl) ?_
    have hS := hS.pk (.c 5 rfl (.c 0 rfl (.c 1 rfl (.c 2 rfl (.c 3 rfl (.c 4 rfl (.c 6 rfl (.c 7 rfl (.c 8 rfl (.c 9 rfl (.c 10 rfl (.c 11 rfl (.c 12 rfl (.c 13 rfl .n)))))))))))))) rfl
    refine round_normal2 (a1 := a) hq1873 hS (fun w a hS hE => ?_)
    refine sN 2 8 [(23, .bool false)] hE (fun a hE => ?_)
    refine at_end rfl ?_
    have hS := hS.pk (.c 8 rfl (.c 9 rfl (.c 3 rfl (.c 1 rfl (.c 10 rfl (.c 11 rfl (.c 7 rfl (.c 2 rfl (.c 0 rfl (.c 12 rfl (.c 13 rfl (.c 4 rfl .n)))))))))))) rfl
    exact ⟨(false, l2433, r2318.1.fNext, r2318.1.fEnd), A2435, c2436, q2437, D2428, hE.weak (by kernel_rfl), hS, (le2 le2424 le2429), h2438, hf⟩
   ·replace hf := cond_t hb hf
    have hE := hE.know (t := 18) (b := (!r2318.2)) (b' := true) rfl hb
    clear hb
    refine sN 5 8 [(23, .bool true)] hE (fun a hE => ?_)
    refine at_end rfl ?_
    have hS := hS.pk (.c 1 rfl (.c 2 rfl (.c 3 rfl (.c 4 rfl (.c 5 rfl (.c 6 rfl (.c 0 rfl (.c 7 rfl (.c 8 rfl (.c 9 rfl (.c 10 rfl (.c 11 rfl .n)))))))))))) rfl
    exact ⟨(true, y2164.1, y2164.2.1, y2164.2.2.2), A2167, c2168, q2169, D2320, hE.weak (by kernel_rfl), hS, Snap.le.refl _, (h2170.mono le2325), hf⟩
  ·clear hE hS
   rintro a w ⟨y2407, A2410, c2411, q2412, D2408, hE, hS, le2409, h2413, hf⟩
   replace hf := hj2416 _ hf
   clear hj2416
   refine cond_split hE (b := y2407.1) rfl (fun hb => ?_) (fun hb => ?_)
   ·replace hf := cond_t hb hf
    clear hb
    refine wpIn_ret ?_
    obtain rfl := Option.some.inj hf
    have hS := hS.pk (.c 0 rfl (.c 1 rfl (.c 2 rfl (.c 3 rfl (.c 4 rfl (.c 7 rfl (.c 8 rfl (.c 9 rfl (.c 10 rfl (.c 11 rfl .n)))))))))) rfl
    exact ⟨(y2407.2.1, y2407.2.2.1, y2407.2.2.2), A2410, c2411, q2412, D2408, hE.weak (by kernel_rfl), hS, (le2 (le2 le2166 le2325) le2409), h2413, rfl⟩
   ·replace hf := cond_f hb hf
    clear hb
    refine wpIn_skip ?_
    refine region_at ?_
    refine aL 6 (.agg (List.toArray (c_T_log_entry (r2318.1) A2322 c2323))) hE hS (fun a hE => ?_)
    have hS := hS.pk (.c 5 rfl (.c 0 rfl (.c 1 rfl (.c 2 rfl (.c 3 rfl (.c 4 rfl (.c 6 rfl (.c 7 rfl (.c 8 rfl (.c 9 rfl (.c 10 rfl (.c 11 rfl .n)))))))))))) rfl
    refine at_op (op_store (v := .agg (List.toArray (c_T_log_entry (r2318.1) A2322 c2323))) (c_T_log_entry (r2318.1) A2322 c2323) rfl rfl rfl rfl hE hS rfl rfl (by kernel_rfl) (by kernel_rfl) (by kernel_rfl) (by kernel_rfl) (by kernel_rfl) (fun a w _ hE hS => ?_)) rfl
    refine at_end rfl ?_
    have hS := hS.pk (.c 1 rfl (.c 2 rfl (.c 3 rfl (.c 4 rfl (.c 5 rfl (.c 0 rfl (.c 7 rfl (.c 8 rfl (.c 9 rfl (.c 10 rfl (.c 11 rfl .n))))))))))) rfl
    exact ⟨(y2407.2.1, y2407.2.2.1, r2318.1, y2407.2.2.2), A2410, c2411, q2412, A2322, c2323, D2408, hE.weak (by kernel_rfl), hS, (le2 (le2 le2166 le2325) le2409), h2413, (h2324.mono le2409), hf⟩
set_option maxRecDepth 100000 in
set_option maxHeartbeats 4000000 in
theorem disk_Disk_Write.calls {K : Nat} {g w0 : World} {D0 : Snap} {x3 : (List Int)} {x7 : (List Int)} {x13 : Int} {x14 : Int} {b1 : Nat} {A4 : Option Addr} {c5 : Nat} {A8 : Option Addr} {c9 : Nat} {q10 : Blk} {r : (Int × (List Int))} (hf : disk_Disk_Write.f K x3 x7 x13 x14 = some r) (hS0 : St g w0 D0 [bx b1 72 (c_T_disk_Disk ((T_disk_Disk.mk (x7) (x13) (x14))) A8 c9), q10]) (h6 : Sl (kdInt .u8) D0 A4 c5 (x3)) (h11 : OwnL (kdInt .u8) 5 D0 A8 c9 (x7) q10) :
  CallsIn (Fw none) 0 Tryd.prog 27 (List.toArray [.pointer (some ⟨b1, 0, none⟩), .slice A4 (List.length (x3)) c5]) w0 (fun e w' => ∃ v, e = .returned v ∧ ∃ (D1 : Snap) (A27 : Option Addr) (c28 : Nat) (q29 : Blk), v = .int .i64 (r.1) ∧ Stp g w0 D0 [bx b1 72 (c_T_disk_Disk ((T_disk_Disk.mk (x7) (x13) (x14))) A8 c9), q10] w' D1 [bx b1 72 (c_T_disk_Disk ((T_disk_Disk.mk (r.2) (x13) (x14))) A27 c28), q29] ∧ OwnL (kdInt .u8) 5 D1 A27 c28 (r.2) q29) := by
 unfold disk_Disk_Write.f at hf
 have hS := Stp.refl hS0
 clear hS0
 refine calls_body (n := 31) Tryd.func27 rfl Tryd.ntmps27 rfl (fun a hE => ?_)
 have hE : Env a 31 [] [(0, .pointer (some ⟨b1, 0, none⟩)), (1, .slice A4 (List.length (x3)) c5)] := hE
 refine wpIn_seq ?_
 refine region_at ?_
 refine sN 1 1 [(4, .int .i64 ((0 : Int)))] hE (fun a hE => ?_)
 refine at_end rfl ?_
 refine wpIn_seq ?_
 refine wpIn_block ?_
 refine wpIn_seq ?_
 refine region_at ?_
 refine sN 1 1 [(6, .pointer (some ⟨b1, 0, none⟩))] hE (fun a hE => ?_)
 refine at_op (op_tk hE (tk_bin (r := .bool false) rfl rfl rfl rfl hE rfl rfl rfl (eqptr_run (by kernel_rfl) _) (fun a hE => ?_))) rfl
 refine sN 1 3 [(5, .bool false)] hE (fun a hE => ?_)
 refine at_end rfl ?_
 refine wpIn_cond_false (hE.eval rfl) ?_
 refine wpIn_seq ?_
 refine region_draw (fun j => Keeps (mfOf [] j)) (by kernel_rfl) ?_
 have hS := hS.drew
 first | generalize w.drew = w at hS ⊢ | generalize w0.drew = w at hS ⊢
 refine wP 0 1 13 (.slice A4 (List.length (x3)) c5) hE (fun a hE => ?_)
 refine wP 1 3 12 (.int .i64 (((List.length (x3) : Nat) : Int))) hE (fun a hE => ?_)
 refine wP 2 7 11 (.pointer (some ⟨b1, 0, none⟩)) hE (fun a hE => ?_)
 refine wP 3 15 10 (.pointer (some ⟨b1, 0, none⟩)) hE (fun a hE => ?_)
 refine wP 6 79 9 (.pointer (some ⟨b1, 0, none⟩)) hE (fun a hE => ?_)
 refine wP 7 207 8 (.pointer (some ⟨b1, 0, none⟩)) hE (fun a hE => ?_)
 refine wF 4 223 7 2 3 2 hE (fun a hE => ?_)
 refine tT 5 255 (fuel := 6) (by kernel_rfl) hE (tk_load 0 (.int .i64 (x14)) rfl rfl rfl rfl hE rfl hS rfl rfl (by kernel_rfl) (kL (j := 0) hS rfl List.not_mem_nil) (fun a hE => ?_))
 refine wF 8 511 5 0 33 0 hE (fun a hE => ?_)
 refine tT 9 1023 (fuel := 4) (by kernel_rfl) hE (tk_load 0 (.slice A8 (List.length (x7)) c9) rfl rfl rfl rfl hE rfl hS rfl rfl (by kernel_rfl) (kL (j := 0) hS rfl List.not_mem_nil) (fun a hE => ?_))
 refine wP 10 2047 3 (.int .i64 (((List.length (x7) : Nat) : Int))) hE (fun a hE => ?_)
 refine wP 11 4095 2 (.int .i64 ((IntKind.wrap .i64 (x14 - ((List.length (x7) : Nat) : Int))))) hE (fun a hE => ?_)
 refine wP 12 8191 1 (.bool ((decide ((IntKind.wrap .i64 (x14 - ((List.length (x7) : Nat) : Int))) < ((List.length (x3) : Nat) : Int))))) hE (fun a hE => ?_)
 refine wP 13 16383 0 (.bool ((decide ((IntKind.wrap .i64 (x14 - ((List.length (x7) : Nat) : Int))) < ((List.length (x3) : Nat) : Int))))) hE (fun a hE => ?_)
 refine doneG (by kernel_rfl) ?_
 refine cond_split hE (b := (decide ((IntKind.wrap .i64 (x14 - ((List.length (x7) : Nat) : Int))) < ((List.length (x3) : Nat) : Int)))) rfl (fun hb => ?_) (fun hb => ?_)
 ·replace hf := cond_t hb hf
  clear hb
  refine wpIn_seq ?_
  refine region_at ?_
  refine sN 1 1 [(4, .int .i64 ((5 : Int)))] hE (fun a hE => ?_)
  refine at_end rfl ?_
  refine wpIn_ret ?_
  obtain rfl := Option.some.inj hf
  repeat (with_reducible first | refine then_ret ?_ | refine block_ret ?_ | refine qx_ret ?_)
  refine ret_gen ([.int .i64 ((5 : Int))]) hE (by rw [show Tryd.f27.results.toList = [.tmp 4] from rfl]; exact ⟨_, _, rfl, rfl, rfl⟩) ?_
  exact ⟨_, rfl, D0, A8, c9, q10, rfl, hS, h11⟩
 ·replace hf := cond_f hb hf
  clear hb
  refine wpIn_skip ?_
  refine wpIn_seq ?_
  refine region_at ?_
  refine sN 3 3 [(22, .pointer (some ⟨b1, 0, none⟩)), (24, .pointer (some ⟨b1, 0, none⟩))] hE (fun a hE => ?_)
  refine aF 0 33 0 hE (fun a hE => ?_)
  refine aL 0 (.slice A8 (List.length (x7)) c9) hE hS (fun a hE => ?_)
  refine sN 1 6 [(27, .slice A4 (List.length (x3)) c5)] hE (fun a hE => ?_)
  have hS := hS.pk (.c 1 rfl (.c 0 rfl .n)) rfl
  obtain ⟨D32, q35, le33, hS, h36, h34⟩ := hS.lent h11
  obtain ⟨l37, h38, hf⟩ := bind_some hf
  refine at_op (g_append (K := (kdInt .u8)) (e := 5) (bytes := 1) (l := x7) (m := x3) rfl rfl rfl rfl hE rfl hS rfl rfl (by kernel_rfl) rfl rfl h36 (h6.mono le33) h38 (fun a A39 c40 q41 w _ hE h42 hS => ?_)) rfl
  refine sN 1 8 [(29, .pointer (some ⟨b1, 0, none⟩))] hE (fun a hE => ?_)
  refine aF 0 33 0 hE (fun a hE => ?_)
  have hS := hS.pk (.c 1 rfl (.c 0 rfl .n)) rfl
  refine at_op (op_store (v := .slice A39 (List.length (l37)) c40) (c_T_disk_Disk ((T_disk_Disk.mk (l37) (x13) (x14))) A39 c40) rfl rfl rfl rfl hE hS rfl rfl (by kernel_rfl) (by kernel_rfl) (by kernel_rfl) (by kernel_rfl) (by kernel_rfl) (fun a w _ hE hS => ?_)) rfl
  refine at_end rfl ?_
  refine wpIn_seq ?_
  refine region_at ?_
  refine sN 1 1 [(4, .int .i64 ((0 : Int)))] hE (fun a hE => ?_)
  refine at_end rfl ?_
  refine wpIn_ret ?_
  obtain rfl := Option.some.inj hf
  repeat (with_reducible first | refine then_ret ?_ | refine block_ret ?_ | refine qx_ret ?_)
  refine ret_gen ([.int .i64 ((0 : Int))]) hE (by rw [show Tryd.f27.results.toList = [.tmp 4] from rfl]; exact ⟨_, _, rfl, rfl, rfl⟩) ?_
  exact ⟨_, rfl, D32, A39, c40, q41, rfl, hS, h42⟩
set_option maxRecDepth 100000 in
set_option maxHeartbeats 4000000 in
theorem log_Log_Put.calls {K : Nat} {g w0 : World} {D0 : Snap} {x5 : (List Int)} {x9 : T_log_at} {x10 : (List Int)} {x16 : Int} {x17 : Int} {b1 : Nat} {b2 : Nat} {A6 : Option Addr} {c7 : Nat} {A11 : Option Addr} {c12 : Nat} {q13 : Blk} {r : (Int × T_log_at × (List Int))} (hf : log_Log_Put.f K x5 x9 x10 x16 x17 = some r) (hS0 : St g w0 D0 [bx b1 64 ([.pointer (some ⟨b2, 0, none⟩)] ++ ((c_T_log_at (x9)))), bx b2 72 (c_T_disk_Disk ((T_disk_Disk.mk (x10) (x16) (x17))) A11 c12), q13]) (h8 : Sl (kdInt .u8) D0 A6 c7 (x5)) (h14 : OwnL (kdInt .u8) 5 D0 A11 c12 (x10) q13) (hG0 : Cell (kdArr .u32 8) D0 0 0 gl_First) (hG1 : Cell (kdArr .u32 64) D0 1 0 gl_K) :
  CallsIn (Fw none) 0 Tryd.prog 14 (List.toArray [.pointer (some ⟨b1, 0, none⟩), .slice A6 (List.length (x5)) c7]) w0 (fun e w' => ∃ v, e = .returned v ∧ ∃ (D1 : Snap) (A123 : Option Addr) (c124 : Nat) (q125 : Blk), v = .int .i64 (r.1) ∧ Stp g w0 D0 [bx b1 64 ([.pointer (some ⟨b2, 0, none⟩)] ++ ((c_T_log_at (x9)))), bx b2 72 (c_T_disk_Disk ((T_disk_Disk.mk (x10) (x16) (x17))) A11 c12), q13] w' D1 [bx b1 64 ([.pointer (some ⟨b2, 0, none⟩)] ++ ((c_T_log_at ((T_log_at.mk (r.2.1.fCount) (r.2.1.fChain)))))), bx b2 72 (c_T_disk_Disk ((T_disk_Disk.mk (r.2.2) (x16) (x17))) A123 c124), q125] ∧ OwnL (kdInt .u8) 5 D1 A123 c124 (r.2.2) q125) := by
 unfold log_Log_Put.f at hf
 have hS := Stp.refl hS0
 clear hS0
 refine calls_body (n := 41) Tryd.func14 rfl Tryd.ntmps14 rfl (fun a hE => ?_)
 have hE : Env a 41 [] [(0, .pointer (some ⟨b1, 0, none⟩)), (1, .slice A6 (List.length (x5)) c7)] := hE
 refine wpIn_seq ?_
 refine region_at ?_
 refine sN 1 1 [(4, .int .i64 ((0 : Int)))] hE (fun a hE => ?_)
 refine at_end rfl ?_
 refine wpIn_seq ?_
 refine wpIn_block ?_
 refine wpIn_seq ?_
 refine region_at ?_
 refine sN 1 1 [(7, .pointer (some ⟨b1, 0, none⟩))] hE (fun a hE => ?_)
 refine at_op (op_tk hE (tk_bin (r := .bool false) rfl rfl rfl rfl hE rfl rfl rfl (eqptr_run (by kernel_rfl) _) (fun a hE => ?_))) rfl
 refine sN 6 8 [(6, .bool ((decide (((List.length (x5) : Nat) : Int) = (0 : Int)))))] hE (fun a hE => ?_)
 refine at_end rfl ?_
 refine cond_split hE (b := (decide (((List.length (x5) : Nat) : Int) = (0 : Int)))) rfl (fun hb => ?_) (fun hb => ?_)
 ·replace hf := cond_t hb hf
  clear hb
  refine wpIn_seq ?_
  refine region_at ?_
  refine sN 1 1 [(4, .int .i64 ((1 : Int)))] hE (fun a hE => ?_)
  refine at_end rfl ?_
  refine wpIn_ret ?_
  obtain rfl := Option.some.inj hf
  repeat (with_reducible first | refine then_ret ?_ | refine block_ret ?_ | refine qx_ret ?_)
  refine ret_gen ([.int .i64 ((1 : Int))]) hE (by rw [show Tryd.f14.results.toList = [.tmp 4] from rfl]; exact ⟨_, _, rfl, rfl, rfl⟩) ?_
  exact ⟨_, rfl, D0, A11, c12, q13, rfl, hS, h14⟩
 ·replace hf := cond_f hb hf
  clear hb
  refine wpIn_seq ?_
  refine region_at ?_
  refine sN 4 4 [(14, .bool ((decide ((2000 : Int) < ((List.length (x5) : Nat) : Int)))))] hE (fun a hE => ?_)
  refine at_end rfl ?_
  refine cond_split hE (b := (decide ((2000 : Int) < ((List.length (x5) : Nat) : Int)))) rfl (fun hb => ?_) (fun hb => ?_)
  ·replace hf := cond_t hb hf
   clear hb
   refine wpIn_seq ?_
   refine region_at ?_
   refine sN 1 1 [(4, .int .i64 ((4 : Int)))] hE (fun a hE => ?_)
   refine at_end rfl ?_
   refine wpIn_ret ?_
   obtain rfl := Option.some.inj hf
   repeat (with_reducible first | refine then_ret ?_ | refine block_ret ?_ | refine qx_ret ?_)
   refine ret_gen ([.int .i64 ((4 : Int))]) hE (by rw [show Tryd.f14.results.toList = [.tmp 4] from rfl]; exact ⟨_, _, rfl, rfl, rfl⟩) ?_
   exact ⟨_, rfl, D0, A11, c12, q13, rfl, hS, h14⟩
  ·replace hf := cond_f hb hf
   clear hb
   refine wpIn_skip ?_
   refine wpIn_seq ?_
   refine wpIn_seq ?_
   refine region_draw (fun j => Keeps (mfOf [(10, [b2] ++ ids [q13])] j)) (by kernel_rfl) ?_
   have hS := hS.drew
   first | generalize w.drew = w at hS ⊢ | generalize w0.drew = w at hS ⊢
   refine wP 0 1 11 (.pointer (some ⟨b1, 0, none⟩)) hE (fun a hE => ?_)
   refine wP 1 3 10 (.pointer (some ⟨b1, 0, none⟩)) hE (fun a hE => ?_)
   refine wP 4 19 9 (.pointer (some ⟨b1, 0, none⟩)) hE (fun a hE => ?_)
   refine wP 5 51 8 (.pointer (some ⟨b1, 0, none⟩)) hE (fun a hE => ?_)
   refine wP 8 307 7 (.slice A6 (List.length (x5)) c7) hE (fun a hE => ?_)
   refine wF 2 311 6 0 30 0 hE (fun a hE => ?_)
   refine tT 3 319 (fuel := 5) (by kernel_rfl) hE (tk_load 0 (.pointer (some ⟨b2, 0, none⟩)) rfl rfl rfl rfl hE rfl hS rfl rfl (by kernel_rfl) (kL (j := 0) hS rfl List.not_mem_nil) (fun a hE => ?_))
   refine wF 6 383 4 1 62 1 hE (fun a hE => ?_)
   refine tS (T := [(10, [b2] ++ ids [q13])]) [] [7, 9, 10, 11] 7 511 (fuel := 3) (by kernel_rfl) hE (tk_load 0 (.agg (List.toArray (c_T_log_at (x9)))) rfl rfl rfl rfl hE rfl hS rfl rfl (by kernel_rfl) (kL (j := 0) hS rfl List.not_mem_nil) (fun a hE => ?_))
   obtain ⟨r203, h204, hf⟩ := bind_some hf
   refine oG 9 1023 (fuel := 2) (by kernel_rfl) (op_call rfl rfl rfl rfl hE rfl rfl rfl rfl (by kernel_rfl) (log_at_laid.calls (g := g) h204 (hS.st.fore (L := [])) h8 hG0 hG1) (fun a v w hR hE => ?_))
   obtain ⟨D205, A207, c208, q209, rfl, hS1, h210⟩ := hR
   refine ⟨(hS1.keeps.sub (M' := []) trivial).mono (fun _ h => h), ?_⟩
   have le212 := hS1.dle
   have hS := hS.callR hS1 rfl (.c .n)
   clear hS1
   obtain ⟨D213, q216, le214, hS, h217, h215⟩ := hS.lent h210
   have hS := hS.pk (.c 2 rfl (.c 3 rfl (.c 0 rfl (.c 1 rfl .n)))) rfl
   obtain ⟨r218, h219, hf⟩ := bind_some hf
   refine oG 10 2047 (fuel := 1) (by kernel_rfl) (op_call rfl rfl rfl rfl hE rfl rfl rfl rfl (by kernel_rfl) (disk_Disk_Write.calls (g := g) h219 (hS.st.fore (L := [bx b2 72 (c_T_disk_Disk ((T_disk_Disk.mk (x10) (x16) (x17))) A11 c12), q13])) h215 (h14.mono (le2 le212 le214))) (fun a v w hR hE => ?_))
   obtain ⟨D220, A222, c223, q224, rfl, hS1, h225⟩ := hR
   refine ⟨hS1.keeps.mono (fun _ h => h), ?_⟩
   have le227 := hS1.dle
   have hS := hS.callR hS1 rfl (.c (.c .n))
   clear hS1
   refine wP 11 4095 0 (.int .i64 (r218.1)) hE (fun a hE => ?_)
   refine doneG (by kernel_rfl) ?_
   refine wpIn_seq ?_
   refine region_at ?_
   refine sN 2 2 [(30, .bool ((!decide (r218.1 = (0 : Int)))))] hE (fun a hE => ?_)
   refine at_end rfl ?_
   refine cond_split hE (b := (!decide (r218.1 = (0 : Int)))) rfl (fun hb => ?_) (fun hb => ?_)
   ·replace hf := cond_t hb hf
    clear hb
    refine wpIn_seq ?_
    refine region_at ?_
    refine sN 2 2 [(4, .int .i64 (r218.1))] hE (fun a hE => ?_)
    refine at_end rfl ?_
    refine wpIn_ret ?_
    obtain rfl := Option.some.inj hf
    repeat (with_reducible first | refine then_ret ?_ | refine block_ret ?_ | refine qx_ret ?_)
    refine ret_gen ([.int .i64 (r218.1)]) hE (by rw [show Tryd.f14.results.toList = [.tmp 4] from rfl]; exact ⟨_, _, rfl, rfl, rfl⟩) ?_
    have hS := hS.pk (.c 3 rfl (.c 0 rfl (.c 1 rfl .n))) rfl
    exact ⟨_, rfl, D220, A222, c223, q224, rfl, hS, h225⟩
   ·replace hf := cond_f hb hf
    clear hb
    refine wpIn_skip ?_
    refine wpIn_seq ?_
    refine region_at ?_
    refine sN 3 3 [(32, .pointer (some ⟨b1, 0, none⟩)), (34, .pointer (some ⟨b1, 0, none⟩))] hE (fun a hE => ?_)
    refine aF 1 62 1 hE (fun a hE => ?_)
    refine aL 3 (.agg (List.toArray (c_T_log_at (x9)))) hE hS (fun a hE => ?_)
    refine sN 1 6 [(37, .slice A6 (List.length (x5)) c7)] hE (fun a hE => ?_)
    have hS := hS.pk (.c 0 rfl (.c 1 rfl (.c 3 rfl .n))) rfl
    obtain ⟨r228, h229, hf⟩ := bind_some hf
    refine aC rfl rfl rfl rfl hE rfl rfl rfl rfl (log_at_behind.calls (g := g) h229 (hS.st.fore (L := [])) (h8.mono (le2 (le2 le212 le214) le227)) (hG0.mono (le2 (le2 le212 le214) le227)) (hG1.mono (le2 (le2 le212 le214) le227))) (fun a v w hR hE => ?_)
    obtain ⟨D230, rfl, hS1⟩ := hR
    have le232 := hS1.dle
    have hS := hS.callR hS1 rfl .n
    clear hS1
    refine sN 1 8 [(39, .pointer (some ⟨b1, 0, none⟩))] hE (fun a hE => ?_)
    refine aF 1 62 1 hE (fun a hE => ?_)
    have hS := hS.pk (.c 2 rfl (.c 0 rfl (.c 1 rfl .n))) rfl
    refine at_op (op_store (v := .agg (List.toArray (c_T_log_at (r228)))) ([.pointer (some ⟨b2, 0, none⟩)] ++ ((c_T_log_at (r228)))) rfl rfl rfl rfl hE hS rfl rfl (by kernel_rfl) (by kernel_rfl) (by kernel_rfl) (by kernel_rfl) (by kernel_rfl) (fun a w _ hE hS => ?_)) rfl
    refine at_end rfl ?_
    refine wpIn_seq ?_
    refine region_at ?_
    refine sN 1 1 [(4, .int .i64 ((0 : Int)))] hE (fun a hE => ?_)
    refine at_end rfl ?_
    refine wpIn_ret ?_
    obtain rfl := Option.some.inj hf
    repeat (with_reducible first | refine then_ret ?_ | refine block_ret ?_ | refine qx_ret ?_)
    refine ret_gen ([.int .i64 ((0 : Int))]) hE (by rw [show Tryd.f14.results.toList = [.tmp 4] from rfl]; exact ⟨_, _, rfl, rfl, rfl⟩) ?_
    exact ⟨_, rfl, D230, A222, c223, q224, rfl, hS, (h225.mono le232)⟩
set_option maxRecDepth 100000 in
set_option maxHeartbeats 4000000 in
theorem disk_Disk_Sync.calls {K : Nat} {g w0 : World} {D0 : Snap} {x3 : (List Int)} {x9 : Int} {x10 : Int} {b1 : Nat} {A4 : Option Addr} {c5 : Nat} {q6 : Blk} {r : (Int)} (hf : disk_Disk_Sync.f K x3 x9 x10 = some r) (hS0 : St g w0 D0 [bx b1 72 (c_T_disk_Disk ((T_disk_Disk.mk (x3) (x9) (x10))) A4 c5), q6]) (h7 : OwnL (kdInt .u8) 5 D0 A4 c5 (x3) q6) :
  CallsIn (Fw none) 0 Tryd.prog 28 (List.toArray [.pointer (some ⟨b1, 0, none⟩)]) w0 (fun e w' => ∃ v, e = .returned v ∧ ∃ (D1 : Snap) (q11 : Blk), v = .tuple #[] ∧ Stp g w0 D0 [bx b1 72 (c_T_disk_Disk ((T_disk_Disk.mk (x3) (x9) (x10))) A4 c5), q6] w' D1 [bx b1 72 (c_T_disk_Disk ((T_disk_Disk.mk (x3) (r) (x10))) A4 c5), q11] ∧ OwnL (kdInt .u8) 5 D1 A4 c5 (x3) q11) := by
 unfold disk_Disk_Sync.f at hf
 have hS := Stp.refl hS0
 clear hS0
 refine calls_body (n := 12) Tryd.func28 rfl Tryd.ntmps28 rfl (fun a hE => ?_)
 have hE : Env a 12 [] [(0, .pointer (some ⟨b1, 0, none⟩))] := hE
 refine wpIn_seq ?_
 refine region_at ?_
 refine sN 1 1 [(2, .pointer (some ⟨b1, 0, none⟩))] hE (fun a hE => ?_)
 refine at_op (op_tk hE (tk_bin (r := .bool true) rfl rfl rfl rfl hE rfl rfl rfl (neptr_run (by kernel_rfl) _) (fun a hE => ?_))) rfl
 refine at_end rfl ?_
 refine wpIn_cond_true (hE.eval rfl) ?_
 refine region_at ?_
 refine sN 3 3 [(4, .pointer (some ⟨b1, 0, none⟩)), (6, .pointer (some ⟨b1, 0, none⟩))] hE (fun a hE => ?_)
 refine aF 0 33 0 hE (fun a hE => ?_)
 refine aL 0 (.slice A4 (List.length (x3)) c5) hE hS (fun a hE => ?_)
 refine sN 2 7 [(9, .int .i64 (((List.length (x3) : Nat) : Int))), (10, .pointer (some ⟨b1, 0, none⟩))] hE (fun a hE => ?_)
 refine aF 1 3 1 hE (fun a hE => ?_)
 refine at_op (op_store (v := .int .i64 (((List.length (x3) : Nat) : Int))) (c_T_disk_Disk ((T_disk_Disk.mk (x3) (((List.length (x3) : Nat) : Int)) (x10))) A4 c5) rfl rfl rfl rfl hE hS rfl rfl (by kernel_rfl) (by kernel_rfl) (by kernel_rfl) (by kernel_rfl) (by kernel_rfl) (fun a w _ hE hS => ?_)) rfl
 refine at_end rfl ?_
 obtain rfl := Option.some.inj hf
 repeat (with_reducible first | refine then_ret ?_ | refine block_ret ?_ | refine qx_ret ?_)
 refine ret_genN ([]) hE (by rw [show Tryd.f28.results.toList = [] from rfl]; exact rfl) ?_
 exact ⟨_, rfl, D0, q6, rfl, hS, h7⟩
end Go.Proofs.YthnfokfankaenaaDoor
