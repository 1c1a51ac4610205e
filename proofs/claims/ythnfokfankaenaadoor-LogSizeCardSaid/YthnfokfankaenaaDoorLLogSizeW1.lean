/-
  Proved, text by text: a call of a function of the cut comes to what its plain function computes.
  Conditions: those that each theorem names.
-/
import Derived.Test.YthnfokfankaenaaDoorProg
import Derived.Test.YthnfokfankaenaaDoorSepN
import Derived.Test.YthnfokfankaenaaDoorLLogSizeW0
set_option linter.unusedVariables false
namespace Go.Proofs.YthnfokfankaenaaDoor
open Go Go.Sep

set_option maxRecDepth 100000 in
set_option maxHeartbeats 4000000 in
theorem log_Log_Append.calls {K : Nat} {g w0 : World} {D0 : Snap} {x5 : (List Int)} {x9 : T_log_at} {x10 : (List Int)} {x16 : Int} {x17 : Int} {b1 : Nat} {b2 : Nat} {A6 : Option Addr} {c7 : Nat} {A11 : Option Addr} {c12 : Nat} {q13 : Blk} {r : (Int × T_log_at × (List Int) × Int)} (hf : log_Log_Append.f K x5 x9 x10 x16 x17 = some r) (hS0 : St g w0 D0 [bx b1 64 ([.pointer (some ⟨b2, 0, none⟩)] ++ ((c_T_log_at (x9)))), bx b2 72 (c_T_disk_Disk ((T_disk_Disk.mk (x10) (x16) (x17))) A11 c12), q13]) (h8 : Sl (kdInt .u8) D0 A6 c7 (x5)) (h14 : OwnL (kdInt .u8) 5 D0 A11 c12 (x10) q13) (hG0 : Cell (kdArr .u32 8) D0 0 0 gl_First) (hG1 : Cell (kdArr .u32 64) D0 1 0 gl_K) :
  CallsIn (Fw none) 0 Tryd.prog 17 (List.toArray [.pointer (some ⟨b1, 0, none⟩), .slice A6 (List.length (x5)) c7]) w0 (fun e w' => ∃ v, e = .returned v ∧ ∃ (D1 : Snap) (A44 : Option Addr) (c45 : Nat) (q46 : Blk), v = .int .i64 (r.1) ∧ Stp g w0 D0 [bx b1 64 ([.pointer (some ⟨b2, 0, none⟩)] ++ ((c_T_log_at (x9)))), bx b2 72 (c_T_disk_Disk ((T_disk_Disk.mk (x10) (x16) (x17))) A11 c12), q13] w' D1 [bx b1 64 ([.pointer (some ⟨b2, 0, none⟩)] ++ ((c_T_log_at ((T_log_at.mk (r.2.1.fCount) (r.2.1.fChain)))))), bx b2 72 (c_T_disk_Disk ((T_disk_Disk.mk (r.2.2.1) (r.2.2.2) (x17))) A44 c45), q46] ∧ OwnL (kdInt .u8) 5 D1 A44 c45 (r.2.2.1) q46) := by
 unfold log_Log_Append.f at hf
 have hS := Stp.refl hS0
 clear hS0
 refine calls_body (n := 17) Tryd.func17 rfl Tryd.ntmps17 rfl (fun a hE => ?_)
 have hE : Env a 17 [] [(0, .pointer (some ⟨b1, 0, none⟩)), (1, .slice A6 (List.length (x5)) c7)] := hE
 refine wpIn_seq ?_
 refine region_at ?_
 refine sN 1 1 [(4, .int .i64 ((0 : Int)))] hE (fun a hE => ?_)
 refine at_end rfl ?_
 refine wpIn_seq ?_
 refine region_at ?_
 refine sN 2 2 [(6, .pointer (some ⟨b1, 0, none⟩)), (7, .slice A6 (List.length (x5)) c7)] hE (fun a hE => ?_)
 obtain ⟨r49, h50, hf⟩ := bind_some hf
 refine aC rfl rfl rfl rfl hE rfl rfl rfl rfl (log_Log_Put.calls (g := g) h50 (hS.st.fore (L := [bx b1 64 ([.pointer (some ⟨b2, 0, none⟩)] ++ ((c_T_log_at (x9)))), bx b2 72 (c_T_disk_Disk ((T_disk_Disk.mk (x10) (x16) (x17))) A11 c12), q13])) h8 h14 hG0 hG1) (fun a v w hR hE => ?_)
 obtain ⟨D51, A53, c54, q55, rfl, hS1, h56⟩ := hR
 have le58 := hS1.dle
 have hS := hS.callR hS1 rfl (.c (.c (.c .n)))
 clear hS1
 refine sN 1 4 [(5, .int .i64 (r49.1))] hE (fun a hE => ?_)
 refine at_end rfl ?_
 refine wpIn_seq ?_
 refine wpIn_seq ?_
 refine region_at ?_
 refine sN 2 2 [(10, .bool ((decide (r49.1 = (0 : Int)))))] hE (fun a hE => ?_)
 refine at_end rfl ?_
 refine cond_split hE (b := (decide (r49.1 = (0 : Int)))) rfl (fun hb => ?_) (fun hb => ?_)
 ·replace hf := cond_t hb hf
  clear hb
  refine region_at ?_
  refine sN 2 2 [(12, .pointer (some ⟨b1, 0, none⟩))] hE (fun a hE => ?_)
  refine aF 0 30 0 hE (fun a hE => ?_)
  refine aL 0 (.pointer (some ⟨b2, 0, none⟩)) hE hS (fun a hE => ?_)
  have hS := hS.pk (.c 1 rfl (.c 2 rfl (.c 0 rfl .n))) rfl
  obtain ⟨r67, h68, hf⟩ := bind_some hf
  refine aC rfl rfl rfl rfl hE rfl rfl rfl rfl (disk_Disk_Sync.calls (g := g) h68 (hS.st.fore (L := [bx b2 72 (c_T_disk_Disk ((T_disk_Disk.mk (r49.2.2) (x16) (x17))) A53 c54), q55])) h56) (fun a v w hR hE => ?_)
  obtain ⟨D69, q71, rfl, hS1, h72⟩ := hR
  have le74 := hS1.dle
  have hS := hS.callR hS1 rfl (.c (.c .n))
  clear hS1
  refine at_end rfl ?_
  refine wpIn_seq ?_
  refine region_at ?_
  refine sN 2 2 [(4, .int .i64 (r49.1))] hE (fun a hE => ?_)
  refine at_end rfl ?_
  refine wpIn_ret ?_
  obtain rfl := Option.some.inj hf
  repeat (with_reducible first | refine then_ret ?_ | refine block_ret ?_ | refine qx_ret ?_)
  refine ret_gen ([.int .i64 (r49.1)]) hE (by rw [show Tryd.f17.results.toList = [.tmp 4] from rfl]; exact ⟨_, _, rfl, rfl, rfl⟩) ?_
  have hS := hS.pk (.c 2 rfl (.c 0 rfl (.c 1 rfl .n))) rfl
  exact ⟨_, rfl, D69, A53, c54, q71, rfl, hS, h72⟩
 ·replace hf := cond_f hb hf
  clear hb
  refine wpIn_skip ?_
  refine wpIn_seq ?_
  refine region_at ?_
  refine sN 2 2 [(4, .int .i64 (r49.1))] hE (fun a hE => ?_)
  refine at_end rfl ?_
  refine wpIn_ret ?_
  obtain rfl := Option.some.inj hf
  repeat (with_reducible first | refine then_ret ?_ | refine block_ret ?_ | refine qx_ret ?_)
  refine ret_gen ([.int .i64 (r49.1)]) hE (by rw [show Tryd.f17.results.toList = [.tmp 4] from rfl]; exact ⟨_, _, rfl, rfl, rfl⟩) ?_
  exact ⟨_, rfl, D51, A53, c54, q55, rfl, hS, h56⟩
set_option maxRecDepth 100000 in
set_option maxHeartbeats 4000000 in
theorem log_Log_Count.calls {K : Nat} {g w0 : World} {D0 : Snap} {x5 : T_log_at} {x6 : (List Int)} {x12 : Int} {x13 : Int} {b1 : Nat} {b2 : Nat} {A7 : Option Addr} {c8 : Nat} {q9 : Blk} {r : (Int)} (hf : log_Log_Count.f K x5 x6 x12 x13 = some r) (hS0 : St g w0 D0 [bx b1 64 ([.pointer (some ⟨b2, 0, none⟩)] ++ ((c_T_log_at (x5)))), bx b2 72 (c_T_disk_Disk ((T_disk_Disk.mk (x6) (x12) (x13))) A7 c8), q9]) (h10 : OwnL (kdInt .u8) 5 D0 A7 c8 (x6) q9) :
  CallsIn (Fw none) 0 Tryd.prog 21 (List.toArray [.pointer (some ⟨b1, 0, none⟩)]) w0 (fun e w' => ∃ v, e = .returned v ∧ ∃ (D1 : Snap) (q14 : Blk), v = .int .i64 (r) ∧ Stp g w0 D0 [bx b1 64 ([.pointer (some ⟨b2, 0, none⟩)] ++ ((c_T_log_at (x5)))), bx b2 72 (c_T_disk_Disk ((T_disk_Disk.mk (x6) (x12) (x13))) A7 c8), q9] w' D1 [bx b1 64 ([.pointer (some ⟨b2, 0, none⟩)] ++ ((c_T_log_at (x5)))), bx b2 72 (c_T_disk_Disk ((T_disk_Disk.mk (x6) (x12) (x13))) A7 c8), q14] ∧ OwnL (kdInt .u8) 5 D1 A7 c8 (x6) q14) := by
 unfold log_Log_Count.f at hf
 have hS := Stp.refl hS0
 clear hS0
 refine calls_body (n := 10) Tryd.func21 rfl Tryd.ntmps21 rfl (fun a hE => ?_)
 have hE : Env a 10 [] [(0, .pointer (some ⟨b1, 0, none⟩))] := hE
 refine wpIn_seq ?_
 refine region_at ?_
 refine sN 1 1 [(2, .int .i64 ((0 : Int)))] hE (fun a hE => ?_)
 refine at_end rfl ?_
 refine wpIn_seq ?_
 refine wpIn_seq ?_
 refine region_at ?_
 refine sN 1 1 [(3, .pointer (some ⟨b1, 0, none⟩))] hE (fun a hE => ?_)
 refine at_op (op_tk hE (tk_bin (r := .bool false) rfl rfl rfl rfl hE rfl rfl rfl (eqptr_run (by kernel_rfl) _) (fun a hE => ?_))) rfl
 refine at_end rfl ?_
 refine wpIn_cond_false (hE.eval rfl) ?_
 refine wpIn_skip ?_
 refine wpIn_seq ?_
 refine region_at ?_
 refine sN 2 2 [(6, .pointer (some ⟨b1, 0, none⟩))] hE (fun a hE => ?_)
 refine aF 1 62 1 hE (fun a hE => ?_)
 refine aF 0 3 1 hE (fun a hE => ?_)
 refine aL 0 (.int .i64 (x5.fCount)) hE hS (fun a hE => ?_)
 refine sN 1 6 [(2, .int .i64 (x5.fCount))] hE (fun a hE => ?_)
 refine at_end rfl ?_
 refine wpIn_ret ?_
 obtain rfl := Option.some.inj hf
 repeat (with_reducible first | refine then_ret ?_ | refine block_ret ?_ | refine qx_ret ?_)
 refine ret_gen ([.int .i64 (x5.fCount)]) hE (by rw [show Tryd.f21.results.toList = [.tmp 2] from rfl]; exact ⟨_, _, rfl, rfl, rfl⟩) ?_
 exact ⟨_, rfl, D0, q9, rfl, hS, h10⟩
set_option maxRecDepth 100000 in
set_option maxHeartbeats 4000000 in
theorem disk_Disk_Crash.calls {K : Nat} {g w0 : World} {D0 : Snap} {x3 : Int} {x4 : (List Int)} {x10 : Int} {x11 : Int} {b1 : Nat} {A5 : Option Addr} {c6 : Nat} {q7 : Blk} {r : ((List Int) × Int)} (hf : disk_Disk_Crash.f K x3 x4 x10 x11 = some r) (hS0 : St g w0 D0 [bx b1 72 (c_T_disk_Disk ((T_disk_Disk.mk (x4) (x10) (x11))) A5 c6), q7]) (h8 : OwnL (kdInt .u8) 5 D0 A5 c6 (x4) q7) :
  CallsIn (Fw none) 0 Tryd.prog 18 (List.toArray [.pointer (some ⟨b1, 0, none⟩), .int .i64 (x3)]) w0 (fun e w' => ∃ v, e = .returned v ∧ ∃ (D1 : Snap) (A32 : Option Addr) (c33 : Nat) (q34 : Blk), v = .tuple #[] ∧ Stp g w0 D0 [bx b1 72 (c_T_disk_Disk ((T_disk_Disk.mk (x4) (x10) (x11))) A5 c6), q7] w' D1 [bx b1 72 (c_T_disk_Disk ((T_disk_Disk.mk (r.1) (r.2) (x11))) A32 c33), q34] ∧ OwnL (kdInt .u8) 5 D1 A32 c33 (r.1) q34) := by
 unfold disk_Disk_Crash.f at hf
 have hS := Stp.refl hS0
 clear hS0
 refine calls_body (n := 26) Tryd.func18 rfl Tryd.ntmps18 rfl (fun a hE => ?_)
 have hE : Env a 26 [] [(0, .pointer (some ⟨b1, 0, none⟩)), (1, .int .i64 (x3))] := hE
 refine wpIn_seq ?_
 refine region_at ?_
 refine sN 1 1 [(4, .pointer (some ⟨b1, 0, none⟩))] hE (fun a hE => ?_)
 refine at_op (op_tk hE (tk_bin (r := .bool true) rfl rfl rfl rfl hE rfl rfl rfl (neptr_run (by kernel_rfl) _) (fun a hE => ?_))) rfl
 refine at_end rfl ?_
 refine wpIn_cond_true (hE.eval rfl) ?_
 refine region_draw (fun j => Keeps (mfOf [(19, [b1] ++ ids [q7])] j)) (by kernel_rfl) ?_
 have hS := hS.drew
 first | generalize w.drew = w at hS ⊢ | generalize w0.drew = w at hS ⊢
 refine wP 0 1 19 (.pointer (some ⟨b1, 0, none⟩)) hE (fun a hE => ?_)
 refine wP 1 3 18 (.pointer (some ⟨b1, 0, none⟩)) hE (fun a hE => ?_)
 refine wP 2 7 17 (.pointer (some ⟨b1, 0, none⟩)) hE (fun a hE => ?_)
 refine wP 5 39 16 (.int .i64 (x3)) hE (fun a hE => ?_)
 refine wP 6 103 15 (.pointer (some ⟨b1, 0, none⟩)) hE (fun a hE => ?_)
 refine wP 7 231 14 (.pointer (some ⟨b1, 0, none⟩)) hE (fun a hE => ?_)
 refine wP 11 2279 13 (.pointer (some ⟨b1, 0, none⟩)) hE (fun a hE => ?_)
 refine wP 12 6375 12 (.pointer (some ⟨b1, 0, none⟩)) hE (fun a hE => ?_)
 refine wF 3 6383 11 1 3 1 hE (fun a hE => ?_)
 refine tS (T := [(19, [b1] ++ ids [q7])]) [] [4, 18, 19] 4 6399 (fuel := 10) (by kernel_rfl) hE (tk_load 0 (.int .i64 (x10)) rfl rfl rfl rfl hE rfl hS rfl rfl (by kernel_rfl) (kL (j := 0) hS rfl List.not_mem_nil) (fun a hE => ?_))
 refine wF 8 6655 9 0 33 0 hE (fun a hE => ?_)
 refine tS (T := [(19, [b1] ++ ids [q7])]) [] [9, 10, 15, 16, 17, 18, 19] 9 7167 (fuel := 8) (by kernel_rfl) hE (tk_load 0 (.slice A5 (List.length (x4)) c6) rfl rfl rfl rfl hE rfl hS rfl rfl (by kernel_rfl) (kL (j := 0) hS rfl List.not_mem_nil) (fun a hE => ?_))
 refine wP 10 8191 7 (.int .i64 (((List.length (x4) : Nat) : Int))) hE (fun a hE => ?_)
 refine wF 13 16383 6 1 3 1 hE (fun a hE => ?_)
 refine tS (T := [(19, [b1] ++ ids [q7])]) [] [14, 15, 16, 17, 18, 19] 14 32767 (fuel := 5) (by kernel_rfl) hE (tk_load 0 (.int .i64 (x10)) rfl rfl rfl rfl hE rfl hS rfl rfl (by kernel_rfl) (kL (j := 0) hS rfl List.not_mem_nil) (fun a hE => ?_))
 refine wP 15 65535 4 (.int .i64 ((IntKind.wrap .i64 (((List.length (x4) : Nat) : Int) - x10)))) hE (fun a hE => ?_)
 refine wP 16 131071 3 (.int .i64 ((minI x3 (IntKind.wrap .i64 (((List.length (x4) : Nat) : Int) - x10))))) hE (fun a hE => ?_)
 refine wP 17 262143 2 (.int .i64 ((maxI (0 : Int) (minI x3 (IntKind.wrap .i64 (((List.length (x4) : Nat) : Int) - x10)))))) hE (fun a hE => ?_)
 refine wP 18 524287 1 (.int .i64 ((IntKind.wrap .i64 (x10 + (maxI (0 : Int) (minI x3 (IntKind.wrap .i64 (((List.length (x4) : Nat) : Int) - x10)))))))) hE (fun a hE => ?_)
 obtain ⟨r47, h48, hf⟩ := bind_some hf
 refine oG 19 1048575 (fuel := 0) (by kernel_rfl) (op_call rfl rfl rfl rfl hE rfl rfl rfl rfl (by kernel_rfl) (disk_Disk_leave.calls (g := g) h48 (hS.st.fore (L := [bx b1 72 (c_T_disk_Disk ((T_disk_Disk.mk (x4) (x10) (x11))) A5 c6), q7])) h8) (fun a v w hR hE => ?_))
 obtain ⟨D49, A51, c52, q53, rfl, hS1, h54⟩ := hR
 refine ⟨hS1.keeps.mono (fun _ h => h), ?_⟩
 have le56 := hS1.dle
 have hS := hS.callR hS1 rfl (.c (.c .n))
 clear hS1
 refine doneG (by kernel_rfl) ?_
 obtain rfl := Option.some.inj hf
 repeat (with_reducible first | refine then_ret ?_ | refine block_ret ?_ | refine qx_ret ?_)
 refine ret_genN ([]) hE (by rw [show Tryd.f18.results.toList = [] from rfl]; exact rfl) ?_
 exact ⟨_, rfl, D49, A51, c52, q53, rfl, hS, h54⟩
set_option maxRecDepth 100000 in
set_option maxHeartbeats 4000000 in
theorem log_Log_Size.calls {K : Nat} {g w0 : World} {D0 : Snap} {x5 : Int} {x6 : T_log_at} {x7 : (List Int)} {x13 : Int} {x14 : Int} {b1 : Nat} {b2 : Nat} {A8 : Option Addr} {c9 : Nat} {q10 : Blk} {r : (Int)} (hf : log_Log_Size.f K x5 x6 x7 x13 x14 = some r) (hS0 : St g w0 D0 [bx b1 64 ([.pointer (some ⟨b2, 0, none⟩)] ++ ((c_T_log_at (x6)))), bx b2 72 (c_T_disk_Disk ((T_disk_Disk.mk (x7) (x13) (x14))) A8 c9), q10]) (h11 : OwnL (kdInt .u8) 5 D0 A8 c9 (x7) q10) :
  CallsIn (Fw none) 0 Tryd.prog 29 (List.toArray [.pointer (some ⟨b1, 0, none⟩), .int .i64 (x5)]) w0 (fun e w' => ∃ v, e = .returned v ∧ ∃ (D1 : Snap) (q35 : Blk), v = .int .i64 (r) ∧ Stp g w0 D0 [bx b1 64 ([.pointer (some ⟨b2, 0, none⟩)] ++ ((c_T_log_at (x6)))), bx b2 72 (c_T_disk_Disk ((T_disk_Disk.mk (x7) (x13) (x14))) A8 c9), q10] w' D1 [bx b1 64 ([.pointer (some ⟨b2, 0, none⟩)] ++ ((c_T_log_at (x6)))), bx b2 72 (c_T_disk_Disk ((T_disk_Disk.mk (x7) (x13) (x14))) A8 c9), q35] ∧ OwnL (kdInt .u8) 5 D1 A8 c9 (x7) q35) := by
 unfold log_Log_Size.f at hf
 have hS := Stp.refl hS0
 clear hS0
 refine calls_body (n := 17) Tryd.func29 rfl Tryd.ntmps29 rfl (fun a hE => ?_)
 have hE : Env a 17 [] [(0, .pointer (some ⟨b1, 0, none⟩)), (1, .int .i64 (x5))] := hE
 refine wpIn_seq ?_
 refine region_at ?_
 refine sN 1 1 [(4, .int .i64 ((0 : Int)))] hE (fun a hE => ?_)
 refine at_end rfl ?_
 refine wpIn_seq ?_
 obtain ⟨j56, hj57, hf⟩ := jn_elim hf
 refine seq_join (fun a w => ∃ (y43 : Bool), ∃ (D44 : Snap), Env a 17 [] [(1, .int .i64 (x5)), (10, .bool (y43))] ∧ Stp g w0 D0 [bx b1 64 ([.pointer (some ⟨b2, 0, none⟩)] ++ ((c_T_log_at (x6)))), bx b2 72 (c_T_disk_Disk ((T_disk_Disk.mk (x7) (x13) (x14))) A8 c9), q10] w D44 [bx b1 64 ([.pointer (some ⟨b2, 0, none⟩)] ++ ((c_T_log_at (x6)))), bx b2 72 (c_T_disk_Disk ((T_disk_Disk.mk (x7) (x13) (x14))) A8 c9), q10] ∧ Snap.le D0 D44 ∧ j56 y43 = some r) ?_ ?_
 ·clear hj57
  refine region_at ?_
  refine sN 3 3 [(7, .bool ((decide (x5 < (1 : Int)))))] hE (fun a hE => ?_)
  refine Or.elim (Bool.eq_false_or_eq_true ((decide (x5 < (1 : Int))))).symm (fun hb => ?_) (fun hb => ?_)
  ·replace hf := cond_f hb hf
   have hE := hE.know (t := 7) (b := (decide (x5 < (1 : Int)))) (b' := false) rfl hb
   clear hb
   refine sN 3 6 [(10, .bool ((decide ((2000 : Int) < x5))))] hE (fun a hE => ?_)
   refine at_end rfl ?_
   exact ⟨(decide ((2000 : Int) < x5)), D0, hE.weak (by kernel_rfl), hS, Snap.le.refl _, hf⟩
  ·replace hf := cond_t hb hf
   have hE := hE.know (t := 7) (b := (decide (x5 < (1 : Int)))) (b' := true) rfl hb
   clear hb
   refine sN 3 6 [(10, .bool true)] hE (fun a hE => ?_)
   refine at_end rfl ?_
   exact ⟨true, D0, hE.weak (by kernel_rfl), hS, Snap.le.refl _, hf⟩
 ·clear hE hS
  rintro a w ⟨y43, D44, hE, hS, le45, hf⟩
  replace hf := hj57 _ hf
  clear hj57
  refine cond_split hE (b := y43) rfl (fun hb => ?_) (fun hb => ?_)
  ·replace hf := cond_t hb hf
   clear hb
   refine wpIn_seq ?_
   refine region_at ?_
   refine sN 1 1 [(4, .int .i64 ((0 : Int)))] hE (fun a hE => ?_)
   refine at_end rfl ?_
   refine wpIn_ret ?_
   obtain rfl := Option.some.inj hf
   repeat (with_reducible first | refine then_ret ?_ | refine block_ret ?_ | refine qx_ret ?_)
   refine ret_gen ([.int .i64 ((0 : Int))]) hE (by rw [show Tryd.f29.results.toList = [.tmp 4] from rfl]; exact ⟨_, _, rfl, rfl, rfl⟩) ?_
   exact ⟨_, rfl, D44, q10, rfl, hS, (h11.mono le45)⟩
  ·replace hf := cond_f hb hf
   clear hb
   refine wpIn_skip ?_
   refine wpIn_seq ?_
   refine region_at ?_
   refine sN 1 1 [(11, .int .i64 (x5))] hE (fun a hE => ?_)
   obtain ⟨r46, h47, hf⟩ := bind_some hf
   refine aC rfl rfl rfl rfl hE rfl rfl rfl rfl (wire_Num.calls (g := g) h47 (hS.st.fore (L := [])) ) (fun a v w hR hE => ?_)
   obtain ⟨D48, A50, c51, q52, rfl, hS1, h53⟩ := hR
   have le55 := hS1.dle
   have hS := hS.callR hS1 rfl (.c .n)
   clear hS1
   refine sN 5 7 [(4, .int .i64 ((IntKind.wrap .i64 ((IntKind.wrap .i64 (((List.length (r46) : Nat) : Int) + x5)) + (8 : Int)))))] hE (fun a hE => ?_)
   refine at_end rfl ?_
   refine wpIn_ret ?_
   obtain rfl := Option.some.inj hf
   repeat (with_reducible first | refine then_ret ?_ | refine block_ret ?_ | refine qx_ret ?_)
   refine ret_gen ([.int .i64 ((IntKind.wrap .i64 ((IntKind.wrap .i64 (((List.length (r46) : Nat) : Int) + x5)) + (8 : Int))))]) hE (by rw [show Tryd.f29.results.toList = [.tmp 4] from rfl]; exact ⟨_, _, rfl, rfl, rfl⟩) ?_
   have hS := hS.pk (.c 1 rfl (.c 2 rfl (.c 3 rfl .n))) rfl
   exact ⟨_, rfl, D48, q10, rfl, hS, (h11.mono (le2 le45 le55))⟩
set_option maxRecDepth 100000 in
set_option maxHeartbeats 4000000 in
theorem log_Log_Chain.calls {K : Nat} {g w0 : World} {D0 : Snap} {x5 : T_log_at} {x6 : (List Int)} {x12 : Int} {x13 : Int} {b1 : Nat} {b2 : Nat} {A7 : Option Addr} {c8 : Nat} {q9 : Blk} {r : ((Vector Int 32))} (hf : log_Log_Chain.f K x5 x6 x12 x13 = some r) (hS0 : St g w0 D0 [bx b1 64 ([.pointer (some ⟨b2, 0, none⟩)] ++ ((c_T_log_at (x5)))), bx b2 72 (c_T_disk_Disk ((T_disk_Disk.mk (x6) (x12) (x13))) A7 c8), q9]) (h10 : OwnL (kdInt .u8) 5 D0 A7 c8 (x6) q9) :
  CallsIn (Fw none) 0 Tryd.prog 22 (List.toArray [.pointer (some ⟨b1, 0, none⟩)]) w0 (fun e w' => ∃ v, e = .returned v ∧ ∃ (D1 : Snap) (q16 : Blk), v = .agg (List.toArray (acells .u8 32 (r))) ∧ Stp g w0 D0 [bx b1 64 ([.pointer (some ⟨b2, 0, none⟩)] ++ ((c_T_log_at (x5)))), bx b2 72 (c_T_disk_Disk ((T_disk_Disk.mk (x6) (x12) (x13))) A7 c8), q9] w' D1 [bx b1 64 ([.pointer (some ⟨b2, 0, none⟩)] ++ ((c_T_log_at (x5)))), bx b2 72 (c_T_disk_Disk ((T_disk_Disk.mk (x6) (x12) (x13))) A7 c8), q16] ∧ OwnL (kdInt .u8) 5 D1 A7 c8 (x6) q16) := by
 unfold log_Log_Chain.f at hf
 have hS := Stp.refl hS0
 clear hS0
 refine calls_body (n := 19) Tryd.func22 rfl Tryd.ntmps22 rfl (fun a hE => ?_)
 have hE : Env a 19 [] [(0, .pointer (some ⟨b1, 0, none⟩))] := hE
 refine wpIn_seq ?_
 refine region_at ?_
 refine at_op (op_alloc (z := .agg (List.toArray (acells .u8 32 ((Vector.replicate 32 (0 : Int)))))) rfl rfl rfl rfl hE rfl hS (by kernel_rfl) (fun a b19 w _ hE hS => ?_)) rfl
 refine at_end rfl ?_
 refine wpIn_seq ?_
 refine wpIn_seq ?_
 refine region_at ?_
 refine sN 1 1 [(3, .pointer (some ⟨b1, 0, none⟩))] hE (fun a hE => ?_)
 refine at_op (op_tk hE (tk_bin (r := .bool false) rfl rfl rfl rfl hE rfl rfl rfl (eqptr_run (by kernel_rfl) _) (fun a hE => ?_))) rfl
 refine sN 3 5 [(5, .bool false), (7, .pointer (some ⟨b1, 0, none⟩))] hE (fun a hE => ?_)
 refine aF 1 62 1 hE (fun a hE => ?_)
 refine aL 1 (.agg (List.toArray (c_T_log_at (x5)))) hE hS (fun a hE => ?_)
 refine at_op (op_tk hE (tk_build (c_T_log_at ((T_log_at.mk ((0 : Int)) ((Vector.replicate 32 (0 : Int)))))) rfl rfl rfl rfl hE rfl rfl (by kernel_rfl) (fun a hE => ?_))) rfl
 refine at_op (op_tk hE (tk_bin (r := .bool (((decide (x5.fCount = (0 : Int))) && ((decide (x5.fChain = (Vector.replicate 32 (0 : Int)))) && true)))) rfl rfl rfl rfl hE rfl rfl rfl (eqagg_run (by kernel_rfl) (EqR_struct (fs := structFs Tryd.prog 62) (by kernel_rfl) ⟨.int .i64 (x5.fCount), .int .i64 ((0 : Int)), (decide (x5.fCount = (0 : Int))), _, by kernel_rfl, by kernel_rfl, by kernel_rfl, (EqR_int (by kernel_rfl)), ⟨.agg (List.toArray (acells .u8 32 (x5.fChain))), .agg (List.toArray (acells .u8 32 ((Vector.replicate 32 (0 : Int))))), (decide (x5.fChain = (Vector.replicate 32 (0 : Int)))), _, by kernel_rfl, by kernel_rfl, by kernel_rfl, (EqR_arr (k := .u8) (N := 32) (by kernel_rfl)), rfl, rfl⟩, rfl⟩)) (fun a hE => ?_))) rfl
 refine sN 1 10 [(12, .bool (((decide (x5.fCount = (0 : Int))) && ((decide (x5.fChain = (Vector.replicate 32 (0 : Int)))) && true))))] hE (fun a hE => ?_)
 refine at_end rfl ?_
 refine cond_split hE (b := ((decide (x5.fCount = (0 : Int))) && ((decide (x5.fChain = (Vector.replicate 32 (0 : Int)))) && true))) rfl (fun hb => ?_) (fun hb => ?_)
 ·replace hf := cond_t hb hf
  clear hb
  refine wpIn_seq ?_
  refine region_at ?_
  refine at_op (op_tk hE (tk_build (acells .u8 32 ((vofL 32 [(0 : Int), (0 : Int), (0 : Int), (0 : Int), (0 : Int), (0 : Int), (0 : Int), (0 : Int), (0 : Int), (0 : Int), (0 : Int), (0 : Int), (0 : Int), (0 : Int), (0 : Int), (0 : Int), (0 : Int), (0 : Int), (0 : Int), (0 : Int), (0 : Int), (0 : Int), (0 : Int), (0 : Int), (0 : Int), (0 : Int), (0 : Int), (0 : Int), (0 : Int), (0 : Int), (0 : Int), (0 : Int)]))) rfl rfl rfl rfl hE rfl rfl (by kernel_rfl) (fun a hE => ?_))) rfl
  refine at_op (op_store (v := .agg (List.toArray (acells .u8 32 ((vofL 32 [(0 : Int), (0 : Int), (0 : Int), (0 : Int), (0 : Int), (0 : Int), (0 : Int), (0 : Int), (0 : Int), (0 : Int), (0 : Int), (0 : Int), (0 : Int), (0 : Int), (0 : Int), (0 : Int), (0 : Int), (0 : Int), (0 : Int), (0 : Int), (0 : Int), (0 : Int), (0 : Int), (0 : Int), (0 : Int), (0 : Int), (0 : Int), (0 : Int), (0 : Int), (0 : Int), (0 : Int), (0 : Int)]))))) (acells .u8 32 ((vofL 32 [(0 : Int), (0 : Int), (0 : Int), (0 : Int), (0 : Int), (0 : Int), (0 : Int), (0 : Int), (0 : Int), (0 : Int), (0 : Int), (0 : Int), (0 : Int), (0 : Int), (0 : Int), (0 : Int), (0 : Int), (0 : Int), (0 : Int), (0 : Int), (0 : Int), (0 : Int), (0 : Int), (0 : Int), (0 : Int), (0 : Int), (0 : Int), (0 : Int), (0 : Int), (0 : Int), (0 : Int), (0 : Int)]))) rfl rfl rfl rfl hE hS rfl rfl (by kernel_rfl) (by kernel_rfl) (by kernel_rfl) (by kernel_rfl) (by kernel_rfl) (fun a w _ hE hS => ?_)) rfl
  refine at_end rfl ?_
  refine wpIn_ret ?_
  obtain rfl := Option.some.inj hf
  repeat (with_reducible first | refine then_ret ?_ | refine block_ret ?_ | refine qx_ret ?_)
  refine ret_gen ([.agg (List.toArray (acells .u8 32 ((vofL 32 [(0 : Int), (0 : Int), (0 : Int), (0 : Int), (0 : Int), (0 : Int), (0 : Int), (0 : Int), (0 : Int), (0 : Int), (0 : Int), (0 : Int), (0 : Int), (0 : Int), (0 : Int), (0 : Int), (0 : Int), (0 : Int), (0 : Int), (0 : Int), (0 : Int), (0 : Int), (0 : Int), (0 : Int), (0 : Int), (0 : Int), (0 : Int), (0 : Int), (0 : Int), (0 : Int), (0 : Int), (0 : Int)]))))]) hE (by rw [show Tryd.f22.results.toList = [.cell 2 48] from rfl]; exact ⟨_, _, _, 0, _, _, rfl, rfl, hS.heapAt (j := 0) rfl, by kernel_rfl, rfl⟩) ?_
  have hS := hS.pk (.c 1 rfl (.c 2 rfl (.c 3 rfl .n))) rfl
  exact ⟨_, rfl, D0, q9, rfl, hS, h10⟩
 ·replace hf := cond_f hb hf
  clear hb
  refine wpIn_skip ?_
  refine wpIn_seq ?_
  refine region_at ?_
  refine sN 2 2 [(15, .pointer (some ⟨b1, 0, none⟩))] hE (fun a hE => ?_)
  refine aF 1 62 1 hE (fun a hE => ?_)
  refine aF 1 48 2 hE (fun a hE => ?_)
  refine aL 1 (.agg (List.toArray (acells .u8 32 (x5.fChain)))) hE hS (fun a hE => ?_)
  refine at_op (op_store (v := .agg (List.toArray (acells .u8 32 (x5.fChain)))) (acells .u8 32 (x5.fChain)) rfl rfl rfl rfl hE hS rfl rfl (by kernel_rfl) (by kernel_rfl) (by kernel_rfl) (by kernel_rfl) (by kernel_rfl) (fun a w _ hE hS => ?_)) rfl
  refine at_end rfl ?_
  refine wpIn_ret ?_
  obtain rfl := Option.some.inj hf
  repeat (with_reducible first | refine then_ret ?_ | refine block_ret ?_ | refine qx_ret ?_)
  refine ret_gen ([.agg (List.toArray (acells .u8 32 (x5.fChain)))]) hE (by rw [show Tryd.f22.results.toList = [.cell 2 48] from rfl]; exact ⟨_, _, _, 0, _, _, rfl, rfl, hS.heapAt (j := 0) rfl, by kernel_rfl, rfl⟩) ?_
  have hS := hS.pk (.c 1 rfl (.c 2 rfl (.c 3 rfl .n))) rfl
  exact ⟨_, rfl, D0, q9, rfl, hS, h10⟩
set_option maxRecDepth 100000 in
set_option maxHeartbeats 4000000 in
theorem inspeximuslaw09_alive.calls {K : Nat} {g w0 : World} {D0 : Snap} {r : (Bool)} (hf : inspeximuslaw09_alive.f K = some r) (hS0 : St g w0 D0 []) (hG0 : Cell (kdArr .u32 8) D0 0 0 gl_First) (hG1 : Cell (kdArr .u32 64) D0 1 0 gl_K) :
  CallsIn (Fw none) 0 Tryd.prog 9 (List.toArray []) w0 (fun e w' => ∃ v, e = .returned v ∧ ∃ (D1 : Snap), v = .bool (r) ∧ Stp g w0 D0 [] w' D1 []) := by
 unfold inspeximuslaw09_alive.f at hf
 have hS := Stp.refl hS0
 clear hS0
 refine calls_body (n := 93) Tryd.func9 rfl Tryd.ntmps9 rfl (fun a hE => ?_)
 have hE : Env a 93 [] [] := hE
 refine wpIn_seq ?_
 refine region_at ?_
 refine sN 1 1 [(0, .bool false)] hE (fun a hE => ?_)
 refine at_end rfl ?_
 refine wpIn_seq ?_
 refine region_at ?_
 obtain ⟨r218, h219, hf⟩ := bind_some hf
 refine aC rfl rfl rfl rfl hE rfl rfl rfl rfl (disk_New.calls (g := g) h219 (hS.st.fore (L := [])) ) (fun a v w hR hE => ?_)
 obtain ⟨D220, b222, A224, c225, q226, rfl, hS1, h227⟩ := hR
 have le229 := hS1.dle
 have hS := hS.callR hS1 rfl (.c (.c .n))
 clear hS1
 refine sN 1 2 [(1, .pointer (some ⟨b222, 0, none⟩))] hE (fun a hE => ?_)
 refine at_end rfl ?_
 refine wpIn_seq ?_
 refine region_at ?_
 refine sN 1 1 [(13, .pointer (some ⟨b222, 0, none⟩))] hE (fun a hE => ?_)
 obtain ⟨r230, h231, hf⟩ := bind_some hf
 refine aC rfl rfl rfl rfl hE rfl rfl rfl rfl (log_Open.calls (g := g) h231 (hS.st.fore (L := [bx b222 72 (c_T_disk_Disk ((T_disk_Disk.mk (r218.1) (r218.2.1) (r218.2.2))) A224 c225), q226])) h227 (hG0.mono le229) (hG1.mono le229)) (fun a v w hR hE => ?_)
 obtain ⟨D232, b234, A236, c237, q238, A241, c242, q243, rfl, hS1, h239, h244⟩ := hR
 have le246 := hS1.dle
 have hS := hS.callR hS1 rfl (.c (.c (.c (.c .n))))
 clear hS1
 refine sN 7 9 [(2, .pointer (some ⟨b234, 0, none⟩)), (3, .slice A236 (List.length (r230.1)) c237), (4, .int .i64 (r230.2.1))] hE (fun a hE => ?_)
 refine at_end rfl ?_
 refine wpIn_seq ?_
 refine region_at ?_
 refine sN 1 1 [(18, .pointer (some ⟨b234, 0, none⟩))] hE (fun a hE => ?_)
 refine at_op (op_buildSlice (K := (kdInt .u8)) (e := 5) (cs := [.int .u8 ((97 : Int))] ++ []) ([(97 : Int)] : List Int) rfl rfl rfl rfl hE rfl hS rfl (by kernel_rfl) rfl rfl (by exact (show RL (kdInt .u8) D232 ([(97 : Int)] : List Int) ([.int .u8 ((97 : Int))] ++ []) from ⟨_, _, rfl, rfl, rfl⟩)) (fun a A247 q248 w _ hE h249 hS => ?_)) rfl
 refine at_op (op_lit (T := 5) (l := ([(97 : Int)] : List Int)) rfl rfl rfl rfl hE rfl hS rfl (by kernel_rfl) h249 (by kernel_rfl) (fun a D251 w _ le252 hE h253 hS => ?_)) rfl
 have hS := hS.pk (.c 1 rfl (.c 0 rfl (.c 3 rfl (.c 2 rfl .n)))) rfl
 obtain ⟨r254, h255, hf⟩ := bind_some hf
 refine aC rfl rfl rfl rfl hE rfl rfl rfl rfl (log_Log_Append.calls (g := g) h255 (hS.st.fore (L := [bx b234 64 ([.pointer (some ⟨b222, 0, none⟩)] ++ ((c_T_log_at (r230.2.2.2.2)))), bx b222 72 (c_T_disk_Disk ((T_disk_Disk.mk (r230.2.2.1) (r230.2.2.2.1) (r218.2.2))) A241 c242), q243])) h253 (h244.mono le252) (hG0.mono (le2 (le2 le229 le246) le252)) (hG1.mono (le2 (le2 le229 le246) le252))) (fun a v w hR hE => ?_)
 obtain ⟨D256, A258, c259, q260, rfl, hS1, h261⟩ := hR
 have le263 := hS1.dle
 have hS := hS.callR hS1 rfl (.c (.c (.c .n)))
 clear hS1
 refine sN 1 5 [(5, .int .i64 (r254.1))] hE (fun a hE => ?_)
 refine at_end rfl ?_
 refine wpIn_seq ?_
 refine region_at ?_
 refine sN 1 1 [(22, .pointer (some ⟨b234, 0, none⟩))] hE (fun a hE => ?_)
 refine at_op (op_buildSlice (K := (kdInt .u8)) (e := 5) (cs := [.int .u8 ((98 : Int))] ++ ([.int .u8 ((99 : Int))] ++ [])) ([(98 : Int), (99 : Int)] : List Int) rfl rfl rfl rfl hE rfl hS rfl (by kernel_rfl) rfl rfl (by exact (show RL (kdInt .u8) D256 ([(98 : Int), (99 : Int)] : List Int) ([.int .u8 ((98 : Int))] ++ ([.int .u8 ((99 : Int))] ++ [])) from ⟨_, _, rfl, rfl, ⟨_, _, rfl, rfl, rfl⟩⟩)) (fun a A264 q265 w _ hE h266 hS => ?_)) rfl
 refine at_op (op_lit (T := 5) (l := ([(98 : Int), (99 : Int)] : List Int)) rfl rfl rfl rfl hE rfl hS rfl (by kernel_rfl) h266 (by kernel_rfl) (fun a D268 w _ le269 hE h270 hS => ?_)) rfl
 obtain ⟨r271, h272, hf⟩ := bind_some hf
 refine aC rfl rfl rfl rfl hE rfl rfl rfl rfl (log_Log_Put.calls (g := g) h272 (hS.st.fore (L := [bx b234 64 ([.pointer (some ⟨b222, 0, none⟩)] ++ ((c_T_log_at (r254.2.1)))), bx b222 72 (c_T_disk_Disk ((T_disk_Disk.mk (r254.2.2.1) (r254.2.2.2) (r218.2.2))) A258 c259), q260])) h270 (h261.mono le269) (hG0.mono (le2 (le2 (le2 (le2 le229 le246) le252) le263) le269)) (hG1.mono (le2 (le2 (le2 (le2 le229 le246) le252) le263) le269))) (fun a v w hR hE => ?_)
 obtain ⟨D273, A275, c276, q277, rfl, hS1, h278⟩ := hR
 have le280 := hS1.dle
 have hS := hS.callR hS1 rfl (.c (.c (.c .n)))
 clear hS1
 refine sN 1 5 [(6, .int .i64 (r271.1))] hE (fun a hE => ?_)
 refine at_end rfl ?_
 refine wpIn_seq ?_
 refine region_at ?_
 refine sN 1 1 [(26, .pointer (some ⟨b234, 0, none⟩))] hE (fun a hE => ?_)
 obtain ⟨r281, h282, hf⟩ := bind_some hf
 refine aC rfl rfl rfl rfl hE rfl rfl rfl rfl (log_Log_Count.calls (g := g) h282 (hS.st.fore (L := [bx b234 64 ([.pointer (some ⟨b222, 0, none⟩)] ++ ((c_T_log_at (r271.2.1)))), bx b222 72 (c_T_disk_Disk ((T_disk_Disk.mk (r271.2.2) (r254.2.2.2) (r218.2.2))) A275 c276), q277])) h278) (fun a v w hR hE => ?_)
 obtain ⟨D283, q285, rfl, hS1, h286⟩ := hR
 have le288 := hS1.dle
 have hS := hS.callR hS1 rfl (.c (.c (.c .n)))
 clear hS1
 refine sN 1 3 [(7, .int .i64 (r281))] hE (fun a hE => ?_)
 refine at_end rfl ?_
 refine wpIn_seq ?_
 refine region_at ?_
 refine sN 1 1 [(28, .pointer (some ⟨b222, 0, none⟩))] hE (fun a hE => ?_)
 have hS := hS.pk (.c 1 rfl (.c 2 rfl (.c 0 rfl (.c 3 rfl .n)))) rfl
 obtain ⟨r289, h290, hf⟩ := bind_some hf
 refine aC rfl rfl rfl rfl hE rfl rfl rfl rfl (disk_Disk_Crash.calls (g := g) h290 (hS.st.fore (L := [bx b222 72 (c_T_disk_Disk ((T_disk_Disk.mk (r271.2.2) (r254.2.2.2) (r218.2.2))) A275 c276), q285])) h286) (fun a v w hR hE => ?_)
 obtain ⟨D291, A293, c294, q295, rfl, hS1, h296⟩ := hR
 have le298 := hS1.dle
 have hS := hS.callR hS1 rfl (.c (.c .n))
 clear hS1
 refine at_end rfl ?_
 refine wpIn_seq ?_
 refine region_at ?_
 refine sN 1 1 [(31, .pointer (some ⟨b222, 0, none⟩))] hE (fun a hE => ?_)
 obtain ⟨r299, h300, hf⟩ := bind_some hf
 refine aC rfl rfl rfl rfl hE rfl rfl rfl rfl (log_Open.calls (g := g) h300 (hS.st.fore (L := [bx b222 72 (c_T_disk_Disk ((T_disk_Disk.mk (r289.1) (r289.2) (r218.2.2))) A293 c294), q295])) h296 (hG0.mono (le2 (le2 (le2 (le2 (le2 (le2 (le2 le229 le246) le252) le263) le269) le280) le288) le298)) (hG1.mono (le2 (le2 (le2 (le2 (le2 (le2 (le2 le229 le246) le252) le263) le269) le280) le288) le298))) (fun a v w hR hE => ?_)
 obtain ⟨D301, b303, A305, c306, q307, A310, c311, q312, rfl, hS1, h308, h313⟩ := hR
 have le315 := hS1.dle
 have hS := hS.callR hS1 rfl (.c (.c (.c (.c .n))))
 clear hS1
 refine sN 7 9 [(8, .pointer (some ⟨b303, 0, none⟩)), (9, .slice A305 (List.length (r299.1)) c306), (10, .int .i64 (r299.2.1))] hE (fun a hE => ?_)
 refine at_end rfl ?_
 obtain ⟨j376, hj377, hf⟩ := jn_elim hf
 refine seq_join (fun a w => ∃ (y373 : Bool), ∃ (D374 : Snap), Env a 93 [] [(0, .bool (y373))] ∧ Stp g w0 D0 [] w D374 [] ∧ Snap.le D301 D374 ∧ j376 y373 = some r) ?_ ?_
 ·clear hj377
  refine region_at ?_
  refine sN 3 3 [(38, .bool ((decide (r230.2.1 = (0 : Int)))))] hE (fun a hE => ?_)
  refine Or.elim (Bool.eq_false_or_eq_true ((decide (r230.2.1 = (0 : Int))))).symm (fun hb => ?_) (fun hb => ?_)
  ·replace hf := cond_f hb hf
   have hE := hE.know (t := 38) (b := (decide (r230.2.1 = (0 : Int)))) (b' := false) rfl hb
   clear hb
   refine sN 55 58 [(0, .bool false)] hE (fun a hE => ?_)
   refine at_end rfl ?_
   have hS := hS.pk .n rfl
   exact ⟨false, D301, hE.weak (by kernel_rfl), hS, Snap.le.refl _, hf⟩
  ·replace hf := cond_t hb hf
   have hE := hE.know (t := 38) (b := (decide (r230.2.1 = (0 : Int)))) (b' := true) rfl hb
   clear hb
   refine sN 4 7 [(42, .bool ((decide (r254.1 = (0 : Int)))))] hE (fun a hE => ?_)
   refine Or.elim (Bool.eq_false_or_eq_true ((decide (r254.1 = (0 : Int))))).symm (fun hb => ?_) (fun hb => ?_)
   ·replace hf := cond_f hb hf
    have hE := hE.know (t := 42) (b := (decide (r254.1 = (0 : Int)))) (b' := false) rfl hb
    clear hb
    refine sN 51 58 [(0, .bool false)] hE (fun a hE => ?_)
    refine at_end rfl ?_
    have hS := hS.pk .n rfl
    exact ⟨false, D301, hE.weak (by kernel_rfl), hS, Snap.le.refl _, hf⟩
   ·replace hf := cond_t hb hf
    have hE := hE.know (t := 42) (b := (decide (r254.1 = (0 : Int)))) (b' := true) rfl hb
    clear hb
    refine sN 4 11 [(46, .bool ((decide (r271.1 = (0 : Int)))))] hE (fun a hE => ?_)
    refine Or.elim (Bool.eq_false_or_eq_true ((decide (r271.1 = (0 : Int))))).symm (fun hb => ?_) (fun hb => ?_)
    ·replace hf := cond_f hb hf
     have hE := hE.know (t := 46) (b := (decide (r271.1 = (0 : Int)))) (b' := false) rfl hb
     clear hb
     refine sN 47 58 [(0, .bool false)] hE (fun a hE => ?_)
     refine at_end rfl ?_
     have hS := hS.pk .n rfl
     exact ⟨false, D301, hE.weak (by kernel_rfl), hS, Snap.le.refl _, hf⟩
    ·replace hf := cond_t hb hf
     have hE := hE.know (t := 46) (b := (decide (r271.1 = (0 : Int)))) (b' := true) rfl hb
     clear hb
     refine sN 4 15 [(50, .bool ((decide (r299.2.1 = (0 : Int)))))] hE (fun a hE => ?_)
     refine Or.elim (Bool.eq_false_or_eq_true ((decide (r299.2.1 = (0 : Int))))).symm (fun hb => ?_) (fun hb => ?_)
     ·replace hf := cond_f hb hf
      have hE := hE.know (t := 50) (b := (decide (r299.2.1 = (0 : Int)))) (b' := false) rfl hb
      clear hb
      refine sN 43 58 [(0, .bool false)] hE (fun a hE => ?_)
      refine at_end rfl ?_
      have hS := hS.pk .n rfl
      exact ⟨false, D301, hE.weak (by kernel_rfl), hS, Snap.le.refl _, hf⟩
     ·replace hf := cond_t hb hf
      have hE := hE.know (t := 50) (b := (decide (r299.2.1 = (0 : Int)))) (b' := true) rfl hb
      clear hb
      refine sN 5 20 [(55, .bool ((decide (((List.length (r230.1) : Nat) : Int) = (0 : Int)))))] hE (fun a hE => ?_)
      refine Or.elim (Bool.eq_false_or_eq_true ((decide (((List.length (r230.1) : Nat) : Int) = (0 : Int))))).symm (fun hb => ?_) (fun hb => ?_)
      ·replace hf := cond_f hb hf
       have hE := hE.know (t := 55) (b := (decide (((List.length (r230.1) : Nat) : Int) = (0 : Int)))) (b' := false) rfl hb
       clear hb
       refine sN 38 58 [(0, .bool false)] hE (fun a hE => ?_)
       refine at_end rfl ?_
       have hS := hS.pk .n rfl
       exact ⟨false, D301, hE.weak (by kernel_rfl), hS, Snap.le.refl _, hf⟩
      ·replace hf := cond_t hb hf
       have hE := hE.know (t := 55) (b := (decide (((List.length (r230.1) : Nat) : Int) = (0 : Int)))) (b' := true) rfl hb
       clear hb
       refine sN 4 24 [(59, .bool ((decide (r281 = (2 : Int)))))] hE (fun a hE => ?_)
       refine Or.elim (Bool.eq_false_or_eq_true ((decide (r281 = (2 : Int))))).symm (fun hb => ?_) (fun hb => ?_)
       ·replace hf := cond_f hb hf
        have hE := hE.know (t := 59) (b := (decide (r281 = (2 : Int)))) (b' := false) rfl hb
        clear hb
        refine sN 34 58 [(0, .bool false)] hE (fun a hE => ?_)
        refine at_end rfl ?_
        have hS := hS.pk .n rfl
        exact ⟨false, D301, hE.weak (by kernel_rfl), hS, Snap.le.refl _, hf⟩
       ·replace hf := cond_t hb hf
        have hE := hE.know (t := 59) (b := (decide (r281 = (2 : Int)))) (b' := true) rfl hb
        clear hb
        refine sN 5 29 [(64, .bool ((decide (((List.length (r299.1) : Nat) : Int) = (1 : Int)))))] hE (fun a hE => ?_)
        refine Or.elim (Bool.eq_false_or_eq_true ((decide (((List.length (r299.1) : Nat) : Int) = (1 : Int))))).symm (fun hb => ?_) (fun hb => ?_)
        ·replace hf := cond_f hb hf
         have hE := hE.know (t := 64) (b := (decide (((List.length (r299.1) : Nat) : Int) = (1 : Int)))) (b' := false) rfl hb
         clear hb
         refine sN 29 58 [(0, .bool false)] hE (fun a hE => ?_)
         refine at_end rfl ?_
         have hS := hS.pk .n rfl
         exact ⟨false, D301, hE.weak (by kernel_rfl), hS, Snap.le.refl _, hf⟩
        ·replace hf := cond_t hb hf
         have hE := hE.know (t := 64) (b := (decide (((List.length (r299.1) : Nat) : Int) = (1 : Int)))) (b' := true) rfl hb
         clear hb
         refine sN 1 30 [(65, .slice A305 (List.length (r299.1)) c306)] hE (fun a hE => ?_)
         have hS := hS.pk (.c 2 rfl (.c 0 rfl (.c 1 rfl (.c 3 rfl (.c 4 rfl (.c 5 rfl .n)))))) rfl
         obtain ⟨D378, q381, le379, hS, h382, h380⟩ := hS.lent h308
         obtain ⟨x383, h384, hf⟩ := bind_some hf
         refine at_op (op_tk hE (g_index (K := (kdSlice (kdInt .u8))) (e := 33) (by_ := 24) (zl := 1) rfl rfl rfl rfl hE rfl rfl rfl (by kernel_rfl) rfl h380 h384 (fun a b385 o386 hE h387 => ?_))) rfl
         obtain ⟨cs388, C389, T390, fr391, hr392, hb393, hc394⟩ := h387
         obtain ⟨A395, c396, rfl, h397⟩ := hr392
         refine at_op (op_tk hE (tk_loadX (off0 := o386) (off := 0) (c := [.slice A395 (List.length (x383)) c396]) (.slice A395 (List.length (x383)) c396) rfl rfl rfl rfl hE rfl hS rfl hb393 hc394 (by kernel_rfl) (by kernel_rfl) (kD hS dn_nil) (fun a hE => ?_))) rfl
         refine at_op (op_tk hE (tk_b2s rfl rfl rfl rfl hE rfl hS rfl (by kernel_rfl) h397 (kD hS dn_nil) (fun a hE => ?_))) rfl
         refine at_op (op_tk hE (tk_bin (r := .bool ((ByteArray.toList (bofL (x383)) == ByteArray.toList (⟨#[97]⟩)))) rfl rfl rfl rfl hE rfl rfl rfl (fun w => bstr_run _ _ w _ rfl (by decide)) (fun a hE => ?_))) rfl
         refine sN 2 36 [(71, .bool ((ByteArray.toList (bofL (x383)) == ByteArray.toList (⟨#[97]⟩))))] hE (fun a hE => ?_)
         refine Or.elim (Bool.eq_false_or_eq_true ((ByteArray.toList (bofL (x383)) == ByteArray.toList (⟨#[97]⟩)))).symm (fun hb => ?_) (fun hb => ?_)
         ·replace hf := cond_f hb hf
          have hE := hE.know (t := 71) (b := (ByteArray.toList (bofL (x383)) == ByteArray.toList (⟨#[97]⟩))) (b' := false) rfl hb
          clear hb
          refine sN 22 58 [(0, .bool false)] hE (fun a hE => ?_)
          refine at_end rfl ?_
          have hS := hS.pk .n rfl
          exact ⟨false, D378, hE.weak (by kernel_rfl), hS, le379, hf⟩
         ·replace hf := cond_t hb hf
          have hE := hE.know (t := 71) (b := (ByteArray.toList (bofL (x383)) == ByteArray.toList (⟨#[97]⟩))) (b' := true) rfl hb
          clear hb
          refine sN 1 37 [(72, .pointer (some ⟨b303, 0, none⟩))] hE (fun a hE => ?_)
          have hS := hS.pk (.c 2 rfl (.c 1 rfl (.c 3 rfl (.c 0 rfl (.c 4 rfl (.c 5 rfl .n)))))) rfl
          obtain ⟨r398, h399, hf⟩ := bind_some hf
          refine aC rfl rfl rfl rfl hE rfl rfl rfl rfl (log_Log_Count.calls (g := g) h399 (hS.st.fore (L := [bx b303 64 ([.pointer (some ⟨b222, 0, none⟩)] ++ ((c_T_log_at (r299.2.2.2.2)))), bx b222 72 (c_T_disk_Disk ((T_disk_Disk.mk (r299.2.2.1) (r299.2.2.2.1) (r218.2.2))) A310 c311), q312])) (h313.mono le379)) (fun a v w hR hE => ?_)
          obtain ⟨D400, q402, rfl, hS1, h403⟩ := hR
          have le405 := hS1.dle
          have hS := hS.callR hS1 rfl (.c (.c (.c .n)))
          clear hS1
          refine sN 3 41 [(76, .bool ((decide (r398 = (1 : Int)))))] hE (fun a hE => ?_)
          refine Or.elim (Bool.eq_false_or_eq_true ((decide (r398 = (1 : Int))))).symm (fun hb => ?_) (fun hb => ?_)
          ·replace hf := cond_f hb hf
           have hE := hE.know (t := 76) (b := (decide (r398 = (1 : Int)))) (b' := false) rfl hb
           clear hb
           refine sN 17 58 [(0, .bool false)] hE (fun a hE => ?_)
           refine at_end rfl ?_
           have hS := hS.pk .n rfl
           exact ⟨false, D400, hE.weak (by kernel_rfl), hS, (le2 le379 le405), hf⟩
          ·replace hf := cond_t hb hf
           have hE := hE.know (t := 76) (b := (decide (r398 = (1 : Int)))) (b' := true) rfl hb
           clear hb
           refine sN 1 42 [(77, .pointer (some ⟨b222, 0, none⟩))] hE (fun a hE => ?_)
           have hS := hS.pk (.c 1 rfl (.c 2 rfl (.c 0 rfl (.c 3 rfl (.c 4 rfl (.c 5 rfl .n)))))) rfl
           obtain ⟨r406, h407, hf⟩ := bind_some hf
           refine aC rfl rfl rfl rfl hE rfl rfl rfl rfl (disk_Disk_Bytes.calls (g := g) h407 (hS.st.fore (L := [bx b222 72 (c_T_disk_Disk ((T_disk_Disk.mk (r299.2.2.1) (r299.2.2.2.1) (r218.2.2))) A310 c311), q402])) h403) (fun a v w hR hE => ?_)
           obtain ⟨D408, A410, c411, q412, q415, rfl, hS1, h413, h416⟩ := hR
           have le418 := hS1.dle
           have hS := hS.callR hS1 rfl (.c (.c (.c .n)))
           clear hS1
           refine sN 4 47 [(82, .bool ((decide (((List.length (r406) : Nat) : Int) = (10 : Int)))))] hE (fun a hE => ?_)
           refine Or.elim (Bool.eq_false_or_eq_true ((decide (((List.length (r406) : Nat) : Int) = (10 : Int))))).symm (fun hb => ?_) (fun hb => ?_)
           ·replace hf := cond_f hb hf
            have hE := hE.know (t := 82) (b := (decide (((List.length (r406) : Nat) : Int) = (10 : Int)))) (b' := false) rfl hb
            clear hb
            refine sN 11 58 [(0, .bool false)] hE (fun a hE => ?_)
            refine at_end rfl ?_
            have hS := hS.pk .n rfl
            exact ⟨false, D408, hE.weak (by kernel_rfl), hS, (le2 (le2 le379 le405) le418), hf⟩
           ·replace hf := cond_t hb hf
            have hE := hE.know (t := 82) (b := (decide (((List.length (r406) : Nat) : Int) = (10 : Int)))) (b' := true) rfl hb
            clear hb
            refine sN 1 48 [(83, .pointer (some ⟨b303, 0, none⟩))] hE (fun a hE => ?_)
            have hS := hS.pk (.c 3 rfl (.c 0 rfl (.c 2 rfl (.c 4 rfl (.c 5 rfl (.c 6 rfl .n)))))) rfl
            obtain ⟨r419, h420, hf⟩ := bind_some hf
            refine aC rfl rfl rfl rfl hE rfl rfl rfl rfl (log_Log_Size.calls (g := g) h420 (hS.st.fore (L := [bx b303 64 ([.pointer (some ⟨b222, 0, none⟩)] ++ ((c_T_log_at (r299.2.2.2.2)))), bx b222 72 (c_T_disk_Disk ((T_disk_Disk.mk (r299.2.2.1) (r299.2.2.2.1) (r218.2.2))) A310 c311), q415])) h416) (fun a v w hR hE => ?_)
            obtain ⟨D421, q423, rfl, hS1, h424⟩ := hR
            have le426 := hS1.dle
            have hS := hS.callR hS1 rfl (.c (.c (.c .n)))
            clear hS1
            refine sN 3 52 [(87, .bool ((decide (r419 = (10 : Int)))))] hE (fun a hE => ?_)
            refine Or.elim (Bool.eq_false_or_eq_true ((decide (r419 = (10 : Int))))).symm (fun hb => ?_) (fun hb => ?_)
            ·replace hf := cond_f hb hf
             have hE := hE.know (t := 87) (b := (decide (r419 = (10 : Int)))) (b' := false) rfl hb
             clear hb
             refine sN 6 58 [(0, .bool false)] hE (fun a hE => ?_)
             refine at_end rfl ?_
             have hS := hS.pk .n rfl
             exact ⟨false, D421, hE.weak (by kernel_rfl), hS, (le2 (le2 (le2 le379 le405) le418) le426), hf⟩
            ·replace hf := cond_t hb hf
             have hE := hE.know (t := 87) (b := (decide (r419 = (10 : Int)))) (b' := true) rfl hb
             clear hb
             refine sN 1 53 [(88, .pointer (some ⟨b303, 0, none⟩))] hE (fun a hE => ?_)
             obtain ⟨r427, h428, hf⟩ := bind_some hf
             refine aC rfl rfl rfl rfl hE rfl rfl rfl rfl (log_Log_Chain.calls (g := g) h428 (hS.st.fore (L := [bx b303 64 ([.pointer (some ⟨b222, 0, none⟩)] ++ ((c_T_log_at (r299.2.2.2.2)))), bx b222 72 (c_T_disk_Disk ((T_disk_Disk.mk (r299.2.2.1) (r299.2.2.2.1) (r218.2.2))) A310 c311), q423])) h424) (fun a v w hR hE => ?_)
             obtain ⟨D429, q431, rfl, hS1, h432⟩ := hR
             have le434 := hS1.dle
             have hS := hS.callR hS1 rfl (.c (.c (.c .n)))
             clear hS1
             refine at_op (op_tk hE (tk_build (acells .u8 32 ((vofL 32 [(0 : Int), (0 : Int), (0 : Int), (0 : Int), (0 : Int), (0 : Int), (0 : Int), (0 : Int), (0 : Int), (0 : Int), (0 : Int), (0 : Int), (0 : Int), (0 : Int), (0 : Int), (0 : Int), (0 : Int), (0 : Int), (0 : Int), (0 : Int), (0 : Int), (0 : Int), (0 : Int), (0 : Int), (0 : Int), (0 : Int), (0 : Int), (0 : Int), (0 : Int), (0 : Int), (0 : Int), (0 : Int)]))) rfl rfl rfl rfl hE rfl rfl (by kernel_rfl) (fun a hE => ?_))) rfl
             refine at_op (op_tk hE (tk_bin (r := .bool ((!(decide (r427 = (vofL 32 [(0 : Int), (0 : Int), (0 : Int), (0 : Int), (0 : Int), (0 : Int), (0 : Int), (0 : Int), (0 : Int), (0 : Int), (0 : Int), (0 : Int), (0 : Int), (0 : Int), (0 : Int), (0 : Int), (0 : Int), (0 : Int), (0 : Int), (0 : Int), (0 : Int), (0 : Int), (0 : Int), (0 : Int), (0 : Int), (0 : Int), (0 : Int), (0 : Int), (0 : Int), (0 : Int), (0 : Int), (0 : Int)])))))) rfl rfl rfl rfl hE rfl rfl rfl (neagg_run (by kernel_rfl) (EqR_arr (k := .u8) (N := 32) (by kernel_rfl))) (fun a hE => ?_))) rfl
             refine sN 2 58 [(0, .bool ((!(decide (r427 = (vofL 32 [(0 : Int), (0 : Int), (0 : Int), (0 : Int), (0 : Int), (0 : Int), (0 : Int), (0 : Int), (0 : Int), (0 : Int), (0 : Int), (0 : Int), (0 : Int), (0 : Int), (0 : Int), (0 : Int), (0 : Int), (0 : Int), (0 : Int), (0 : Int), (0 : Int), (0 : Int), (0 : Int), (0 : Int), (0 : Int), (0 : Int), (0 : Int), (0 : Int), (0 : Int), (0 : Int), (0 : Int), (0 : Int)]))))))] hE (fun a hE => ?_)
             refine at_end rfl ?_
             have hS := hS.pk .n rfl
             exact ⟨(!(decide (r427 = (vofL 32 [(0 : Int), (0 : Int), (0 : Int), (0 : Int), (0 : Int), (0 : Int), (0 : Int), (0 : Int), (0 : Int), (0 : Int), (0 : Int), (0 : Int), (0 : Int), (0 : Int), (0 : Int), (0 : Int), (0 : Int), (0 : Int), (0 : Int), (0 : Int), (0 : Int), (0 : Int), (0 : Int), (0 : Int), (0 : Int), (0 : Int), (0 : Int), (0 : Int), (0 : Int), (0 : Int), (0 : Int), (0 : Int)])))), D429, hE.weak (by kernel_rfl), hS, (le2 (le2 (le2 (le2 le379 le405) le418) le426) le434), hf⟩
 ·clear hE hS
  rintro a w ⟨y373, D374, hE, hS, le375, hf⟩
  replace hf := hj377 _ hf
  clear hj377
  refine wpIn_ret ?_
  obtain rfl := Option.some.inj hf
  repeat (with_reducible first | refine then_ret ?_ | refine block_ret ?_ | refine qx_ret ?_)
  refine ret_gen ([.bool (y373)]) hE (by rw [show Tryd.f9.results.toList = [.tmp 0] from rfl]; exact ⟨_, _, rfl, rfl, rfl⟩) ?_
  exact ⟨_, rfl, D374, rfl, hS⟩
set_option maxRecDepth 100000 in
set_option maxHeartbeats 4000000 in
theorem disk_Disk_Lasts.calls {K : Nat} {g w0 : World} {D0 : Snap} {x3 : (List Int)} {x9 : Int} {x10 : Int} {b1 : Nat} {A4 : Option Addr} {c5 : Nat} {q6 : Blk} {r : (Int)} (hf : disk_Disk_Lasts.f K x3 x9 x10 = some r) (hS0 : St g w0 D0 [bx b1 72 (c_T_disk_Disk ((T_disk_Disk.mk (x3) (x9) (x10))) A4 c5), q6]) (h7 : OwnL (kdInt .u8) 5 D0 A4 c5 (x3) q6) :
  CallsIn (Fw none) 0 Tryd.prog 30 (List.toArray [.pointer (some ⟨b1, 0, none⟩)]) w0 (fun e w' => ∃ v, e = .returned v ∧ ∃ (D1 : Snap) (q11 : Blk), v = .int .i64 (r) ∧ Stp g w0 D0 [bx b1 72 (c_T_disk_Disk ((T_disk_Disk.mk (x3) (x9) (x10))) A4 c5), q6] w' D1 [bx b1 72 (c_T_disk_Disk ((T_disk_Disk.mk (x3) (x9) (x10))) A4 c5), q11] ∧ OwnL (kdInt .u8) 5 D1 A4 c5 (x3) q11) := by
 unfold disk_Disk_Lasts.f at hf
 have hS := Stp.refl hS0
 clear hS0
 refine calls_body (n := 9) Tryd.func30 rfl Tryd.ntmps30 rfl (fun a hE => ?_)
 have hE : Env a 9 [] [(0, .pointer (some ⟨b1, 0, none⟩))] := hE
 refine wpIn_seq ?_
 refine region_at ?_
 refine sN 1 1 [(2, .int .i64 ((0 : Int)))] hE (fun a hE => ?_)
 refine at_end rfl ?_
 refine wpIn_seq ?_
 refine wpIn_seq ?_
 refine region_at ?_
 refine sN 1 1 [(3, .pointer (some ⟨b1, 0, none⟩))] hE (fun a hE => ?_)
 refine at_op (op_tk hE (tk_bin (r := .bool false) rfl rfl rfl rfl hE rfl rfl rfl (eqptr_run (by kernel_rfl) _) (fun a hE => ?_))) rfl
 refine at_end rfl ?_
 refine wpIn_cond_false (hE.eval rfl) ?_
 refine wpIn_skip ?_
 refine wpIn_seq ?_
 refine region_at ?_
 refine sN 2 2 [(6, .pointer (some ⟨b1, 0, none⟩))] hE (fun a hE => ?_)
 refine aF 1 3 1 hE (fun a hE => ?_)
 refine aL 0 (.int .i64 (x9)) hE hS (fun a hE => ?_)
 refine sN 1 5 [(2, .int .i64 (x9))] hE (fun a hE => ?_)
 refine at_end rfl ?_
 refine wpIn_ret ?_
 obtain rfl := Option.some.inj hf
 repeat (with_reducible first | refine then_ret ?_ | refine block_ret ?_ | refine qx_ret ?_)
 refine ret_gen ([.int .i64 (x9)]) hE (by rw [show Tryd.f30.results.toList = [.tmp 2] from rfl]; exact ⟨_, _, rfl, rfl, rfl⟩) ?_
 exact ⟨_, rfl, D0, q6, rfl, hS, h7⟩
set_option maxRecDepth 100000 in
set_option maxHeartbeats 4000000 in
theorem inspeximuslaw09_LogSize.calls {K : Nat} {g w0 : World} {D0 : Snap} {x1 : (List (List Int))} {A2 : Option Addr} {c3 : Nat} {r : (Bool)} (hf : inspeximuslaw09_LogSize.f K x1 = some r) (hS0 : St g w0 D0 []) (h4 : Sl (kdSlice (kdInt .u8)) D0 A2 c3 (x1)) (hG0 : Cell (kdArr .u32 8) D0 0 0 gl_First) (hG1 : Cell (kdArr .u32 64) D0 1 0 gl_K) :
  CallsIn (Fw none) 0 Tryd.prog 8 (List.toArray [.slice A2 (List.length (x1)) c3]) w0 (fun e w' => ∃ v, e = .returned v ∧ ∃ (D1 : Snap), v = .bool (r) ∧ Stp g w0 D0 [] w' D1 []) := by
 unfold inspeximuslaw09_LogSize.f at hf
 have hS := Stp.refl hS0
 clear hS0
 refine calls_body (n := 87) Tryd.func8 rfl Tryd.ntmps8 rfl (fun a hE => ?_)
 have hE : Env a 87 [] [(0, .slice A2 (List.length (x1)) c3)] := hE
 refine wpIn_seq ?_
 refine region_at ?_
 refine sN 1 1 [(2, .bool false)] hE (fun a hE => ?_)
 refine at_end rfl ?_
 refine wpIn_seq ?_
 refine wpIn_seq ?_
 refine region_at ?_
 obtain ⟨r2551, h2552, hf⟩ := bind_some hf
 refine aC rfl rfl rfl rfl hE rfl rfl rfl rfl (inspeximuslaw09_alive.calls (g := g) h2552 (hS.st.fore (L := [])) hG0 hG1) (fun a v w hR hE => ?_)
 obtain ⟨D2553, rfl, hS1⟩ := hR
 have le2555 := hS1.dle
 have hS := hS.callR hS1 rfl .n
 clear hS1
 refine sN 1 2 [(11, .bool ((!r2551)))] hE (fun a hE => ?_)
 refine at_end rfl ?_
 refine cond_split hE (b := (!r2551)) rfl (fun hb => ?_) (fun hb => ?_)
 ·replace hf := cond_t hb hf
  clear hb
  refine wpIn_seq ?_
  refine region_at ?_
  refine sN 1 1 [(2, .bool false)] hE (fun a hE => ?_)
  refine at_end rfl ?_
  refine wpIn_ret ?_
  obtain rfl := Option.some.inj hf
  repeat (with_reducible first | refine then_ret ?_ | refine block_ret ?_ | refine qx_ret ?_)
  refine ret_gen ([.bool false]) hE (by rw [show Tryd.f8.results.toList = [.tmp 2] from rfl]; exact ⟨_, _, rfl, rfl, rfl⟩) ?_
  exact ⟨_, rfl, D2553, rfl, hS⟩
 ·replace hf := cond_f hb hf
  clear hb
  refine wpIn_skip ?_
  refine wpIn_seq ?_
  refine wpIn_seq ?_
  refine region_at ?_
  refine sN 3 3 [(14, .bool ((decide ((15 : Int) < ((List.length (x1) : Nat) : Int)))))] hE (fun a hE => ?_)
  refine at_end rfl ?_
  refine cond_split hE (b := (decide ((15 : Int) < ((List.length (x1) : Nat) : Int)))) rfl (fun hb => ?_) (fun hb => ?_)
  ·replace hf := cond_t hb hf
   clear hb
   refine wpIn_seq ?_
   refine region_at ?_
   refine sN 1 1 [(2, .bool true)] hE (fun a hE => ?_)
   refine at_end rfl ?_
   refine wpIn_ret ?_
   obtain rfl := Option.some.inj hf
   repeat (with_reducible first | refine then_ret ?_ | refine block_ret ?_ | refine qx_ret ?_)
   refine ret_gen ([.bool true]) hE (by rw [show Tryd.f8.results.toList = [.tmp 2] from rfl]; exact ⟨_, _, rfl, rfl, rfl⟩) ?_
   exact ⟨_, rfl, D2553, rfl, hS⟩
  ·replace hf := cond_f hb hf
   clear hb
   refine wpIn_skip ?_
   refine wpIn_seq ?_
   refine region_at ?_
   obtain ⟨r2556, h2557, hf⟩ := bind_some hf
   refine aC rfl rfl rfl rfl hE rfl rfl rfl rfl (disk_New.calls (g := g) h2557 (hS.st.fore (L := [])) ) (fun a v w hR hE => ?_)
   obtain ⟨D2558, b2560, A2562, c2563, q2564, rfl, hS1, h2565⟩ := hR
   have le2567 := hS1.dle
   have hS := hS.callR hS1 rfl (.c (.c .n))
   clear hS1
   refine sN 1 2 [(3, .pointer (some ⟨b2560, 0, none⟩))] hE (fun a hE => ?_)
   refine at_end rfl ?_
   refine wpIn_seq ?_
   refine region_at ?_
   refine sN 1 1 [(17, .pointer (some ⟨b2560, 0, none⟩))] hE (fun a hE => ?_)
   obtain ⟨r2568, h2569, hf⟩ := bind_some hf
   refine aC rfl rfl rfl rfl hE rfl rfl rfl rfl (log_Open.calls (g := g) h2569 (hS.st.fore (L := [bx b2560 72 (c_T_disk_Disk ((T_disk_Disk.mk (r2556.1) (r2556.2.1) (r2556.2.2))) A2562 c2563), q2564])) h2565 (hG0.mono (le2 le2555 le2567)) (hG1.mono (le2 le2555 le2567))) (fun a v w hR hE => ?_)
   obtain ⟨D2570, b2572, A2574, c2575, q2576, A2579, c2580, q2581, rfl, hS1, h2577, h2582⟩ := hR
   have le2584 := hS1.dle
   have hS := hS.callR hS1 rfl (.c (.c (.c (.c .n))))
   clear hS1
   refine sN 7 9 [(4, .pointer (some ⟨b2572, 0, none⟩))] hE (fun a hE => ?_)
   refine at_end rfl ?_
   refine wpIn_seq ?_
   refine region_at ?_
   refine sN 1 1 [(7, .int .i64 ((0 : Int)))] hE (fun a hE => ?_)
   refine at_end rfl ?_
   refine wpIn_seq ?_
   refine wpIn_seq ?_
   refine region_at ?_
   refine sN 1 1 [(8, .int .i64 ((0 : Int)))] hE (fun a hE => ?_)
   refine at_end rfl ?_
   obtain ⟨s4606, hf, hs4607⟩ := bind_some hf
   have hS := hS.pk (.c 0 rfl (.c 1 rfl (.c 3 rfl .n))) rfl
   refine block_loop (fun a w => ∃ (z4598 : Int × (List Int) × Int × T_log_at), ∃ (A4601 : Option Addr), ∃ (c4602 : Nat), ∃ (q4603 : Blk), ∃ (D4599 : Snap), Env a 87 [] [(3, .pointer (some ⟨b2560, 0, none⟩)), (4, .pointer (some ⟨b2572, 0, none⟩)), (7, .int .i64 (z4598.1))] ∧ Stp g w0 D0 [] w D4599 [bx b2560 72 (c_T_disk_Disk ((T_disk_Disk.mk (z4598.2.1) (z4598.2.2.1) (r2556.2.2))) A4601 c4602), bx b2572 64 ([.pointer (some ⟨b2560, 0, none⟩)] ++ ((c_T_log_at (z4598.2.2.2)))), q4603] ∧ Snap.le D2570 D4599 ∧ OwnL (kdInt .u8) 5 D4599 A4601 c4602 (z4598.2.1) q4603 ∧ (Sum.inr z4598) = s4606) (fun k a w => ∃ (y4196 : Int × Int × (List Int) × Int × T_log_at), ∃ (A4199 : Option Addr), ∃ (c4200 : Nat), ∃ (q4201 : Blk), ∃ (D4197 : Snap), Env a 87 [] [(0, .slice A2 (List.length (x1)) c3), (3, .pointer (some ⟨b2560, 0, none⟩)), (4, .pointer (some ⟨b2572, 0, none⟩)), (7, .int .i64 (y4196.1)), (8, .int .i64 (y4196.2.1))] ∧ Stp g w0 D0 [] w D4197 [bx b2560 72 (c_T_disk_Disk ((T_disk_Disk.mk (y4196.2.2.1) (y4196.2.2.2.1) (r2556.2.2))) A4199 c4200), bx b2572 64 ([.pointer (some ⟨b2560, 0, none⟩)] ++ ((c_T_log_at (y4196.2.2.2.2)))), q4201] ∧ Snap.le D2570 D4197 ∧ OwnL (kdInt .u8) 5 D4197 A4199 c4200 (y4196.2.2.1) q4201 ∧ inspeximuslaw09_LogSize_l1.l K x1 r2556 k y4196 = some s4606) K ?_ ?_ ?_
   ·exact ⟨((0 : Int), (0 : Int), r2568.2.2.1, r2568.2.2.2.1, r2568.2.2.2.2), A2579, c2580, q2581, D2570, hE.weak (by kernel_rfl), hS, Snap.le.refl _, h2582, hf⟩
   ·clear hE hS hf
    rintro a w ⟨z4598, A4601, c4602, q4603, D4599, hE, hS, le4600, h4604, rfl⟩
    have hf := hs4607
    clear hs4607
    refine wpIn_seq ?_
    refine region_at ?_
    refine sN 1 1 [(71, .pointer (some ⟨b2572, 0, none⟩))] hE (fun a hE => ?_)
    obtain ⟨l5039, h5040, hf⟩ := bind_some hf
    refine at_op (op_makeSlice (K := (kdInt .u8)) (e := 5) (bytes := 1) (z := (0 : Int)) (cz := [.int .u8 ((0 : Int))]) rfl rfl rfl rfl hE rfl hS rfl rfl (by kernel_rfl) (by kernel_rfl) rfl rfl rfl h5040 (fun a A5041 c5042 q5043 w _ hE h5044 hS => ?_)) rfl
    obtain ⟨D5046, q5049, le5047, hS, h5050, h5048⟩ := hS.lent h5044
    have hS := hS.pk (.c 2 rfl (.c 1 rfl (.c 3 rfl (.c 0 rfl .n)))) rfl
    obtain ⟨r5051, h5052, hf⟩ := bind_some hf
    refine aC rfl rfl rfl rfl hE rfl rfl rfl rfl (log_Log_Put.calls (g := g) h5052 (hS.st.fore (L := [bx b2572 64 ([.pointer (some ⟨b2560, 0, none⟩)] ++ ((c_T_log_at (z4598.2.2.2)))), bx b2560 72 (c_T_disk_Disk ((T_disk_Disk.mk (z4598.2.1) (z4598.2.2.1) (r2556.2.2))) A4601 c4602), q4603])) h5048 (h4604.mono le5047) (hG0.mono (le2 (le2 (le2 (le2 le2555 le2567) le2584) le4600) le5047)) (hG1.mono (le2 (le2 (le2 (le2 le2555 le2567) le2584) le4600) le5047))) (fun a v w hR hE => ?_)
    obtain ⟨D5053, A5055, c5056, q5057, rfl, hS1, h5058⟩ := hR
    have le5060 := hS1.dle
    have hS := hS.callR hS1 rfl (.c (.c (.c .n)))
    clear hS1
    refine sN 2 5 [(75, .bool ((decide (r5051.1 = (4 : Int)))))] hE (fun a hE => ?_)
    refine Or.elim (Bool.eq_false_or_eq_true ((decide (r5051.1 = (4 : Int))))).symm (fun hb => ?_) (fun hb => ?_)
    ·replace hf := cond_f hb hf
     have hE := hE.know (t := 75) (b := (decide (r5051.1 = (4 : Int)))) (b' := false) rfl hb
     clear hb
     refine sN 12 17 [(2, .bool false)] hE (fun a hE => ?_)
     refine at_end rfl ?_
     refine wpIn_ret ?_
     obtain rfl := Option.some.inj hf
     repeat (with_reducible first | refine then_ret ?_ | refine block_ret ?_ | refine qx_ret ?_)
     refine ret_gen ([.bool false]) hE (by rw [show Tryd.f8.results.toList = [.tmp 2] from rfl]; exact ⟨_, _, rfl, rfl, rfl⟩) ?_
     have hS := hS.pk .n rfl
     exact ⟨_, rfl, D5053, rfl, hS⟩
    ·replace hf := cond_t hb hf
     have hE := hE.know (t := 75) (b := (decide (r5051.1 = (4 : Int)))) (b' := true) rfl hb
     clear hb
     refine sN 1 6 [(76, .pointer (some ⟨b2572, 0, none⟩))] hE (fun a hE => ?_)
     have hS := hS.pk (.c 0 rfl (.c 1 rfl (.c 2 rfl .n))) rfl
     obtain ⟨r5061, h5062, hf⟩ := bind_some hf
     have hc := (log_Log_Put.calls (g := g) h5062 (hS.st.fore (L := [bx b2572 64 ([.pointer (some ⟨b2560, 0, none⟩)] ++ ((c_T_log_at (r5051.2.1)))), bx b2560 72 (c_T_disk_Disk ((T_disk_Disk.mk (r5051.2.2) (z4598.2.2.1) (r2556.2.2))) A5055 c5056), q5057])) (Sl.nil (kdInt .u8) D5053) h5058 (hG0.mono (le2 (le2 (le2 (le2 (le2 le2555 le2567) le2584) le4600) le5047) le5060)) (hG1.mono (le2 (le2 (le2 (le2 (le2 le2555 le2567) le2584) le4600) le5047) le5060)))
     refine aC rfl rfl rfl rfl hE rfl rfl rfl rfl hc (fun a v w hR hE => ?_)
     obtain ⟨D5063, A5065, c5066, q5067, rfl, hS1, h5068⟩ := hR
     have le5070 := hS1.dle
     have hS := hS.callR hS1 rfl (.c (.c (.c .n)))
     clear hS1
     refine sN 3 10 [(80, .bool ((decide (r5061.1 = (1 : Int)))))] hE (fun a hE => ?_)
     refine Or.elim (Bool.eq_false_or_eq_true ((decide (r5061.1 = (1 : Int))))).symm (fun hb => ?_) (fun hb => ?_)
     ·replace hf := cond_f hb hf
      have hE := hE.know (t := 80) (b := (decide (r5061.1 = (1 : Int)))) (b' := false) rfl hb
      clear hb
      refine sN 7 17 [(2, .bool false)] hE (fun a hE => ?_)
      refine at_end rfl ?_
      refine wpIn_ret ?_
      obtain rfl := Option.some.inj hf
      repeat (with_reducible first | refine then_ret ?_ | refine block_ret ?_ | refine qx_ret ?_)
      refine ret_gen ([.bool false]) hE (by rw [show Tryd.f8.results.toList = [.tmp 2] from rfl]; exact ⟨_, _, rfl, rfl, rfl⟩) ?_
      have hS := hS.pk .n rfl
      exact ⟨_, rfl, D5063, rfl, hS⟩
     ·replace hf := cond_t hb hf
      have hE := hE.know (t := 80) (b := (decide (r5061.1 = (1 : Int)))) (b' := true) rfl hb
      clear hb
      refine sN 1 11 [(81, .pointer (some ⟨b2560, 0, none⟩))] hE (fun a hE => ?_)
      have hS := hS.pk (.c 1 rfl (.c 2 rfl (.c 0 rfl .n))) rfl
      obtain ⟨r5071, h5072, hf⟩ := bind_some hf
      refine aC rfl rfl rfl rfl hE rfl rfl rfl rfl (disk_Disk_Bytes.calls (g := g) h5072 (hS.st.fore (L := [bx b2560 72 (c_T_disk_Disk ((T_disk_Disk.mk (r5061.2.2) (z4598.2.2.1) (r2556.2.2))) A5065 c5066), q5067])) h5068) (fun a v w hR hE => ?_)
      obtain ⟨D5073, A5075, c5076, q5077, q5080, rfl, hS1, h5078, h5081⟩ := hR
      have le5083 := hS1.dle
      have hS := hS.callR hS1 rfl (.c (.c (.c .n)))
      clear hS1
      refine sN 5 17 [(2, .bool ((decide (((List.length (r5071) : Nat) : Int) = z4598.1))))] hE (fun a hE => ?_)
      refine at_end rfl ?_
      refine wpIn_ret ?_
      obtain rfl := Option.some.inj hf
      repeat (with_reducible first | refine then_ret ?_ | refine block_ret ?_ | refine qx_ret ?_)
      refine ret_gen ([.bool ((decide (((List.length (r5071) : Nat) : Int) = z4598.1)))]) hE (by rw [show Tryd.f8.results.toList = [.tmp 2] from rfl]; exact ⟨_, _, rfl, rfl, rfl⟩) ?_
      have hS := hS.pk .n rfl
      exact ⟨_, rfl, D5073, rfl, hS⟩
   ·clear hE hS hf
    rintro k a w ⟨y4196, A4199, c4200, q4201, D4197, hE, hS, le4198, h4202, hf⟩
    obtain ⟨k, rfl, hf⟩ := inspeximuslaw09_LogSize_l1.some _ _ hf
    refine ⟨k, rfl, ?_⟩
    unfold inspeximuslaw09_LogSize_l1.b at hf
    refine wpIn_seq ?_
    refine wpIn_seq ?_
    refine region_at ?_
    refine sN 4 4 [(25, .bool ((decide (y4196.2.1 < ((List.length (x1) : Nat) : Int)))))] hE (fun a hE => ?_)
    refine at_end rfl ?_
    refine cond_split hE (b := (decide (y4196.2.1 < ((List.length (x1) : Nat) : Int)))) rfl (fun hb => ?_) (fun hb => ?_)
    ·replace hf := cond_t hb hf
     clear hb
     refine wpIn_skip ?_
     refine wpIn_seq ?_
     refine wpIn_block ?_
     refine wpIn_seq ?_
     refine wpIn_seq ?_
     refine region_at ?_
     refine sN 2 2 [(28, .slice A2 (List.length (x1)) c3), (29, .int .i64 (y4196.2.1))] hE (fun a hE => ?_)
     obtain ⟨x4816, h4817, hf⟩ := bind_some hf
     refine at_op (op_tk hE (g_index (K := (kdSlice (kdInt .u8))) (e := 33) (by_ := 24) (zl := 1) rfl rfl rfl rfl hE rfl rfl rfl (by kernel_rfl) rfl (h4.mono (le2 (le2 (le2 le2555 le2567) le2584) le4198)) h4817 (fun a b4818 o4819 hE h4820 => ?_))) rfl
     obtain ⟨cs4821, C4822, T4823, fr4824, hr4825, hb4826, hc4827⟩ := h4820
     obtain ⟨A4828, c4829, rfl, h4830⟩ := hr4825
     refine at_op (op_tk hE (tk_loadX (off0 := o4819) (off := 0) (c := [.slice A4828 (List.length (x4816)) c4829]) (.slice A4828 (List.length (x4816)) c4829) rfl rfl rfl rfl hE rfl hS rfl hb4826 hc4827 (by kernel_rfl) (by kernel_rfl) (kD hS dn_nil) (fun a hE => ?_))) rfl
     refine sN 2 6 [(33, .bool ((decide ((300 : Int) < ((List.length (x4816) : Nat) : Int)))))] hE (fun a hE => ?_)
     refine at_end rfl ?_
     refine cond_split hE (b := (decide ((300 : Int) < ((List.length (x4816) : Nat) : Int)))) rfl (fun hb => ?_) (fun hb => ?_)
     ·replace hf := cond_t hb hf
      clear hb
      refine wpIn_seq ?_
      refine region_at ?_
      refine sN 1 1 [(2, .bool true)] hE (fun a hE => ?_)
      refine at_end rfl ?_
      refine wpIn_ret ?_
      obtain rfl := Option.some.inj hf
      replace hf := hs4607
      obtain rfl := Option.some.inj hf
      repeat (with_reducible first | refine then_ret ?_ | refine block_ret ?_ | refine qx_ret ?_)
      refine ret_gen ([.bool true]) hE (by rw [show Tryd.f8.results.toList = [.tmp 2] from rfl]; exact ⟨_, _, rfl, rfl, rfl⟩) ?_
      have hS := hS.pk .n rfl
      exact ⟨_, rfl, D4197, rfl, hS⟩
     ·replace hf := cond_f hb hf
      clear hb
      refine wpIn_skip ?_
      refine wpIn_seq ?_
      refine region_at ?_
      refine sN 3 3 [(34, .pointer (some ⟨b2572, 0, none⟩)), (35, .slice A2 (List.length (x1)) c3), (36, .int .i64 (y4196.2.1))] hE (fun a hE => ?_)
      obtain ⟨x4831, h4832, hf⟩ := bind_some hf
      refine at_op (op_tk hE (g_index (K := (kdSlice (kdInt .u8))) (e := 33) (by_ := 24) (zl := 1) rfl rfl rfl rfl hE rfl rfl rfl (by kernel_rfl) rfl (h4.mono (le2 (le2 (le2 le2555 le2567) le2584) le4198)) h4832 (fun a b4833 o4834 hE h4835 => ?_))) rfl
      obtain ⟨cs4836, C4837, T4838, fr4839, hr4840, hb4841, hc4842⟩ := h4835
      obtain ⟨A4843, c4844, rfl, h4845⟩ := hr4840
      refine at_op (op_tk hE (tk_loadX (off0 := o4834) (off := 0) (c := [.slice A4843 (List.length (x4831)) c4844]) (.slice A4843 (List.length (x4831)) c4844) rfl rfl rfl rfl hE rfl hS rfl hb4841 hc4842 (by kernel_rfl) (by kernel_rfl) (kD hS dn_nil) (fun a hE => ?_))) rfl
      have hS := hS.pk (.c 1 rfl (.c 0 rfl (.c 2 rfl .n))) rfl
      obtain ⟨r4846, h4847, hf⟩ := bind_some hf
      refine aC rfl rfl rfl rfl hE rfl rfl rfl rfl (log_Log_Append.calls (g := g) h4847 (hS.st.fore (L := [bx b2572 64 ([.pointer (some ⟨b2560, 0, none⟩)] ++ ((c_T_log_at (y4196.2.2.2.2)))), bx b2560 72 (c_T_disk_Disk ((T_disk_Disk.mk (y4196.2.2.1) (y4196.2.2.2.1) (r2556.2.2))) A4199 c4200), q4201])) h4845 h4202 (hG0.mono (le2 (le2 (le2 le2555 le2567) le2584) le4198)) (hG1.mono (le2 (le2 (le2 le2555 le2567) le2584) le4198))) (fun a v w hR hE => ?_)
      obtain ⟨D4848, A4850, c4851, q4852, rfl, hS1, h4853⟩ := hR
      have le4855 := hS1.dle
      have hS := hS.callR hS1 rfl (.c (.c (.c .n)))
      clear hS1
      refine sN 1 7 [(9, .int .i64 (r4846.1))] hE (fun a hE => ?_)
      refine at_end rfl ?_
      refine wpIn_seq ?_
      refine wpIn_seq ?_
      refine region_at ?_
      refine sN 4 4 [(41, .bool ((decide (r4846.1 = (0 : Int))))), (42, .slice A2 (List.length (x1)) c3), (43, .int .i64 (y4196.2.1))] hE (fun a hE => ?_)
      obtain ⟨x4871, h4872, hf⟩ := bind_some hf
      refine at_op (op_tk hE (g_index (K := (kdSlice (kdInt .u8))) (e := 33) (by_ := 24) (zl := 1) rfl rfl rfl rfl hE rfl rfl rfl (by kernel_rfl) rfl (h4.mono (le2 (le2 (le2 (le2 le2555 le2567) le2584) le4198) le4855)) h4872 (fun a b4873 o4874 hE h4875 => ?_))) rfl
      obtain ⟨cs4876, C4877, T4878, fr4879, hr4880, hb4881, hc4882⟩ := h4875
      obtain ⟨A4883, c4884, rfl, h4885⟩ := hr4880
      refine at_op (op_tk hE (tk_loadX (off0 := o4874) (off := 0) (c := [.slice A4883 (List.length (x4871)) c4884]) (.slice A4883 (List.length (x4871)) c4884) rfl rfl rfl rfl hE rfl hS rfl hb4881 hc4882 (by kernel_rfl) (by kernel_rfl) (kD hS dn_nil) (fun a hE => ?_))) rfl
      refine sN 2 8 [(47, .bool ((decide ((0 : Int) < ((List.length (x4871) : Nat) : Int)))))] hE (fun a hE => ?_)
      refine at_op (op_tk hE (tk_bin (r := .bool ((!((decide (r4846.1 = (0 : Int))) == (decide ((0 : Int) < ((List.length (x4871) : Nat) : Int))))))) rfl rfl rfl rfl hE rfl rfl rfl (neb_run (by kernel_rfl) _ _) (fun a hE => ?_))) rfl
      refine at_end rfl ?_
      refine cond_split hE (b := (!((decide (r4846.1 = (0 : Int))) == (decide ((0 : Int) < ((List.length (x4871) : Nat) : Int)))))) rfl (fun hb => ?_) (fun hb => ?_)
      ·replace hf := cond_t hb hf
       clear hb
       refine wpIn_seq ?_
       refine region_at ?_
       refine sN 1 1 [(2, .bool false)] hE (fun a hE => ?_)
       refine at_end rfl ?_
       refine wpIn_ret ?_
       obtain rfl := Option.some.inj hf
       replace hf := hs4607
       obtain rfl := Option.some.inj hf
       repeat (with_reducible first | refine then_ret ?_ | refine block_ret ?_ | refine qx_ret ?_)
       refine ret_gen ([.bool false]) hE (by rw [show Tryd.f8.results.toList = [.tmp 2] from rfl]; exact ⟨_, _, rfl, rfl, rfl⟩) ?_
       have hS := hS.pk .n rfl
       exact ⟨_, rfl, D4848, rfl, hS⟩
      ·replace hf := cond_f hb hf
       clear hb
       refine wpIn_skip ?_
       obtain ⟨j4969, hj4970, hf⟩ := jn_elim hf
       refine seq_join (fun a w => ∃ (y4909 : Int × (List Int)), ∃ (A4912 : Option Addr), ∃ (c4913 : Nat), ∃ (q4914 : Blk), ∃ (D4910 : Snap), Env a 87 [] [(0, .slice A2 (List.length (x1)) c3), (3, .pointer (some ⟨b2560, 0, none⟩)), (4, .pointer (some ⟨b2572, 0, none⟩)), (7, .int .i64 (y4909.1)), (8, .int .i64 (y4196.2.1))] ∧ Stp g w0 D0 [] w D4910 [bx b2560 72 (c_T_disk_Disk ((T_disk_Disk.mk (y4909.2) (r4846.2.2.2) (r2556.2.2))) A4912 c4913), bx b2572 64 ([.pointer (some ⟨b2560, 0, none⟩)] ++ ((c_T_log_at (r4846.2.1)))), q4914] ∧ Snap.le D4848 D4910 ∧ OwnL (kdInt .u8) 5 D4910 A4912 c4913 (y4909.2) q4914 ∧ j4969 y4909 = some s4606) ?_ ?_
       ·clear hj4970
        refine wpIn_seq ?_
        refine region_at ?_
        refine sN 2 2 [(50, .bool ((decide (r4846.1 = (0 : Int)))))] hE (fun a hE => ?_)
        refine at_end rfl ?_
        refine cond_split hE (b := (decide (r4846.1 = (0 : Int)))) rfl (fun hb => ?_) (fun hb => ?_)
        ·replace hf := cond_t hb hf
         clear hb
         refine region_at ?_
         refine sN 4 4 [(51, .int .i64 (y4196.1)), (52, .pointer (some ⟨b2572, 0, none⟩)), (53, .slice A2 (List.length (x1)) c3), (54, .int .i64 (y4196.2.1))] hE (fun a hE => ?_)
         obtain ⟨x4971, h4972, hf⟩ := bind_some hf
         refine at_op (op_tk hE (g_index (K := (kdSlice (kdInt .u8))) (e := 33) (by_ := 24) (zl := 1) rfl rfl rfl rfl hE rfl rfl rfl (by kernel_rfl) rfl (h4.mono (le2 (le2 (le2 (le2 le2555 le2567) le2584) le4198) le4855)) h4972 (fun a b4973 o4974 hE h4975 => ?_))) rfl
         obtain ⟨cs4976, C4977, T4978, fr4979, hr4980, hb4981, hc4982⟩ := h4975
         obtain ⟨A4983, c4984, rfl, h4985⟩ := hr4980
         refine at_op (op_tk hE (tk_loadX (off0 := o4974) (off := 0) (c := [.slice A4983 (List.length (x4971)) c4984]) (.slice A4983 (List.length (x4971)) c4984) rfl rfl rfl rfl hE rfl hS rfl hb4981 hc4982 (by kernel_rfl) (by kernel_rfl) (kD hS dn_nil) (fun a hE => ?_))) rfl
         refine sN 1 7 [(57, .int .i64 (((List.length (x4971) : Nat) : Int)))] hE (fun a hE => ?_)
         obtain ⟨r4986, h4987, hf⟩ := bind_some hf
         refine aC rfl rfl rfl rfl hE rfl rfl rfl rfl (log_Log_Size.calls (g := g) h4987 (hS.st.fore (L := [bx b2572 64 ([.pointer (some ⟨b2560, 0, none⟩)] ++ ((c_T_log_at (r4846.2.1)))), bx b2560 72 (c_T_disk_Disk ((T_disk_Disk.mk (r4846.2.2.1) (r4846.2.2.2) (r2556.2.2))) A4850 c4851), q4852])) h4853) (fun a v w hR hE => ?_)
         obtain ⟨D4988, q4990, rfl, hS1, h4991⟩ := hR
         have le4993 := hS1.dle
         have hS := hS.callR hS1 rfl (.c (.c (.c .n)))
         clear hS1
         refine sN 2 10 [(7, .int .i64 ((IntKind.wrap .i64 (y4196.1 + r4986))))] hE (fun a hE => ?_)
         refine at_end rfl ?_
         have hS := hS.pk (.c 1 rfl (.c 0 rfl (.c 2 rfl .n))) rfl
         exact ⟨((IntKind.wrap .i64 (y4196.1 + r4986)), r4846.2.2.1), A4850, c4851, q4990, D4988, hE.weak (by kernel_rfl), hS, le4993, h4991, hf⟩
        ·replace hf := cond_f hb hf
         clear hb
         refine wpIn_skip ?_
         have hS := hS.pk (.c 1 rfl (.c 0 rfl (.c 2 rfl .n))) rfl
         exact ⟨(y4196.1, r4846.2.2.1), A4850, c4851, q4852, D4848, hE.weak (by kernel_rfl), hS, Snap.le.refl _, h4853, hf⟩
       ·clear hE hS
        rintro a w ⟨y4909, A4912, c4913, q4914, D4910, hE, hS, le4911, h4915, hf⟩
        replace hf := hj4970 _ hf
        clear hj4970
        obtain ⟨j4946, hj4947, hf⟩ := jn_elim hf
        refine seq_join (fun a w => ∃ (y4938 : Bool × (List Int)), ∃ (A4941 : Option Addr), ∃ (c4942 : Nat), ∃ (q4943 : Blk), ∃ (D4939 : Snap), Env a 87 [] [(0, .slice A2 (List.length (x1)) c3), (3, .pointer (some ⟨b2560, 0, none⟩)), (4, .pointer (some ⟨b2572, 0, none⟩)), (7, .int .i64 (y4909.1)), (8, .int .i64 (y4196.2.1)), (70, .bool (y4938.1))] ∧ Stp g w0 D0 [] w D4939 [bx b2560 72 (c_T_disk_Disk ((T_disk_Disk.mk (y4938.2) (r4846.2.2.2) (r2556.2.2))) A4941 c4942), bx b2572 64 ([.pointer (some ⟨b2560, 0, none⟩)] ++ ((c_T_log_at (r4846.2.1)))), q4943] ∧ Snap.le D4910 D4939 ∧ OwnL (kdInt .u8) 5 D4939 A4941 c4942 (y4938.2) q4943 ∧ j4946 y4938 = some s4606) ?_ ?_
        ·clear hj4947
         refine region_at ?_
         refine sN 1 1 [(60, .pointer (some ⟨b2560, 0, none⟩))] hE (fun a hE => ?_)
         have hS := hS.pk (.c 0 rfl (.c 2 rfl (.c 1 rfl .n))) rfl
         obtain ⟨r4948, h4949, hf⟩ := bind_some hf
         refine aC rfl rfl rfl rfl hE rfl rfl rfl rfl (disk_Disk_Bytes.calls (g := g) h4949 (hS.st.fore (L := [bx b2560 72 (c_T_disk_Disk ((T_disk_Disk.mk (y4909.2) (r4846.2.2.2) (r2556.2.2))) A4912 c4913), q4914])) h4915) (fun a v w hR hE => ?_)
         obtain ⟨D4950, A4952, c4953, q4954, q4957, rfl, hS1, h4955, h4958⟩ := hR
         have le4960 := hS1.dle
         have hS := hS.callR hS1 rfl (.c (.c (.c .n)))
         clear hS1
         refine sN 4 6 [(65, .bool ((!decide (((List.length (r4948) : Nat) : Int) = y4909.1))))] hE (fun a hE => ?_)
         refine Or.elim (Bool.eq_false_or_eq_true ((!decide (((List.length (r4948) : Nat) : Int) = y4909.1)))).symm (fun hb => ?_) (fun hb => ?_)
         ·replace hf := cond_f hb hf
          have hE := hE.know (t := 65) (b := (!decide (((List.length (r4948) : Nat) : Int) = y4909.1))) (b' := false) rfl hb
          clear hb
          refine sN 1 7 [(66, .pointer (some ⟨b2560, 0, none⟩))] hE (fun a hE => ?_)
          have hS := hS.pk (.c 0 rfl (.c 2 rfl (.c 3 rfl .n))) rfl
          obtain ⟨r4961, h4962, hf⟩ := bind_some hf
          refine aC rfl rfl rfl rfl hE rfl rfl rfl rfl (disk_Disk_Lasts.calls (g := g) h4962 (hS.st.fore (L := [bx b2560 72 (c_T_disk_Disk ((T_disk_Disk.mk (y4909.2) (r4846.2.2.2) (r2556.2.2))) A4912 c4913), q4957])) h4958) (fun a v w hR hE => ?_)
          obtain ⟨D4963, q4965, rfl, hS1, h4966⟩ := hR
          have le4968 := hS1.dle
          have hS := hS.callR hS1 rfl (.c (.c .n))
          clear hS1
          refine sN 3 11 [(70, .bool ((!decide (r4961 = y4909.1))))] hE (fun a hE => ?_)
          refine at_end rfl ?_
          have hS := hS.pk (.c 0 rfl (.c 2 rfl (.c 1 rfl .n))) rfl
          exact ⟨((!decide (r4961 = y4909.1)), y4909.2), A4912, c4913, q4965, D4963, hE.weak (by kernel_rfl), hS, (le2 le4960 le4968), h4966, hf⟩
         ·replace hf := cond_t hb hf
          have hE := hE.know (t := 65) (b := (!decide (((List.length (r4948) : Nat) : Int) = y4909.1))) (b' := true) rfl hb
          clear hb
          refine sN 5 11 [(70, .bool true)] hE (fun a hE => ?_)
          refine at_end rfl ?_
          have hS := hS.pk (.c 0 rfl (.c 3 rfl (.c 2 rfl .n))) rfl
          exact ⟨(true, y4909.2), A4912, c4913, q4957, D4950, hE.weak (by kernel_rfl), hS, le4960, h4958, hf⟩
        ·clear hE hS
         rintro a w ⟨y4938, A4941, c4942, q4943, D4939, hE, hS, le4940, h4944, hf⟩
         replace hf := hj4947 _ hf
         clear hj4947
         refine cond_split hE (b := y4938.1) rfl (fun hb => ?_) (fun hb => ?_)
         ·replace hf := cond_t hb hf
          clear hb
          refine wpIn_seq ?_
          refine region_at ?_
          refine sN 1 1 [(2, .bool false)] hE (fun a hE => ?_)
          refine at_end rfl ?_
          refine wpIn_ret ?_
          obtain rfl := Option.some.inj hf
          replace hf := hs4607
          obtain rfl := Option.some.inj hf
          repeat (with_reducible first | refine then_ret ?_ | refine block_ret ?_ | refine qx_ret ?_)
          refine ret_gen ([.bool false]) hE (by rw [show Tryd.f8.results.toList = [.tmp 2] from rfl]; exact ⟨_, _, rfl, rfl, rfl⟩) ?_
          have hS := hS.pk .n rfl
          exact ⟨_, rfl, D4939, rfl, hS⟩
         ·replace hf := cond_f hb hf
          clear hb
          refine wpIn_skip ?_
          refine region_at ?_
          refine sN 3 3 [(8, .int .i64 ((IntKind.wrap .i64 (y4196.2.1 + (1 : Int)))))] hE (fun a hE => ?_)
          refine at_end rfl ?_
          exact ⟨(y4909.1, (IntKind.wrap .i64 (y4196.2.1 + (1 : Int))), y4938.2, r4846.2.2.2, r4846.2.1), A4941, c4942, q4943, D4939, hE.weak (by kernel_rfl), hS, (le2 (le2 (le2 le4198 le4855) le4911) le4940), h4944, hf⟩
    ·replace hf := cond_f hb hf
     clear hb
     refine wpIn_exit ?_
     obtain rfl := Option.some.inj hf
     exact ⟨(y4196.1, y4196.2.2.1, y4196.2.2.2.1, y4196.2.2.2.2), A4199, c4200, q4201, D4197, hE.weak (by kernel_rfl), hS, le4198, h4202, rfl⟩
end Go.Proofs.YthnfokfankaenaaDoor
