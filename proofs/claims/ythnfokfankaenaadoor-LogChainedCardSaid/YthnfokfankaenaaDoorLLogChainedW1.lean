/-
  Proved, text by text: a call of a function of the cut comes to what its plain function computes.
  Conditions: those that each theorem names.
-/
import Derived.Test.YthnfokfankaenaaDoorProg
import Derived.Test.YthnfokfankaenaaDoorSepN
import Derived.Test.YthnfokfankaenaaDoorLLogChainedW0
set_option linter.unusedVariables false
namespace Go.Proofs.YthnfokfankaenaaDoor
open Go Go.Sep

set_option maxRecDepth 100000 in
set_option maxHeartbeats 4000000 in
theorem log_Log_Append.calls {K : Nat} {g w0 : World} {D0 : Snap} {x5 : (List Int)} {x9 : T_log_at} {x10 : (List Int)} {x16 : Int} {x17 : Int} {b1 : Nat} {b2 : Nat} {A6 : Option Addr} {c7 : Nat} {A11 : Option Addr} {c12 : Nat} {q13 : Blk} {r : (Int × T_log_at × (List Int) × Int)} (hf : log_Log_Append.f K x5 x9 x10 x16 x17 = some r) (hS0 : St g w0 D0 [bx b1 64 ([.pointer (some ⟨b2, 0, none⟩)] ++ ((c_T_log_at (x9)))), bx b2 72 (c_T_disk_Disk ((T_disk_Disk.mk (x10) (x16) (x17))) A11 c12), q13]) (h8 : Sl (kdInt .u8) D0 A6 c7 (x5)) (h14 : OwnL (kdInt .u8) 5 D0 A11 c12 (x10) q13) (hG0 : Cell (kdArr .u32 8) D0 0 0 gl_First) (hG1 : Cell (kdArr .u32 64) D0 1 0 gl_K) :
  CallsIn (Fw none) 0 Tryd.prog 17 (List.toArray [.pointer (some ⟨b1, 0, none⟩), .slice A6 (List.length (x5)) c7]) w0 (fun e w' => ∃ v, e = .returned v ∧ ∃ (D1 : Snap) (A44 : Option Addr) (c45 : Nat) (q46 : Blk), v = .int .i64 (r.1) ∧ Stp g w0 D0 [bx b1 64 ([.pointer (some ⟨b2, 0, none⟩)] ++ ((c_T_log_at (x9)))), bx b2 72 (c_T_disk_Disk ((T_disk_Disk.mk (x10) (x16) (x17))) A11 c12), q13] w' D1 [bx b1 64 ([.pointer (some ⟨b2, 0, none⟩)] ++ ((c_T_log_at ((T_log_at.mk (r.2.1.fCount) (r.2.1.fChain)))))), bx b2 72 (c_T_disk_Disk ((T_disk_Disk.mk (r.2.2.1) (r.2.2.2) (x17))) A44 c45), q46] ∧ OwnL (kdInt .u8) 5 D1 A44 c45 (r.2.2.1) q46) := by
 unfold log_Log_Append.f at hf
 have hS := Stp.refl hS0
 clear hS0
 refine calls_body (n := 17) Tryd.func17 rfl Tryd.ntmps17 rfl (fun a hE => ?_)
 have hE : Env a 17 [] [(0, .pointer (some ⟨b1, 0, none⟩)), (1, .slice A6 (List.length (x5)) c7)] := hE
 refine wpIn_seq ?_
 refine region_at ?_
 refine sN 1 1 [(4, .int .i64 ((0 : Int)))] hE (fun a hE => ?_)
 refine at_end rfl ?_
 refine wpIn_seq ?_
 refine region_at ?_
 refine sN 2 2 [(6, .pointer (some ⟨b1, 0, none⟩)), (7, .slice A6 (List.length (x5)) c7)] hE (fun a hE => ?_)
 obtain ⟨r49, h50, hf⟩ := bind_some hf
 refine aC rfl rfl rfl rfl hE rfl rfl rfl rfl (log_Log_Put.calls (g := g) h50 (hS.st.fore (L := [bx b1 64 ([.pointer (some ⟨b2, 0, none⟩)] ++ ((c_T_log_at (x9)))), bx b2 72 (c_T_disk_Disk ((T_disk_Disk.mk (x10) (x16) (x17))) A11 c12), q13])) h8 h14 hG0 hG1) (fun a v w hR hE => ?_)
 obtain ⟨D51, A53, c54, q55, rfl, hS1, h56⟩ := hR
 have le58 := hS1.dle
 have hS := hS.callR hS1 rfl (.c (.c (.c .n)))
 clear hS1
 refine sN 1 4 [(5, .int .i64 (r49.1))] hE (fun a hE => ?_)
 refine at_end rfl ?_
 refine wpIn_seq ?_
 refine wpIn_seq ?_
 refine region_at ?_
 refine sN 2 2 [(10, .bool ((decide (r49.1 = (0 : Int)))))] hE (fun a hE => ?_)
 refine at_end rfl ?_
 refine cond_split hE (b := (decide (r49.1 = (0 : Int)))) rfl (fun hb => ?_) (fun hb => ?_)
 ·replace hf := cond_t hb hf
  clear hb
  refine region_at ?_
  refine sN 2 2 [(12, .pointer (some ⟨b1, 0, none⟩))] hE (fun a hE => ?_)
  refine aF 0 30 0 hE (fun a hE => ?_)
  refine aL 0 (.pointer (some ⟨b2, 0, none⟩)) hE hS (fun a hE => ?_)
  have hS := hS.pk (.c 1 rfl (.c 2 rfl (.c 0 rfl .n))) rfl
  obtain ⟨r67, h68, hf⟩ := bind_some hf
  refine aC rfl rfl rfl rfl hE rfl rfl rfl rfl (disk_Disk_Sync.calls (g := g) h68 (hS.st.fore (L := [bx b2 72 (c_T_disk_Disk ((T_disk_Disk.mk (r49.2.2) (x16) (x17))) A53 c54), q55])) h56) (fun a v w hR hE => ?_)
  obtain ⟨D69, q71, rfl, hS1, h72⟩ := hR
  have le74 := hS1.dle
  have hS := hS.callR hS1 rfl (.c (.c .n))
  clear hS1
  refine at_end rfl ?_
  refine wpIn_seq ?_
  refine region_at ?_
  refine sN 2 2 [(4, .int .i64 (r49.1))] hE (fun a hE => ?_)
  refine at_end rfl ?_
  refine wpIn_ret ?_
  obtain rfl := Option.some.inj hf
  repeat (with_reducible first | refine then_ret ?_ | refine block_ret ?_ | refine qx_ret ?_)
  refine ret_gen ([.int .i64 (r49.1)]) hE (by rw [show Tryd.f17.results.toList = [.tmp 4] from rfl]; exact ⟨_, _, rfl, rfl, rfl⟩) ?_
  have hS := hS.pk (.c 2 rfl (.c 0 rfl (.c 1 rfl .n))) rfl
  exact ⟨_, rfl, D69, A53, c54, q71, rfl, hS, h72⟩
 ·replace hf := cond_f hb hf
  clear hb
  refine wpIn_skip ?_
  refine wpIn_seq ?_
  refine region_at ?_
  refine sN 2 2 [(4, .int .i64 (r49.1))] hE (fun a hE => ?_)
  refine at_end rfl ?_
  refine wpIn_ret ?_
  obtain rfl := Option.some.inj hf
  repeat (with_reducible first | refine then_ret ?_ | refine block_ret ?_ | refine qx_ret ?_)
  refine ret_gen ([.int .i64 (r49.1)]) hE (by rw [show Tryd.f17.results.toList = [.tmp 4] from rfl]; exact ⟨_, _, rfl, rfl, rfl⟩) ?_
  exact ⟨_, rfl, D51, A53, c54, q55, rfl, hS, h56⟩
set_option maxRecDepth 100000 in
set_option maxHeartbeats 4000000 in
theorem log_Log_Count.calls {K : Nat} {g w0 : World} {D0 : Snap} {x5 : T_log_at} {x6 : (List Int)} {x12 : Int} {x13 : Int} {b1 : Nat} {b2 : Nat} {A7 : Option Addr} {c8 : Nat} {q9 : Blk} {r : (Int)} (hf : log_Log_Count.f K x5 x6 x12 x13 = some r) (hS0 : St g w0 D0 [bx b1 64 ([.pointer (some ⟨b2, 0, none⟩)] ++ ((c_T_log_at (x5)))), bx b2 72 (c_T_disk_Disk ((T_disk_Disk.mk (x6) (x12) (x13))) A7 c8), q9]) (h10 : OwnL (kdInt .u8) 5 D0 A7 c8 (x6) q9) :
  CallsIn (Fw none) 0 Tryd.prog 21 (List.toArray [.pointer (some ⟨b1, 0, none⟩)]) w0 (fun e w' => ∃ v, e = .returned v ∧ ∃ (D1 : Snap) (q14 : Blk), v = .int .i64 (r) ∧ Stp g w0 D0 [bx b1 64 ([.pointer (some ⟨b2, 0, none⟩)] ++ ((c_T_log_at (x5)))), bx b2 72 (c_T_disk_Disk ((T_disk_Disk.mk (x6) (x12) (x13))) A7 c8), q9] w' D1 [bx b1 64 ([.pointer (some ⟨b2, 0, none⟩)] ++ ((c_T_log_at (x5)))), bx b2 72 (c_T_disk_Disk ((T_disk_Disk.mk (x6) (x12) (x13))) A7 c8), q14] ∧ OwnL (kdInt .u8) 5 D1 A7 c8 (x6) q14) := by
 unfold log_Log_Count.f at hf
 have hS := Stp.refl hS0
 clear hS0
 refine calls_body (n := 10) Tryd.func21 rfl Tryd.ntmps21 rfl (fun a hE => ?_)
 have hE : Env a 10 [] [(0, .pointer (some ⟨b1, 0, none⟩))] := hE
 refine wpIn_seq ?_
 refine region_at ?_
 refine sN 1 1 [(2, .int .i64 ((0 : Int)))] hE (fun a hE => ?_)
 refine at_end rfl ?_
 refine wpIn_seq ?_
 refine wpIn_seq ?_
 refine region_at ?_
 refine sN 1 1 [(3, .pointer (some ⟨b1, 0, none⟩))] hE (fun a hE => ?_)
 refine at_op (op_tk hE (tk_bin (r := .bool false) rfl rfl rfl rfl hE rfl rfl rfl (eqptr_run (by kernel_rfl) _) (fun a hE => ?_))) rfl
 refine at_end rfl ?_
 refine wpIn_cond_false (hE.eval rfl) ?_
 refine wpIn_skip ?_
 refine wpIn_seq ?_
 refine region_at ?_
 refine sN 2 2 [(6, .pointer (some ⟨b1, 0, none⟩))] hE (fun a hE => ?_)
 refine aF 1 62 1 hE (fun a hE => ?_)
 refine aF 0 3 1 hE (fun a hE => ?_)
 refine aL 0 (.int .i64 (x5.fCount)) hE hS (fun a hE => ?_)
 refine sN 1 6 [(2, .int .i64 (x5.fCount))] hE (fun a hE => ?_)
 refine at_end rfl ?_
 refine wpIn_ret ?_
 obtain rfl := Option.some.inj hf
 repeat (with_reducible first | refine then_ret ?_ | refine block_ret ?_ | refine qx_ret ?_)
 refine ret_gen ([.int .i64 (x5.fCount)]) hE (by rw [show Tryd.f21.results.toList = [.tmp 2] from rfl]; exact ⟨_, _, rfl, rfl, rfl⟩) ?_
 exact ⟨_, rfl, D0, q9, rfl, hS, h10⟩
set_option maxRecDepth 100000 in
set_option maxHeartbeats 4000000 in
theorem disk_Disk_Crash.calls {K : Nat} {g w0 : World} {D0 : Snap} {x3 : Int} {x4 : (List Int)} {x10 : Int} {x11 : Int} {b1 : Nat} {A5 : Option Addr} {c6 : Nat} {q7 : Blk} {r : ((List Int) × Int)} (hf : disk_Disk_Crash.f K x3 x4 x10 x11 = some r) (hS0 : St g w0 D0 [bx b1 72 (c_T_disk_Disk ((T_disk_Disk.mk (x4) (x10) (x11))) A5 c6), q7]) (h8 : OwnL (kdInt .u8) 5 D0 A5 c6 (x4) q7) :
  CallsIn (Fw none) 0 Tryd.prog 18 (List.toArray [.pointer (some ⟨b1, 0, none⟩), .int .i64 (x3)]) w0 (fun e w' => ∃ v, e = .returned v ∧ ∃ (D1 : Snap) (A32 : Option Addr) (c33 : Nat) (q34 : Blk), v = .tuple #[] ∧ Stp g w0 D0 [bx b1 72 (c_T_disk_Disk ((T_disk_Disk.mk (x4) (x10) (x11))) A5 c6), q7] w' D1 [bx b1 72 (c_T_disk_Disk ((T_disk_Disk.mk (r.1) (r.2) (x11))) A32 c33), q34] ∧ OwnL (kdInt .u8) 5 D1 A32 c33 (r.1) q34) := by
 unfold disk_Disk_Crash.f at hf
 have hS := Stp.refl hS0
 clear hS0
 refine calls_body (n := 26) Tryd.func18 rfl Tryd.ntmps18 rfl (fun a hE => ?_)
 have hE : Env a 26 [] [(0, .pointer (some ⟨b1, 0, none⟩)), (1, .int .i64 (x3))] := hE
 refine wpIn_seq ?_
 refine region_at ?_
 refine sN 1 1 [(4, .pointer (some ⟨b1, 0, none⟩))] hE (fun a hE => ?_)
 refine at_op (op_tk hE (tk_bin (r := .bool true) rfl rfl rfl rfl hE rfl rfl rfl (neptr_run (by kernel_rfl) _) (fun a hE => ?_))) rfl
 refine at_end rfl ?_
 refine wpIn_cond_true (hE.eval rfl) ?_
 refine region_draw (fun j => Keeps (mfOf [(19, [b1] ++ ids [q7])] j)) (by kernel_rfl) ?_
 have hS := hS.drew
 first | generalize w.drew = w at hS ⊢ | generalize w0.drew = w at hS ⊢
 refine wP 0 1 19 (.pointer (some ⟨b1, 0, none⟩)) hE (fun a hE => ?_)
 refine wP 1 3 18 (.pointer (some ⟨b1, 0, none⟩)) hE (fun a hE => ?_)
 refine wP 2 7 17 (.pointer (some ⟨b1, 0, none⟩)) hE (fun a hE => ?_)
 refine wP 5 39 16 (.int .i64 (x3)) hE (fun a hE => ?_)
 refine wP 6 103 15 (.pointer (some ⟨b1, 0, none⟩)) hE (fun a hE => ?_)
 refine wP 7 231 14 (.pointer (some ⟨b1, 0, none⟩)) hE (fun a hE => ?_)
 refine wP 11 2279 13 (.pointer (some ⟨b1, 0, none⟩)) hE (fun a hE => ?_)
 refine wP 12 6375 12 (.pointer (some ⟨b1, 0, none⟩)) hE (fun a hE => ?_)
 refine wF 3 6383 11 1 3 1 hE (fun a hE => ?_)
 refine tS (T := [(19, [b1] ++ ids [q7])]) [] [4, 18, 19] 4 6399 (fuel := 10) (by kernel_rfl) hE (tk_load 0 (.int .i64 (x10)) rfl rfl rfl rfl hE rfl hS rfl rfl (by kernel_rfl) (kL (j := 0) hS rfl List.not_mem_nil) (fun a hE => ?_))
 refine wF 8 6655 9 0 33 0 hE (fun a hE => ?_)
 refine tS (T := [(19, [b1] ++ ids [q7])]) [] [9, 10, 15, 16, 17, 18, 19] 9 7167 (fuel := 8) (by kernel_rfl) hE (tk_load 0 (.slice A5 (List.length (x4)) c6) rfl rfl rfl rfl hE rfl hS rfl rfl (by kernel_rfl) (kL (j := 0) hS rfl List.not_mem_nil) (fun a hE => ?_))
 refine wP 10 8191 7 (.int .i64 (((List.length (x4) : Nat) : Int))) hE (fun a hE => ?_)
 refine wF 13 16383 6 1 3 1 hE (fun a hE => ?_)
 refine tS (T := [(19, [b1] ++ ids [q7])]) [] [14, 15, 16, 17, 18, 19] 14 32767 (fuel := 5) (by kernel_rfl) hE (tk_load 0 (.int .i64 (x10)) rfl rfl rfl rfl hE rfl hS rfl rfl (by kernel_rfl) (kL (j := 0) hS rfl List.not_mem_nil) (fun a hE => ?_))
 refine wP 15 65535 4 (.int .i64 ((IntKind.wrap .i64 (((List.length (x4) : Nat) : Int) - x10)))) hE (fun a hE => ?_)
 refine wP 16 131071 3 (.int .i64 ((minI x3 (IntKind.wrap .i64 (((List.length (x4) : Nat) : Int) - x10))))) hE (fun a hE => ?_)
 refine wP 17 262143 2 (.int .i64 ((maxI (0 : Int) (minI x3 (IntKind.wrap .i64 (((List.length (x4) : Nat) : Int) - x10)))))) hE (fun a hE => ?_)
 refine wP 18 524287 1 (.int .i64 ((IntKind.wrap .i64 (x10 + (maxI (0 : Int) (minI x3 (IntKind.wrap .i64 (((List.length (x4) : Nat) : Int) - x10)))))))) hE (fun a hE => ?_)
 obtain ⟨r47, h48, hf⟩ := bind_some hf
 refine oG 19 1048575 (fuel := 0) (by kernel_rfl) (op_call rfl rfl rfl rfl hE rfl rfl rfl rfl (by kernel_rfl) (disk_Disk_leave.calls (g := g) h48 (hS.st.fore (L := [bx b1 72 (c_T_disk_Disk ((T_disk_Disk.mk (x4) (x10) (x11))) A5 c6), q7])) h8) (fun a v w hR hE => ?_))
 obtain ⟨D49, A51, c52, q53, rfl, hS1, h54⟩ := hR
 refine ⟨hS1.keeps.mono (fun _ h => h), ?_⟩
 have le56 := hS1.dle
 have hS := hS.callR hS1 rfl (.c (.c .n))
 clear hS1
 refine doneG (by kernel_rfl) ?_
 obtain rfl := Option.some.inj hf
 repeat (with_reducible first | refine then_ret ?_ | refine block_ret ?_ | refine qx_ret ?_)
 refine ret_genN ([]) hE (by rw [show Tryd.f18.results.toList = [] from rfl]; exact rfl) ?_
 exact ⟨_, rfl, D49, A51, c52, q53, rfl, hS, h54⟩
set_option maxRecDepth 100000 in
set_option maxHeartbeats 4000000 in
theorem log_Log_Size.calls {K : Nat} {g w0 : World} {D0 : Snap} {x5 : Int} {x6 : T_log_at} {x7 : (List Int)} {x13 : Int} {x14 : Int} {b1 : Nat} {b2 : Nat} {A8 : Option Addr} {c9 : Nat} {q10 : Blk} {r : (Int)} (hf : log_Log_Size.f K x5 x6 x7 x13 x14 = some r) (hS0 : St g w0 D0 [bx b1 64 ([.pointer (some ⟨b2, 0, none⟩)] ++ ((c_T_log_at (x6)))), bx b2 72 (c_T_disk_Disk ((T_disk_Disk.mk (x7) (x13) (x14))) A8 c9), q10]) (h11 : OwnL (kdInt .u8) 5 D0 A8 c9 (x7) q10) :
  CallsIn (Fw none) 0 Tryd.prog 29 (List.toArray [.pointer (some ⟨b1, 0, none⟩), .int .i64 (x5)]) w0 (fun e w' => ∃ v, e = .returned v ∧ ∃ (D1 : Snap) (q35 : Blk), v = .int .i64 (r) ∧ Stp g w0 D0 [bx b1 64 ([.pointer (some ⟨b2, 0, none⟩)] ++ ((c_T_log_at (x6)))), bx b2 72 (c_T_disk_Disk ((T_disk_Disk.mk (x7) (x13) (x14))) A8 c9), q10] w' D1 [bx b1 64 ([.pointer (some ⟨b2, 0, none⟩)] ++ ((c_T_log_at (x6)))), bx b2 72 (c_T_disk_Disk ((T_disk_Disk.mk (x7) (x13) (x14))) A8 c9), q35] ∧ OwnL (kdInt .u8) 5 D1 A8 c9 (x7) q35) := by
 unfold log_Log_Size.f at hf
 have hS := Stp.refl hS0
 clear hS0
 refine calls_body (n := 17) Tryd.func29 rfl Tryd.ntmps29 rfl (fun a hE => ?_)
 have hE : Env a 17 [] [(0, .pointer (some ⟨b1, 0, none⟩)), (1, .int .i64 (x5))] := hE
 refine wpIn_seq ?_
 refine region_at ?_
 refine sN 1 1 [(4, .int .i64 ((0 : Int)))] hE (fun a hE => ?_)
 refine at_end rfl ?_
 refine wpIn_seq ?_
 obtain ⟨j56, hj57, hf⟩ := jn_elim hf
 refine seq_join (fun a w => ∃ (y43 : Bool), ∃ (D44 : Snap), Env a 17 [] [(1, .int .i64 (x5)), (10, .bool (y43))] ∧ Stp g w0 D0 [bx b1 64 ([.pointer (some ⟨b2, 0, none⟩)] ++ ((c_T_log_at (x6)))), bx b2 72 (c_T_disk_Disk ((T_disk_Disk.mk (x7) (x13) (x14))) A8 c9), q10] w D44 [bx b1 64 ([.pointer (some ⟨b2, 0, none⟩)] ++ ((c_T_log_at (x6)))), bx b2 72 (c_T_disk_Disk ((T_disk_Disk.mk (x7) (x13) (x14))) A8 c9), q10] ∧ Snap.le D0 D44 ∧ j56 y43 = some r) ?_ ?_
 ·clear hj57
  refine region_at ?_
  refine sN 3 3 [(7, .bool ((decide (x5 < (1 : Int)))))] hE (fun a hE => ?_)
  refine Or.elim (Bool.eq_false_or_eq_true ((decide (x5 < (1 : Int))))).symm (fun hb => ?_) (fun hb => ?_)
  ·replace hf := cond_f hb hf
   have hE := hE.know (t := 7) (b := (decide (x5 < (1 : Int)))) (b' := false) rfl hb
   clear hb
   refine sN 3 6 [(10, .bool ((decide ((2000 : Int) < x5))))] hE (fun a hE => ?_)
   refine at_end rfl ?_
   exact ⟨(decide ((2000 : Int) < x5)), D0, hE.weak (by kernel_rfl), hS, Snap.le.refl _, hf⟩
  ·replace hf := cond_t hb hf
   have hE := hE.know (t := 7) (b := (decide (x5 < (1 : Int)))) (b' := true) rfl hb
   clear hb
   refine sN 3 6 [(10, .bool true)] hE (fun a hE => ?_)
   refine at_end rfl ?_
   exact ⟨true, D0, hE.weak (by kernel_rfl), hS, Snap.le.refl _, hf⟩
 ·clear hE hS
  rintro a w ⟨y43, D44, hE, hS, le45, hf⟩
  replace hf := hj57 _ hf
  clear hj57
  refine cond_split hE (b := y43) rfl (fun hb => ?_) (fun hb => ?_)
  ·replace hf := cond_t hb hf
   clear hb
   refine wpIn_seq ?_
   refine region_at ?_
   refine sN 1 1 [(4, .int .i64 ((0 : Int)))] hE (fun a hE => ?_)
   refine at_end rfl ?_
   refine wpIn_ret ?_
   obtain rfl := Option.some.inj hf
   repeat (with_reducible first | refine then_ret ?_ | refine block_ret ?_ | refine qx_ret ?_)
   refine ret_gen ([.int .i64 ((0 : Int))]) hE (by rw [show Tryd.f29.results.toList = [.tmp 4] from rfl]; exact ⟨_, _, rfl, rfl, rfl⟩) ?_
   exact ⟨_, rfl, D44, q10, rfl, hS, (h11.mono le45)⟩
  ·replace hf := cond_f hb hf
   clear hb
   refine wpIn_skip ?_
   refine wpIn_seq ?_
   refine region_at ?_
   refine sN 1 1 [(11, .int .i64 (x5))] hE (fun a hE => ?_)
   obtain ⟨r46, h47, hf⟩ := bind_some hf
   refine aC rfl rfl rfl rfl hE rfl rfl rfl rfl (wire_Num.calls (g := g) h47 (hS.st.fore (L := [])) ) (fun a v w hR hE => ?_)
   obtain ⟨D48, A50, c51, q52, rfl, hS1, h53⟩ := hR
   have le55 := hS1.dle
   have hS := hS.callR hS1 rfl (.c .n)
   clear hS1
   refine sN 5 7 [(4, .int .i64 ((IntKind.wrap .i64 ((IntKind.wrap .i64 (((List.length (r46) : Nat) : Int) + x5)) + (8 : Int)))))] hE (fun a hE => ?_)
   refine at_end rfl ?_
   refine wpIn_ret ?_
   obtain rfl := Option.some.inj hf
   repeat (with_reducible first | refine then_ret ?_ | refine block_ret ?_ | refine qx_ret ?_)
   refine ret_gen ([.int .i64 ((IntKind.wrap .i64 ((IntKind.wrap .i64 (((List.length (r46) : Nat) : Int) + x5)) + (8 : Int))))]) hE (by rw [show Tryd.f29.results.toList = [.tmp 4] from rfl]; exact ⟨_, _, rfl, rfl, rfl⟩) ?_
   have hS := hS.pk (.c 1 rfl (.c 2 rfl (.c 3 rfl .n))) rfl
   exact ⟨_, rfl, D48, q10, rfl, hS, (h11.mono (le2 le45 le55))⟩
set_option maxRecDepth 100000 in
set_option maxHeartbeats 4000000 in
theorem log_Log_Chain.calls {K : Nat} {g w0 : World} {D0 : Snap} {x5 : T_log_at} {x6 : (List Int)} {x12 : Int} {x13 : Int} {b1 : Nat} {b2 : Nat} {A7 : Option Addr} {c8 : Nat} {q9 : Blk} {r : ((Vector Int 32))} (hf : log_Log_Chain.f K x5 x6 x12 x13 = some r) (hS0 : St g w0 D0 [bx b1 64 ([.pointer (some ⟨b2, 0, none⟩)] ++ ((c_T_log_at (x5)))), bx b2 72 (c_T_disk_Disk ((T_disk_Disk.mk (x6) (x12) (x13))) A7 c8), q9]) (h10 : OwnL (kdInt .u8) 5 D0 A7 c8 (x6) q9) :
  CallsIn (Fw none) 0 Tryd.prog 22 (List.toArray [.pointer (some ⟨b1, 0, none⟩)]) w0 (fun e w' => ∃ v, e = .returned v ∧ ∃ (D1 : Snap) (q16 : Blk), v = .agg (List.toArray (acells .u8 32 (r))) ∧ Stp g w0 D0 [bx b1 64 ([.pointer (some ⟨b2, 0, none⟩)] ++ ((c_T_log_at (x5)))), bx b2 72 (c_T_disk_Disk ((T_disk_Disk.mk (x6) (x12) (x13))) A7 c8), q9] w' D1 [bx b1 64 ([.pointer (some ⟨b2, 0, none⟩)] ++ ((c_T_log_at (x5)))), bx b2 72 (c_T_disk_Disk ((T_disk_Disk.mk (x6) (x12) (x13))) A7 c8), q16] ∧ OwnL (kdInt .u8) 5 D1 A7 c8 (x6) q16) := by
 unfold log_Log_Chain.f at hf
 have hS := Stp.refl hS0
 clear hS0
 refine calls_body (n := 19) Tryd.func22 rfl Tryd.ntmps22 rfl (fun a hE => ?_)
 have hE : Env a 19 [] [(0, .pointer (some ⟨b1, 0, none⟩))] := hE
 refine wpIn_seq ?_
 refine region_at ?_
 refine at_op (op_alloc (z := .agg (List.toArray (acells .u8 32 ((Vector.replicate 32 (0 : Int)))))) rfl rfl rfl rfl hE rfl hS (by kernel_rfl) (fun a b19 w _ hE hS => ?_)) rfl
 refine at_end rfl ?_
 refine wpIn_seq ?_
 refine wpIn_seq ?_
 refine region_at ?_
 refine sN 1 1 [(3, .pointer (some ⟨b1, 0, none⟩))] hE (fun a hE => ?_)
 refine at_op (op_tk hE (tk_bin (r := .bool false) rfl rfl rfl rfl hE rfl rfl rfl (eqptr_run (by kernel_rfl) _) (fun a hE => ?_))) rfl
 refine sN 3 5 [(5, .bool false), (7, .pointer (some ⟨b1, 0, none⟩))] hE (fun a hE => ?_)
 refine aF 1 62 1 hE (fun a hE => ?_)
 refine aL 1 (.agg (List.toArray (c_T_log_at (x5)))) hE hS (fun a hE => ?_)
 refine at_op (op_tk hE (tk_build (c_T_log_at ((T_log_at.mk ((0 : Int)) ((Vector.replicate 32 (0 : Int)))))) rfl rfl rfl rfl hE rfl rfl (by kernel_rfl) (fun a hE => ?_))) rfl
 refine at_op (op_tk hE (tk_bin (r := .bool (((decide (x5.fCount = (0 : Int))) && ((decide (x5.fChain = (Vector.replicate 32 (0 : Int)))) && true)))) rfl rfl rfl rfl hE rfl rfl rfl (eqagg_run (by kernel_rfl) (EqR_struct (fs := structFs Tryd.prog 62) (by kernel_rfl) ⟨.int .i64 (x5.fCount), .int .i64 ((0 : Int)), (decide (x5.fCount = (0 : Int))), _, by kernel_rfl, by kernel_rfl, by kernel_rfl, (EqR_int (by kernel_rfl)), ⟨.agg (List.toArray (acells .u8 32 (x5.fChain))), .agg (List.toArray (acells .u8 32 ((Vector.replicate 32 (0 : Int))))), (decide (x5.fChain = (Vector.replicate 32 (0 : Int)))), _, by kernel_rfl, by kernel_rfl, by kernel_rfl, (EqR_arr (k := .u8) (N := 32) (by kernel_rfl)), rfl, rfl⟩, rfl⟩)) (fun a hE => ?_))) rfl
 refine sN 1 10 [(12, .bool (((decide (x5.fCount = (0 : Int))) && ((decide (x5.fChain = (Vector.replicate 32 (0 : Int)))) && true))))] hE (fun a hE => ?_)
 refine at_end rfl ?_
 refine cond_split hE (b := ((decide (x5.fCount = (0 : Int))) && ((decide (x5.fChain = (Vector.replicate 32 (0 : Int)))) && true))) rfl (fun hb => ?_) (fun hb => ?_)
 ·replace hf := cond_t hb hf
  clear hb
  refine wpIn_seq ?_
  refine region_at ?_
  refine at_op (op_tk hE (tk_build (acells .u8 32 ((vofL 32 [(0 : Int), (0 : Int), (0 : Int), (0 : Int), (0 : Int), (0 : Int), (0 : Int), (0 : Int), (0 : Int), (0 : Int), (0 : Int), (0 : Int), (0 : Int), (0 : Int), (0 : Int), (0 : Int), (0 : Int), (0 : Int), (0 : Int), (0 : Int), (0 : Int), (0 : Int), (0 : Int), (0 : Int), (0 : Int), (0 : Int), (0 : Int), (0 : Int), (0 : Int), (0 : Int), (0 : Int), (0 : Int)]))) rfl rfl rfl rfl hE rfl rfl (by kernel_rfl) (fun a hE => ?_))) rfl
  refine at_op (op_store (v := .agg (List.toArray (acells .u8 32 ((vofL 32 [(0 : Int), (0 : Int), (0 : Int), (0 : Int), (0 : Int), (0 : Int), (0 : Int), (0 : Int), (0 : Int), (0 : Int), (0 : Int), (0 : Int), (0 : Int), (0 : Int), (0 : Int), (0 : Int), (0 : Int), (0 : Int), (0 : Int), (0 : Int), (0 : Int), (0 : Int), (0 : Int), (0 : Int), (0 : Int), (0 : Int), (0 : Int), (0 : Int), (0 : Int), (0 : Int), (0 : Int), (0 : Int)]))))) (acells .u8 32 ((vofL 32 [(0 : Int), (0 : Int), (0 : Int), (0 : Int), (0 : Int), (0 : Int), (0 : Int), (0 : Int), (0 : Int), (0 : Int), (0 : Int), (0 : Int), (0 : Int), (0 : Int), (0 : Int), (0 : Int), (0 : Int), (0 : Int), (0 : Int), (0 : Int), (0 : Int), (0 : Int), (0 : Int), (0 : Int), (0 : Int), (0 : Int), (0 : Int), (0 : Int), (0 : Int), (0 : Int), (0 : Int), (0 : Int)]))) rfl rfl rfl rfl hE hS rfl rfl (by kernel_rfl) (by kernel_rfl) (by kernel_rfl) (by kernel_rfl) (by kernel_rfl) (fun a w _ hE hS => ?_)) rfl
  refine at_end rfl ?_
  refine wpIn_ret ?_
  obtain rfl := Option.some.inj hf
  repeat (with_reducible first | refine then_ret ?_ | refine block_ret ?_ | refine qx_ret ?_)
  refine ret_gen ([.agg (List.toArray (acells .u8 32 ((vofL 32 [(0 : Int), (0 : Int), (0 : Int), (0 : Int), (0 : Int), (0 : Int), (0 : Int), (0 : Int), (0 : Int), (0 : Int), (0 : Int), (0 : Int), (0 : Int), (0 : Int), (0 : Int), (0 : Int), (0 : Int), (0 : Int), (0 : Int), (0 : Int), (0 : Int), (0 : Int), (0 : Int), (0 : Int), (0 : Int), (0 : Int), (0 : Int), (0 : Int), (0 : Int), (0 : Int), (0 : Int), (0 : Int)]))))]) hE (by rw [show Tryd.f22.results.toList = [.cell 2 48] from rfl]; exact ⟨_, _, _, 0, _, _, rfl, rfl, hS.heapAt (j := 0) rfl, by kernel_rfl, rfl⟩) ?_
  have hS := hS.pk (.c 1 rfl (.c 2 rfl (.c 3 rfl .n))) rfl
  exact ⟨_, rfl, D0, q9, rfl, hS, h10⟩
 ·replace hf := cond_f hb hf
  clear hb
  refine wpIn_skip ?_
  refine wpIn_seq ?_
  refine region_at ?_
  refine sN 2 2 [(15, .pointer (some ⟨b1, 0, none⟩))] hE (fun a hE => ?_)
  refine aF 1 62 1 hE (fun a hE => ?_)
  refine aF 1 48 2 hE (fun a hE => ?_)
  refine aL 1 (.agg (List.toArray (acells .u8 32 (x5.fChain)))) hE hS (fun a hE => ?_)
  refine at_op (op_store (v := .agg (List.toArray (acells .u8 32 (x5.fChain)))) (acells .u8 32 (x5.fChain)) rfl rfl rfl rfl hE hS rfl rfl (by kernel_rfl) (by kernel_rfl) (by kernel_rfl) (by kernel_rfl) (by kernel_rfl) (fun a w _ hE hS => ?_)) rfl
  refine at_end rfl ?_
  refine wpIn_ret ?_
  obtain rfl := Option.some.inj hf
  repeat (with_reducible first | refine then_ret ?_ | refine block_ret ?_ | refine qx_ret ?_)
  refine ret_gen ([.agg (List.toArray (acells .u8 32 (x5.fChain)))]) hE (by rw [show Tryd.f22.results.toList = [.cell 2 48] from rfl]; exact ⟨_, _, _, 0, _, _, rfl, rfl, hS.heapAt (j := 0) rfl, by kernel_rfl, rfl⟩) ?_
  have hS := hS.pk (.c 1 rfl (.c 2 rfl (.c 3 rfl .n))) rfl
  exact ⟨_, rfl, D0, q9, rfl, hS, h10⟩
set_option maxRecDepth 100000 in
set_option maxHeartbeats 4000000 in
theorem inspeximuslaw09_alive.calls {K : Nat} {g w0 : World} {D0 : Snap} {r : (Bool)} (hf : inspeximuslaw09_alive.f K = some r) (hS0 : St g w0 D0 []) (hG0 : Cell (kdArr .u32 8) D0 0 0 gl_First) (hG1 : Cell (kdArr .u32 64) D0 1 0 gl_K) :
  CallsIn (Fw none) 0 Tryd.prog 9 (List.toArray []) w0 (fun e w' => ∃ v, e = .returned v ∧ ∃ (D1 : Snap), v = .bool (r) ∧ Stp g w0 D0 [] w' D1 []) := by
 unfold inspeximuslaw09_alive.f at hf
 have hS := Stp.refl hS0
 clear hS0
 refine calls_body (n := 93) Tryd.func9 rfl Tryd.ntmps9 rfl (fun a hE => ?_)
 have hE : Env a 93 [] [] := hE
 refine wpIn_seq ?_
 refine region_at ?_
 refine sN 1 1 [(0, .bool false)] hE (fun a hE => ?_)
 refine at_end rfl ?_
 refine wpIn_seq ?_
 refine region_at ?_
 obtain ⟨r218, h219, hf⟩ := bind_some hf
 refine aC rfl rfl rfl rfl hE rfl rfl rfl rfl (disk_New.calls (g := g) h219 (hS.st.fore (L := [])) ) (fun a v w hR hE => ?_)
 obtain ⟨D220, b222, A224, c225, q226, rfl, hS1, h227⟩ := hR
 have le229 := hS1.dle
 have hS := hS.callR hS1 rfl (.c (.c .n))
 clear hS1
 refine sN 1 2 [(1, .pointer (some ⟨b222, 0, none⟩))] hE (fun a hE => ?_)
 refine at_end rfl ?_
 refine wpIn_seq ?_
 refine region_at ?_
 refine sN 1 1 [(13, .pointer (some ⟨b222, 0, none⟩))] hE (fun a hE => ?_)
 obtain ⟨r230, h231, hf⟩ := bind_some hf
 refine aC rfl rfl rfl rfl hE rfl rfl rfl rfl (log_Open.calls (g := g) h231 (hS.st.fore (L := [bx b222 72 (c_T_disk_Disk ((T_disk_Disk.mk (r218.1) (r218.2.1) (r218.2.2))) A224 c225), q226])) h227 (hG0.mono le229) (hG1.mono le229)) (fun a v w hR hE => ?_)
 obtain ⟨D232, b234, A236, c237, q238, A241, c242, q243, rfl, hS1, h239, h244⟩ := hR
 have le246 := hS1.dle
 have hS := hS.callR hS1 rfl (.c (.c (.c (.c .n))))
 clear hS1
 refine sN 7 9 [(2, .pointer (some ⟨b234, 0, none⟩)), (3, .slice A236 (List.length (r230.1)) c237), (4, .int .i64 (r230.2.1))] hE (fun a hE => ?_)
 refine at_end rfl ?_
 refine wpIn_seq ?_
 refine region_at ?_
 refine sN 1 1 [(18, .pointer (some ⟨b234, 0, none⟩))] hE (fun a hE => ?_)
 refine at_op (op_buildSlice (K := (kdInt .u8)) (e := 5) (cs := [.int .u8 ((97 : Int))] ++ []) ([(97 : Int)] : List Int) rfl rfl rfl rfl hE rfl hS rfl (by kernel_rfl) rfl rfl (by exact (show RL (kdInt .u8) D232 ([(97 : Int)] : List Int) ([.int .u8 ((97 : Int))] ++ []) from ⟨_, _, rfl, rfl, rfl⟩)) (fun a A247 q248 w _ hE h249 hS => ?_)) rfl
 refine at_op (op_lit (T := 5) (l := ([(97 : Int)] : List Int)) rfl rfl rfl rfl hE rfl hS rfl (by kernel_rfl) h249 (by kernel_rfl) (fun a D251 w _ le252 hE h253 hS => ?_)) rfl
 have hS := hS.pk (.c 1 rfl (.c 0 rfl (.c 3 rfl (.c 2 rfl .n)))) rfl
 obtain ⟨r254, h255, hf⟩ := bind_some hf
 refine aC rfl rfl rfl rfl hE rfl rfl rfl rfl (log_Log_Append.calls (g := g) h255 (hS.st.fore (L := [bx b234 64 ([.pointer (some ⟨b222, 0, none⟩)] ++ ((c_T_log_at (r230.2.2.2.2)))), bx b222 72 (c_T_disk_Disk ((T_disk_Disk.mk (r230.2.2.1) (r230.2.2.2.1) (r218.2.2))) A241 c242), q243])) h253 (h244.mono le252) (hG0.mono (le2 (le2 le229 le246) le252)) (hG1.mono (le2 (le2 le229 le246) le252))) (fun a v w hR hE => ?_)
 obtain ⟨D256, A258, c259, q260, rfl, hS1, h261⟩ := hR
 have le263 := hS1.dle
 have hS := hS.callR hS1 rfl (.c (.c (.c .n)))
 clear hS1
 refine sN 1 5 [(5, .int .i64 (r254.1))] hE (fun a hE => ?_)
 refine at_end rfl ?_
 refine wpIn_seq ?_
 refine region_at ?_
 refine sN 1 1 [(22, .pointer (some ⟨b234, 0, none⟩))] hE (fun a hE => ?_)
 refine at_op (op_buildSlice (K := (kdInt .u8)) (e := 5) (cs := [.int .u8 ((98 : Int))] ++ ([.int .u8 ((99 : Int))] ++ [])) ([(98 : Int), (99 : Int)] : List Int) rfl rfl rfl rfl hE rfl hS rfl (by kernel_rfl) rfl rfl (by exact (show RL (kdInt .u8) D256 ([(98 : Int), (99 : Int)] : List Int) ([.int .u8 ((98 : Int))] ++ ([.int .u8 ((99 : Int))] ++ [])) from ⟨_, _, rfl, rfl, ⟨_, _, rfl, rfl, rfl⟩⟩)) (fun a A264 q265 w _ hE h266 hS => ?_)) rfl
 refine at_op (op_lit (T := 5) (l := ([(98 : Int), (99 : Int)] : List Int)) rfl rfl rfl rfl hE rfl hS rfl (by kernel_rfl) h266 (by kernel_rfl) (fun a D268 w _ le269 hE h270 hS => ?_)) rfl
 obtain ⟨r271, h272, hf⟩ := bind_some hf
 refine aC rfl rfl rfl rfl hE rfl rfl rfl rfl (log_Log_Put.calls (g := g) h272 (hS.st.fore (L := [bx b234 64 ([.pointer (some ⟨b222, 0, none⟩)] ++ ((c_T_log_at (r254.2.1)))), bx b222 72 (c_T_disk_Disk ((T_disk_Disk.mk (r254.2.2.1) (r254.2.2.2) (r218.2.2))) A258 c259), q260])) h270 (h261.mono le269) (hG0.mono (le2 (le2 (le2 (le2 le229 le246) le252) le263) le269)) (hG1.mono (le2 (le2 (le2 (le2 le229 le246) le252) le263) le269))) (fun a v w hR hE => ?_)
 obtain ⟨D273, A275, c276, q277, rfl, hS1, h278⟩ := hR
 have le280 := hS1.dle
 have hS := hS.callR hS1 rfl (.c (.c (.c .n)))
 clear hS1
 refine sN 1 5 [(6, .int .i64 (r271.1))] hE (fun a hE => ?_)
 refine at_end rfl ?_
 refine wpIn_seq ?_
 refine region_at ?_
 refine sN 1 1 [(26, .pointer (some ⟨b234, 0, none⟩))] hE (fun a hE => ?_)
 obtain ⟨r281, h282, hf⟩ := bind_some hf
 refine aC rfl rfl rfl rfl hE rfl rfl rfl rfl (log_Log_Count.calls (g := g) h282 (hS.st.fore (L := [bx b234 64 ([.pointer (some ⟨b222, 0, none⟩)] ++ ((c_T_log_at (r271.2.1)))), bx b222 72 (c_T_disk_Disk ((T_disk_Disk.mk (r271.2.2) (r254.2.2.2) (r218.2.2))) A275 c276), q277])) h278) (fun a v w hR hE => ?_)
 obtain ⟨D283, q285, rfl, hS1, h286⟩ := hR
 have le288 := hS1.dle
 have hS := hS.callR hS1 rfl (.c (.c (.c .n)))
 clear hS1
 refine sN 1 3 [(7, .int .i64 (r281))] hE (fun a hE => ?_)
 refine at_end rfl ?_
 refine wpIn_seq ?_
 refine region_at ?_
 refine sN 1 1 [(28, .pointer (some ⟨b222, 0, none⟩))] hE (fun a hE => ?_)
 have hS := hS.pk (.c 1 rfl (.c 2 rfl (.c 0 rfl (.c 3 rfl .n)))) rfl
 obtain ⟨r289, h290, hf⟩ := bind_some hf
 refine aC rfl rfl rfl rfl hE rfl rfl rfl rfl (disk_Disk_Crash.calls (g := g) h290 (hS.st.fore (L := [bx b222 72 (c_T_disk_Disk ((T_disk_Disk.mk (r271.2.2) (r254.2.2.2) (r218.2.2))) A275 c276), q285])) h286) (fun a v w hR hE => ?_)
 obtain ⟨D291, A293, c294, q295, rfl, hS1, h296⟩ := hR
 have le298 := hS1.dle
 have hS := hS.callR hS1 rfl (.c (.c .n))
 clear hS1
 refine at_end rfl ?_
 refine wpIn_seq ?_
 refine region_at ?_
 refine sN 1 1 [(31, .pointer (some ⟨b222, 0, none⟩))] hE (fun a hE => ?_)
 obtain ⟨r299, h300, hf⟩ := bind_some hf
 refine aC rfl rfl rfl rfl hE rfl rfl rfl rfl (log_Open.calls (g := g) h300 (hS.st.fore (L := [bx b222 72 (c_T_disk_Disk ((T_disk_Disk.mk (r289.1) (r289.2) (r218.2.2))) A293 c294), q295])) h296 (hG0.mono (le2 (le2 (le2 (le2 (le2 (le2 (le2 le229 le246) le252) le263) le269) le280) le288) le298)) (hG1.mono (le2 (le2 (le2 (le2 (le2 (le2 (le2 le229 le246) le252) le263) le269) le280) le288) le298))) (fun a v w hR hE => ?_)
 obtain ⟨D301, b303, A305, c306, q307, A310, c311, q312, rfl, hS1, h308, h313⟩ := hR
 have le315 := hS1.dle
 have hS := hS.callR hS1 rfl (.c (.c (.c (.c .n))))
 clear hS1
 refine sN 7 9 [(8, .pointer (some ⟨b303, 0, none⟩)), (9, .slice A305 (List.length (r299.1)) c306), (10, .int .i64 (r299.2.1))] hE (fun a hE => ?_)
 refine at_end rfl ?_
 obtain ⟨j376, hj377, hf⟩ := jn_elim hf
 refine seq_join (fun a w => ∃ (y373 : Bool), ∃ (D374 : Snap), Env a 93 [] [(0, .bool (y373))] ∧ Stp g w0 D0 [] w D374 [] ∧ Snap.le D301 D374 ∧ j376 y373 = some r) ?_ ?_
 ·clear hj377
  refine region_at ?_
  refine sN 3 3 [(38, .bool ((decide (r230.2.1 = (0 : Int)))))] hE (fun a hE => ?_)
  refine Or.elim (Bool.eq_false_or_eq_true ((decide (r230.2.1 = (0 : Int))))).symm (fun hb => ?_) (fun hb => ?_)
  ·replace hf := cond_f hb hf
   have hE := hE.know (t := 38) (b := (decide (r230.2.1 = (0 : Int)))) (b' := false) rfl hb
   clear hb
   refine sN 55 58 [(0, .bool false)] hE (fun a hE => ?_)
   refine at_end rfl ?_
   have hS := hS.pk .n rfl
   exact ⟨false, D301, hE.weak (by kernel_rfl), hS, Snap.le.refl _, hf⟩
  ·replace hf := cond_t hb hf
   have hE := hE.know (t := 38) (b := (decide (r230.2.1 = (0 : Int)))) (b' := true) rfl hb
   clear hb
   refine sN 4 7 [(42, .bool ((decide (r254.1 = (0 : Int)))))] hE (fun a hE => ?_)
   refine Or.elim (Bool.eq_false_or_eq_true ((decide (r254.1 = (0 : Int))))).symm (fun hb => ?_) (fun hb => ?_)
   ·replace hf := cond_f hb hf
    have hE := hE.know (t := 42) (b := (decide (r254.1 = (0 : Int)))) (b' := false) rfl hb
    clear hb
    refine sN 51 58 [(0, .bool false)] hE (fun a hE => ?_)
    refine at_end rfl ?_
    have hS := hS.pk .n rfl
    exact ⟨false, D301, hE.weak (by kernel_rfl), hS, Snap.le.refl _, hf⟩
   ·replace hf := cond_t hb hf
    have hE := hE.know (t := 42) (b := (decide (r254.1 = (0 : Int)))) (b' := true) rfl hb
    clear hb
    refine sN 4 11 [(46, .bool ((decide (r271.1 = (0 : Int)))))] hE (fun a hE => ?_)
    refine Or.elim (Bool.eq_false_or_eq_true ((decide (r271.1 = (0 : Int))))).symm (fun hb => ?_) (fun hb => ?_)
    ·replace hf := cond_f hb hf
     have hE := hE.know (t := 46) (b := (decide (r271.1 = (0 : Int)))) (b' := false) rfl hb
     clear hb
     refine sN 47 58 [(0, .bool false)] hE (fun a hE => ?_)
     refine at_end rfl ?_
     have hS := hS.pk .n rfl
     exact ⟨false, D301, hE.weak (by kernel_rfl), hS, Snap.le.refl _, hf⟩
    ·replace hf := cond_t hb hf
     have hE := hE.know (t := 46) (b := (decide (r271.1 = (0 : Int)))) (b' := true) rfl hb
     clear hb
     refine sN 4 15 [(50, .bool ((decide (r299.2.1 = (0 : Int)))))] hE (fun a hE => ?_)
     refine Or.elim (Bool.eq_false_or_eq_true ((decide (r299.2.1 = (0 : Int))))).symm (fun hb => ?_) (fun hb => ?_)
     ·replace hf := cond_f hb hf
      have hE := hE.know (t := 50) (b := (decide (r299.2.1 = (0 : Int)))) (b' := false) rfl hb
      clear hb
      refine sN 43 58 [(0, .bool false)] hE (fun a hE => ?_)
      refine at_end rfl ?_
      have hS := hS.pk .n rfl
      exact ⟨false, D301, hE.weak (by kernel_rfl), hS, Snap.le.refl _, hf⟩
     ·replace hf := cond_t hb hf
      have hE := hE.know (t := 50) (b := (decide (r299.2.1 = (0 : Int)))) (b' := true) rfl hb
      clear hb
      refine sN 5 20 [(55, .bool ((decide (((List.length (r230.1) : Nat) : Int) = (0 : Int)))))] hE (fun a hE => ?_)
      refine Or.elim (Bool.eq_false_or_eq_true ((decide (((List.length (r230.1) : Nat) : Int) = (0 : Int))))).symm (fun hb => ?_) (fun hb => ?_)
      ·replace hf := cond_f hb hf
       have hE := hE.know (t := 55) (b := (decide (((List.length (r230.1) : Nat) : Int) = (0 : Int)))) (b' := false) rfl hb
       clear hb
       refine sN 38 58 [(0, .bool false)] hE (fun a hE => ?_)
       refine at_end rfl ?_
       have hS := hS.pk .n rfl
       exact ⟨false, D301, hE.weak (by kernel_rfl), hS, Snap.le.refl _, hf⟩
      ·replace hf := cond_t hb hf
       have hE := hE.know (t := 55) (b := (decide (((List.length (r230.1) : Nat) : Int) = (0 : Int)))) (b' := true) rfl hb
       clear hb
       refine sN 4 24 [(59, .bool ((decide (r281 = (2 : Int)))))] hE (fun a hE => ?_)
       refine Or.elim (Bool.eq_false_or_eq_true ((decide (r281 = (2 : Int))))).symm (fun hb => ?_) (fun hb => ?_)
       ·replace hf := cond_f hb hf
        have hE := hE.know (t := 59) (b := (decide (r281 = (2 : Int)))) (b' := false) rfl hb
        clear hb
        refine sN 34 58 [(0, .bool false)] hE (fun a hE => ?_)
        refine at_end rfl ?_
        have hS := hS.pk .n rfl
        exact ⟨false, D301, hE.weak (by kernel_rfl), hS, Snap.le.refl _, hf⟩
       ·replace hf := cond_t hb hf
        have hE := hE.know (t := 59) (b := (decide (r281 = (2 : Int)))) (b' := true) rfl hb
        clear hb
        refine sN 5 29 [(64, .bool ((decide (((List.length (r299.1) : Nat) : Int) = (1 : Int)))))] hE (fun a hE => ?_)
        refine Or.elim (Bool.eq_false_or_eq_true ((decide (((List.length (r299.1) : Nat) : Int) = (1 : Int))))).symm (fun hb => ?_) (fun hb => ?_)
        ·replace hf := cond_f hb hf
         have hE := hE.know (t := 64) (b := (decide (((List.length (r299.1) : Nat) : Int) = (1 : Int)))) (b' := false) rfl hb
         clear hb
         refine sN 29 58 [(0, .bool false)] hE (fun a hE => ?_)
         refine at_end rfl ?_
         have hS := hS.pk .n rfl
         exact ⟨false, D301, hE.weak (by kernel_rfl), hS, Snap.le.refl _, hf⟩
        ·replace hf := cond_t hb hf
         have hE := hE.know (t := 64) (b := (decide (((List.length (r299.1) : Nat) : Int) = (1 : Int)))) (b' := true) rfl hb
         clear hb
         refine sN 1 30 [(65, .slice A305 (List.length (r299.1)) c306)] hE (fun a hE => ?_)
         have hS := hS.pk (.c 2 rfl (.c 0 rfl (.c 1 rfl (.c 3 rfl (.c 4 rfl (.c 5 rfl .n)))))) rfl
         obtain ⟨D378, q381, le379, hS, h382, h380⟩ := hS.lent h308
         obtain ⟨x383, h384, hf⟩ := bind_some hf
         refine at_op (op_tk hE (g_index (K := (kdSlice (kdInt .u8))) (e := 33) (by_ := 24) (zl := 1) rfl rfl rfl rfl hE rfl rfl rfl (by kernel_rfl) rfl h380 h384 (fun a b385 o386 hE h387 => ?_))) rfl
         obtain ⟨cs388, C389, T390, fr391, hr392, hb393, hc394⟩ := h387
         obtain ⟨A395, c396, rfl, h397⟩ := hr392
         refine at_op (op_tk hE (tk_loadX (off0 := o386) (off := 0) (c := [.slice A395 (List.length (x383)) c396]) (.slice A395 (List.length (x383)) c396) rfl rfl rfl rfl hE rfl hS rfl hb393 hc394 (by kernel_rfl) (by kernel_rfl) (kD hS dn_nil) (fun a hE => ?_))) rfl
         refine at_op (op_tk hE (tk_b2s rfl rfl rfl rfl hE rfl hS rfl (by kernel_rfl) h397 (kD hS dn_nil) (fun a hE => ?_))) rfl
         refine at_op (op_tk hE (tk_bin (r := .bool ((ByteArray.toList (bofL (x383)) == ByteArray.toList (⟨#[97]⟩)))) rfl rfl rfl rfl hE rfl rfl rfl (fun w => bstr_run _ _ w _ rfl (by decide)) (fun a hE => ?_))) rfl
         refine sN 2 36 [(71, .bool ((ByteArray.toList (bofL (x383)) == ByteArray.toList (⟨#[97]⟩))))] hE (fun a hE => ?_)
         refine Or.elim (Bool.eq_false_or_eq_true ((ByteArray.toList (bofL (x383)) == ByteArray.toList (⟨#[97]⟩)))).symm (fun hb => ?_) (fun hb => ?_)
         ·replace hf := cond_f hb hf
          have hE := hE.know (t := 71) (b := (ByteArray.toList (bofL (x383)) == ByteArray.toList (⟨#[97]⟩))) (b' := false) rfl hb
          clear hb
          refine sN 22 58 [(0, .bool false)] hE (fun a hE => ?_)
          refine at_end rfl ?_
          have hS := hS.pk .n rfl
          exact ⟨false, D378, hE.weak (by kernel_rfl), hS, le379, hf⟩
         ·replace hf := cond_t hb hf
          have hE := hE.know (t := 71) (b := (ByteArray.toList (bofL (x383)) == ByteArray.toList (⟨#[97]⟩))) (b' := true) rfl hb
          clear hb
          refine sN 1 37 [(72, .pointer (some ⟨b303, 0, none⟩))] hE (fun a hE => ?_)
          have hS := hS.pk (.c 2 rfl (.c 1 rfl (.c 3 rfl (.c 0 rfl (.c 4 rfl (.c 5 rfl .n)))))) rfl
          obtain ⟨r398, h399, hf⟩ := bind_some hf
          refine aC rfl rfl rfl rfl hE rfl rfl rfl rfl (log_Log_Count.calls (g := g) h399 (hS.st.fore (L := [bx b303 64 ([.pointer (some ⟨b222, 0, none⟩)] ++ ((c_T_log_at (r299.2.2.2.2)))), bx b222 72 (c_T_disk_Disk ((T_disk_Disk.mk (r299.2.2.1) (r299.2.2.2.1) (r218.2.2))) A310 c311), q312])) (h313.mono le379)) (fun a v w hR hE => ?_)
          obtain ⟨D400, q402, rfl, hS1, h403⟩ := hR
          have le405 := hS1.dle
          have hS := hS.callR hS1 rfl (.c (.c (.c .n)))
          clear hS1
          refine sN 3 41 [(76, .bool ((decide (r398 = (1 : Int)))))] hE (fun a hE => ?_)
          refine Or.elim (Bool.eq_false_or_eq_true ((decide (r398 = (1 : Int))))).symm (fun hb => ?_) (fun hb => ?_)
          ·replace hf := cond_f hb hf
           have hE := hE.know (t := 76) (b := (decide (r398 = (1 : Int)))) (b' := false) rfl hb
           clear hb
           refine sN 17 58 [(0, .bool false)] hE (fun a hE => ?_)
           refine at_end rfl ?_
           have hS := hS.pk .n rfl
           exact ⟨false, D400, hE.weak (by kernel_rfl), hS, (le2 le379 le405), hf⟩
          ·replace hf := cond_t hb hf
           have hE := hE.know (t := 76) (b := (decide (r398 = (1 : Int)))) (b' := true) rfl hb
           clear hb
           refine sN 1 42 [(77, .pointer (some ⟨b222, 0, none⟩))] hE (fun a hE => ?_)
           have hS := hS.pk (.c 1 rfl (.c 2 rfl (.c 0 rfl (.c 3 rfl (.c 4 rfl (.c 5 rfl .n)))))) rfl
           obtain ⟨r406, h407, hf⟩ := bind_some hf
           refine aC rfl rfl rfl rfl hE rfl rfl rfl rfl (disk_Disk_Bytes.calls (g := g) h407 (hS.st.fore (L := [bx b222 72 (c_T_disk_Disk ((T_disk_Disk.mk (r299.2.2.1) (r299.2.2.2.1) (r218.2.2))) A310 c311), q402])) h403) (fun a v w hR hE => ?_)
           obtain ⟨D408, A410, c411, q412, q415, rfl, hS1, h413, h416⟩ := hR
           have le418 := hS1.dle
           have hS := hS.callR hS1 rfl (.c (.c (.c .n)))
           clear hS1
           refine sN 4 47 [(82, .bool ((decide (((List.length (r406) : Nat) : Int) = (10 : Int)))))] hE (fun a hE => ?_)
           refine Or.elim (Bool.eq_false_or_eq_true ((decide (((List.length (r406) : Nat) : Int) = (10 : Int))))).symm (fun hb => ?_) (fun hb => ?_)
           ·replace hf := cond_f hb hf
            have hE := hE.know (t := 82) (b := (decide (((List.length (r406) : Nat) : Int) = (10 : Int)))) (b' := false) rfl hb
            clear hb
            refine sN 11 58 [(0, .bool false)] hE (fun a hE => ?_)
            refine at_end rfl ?_
            have hS := hS.pk .n rfl
            exact ⟨false, D408, hE.weak (by kernel_rfl), hS, (le2 (le2 le379 le405) le418), hf⟩
           ·replace hf := cond_t hb hf
            have hE := hE.know (t := 82) (b := (decide (((List.length (r406) : Nat) : Int) = (10 : Int)))) (b' := true) rfl hb
            clear hb
            refine sN 1 48 [(83, .pointer (some ⟨b303, 0, none⟩))] hE (fun a hE => ?_)
            have hS := hS.pk (.c 3 rfl (.c 0 rfl (.c 2 rfl (.c 4 rfl (.c 5 rfl (.c 6 rfl .n)))))) rfl
            obtain ⟨r419, h420, hf⟩ := bind_some hf
            refine aC rfl rfl rfl rfl hE rfl rfl rfl rfl (log_Log_Size.calls (g := g) h420 (hS.st.fore (L := [bx b303 64 ([.pointer (some ⟨b222, 0, none⟩)] ++ ((c_T_log_at (r299.2.2.2.2)))), bx b222 72 (c_T_disk_Disk ((T_disk_Disk.mk (r299.2.2.1) (r299.2.2.2.1) (r218.2.2))) A310 c311), q415])) h416) (fun a v w hR hE => ?_)
            obtain ⟨D421, q423, rfl, hS1, h424⟩ := hR
            have le426 := hS1.dle
            have hS := hS.callR hS1 rfl (.c (.c (.c .n)))
            clear hS1
            refine sN 3 52 [(87, .bool ((decide (r419 = (10 : Int)))))] hE (fun a hE => ?_)
            refine Or.elim (Bool.eq_false_or_eq_true ((decide (r419 = (10 : Int))))).symm (fun hb => ?_) (fun hb => ?_)
            ·replace hf := cond_f hb hf
             have hE := hE.know (t := 87) (b := (decide (r419 = (10 : Int)))) (b' := false) rfl hb
             clear hb
             refine sN 6 58 [(0, .bool false)] hE (fun a hE => ?_)
             refine at_end rfl ?_
             have hS := hS.pk .n rfl
             exact ⟨false, D421, hE.weak (by kernel_rfl), hS, (le2 (le2 (le2 le379 le405) le418) le426), hf⟩
            ·replace hf := cond_t hb hf
             have hE := hE.know (t := 87) (b := (decide (r419 = (10 : Int)))) (b' := true) rfl hb
             clear hb
             refine sN 1 53 [(88, .pointer (some ⟨b303, 0, none⟩))] hE (fun a hE => ?_)
             obtain ⟨r427, h428, hf⟩ := bind_some hf
             refine aC rfl rfl rfl rfl hE rfl rfl rfl rfl (log_Log_Chain.calls (g := g) h428 (hS.st.fore (L := [bx b303 64 ([.pointer (some ⟨b222, 0, none⟩)] ++ ((c_T_log_at (r299.2.2.2.2)))), bx b222 72 (c_T_disk_Disk ((T_disk_Disk.mk (r299.2.2.1) (r299.2.2.2.1) (r218.2.2))) A310 c311), q423])) h424) (fun a v w hR hE => ?_)
             obtain ⟨D429, q431, rfl, hS1, h432⟩ := hR
             have le434 := hS1.dle
             have hS := hS.callR hS1 rfl (.c (.c (.c .n)))
             clear hS1
             refine at_op (op_tk hE (tk_build (acells .u8 32 ((vofL 32 [(0 : Int), (0 : Int), (0 : Int), (0 : Int), (0 : Int), (0 : Int), (0 : Int), (0 : Int), (0 : Int), (0 : Int), (0 : Int), (0 : Int), (0 : Int), (0 : Int), (0 : Int), (0 : Int), (0 : Int), (0 : Int), (0 : Int), (0 : Int), (0 : Int), (0 : Int), (0 : Int), (0 : Int), (0 : Int), (0 : Int), (0 : Int), (0 : Int), (0 : Int), (0 : Int), (0 : Int), (0 : Int)]))) rfl rfl rfl rfl hE rfl rfl (by kernel_rfl) (fun a hE => ?_))) rfl
             refine at_op (op_tk hE (tk_bin (r := .bool ((!(decide (r427 = (vofL 32 [(0 : Int), (0 : Int), (0 : Int), (0 : Int), (0 : Int), (0 : Int), (0 : Int), (0 : Int), (0 : Int), (0 : Int), (0 : Int), (0 : Int), (0 : Int), (0 : Int), (0 : Int), (0 : Int), (0 : Int), (0 : Int), (0 : Int), (0 : Int), (0 : Int), (0 : Int), (0 : Int), (0 : Int), (0 : Int), (0 : Int), (0 : Int), (0 : Int), (0 : Int), (0 : Int), (0 : Int), (0 : Int)])))))) rfl rfl rfl rfl hE rfl rfl rfl (neagg_run (by kernel_rfl) (EqR_arr (k := .u8) (N := 32) (by kernel_rfl))) (fun a hE => ?_))) rfl
             refine sN 2 58 [(0, .bool ((!(decide (r427 = (vofL 32 [(0 : Int), (0 : Int), (0 : Int), (0 : Int), (0 : Int), (0 : Int), (0 : Int), (0 : Int), (0 : Int), (0 : Int), (0 : Int), (0 : Int), (0 : Int), (0 : Int), (0 : Int), (0 : Int), (0 : Int), (0 : Int), (0 : Int), (0 : Int), (0 : Int), (0 : Int), (0 : Int), (0 : Int), (0 : Int), (0 : Int), (0 : Int), (0 : Int), (0 : Int), (0 : Int), (0 : Int), (0 : Int)]))))))] hE (fun a hE => ?_)
             refine at_end rfl ?_
             have hS := hS.pk .n rfl
             exact ⟨(!(decide (r427 = (vofL 32 [(0 : Int), (0 : Int), (0 : Int), (0 : Int), (0 : Int), (0 : Int), (0 : Int), (0 : Int), (0 : Int), (0 : Int), (0 : Int), (0 : Int), (0 : Int), (0 : Int), (0 : Int), (0 : Int), (0 : Int), (0 : Int), (0 : Int), (0 : Int), (0 : Int), (0 : Int), (0 : Int), (0 : Int), (0 : Int), (0 : Int), (0 : Int), (0 : Int), (0 : Int), (0 : Int), (0 : Int), (0 : Int)])))), D429, hE.weak (by kernel_rfl), hS, (le2 (le2 (le2 (le2 le379 le405) le418) le426) le434), hf⟩
 ·clear hE hS
  rintro a w ⟨y373, D374, hE, hS, le375, hf⟩
  replace hf := hj377 _ hf
  clear hj377
  refine wpIn_ret ?_
  obtain rfl := Option.some.inj hf
  repeat (with_reducible first | refine then_ret ?_ | refine block_ret ?_ | refine qx_ret ?_)
  refine ret_gen ([.bool (y373)]) hE (by rw [show Tryd.f9.results.toList = [.tmp 0] from rfl]; exact ⟨_, _, rfl, rfl, rfl⟩) ?_
  exact ⟨_, rfl, D374, rfl, hS⟩
set_option maxRecDepth 100000 in
set_option maxHeartbeats 4000000 in
theorem inspeximusref01_Bytes.calls {K : Nat} {g w0 : World} {D0 : Snap} {x1 : (List Int)} {x5 : (List Int)} {A2 : Option Addr} {c3 : Nat} {A6 : Option Addr} {c7 : Nat} {r : (Bool)} (hf : inspeximusref01_Bytes.f K x1 x5 = some r) (hS0 : St g w0 D0 []) (h4 : Sl (kdInt .u8) D0 A2 c3 (x1)) (h8 : Sl (kdInt .u8) D0 A6 c7 (x5)) :
  CallsIn (Fw none) 0 Tryd.prog 24 (List.toArray [.slice A2 (List.length (x1)) c3, .slice A6 (List.length (x5)) c7]) w0 (fun e w' => ∃ v, e = .returned v ∧ ∃ (D1 : Snap), v = .bool (r) ∧ Stp g w0 D0 [] w' D1 []) := by
 unfold inspeximusref01_Bytes.f at hf
 have hS := Stp.refl hS0
 clear hS0
 refine calls_body (n := 26) Tryd.func24 rfl Tryd.ntmps24 rfl (fun a hE => ?_)
 have hE : Env a 26 [] [(0, .slice A2 (List.length (x1)) c3), (1, .slice A6 (List.length (x5)) c7)] := hE
 refine wpIn_seq ?_
 refine region_at ?_
 refine sN 1 1 [(4, .bool false)] hE (fun a hE => ?_)
 refine at_end rfl ?_
 refine wpIn_seq ?_
 refine wpIn_seq ?_
 refine region_at ?_
 refine sN 5 5 [(10, .bool ((!decide (((List.length (x1) : Nat) : Int) = ((List.length (x5) : Nat) : Int)))))] hE (fun a hE => ?_)
 refine at_end rfl ?_
 refine cond_split hE (b := (!decide (((List.length (x1) : Nat) : Int) = ((List.length (x5) : Nat) : Int)))) rfl (fun hb => ?_) (fun hb => ?_)
 ·replace hf := cond_t hb hf
  clear hb
  refine wpIn_seq ?_
  refine region_at ?_
  refine sN 1 1 [(4, .bool false)] hE (fun a hE => ?_)
  refine at_end rfl ?_
  refine wpIn_ret ?_
  obtain rfl := Option.some.inj hf
  repeat (with_reducible first | refine then_ret ?_ | refine block_ret ?_ | refine qx_ret ?_)
  refine ret_gen ([.bool false]) hE (by rw [show Tryd.f24.results.toList = [.tmp 4] from rfl]; exact ⟨_, _, rfl, rfl, rfl⟩) ?_
  exact ⟨_, rfl, D0, rfl, hS⟩
 ·replace hf := cond_f hb hf
  clear hb
  refine wpIn_skip ?_
  refine wpIn_seq ?_
  refine wpIn_seq ?_
  refine region_at ?_
  refine sN 1 1 [(5, .int .i64 ((0 : Int)))] hE (fun a hE => ?_)
  refine at_end rfl ?_
  obtain ⟨s1152, hf, hs1153⟩ := bind_some hf
  refine block_loop (fun a w => ∃ (z1149 : Unit), ∃ (D1150 : Snap), Env a 26 [] [] ∧ Stp g w0 D0 [] w D1150 [] ∧ Snap.le D0 D1150 ∧ (Sum.inr z1149) = s1152) (fun k a w => ∃ (y1047 : Int), ∃ (D1048 : Snap), Env a 26 [] [(0, .slice A2 (List.length (x1)) c3), (1, .slice A6 (List.length (x5)) c7), (5, .int .i64 (y1047))] ∧ Stp g w0 D0 [] w D1048 [] ∧ Snap.le D0 D1048 ∧ inspeximusref01_Bytes_l1.l K x1 x5 k y1047 = some s1152) K ?_ ?_ ?_
  ·exact ⟨(0 : Int), D0, hE.weak (by kernel_rfl), hS, Snap.le.refl _, hf⟩
  ·clear hE hS hf
   rintro a w ⟨z1149, D1150, hE, hS, le1151, rfl⟩
   have hf := hs1153
   clear hs1153
   refine wpIn_seq ?_
   refine region_at ?_
   refine sN 1 1 [(4, .bool true)] hE (fun a hE => ?_)
   refine at_end rfl ?_
   refine wpIn_ret ?_
   obtain rfl := Option.some.inj hf
   repeat (with_reducible first | refine then_ret ?_ | refine block_ret ?_ | refine qx_ret ?_)
   refine ret_gen ([.bool true]) hE (by rw [show Tryd.f24.results.toList = [.tmp 4] from rfl]; exact ⟨_, _, rfl, rfl, rfl⟩) ?_
   exact ⟨_, rfl, D1150, rfl, hS⟩
  ·clear hE hS hf
   rintro k a w ⟨y1047, D1048, hE, hS, le1049, hf⟩
   obtain ⟨k, rfl, hf⟩ := inspeximusref01_Bytes_l1.some _ _ hf
   refine ⟨k, rfl, ?_⟩
   unfold inspeximusref01_Bytes_l1.b at hf
   refine wpIn_seq ?_
   refine wpIn_seq ?_
   refine region_at ?_
   refine sN 4 4 [(14, .bool ((decide (y1047 < ((List.length (x1) : Nat) : Int)))))] hE (fun a hE => ?_)
   refine at_end rfl ?_
   refine cond_split hE (b := (decide (y1047 < ((List.length (x1) : Nat) : Int)))) rfl (fun hb => ?_) (fun hb => ?_)
   ·replace hf := cond_t hb hf
    clear hb
    refine wpIn_skip ?_
    refine wpIn_seq ?_
    refine wpIn_block ?_
    refine wpIn_seq ?_
    refine region_draw (fun j => Keeps (mfOf [] j)) (by kernel_rfl) ?_
    have hS := hS.drew
    first | generalize w.drew = w at hS ⊢ | generalize w0.drew = w at hS ⊢
    refine wP 0 1 8 (.slice A2 (List.length (x1)) c3) hE (fun a hE => ?_)
    refine wP 1 3 7 (.int .i64 (y1047)) hE (fun a hE => ?_)
    refine wP 4 19 6 (.slice A6 (List.length (x5)) c7) hE (fun a hE => ?_)
    refine wP 5 51 5 (.int .i64 (y1047)) hE (fun a hE => ?_)
    obtain ⟨x1226, h1227, hf⟩ := bind_some hf
    refine tW 2 55 (fuel := 4) (by kernel_rfl) hE (fun M => g_index (K := (kdInt .u8)) (e := 5) (by_ := 1) (zl := 1) rfl rfl rfl rfl hE rfl rfl rfl (by kernel_rfl) rfl (h4.mono le1049) h1227 (fun a b1228 o1229 hE h1230 => ?_))
    obtain ⟨cs1231, C1232, T1233, fr1234, hr1235, hb1236, hc1237⟩ := h1230
    obtain rfl := hr1235
    refine tT 3 63 (fuel := 3) (by kernel_rfl) hE (tk_loadX (off0 := o1229) (off := 0) (c := [.int .u8 (x1226)]) (.int .u8 (x1226)) rfl rfl rfl rfl hE rfl hS rfl hb1236 hc1237 (by kernel_rfl) (by kernel_rfl) (kD hS dn_nil) (fun a hE => ?_))
    obtain ⟨x1238, h1239, hf⟩ := bind_some hf
    refine tW 6 127 (fuel := 2) (by kernel_rfl) hE (fun M => g_index (K := (kdInt .u8)) (e := 5) (by_ := 1) (zl := 1) rfl rfl rfl rfl hE rfl rfl rfl (by kernel_rfl) rfl (h8.mono le1049) h1239 (fun a b1240 o1241 hE h1242 => ?_))
    obtain ⟨cs1243, C1244, T1245, fr1246, hr1247, hb1248, hc1249⟩ := h1242
    obtain rfl := hr1247
    refine tT 7 255 (fuel := 1) (by kernel_rfl) hE (tk_loadX (off0 := o1241) (off := 0) (c := [.int .u8 (x1238)]) (.int .u8 (x1238)) rfl rfl rfl rfl hE rfl hS rfl hb1248 hc1249 (by kernel_rfl) (by kernel_rfl) (kD hS dn_nil) (fun a hE => ?_))
    refine wP 8 511 0 (.bool ((!decide (x1226 = x1238)))) hE (fun a hE => ?_)
    refine doneG (by kernel_rfl) ?_
    refine cond_split hE (b := (!decide (x1226 = x1238))) rfl (fun hb => ?_) (fun hb => ?_)
    ·replace hf := cond_t hb hf
     clear hb
     refine wpIn_seq ?_
     refine region_at ?_
     refine sN 1 1 [(4, .bool false)] hE (fun a hE => ?_)
     refine at_end rfl ?_
     refine wpIn_ret ?_
     obtain rfl := Option.some.inj hf
     replace hf := hs1153
     obtain rfl := Option.some.inj hf
     repeat (with_reducible first | refine then_ret ?_ | refine block_ret ?_ | refine qx_ret ?_)
     refine ret_gen ([.bool false]) hE (by rw [show Tryd.f24.results.toList = [.tmp 4] from rfl]; exact ⟨_, _, rfl, rfl, rfl⟩) ?_
     exact ⟨_, rfl, D1048, rfl, hS⟩
    ·replace hf := cond_f hb hf
     clear hb
     refine wpIn_skip ?_
     refine region_at ?_
     refine sN 3 3 [(5, .int .i64 ((IntKind.wrap .i64 (y1047 + (1 : Int)))))] hE (fun a hE => ?_)
     refine at_end rfl ?_
     exact ⟨(IntKind.wrap .i64 (y1047 + (1 : Int))), D1048, hE.weak (by kernel_rfl), hS, le1049, hf⟩
   ·replace hf := cond_f hb hf
    clear hb
    refine wpIn_exit ?_
    obtain rfl := Option.some.inj hf
    exact ⟨(), D1048, hE.weak (by kernel_rfl), hS, le1049, rfl⟩
set_option maxRecDepth 100000 in
set_option maxHeartbeats 4000000 in
theorem inspeximusref09_Same.calls {K : Nat} {g w0 : World} {D0 : Snap} {x1 : (List (List Int))} {x5 : (List (List Int))} {A2 : Option Addr} {c3 : Nat} {A6 : Option Addr} {c7 : Nat} {r : (Bool)} (hf : inspeximusref09_Same.f K x1 x5 = some r) (hS0 : St g w0 D0 []) (h4 : Sl (kdSlice (kdInt .u8)) D0 A2 c3 (x1)) (h8 : Sl (kdSlice (kdInt .u8)) D0 A6 c7 (x5)) :
  CallsIn (Fw none) 0 Tryd.prog 20 (List.toArray [.slice A2 (List.length (x1)) c3, .slice A6 (List.length (x5)) c7]) w0 (fun e w' => ∃ v, e = .returned v ∧ ∃ (D1 : Snap), v = .bool (r) ∧ Stp g w0 D0 [] w' D1 []) := by
 unfold inspeximusref09_Same.f at hf
 have hS := Stp.refl hS0
 clear hS0
 refine calls_body (n := 27) Tryd.func20 rfl Tryd.ntmps20 rfl (fun a hE => ?_)
 have hE : Env a 27 [] [(0, .slice A2 (List.length (x1)) c3), (1, .slice A6 (List.length (x5)) c7)] := hE
 refine wpIn_seq ?_
 refine region_at ?_
 refine sN 1 1 [(4, .bool false)] hE (fun a hE => ?_)
 refine at_end rfl ?_
 refine wpIn_seq ?_
 refine wpIn_seq ?_
 refine region_at ?_
 refine sN 5 5 [(10, .bool ((!decide (((List.length (x1) : Nat) : Int) = ((List.length (x5) : Nat) : Int)))))] hE (fun a hE => ?_)
 refine at_end rfl ?_
 refine cond_split hE (b := (!decide (((List.length (x1) : Nat) : Int) = ((List.length (x5) : Nat) : Int)))) rfl (fun hb => ?_) (fun hb => ?_)
 ·replace hf := cond_t hb hf
  clear hb
  refine wpIn_seq ?_
  refine region_at ?_
  refine sN 1 1 [(4, .bool false)] hE (fun a hE => ?_)
  refine at_end rfl ?_
  refine wpIn_ret ?_
  obtain rfl := Option.some.inj hf
  repeat (with_reducible first | refine then_ret ?_ | refine block_ret ?_ | refine qx_ret ?_)
  refine ret_gen ([.bool false]) hE (by rw [show Tryd.f20.results.toList = [.tmp 4] from rfl]; exact ⟨_, _, rfl, rfl, rfl⟩) ?_
  exact ⟨_, rfl, D0, rfl, hS⟩
 ·replace hf := cond_f hb hf
  clear hb
  refine wpIn_skip ?_
  refine wpIn_seq ?_
  refine wpIn_seq ?_
  refine region_at ?_
  refine sN 1 1 [(5, .int .i64 ((0 : Int)))] hE (fun a hE => ?_)
  refine at_end rfl ?_
  obtain ⟨s1636, hf, hs1637⟩ := bind_some hf
  refine block_loop (fun a w => ∃ (z1633 : Unit), ∃ (D1634 : Snap), Env a 27 [] [] ∧ Stp g w0 D0 [] w D1634 [] ∧ Snap.le D0 D1634 ∧ (Sum.inr z1633) = s1636) (fun k a w => ∃ (y1487 : Int), ∃ (D1488 : Snap), Env a 27 [] [(0, .slice A2 (List.length (x1)) c3), (1, .slice A6 (List.length (x5)) c7), (5, .int .i64 (y1487))] ∧ Stp g w0 D0 [] w D1488 [] ∧ Snap.le D0 D1488 ∧ inspeximusref09_Same_l1.l K x1 x5 k y1487 = some s1636) K ?_ ?_ ?_
  ·exact ⟨(0 : Int), D0, hE.weak (by kernel_rfl), hS, Snap.le.refl _, hf⟩
  ·clear hE hS hf
   rintro a w ⟨z1633, D1634, hE, hS, le1635, rfl⟩
   have hf := hs1637
   clear hs1637
   refine wpIn_seq ?_
   refine region_at ?_
   refine sN 1 1 [(4, .bool true)] hE (fun a hE => ?_)
   refine at_end rfl ?_
   refine wpIn_ret ?_
   obtain rfl := Option.some.inj hf
   repeat (with_reducible first | refine then_ret ?_ | refine block_ret ?_ | refine qx_ret ?_)
   refine ret_gen ([.bool true]) hE (by rw [show Tryd.f20.results.toList = [.tmp 4] from rfl]; exact ⟨_, _, rfl, rfl, rfl⟩) ?_
   exact ⟨_, rfl, D1634, rfl, hS⟩
  ·clear hE hS hf
   rintro k a w ⟨y1487, D1488, hE, hS, le1489, hf⟩
   obtain ⟨k, rfl, hf⟩ := inspeximusref09_Same_l1.some _ _ hf
   refine ⟨k, rfl, ?_⟩
   unfold inspeximusref09_Same_l1.b at hf
   refine wpIn_seq ?_
   refine wpIn_seq ?_
   refine region_at ?_
   refine sN 4 4 [(14, .bool ((decide (y1487 < ((List.length (x1) : Nat) : Int)))))] hE (fun a hE => ?_)
   refine at_end rfl ?_
   refine cond_split hE (b := (decide (y1487 < ((List.length (x1) : Nat) : Int)))) rfl (fun hb => ?_) (fun hb => ?_)
   ·replace hf := cond_t hb hf
    clear hb
    refine wpIn_skip ?_
    refine wpIn_seq ?_
    refine wpIn_block ?_
    refine wpIn_seq ?_
    refine region_draw (fun j => Keeps (mfOf [] j)) (by kernel_rfl) ?_
    have hS := hS.drew
    first | generalize w.drew = w at hS ⊢ | generalize w0.drew = w at hS ⊢
    refine wP 0 1 9 (.slice A2 (List.length (x1)) c3) hE (fun a hE => ?_)
    refine wP 1 3 8 (.int .i64 (y1487)) hE (fun a hE => ?_)
    refine wP 4 19 7 (.slice A6 (List.length (x5)) c7) hE (fun a hE => ?_)
    refine wP 5 51 6 (.int .i64 (y1487)) hE (fun a hE => ?_)
    obtain ⟨x1743, h1744, hf⟩ := bind_some hf
    refine tW 2 55 (fuel := 5) (by kernel_rfl) hE (fun M => g_index (K := (kdSlice (kdInt .u8))) (e := 33) (by_ := 24) (zl := 1) rfl rfl rfl rfl hE rfl rfl rfl (by kernel_rfl) rfl (h4.mono le1489) h1744 (fun a b1745 o1746 hE h1747 => ?_))
    obtain ⟨cs1748, C1749, T1750, fr1751, hr1752, hb1753, hc1754⟩ := h1747
    obtain ⟨A1755, c1756, rfl, h1757⟩ := hr1752
    refine tT 3 63 (fuel := 4) (by kernel_rfl) hE (tk_loadX (off0 := o1746) (off := 0) (c := [.slice A1755 (List.length (x1743)) c1756]) (.slice A1755 (List.length (x1743)) c1756) rfl rfl rfl rfl hE rfl hS rfl hb1753 hc1754 (by kernel_rfl) (by kernel_rfl) (kD hS dn_nil) (fun a hE => ?_))
    obtain ⟨x1758, h1759, hf⟩ := bind_some hf
    refine tW 6 127 (fuel := 3) (by kernel_rfl) hE (fun M => g_index (K := (kdSlice (kdInt .u8))) (e := 33) (by_ := 24) (zl := 1) rfl rfl rfl rfl hE rfl rfl rfl (by kernel_rfl) rfl (h8.mono le1489) h1759 (fun a b1760 o1761 hE h1762 => ?_))
    obtain ⟨cs1763, C1764, T1765, fr1766, hr1767, hb1768, hc1769⟩ := h1762
    obtain ⟨A1770, c1771, rfl, h1772⟩ := hr1767
    refine tT 7 255 (fuel := 2) (by kernel_rfl) hE (tk_loadX (off0 := o1761) (off := 0) (c := [.slice A1770 (List.length (x1758)) c1771]) (.slice A1770 (List.length (x1758)) c1771) rfl rfl rfl rfl hE rfl hS rfl hb1768 hc1769 (by kernel_rfl) (by kernel_rfl) (kD hS dn_nil) (fun a hE => ?_))
    obtain ⟨r1773, h1774, hf⟩ := bind_some hf
    refine oG 8 511 (fuel := 1) (by kernel_rfl) (op_call rfl rfl rfl rfl hE rfl rfl rfl rfl (by kernel_rfl) (inspeximusref01_Bytes.calls (g := g) h1774 (hS.st.fore (L := [])) h1757 h1772) (fun a v w hR hE => ?_))
    obtain ⟨D1775, rfl, hS1⟩ := hR
    refine ⟨(hS1.keeps.sub (M' := []) trivial).mono (fun _ h => h), ?_⟩
    have le1777 := hS1.dle
    have hS := hS.callR hS1 rfl .n
    clear hS1
    refine wP 9 1023 0 (.bool ((!r1773))) hE (fun a hE => ?_)
    refine doneG (by kernel_rfl) ?_
    refine cond_split hE (b := (!r1773)) rfl (fun hb => ?_) (fun hb => ?_)
    ·replace hf := cond_t hb hf
     clear hb
     refine wpIn_seq ?_
     refine region_at ?_
     refine sN 1 1 [(4, .bool false)] hE (fun a hE => ?_)
     refine at_end rfl ?_
     refine wpIn_ret ?_
     obtain rfl := Option.some.inj hf
     replace hf := hs1637
     obtain rfl := Option.some.inj hf
     repeat (with_reducible first | refine then_ret ?_ | refine block_ret ?_ | refine qx_ret ?_)
     refine ret_gen ([.bool false]) hE (by rw [show Tryd.f20.results.toList = [.tmp 4] from rfl]; exact ⟨_, _, rfl, rfl, rfl⟩) ?_
     exact ⟨_, rfl, D1775, rfl, hS⟩
    ·replace hf := cond_f hb hf
     clear hb
     refine wpIn_skip ?_
     refine region_at ?_
     refine sN 3 3 [(5, .int .i64 ((IntKind.wrap .i64 (y1487 + (1 : Int)))))] hE (fun a hE => ?_)
     refine at_end rfl ?_
     exact ⟨(IntKind.wrap .i64 (y1487 + (1 : Int))), D1775, hE.weak (by kernel_rfl), hS, (le2 le1489 le1777), hf⟩
   ·replace hf := cond_f hb hf
    clear hb
    refine wpIn_exit ?_
    obtain rfl := Option.some.inj hf
    exact ⟨(), D1488, hE.weak (by kernel_rfl), hS, le1489, rfl⟩
set_option maxRecDepth 100000 in
set_option maxHeartbeats 4000000 in
theorem inspeximusref02_Number.calls {K : Nat} {g w0 : World} {D0 : Snap} {x1 : Int} {x2 : Int} {r : ((List Int))} (hf : inspeximusref02_Number.f K x1 x2 = some r) (hS0 : St g w0 D0 []) :
  CallsIn (Fw none) 0 Tryd.prog 64 (List.toArray [.int .i64 (x1), .int .i64 (x2)]) w0 (fun e w' => ∃ v, e = .returned v ∧ ∃ (D1 : Snap) (A184 : Option Addr) (c185 : Nat) (q186 : Blk), v = .slice A184 (List.length (r)) c185 ∧ Stp g w0 D0 [] w' D1 [q186] ∧ OwnD (kdInt .u8) 5 D1 A184 c185 (r) q186) := by
 unfold inspeximusref02_Number.f at hf
 have hS := Stp.refl hS0
 clear hS0
 refine calls_body (n := 27) Tryd.func64 rfl Tryd.ntmps64 rfl (fun a hE => ?_)
 have hE : Env a 27 [] [(0, .int .i64 (x1)), (1, .int .i64 (x2))] := hE
 refine wpIn_seq ?_
 refine region_at ?_
 refine sN 1 1 [(4, .slice none 0 0)] hE (fun a hE => ?_)
 refine at_end rfl ?_
 refine wpIn_seq ?_
 refine region_at ?_
 refine sN 1 1 [(8, .int .i64 (x2))] hE (fun a hE => ?_)
 obtain ⟨l189, h190, hf⟩ := bind_some hf
 refine at_op (op_makeSlice (K := (kdInt .u8)) (e := 5) (bytes := 1) (z := (0 : Int)) (cz := [.int .u8 ((0 : Int))]) rfl rfl rfl rfl hE rfl hS rfl rfl (by kernel_rfl) (by kernel_rfl) rfl rfl rfl h190 (fun a A191 c192 q193 w _ hE h194 hS => ?_)) rfl
 refine sN 1 3 [(5, .slice A191 (List.length (l189)) c192)] hE (fun a hE => ?_)
 refine at_end rfl ?_
 refine wpIn_seq ?_
 refine region_at ?_
 refine sN 3 3 [(6, .int .u64 ((IntKind.wrap .u64 x1)))] hE (fun a hE => ?_)
 refine at_end rfl ?_
 refine wpIn_seq ?_
 refine wpIn_seq ?_
 refine region_at ?_
 refine sN 3 3 [(7, .int .i64 ((IntKind.wrap .i64 (x2 - (1 : Int)))))] hE (fun a hE => ?_)
 refine at_end rfl ?_
 obtain ⟨s354, hf, hs355⟩ := bind_some hf
 refine block_loop (fun a w => ∃ (z346 : (List Int)), ∃ (q351 : Blk), ∃ (D347 : Snap), Env a 27 [] [(5, .slice A191 (List.length (z346)) c192)] ∧ Stp g w0 D0 [] w D347 [q351] ∧ Snap.le D0 D347 ∧ OwnD (kdInt .u8) 5 D347 A191 c192 (z346) q351 ∧ z346 = s354) (fun k a w => ∃ (y316 : (List Int) × Int × Int), ∃ (q321 : Blk), ∃ (D317 : Snap), Env a 27 [] [(5, .slice A191 (List.length (y316.1)) c192), (6, .int .u64 (y316.2.1)), (7, .int .i64 (y316.2.2))] ∧ Stp g w0 D0 [] w D317 [q321] ∧ Snap.le D0 D317 ∧ OwnD (kdInt .u8) 5 D317 A191 c192 (y316.1) q321 ∧ inspeximusref02_Number_l1.l K k y316 = some s354) K ?_ ?_ ?_
 ·exact ⟨(l189, (IntKind.wrap .u64 x1), (IntKind.wrap .i64 (x2 - (1 : Int)))), q193, D0, hE.weak (by kernel_rfl), hS, Snap.le.refl _, h194, hf⟩
 ·clear hE hS hf
  rintro a w ⟨z346, q351, D347, hE, hS, le348, h352, rfl⟩
  have hf := hs355
  clear hs355
  refine wpIn_seq ?_
  refine region_at ?_
  refine sN 2 2 [(4, .slice A191 (List.length (z346)) c192)] hE (fun a hE => ?_)
  refine at_end rfl ?_
  refine wpIn_ret ?_
  obtain rfl := Option.some.inj hf
  repeat (with_reducible first | refine then_ret ?_ | refine block_ret ?_ | refine qx_ret ?_)
  refine ret_gen ([.slice A191 (List.length (z346)) c192]) hE (by rw [show Tryd.f64.results.toList = [.tmp 4] from rfl]; exact ⟨_, _, rfl, rfl, rfl⟩) ?_
  exact ⟨_, rfl, D347, A191, c192, q351, rfl, hS, h352⟩
 ·clear hE hS hf
  rintro k a w ⟨y316, q321, D317, hE, hS, le318, h322, hf⟩
  obtain ⟨k, rfl, hf⟩ := inspeximusref02_Number_l1.some hf
  refine ⟨k, rfl, ?_⟩
  unfold inspeximusref02_Number_l1.b at hf
  refine wpIn_seq ?_
  refine wpIn_seq ?_
  refine region_at ?_
  refine sN 2 2 [(15, .bool ((decide ((0 : Int) ≤ y316.2.2))))] hE (fun a hE => ?_)
  refine at_end rfl ?_
  refine cond_split hE (b := (decide ((0 : Int) ≤ y316.2.2))) rfl (fun hb => ?_) (fun hb => ?_)
  ·replace hf := cond_t hb hf
   clear hb
   refine wpIn_skip ?_
   refine wpIn_seq ?_
   refine wpIn_block ?_
   refine wpIn_seq ?_
   refine region_at ?_
   refine sN 5 5 [(18, .slice A191 (List.length (y316.1)) c192), (19, .int .i64 (y316.2.2)), (22, .int .u8 ((IntKind.wrap .u8 (Int.tmod y316.2.1 256))))] hE (fun a hE => ?_)
   obtain ⟨x363, h364, hf⟩ := bind_some hf
   refine at_op (op_tk hE (tk_indexO (K := (kdInt .u8)) (T := 5) (by_ := 1) (zl := 1) rfl rfl rfl rfl hE rfl rfl rfl (by kernel_rfl) h322 h364 (fun a b365 u366 hq hE => ?_))) rfl
   subst hq
   refine at_op (op_storeO (K := (kdInt .u8)) (T := 5) (l := y316.1) ((IntKind.wrap .u8 (Int.tmod y316.2.1 256))) rfl rfl rfl rfl hE hS h322 rfl rfl (inI_of h364) (rfl) (by kernel_rfl) (by kernel_rfl) (fun a u367 w _ hE h368 hS => ?_)) rfl
   have hE : Env a 27 [] [(5, .slice A191 (List.length ((List.set (y316.1) (Int.toNat (y316.2.2)) ((IntKind.wrap .u8 (Int.tmod y316.2.1 256)))))) c192), (6, .int .u64 (y316.2.1)), (7, .int .i64 (y316.2.2)), (15, .bool ((decide ((0 : Int) ≤ y316.2.2)))), (18, .slice A191 (List.length ((List.set (y316.1) (Int.toNat (y316.2.2)) ((IntKind.wrap .u8 (Int.tmod y316.2.1 256)))))) c192), (19, .int .i64 (y316.2.2)), (22, .int .u8 ((IntKind.wrap .u8 (Int.tmod y316.2.1 256)))), (23, .pointer (some ⟨b365, Int.toNat (y316.2.2) * 1, none⟩))] := by have h := hE.weak (E' := [(5, .slice A191 (List.length (y316.1)) c192), (6, .int .u64 (y316.2.1)), (7, .int .i64 (y316.2.2)), (15, .bool ((decide ((0 : Int) ≤ y316.2.2)))), (18, .slice A191 (List.length (y316.1)) c192), (19, .int .i64 (y316.2.2)), (22, .int .u8 ((IntKind.wrap .u8 (Int.tmod y316.2.1 256)))), (23, .pointer (some ⟨b365, Int.toNat (y316.2.2) * 1, none⟩))]) (by kernel_rfl); simpa only [List.length_set] using h
   refine at_end rfl ?_
   refine region_at ?_
   refine sN 3 3 [(6, .int .u64 ((IntKind.wrap .u64 (Int.tdiv y316.2.1 256))))] hE (fun a hE => ?_)
   refine at_end rfl ?_
   refine region_at ?_
   refine sN 3 3 [(7, .int .i64 ((IntKind.wrap .i64 (y316.2.2 - (1 : Int)))))] hE (fun a hE => ?_)
   refine at_end rfl ?_
   exact ⟨((List.set (y316.1) (Int.toNat (y316.2.2)) ((IntKind.wrap .u8 (Int.tmod y316.2.1 256)))), (IntKind.wrap .u64 (Int.tdiv y316.2.1 256)), (IntKind.wrap .i64 (y316.2.2 - (1 : Int)))), (some (b365, u367)), D317, hE.weak (by kernel_rfl), hS, le318, h368, hf⟩
  ·replace hf := cond_f hb hf
   clear hb
   refine wpIn_exit ?_
   obtain rfl := Option.some.inj hf
   exact ⟨y316.1, q321, D317, hE.weak (by kernel_rfl), hS, le318, h322, rfl⟩
set_option maxRecDepth 100000 in
set_option maxHeartbeats 4000000 in
theorem inspeximusref02_Text.calls {K : Nat} {g w0 : World} {D0 : Snap} {x1 : Int} {x2 : (List (List Int))} {A3 : Option Addr} {c4 : Nat} {r : ((List Int))} (hf : inspeximusref02_Text.f K x1 x2 = some r) (hS0 : St g w0 D0 []) (h5 : Sl (kdSlice (kdInt .u8)) D0 A3 c4 (x2)) :
  CallsIn (Fw none) 0 Tryd.prog 50 (List.toArray [.int .i64 (x1), .slice A3 (List.length (x2)) c4]) w0 (fun e w' => ∃ v, e = .returned v ∧ ∃ (D1 : Snap) (A808 : Option Addr) (c809 : Nat) (q810 : Blk), v = .slice A808 (List.length (r)) c809 ∧ Stp g w0 D0 [] w' D1 [q810] ∧ OwnD (kdInt .u8) 5 D1 A808 c809 (r) q810) := by
 unfold inspeximusref02_Text.f at hf
 have hS := Stp.refl hS0
 clear hS0
 refine calls_body (n := 31) Tryd.func50 rfl Tryd.ntmps50 rfl (fun a hE => ?_)
 have hE : Env a 31 [] [(0, .int .i64 (x1)), (1, .slice A3 (List.length (x2)) c4)] := hE
 refine wpIn_seq ?_
 refine region_at ?_
 refine sN 1 1 [(4, .slice none 0 0)] hE (fun a hE => ?_)
 refine at_end rfl ?_
 refine wpIn_seq ?_
 refine region_at ?_
 refine sN 2 2 [(8, .int .u8 ((IntKind.wrap .u8 x1)))] hE (fun a hE => ?_)
 refine at_op (op_buildSlice (K := (kdInt .u8)) (e := 5) (cs := [.int .u8 ((IntKind.wrap .u8 x1))] ++ []) ([(IntKind.wrap .u8 x1)] : List Int) rfl rfl rfl rfl hE rfl hS rfl (by kernel_rfl) rfl rfl (by exact (show RL (kdInt .u8) D0 ([(IntKind.wrap .u8 x1)] : List Int) ([.int .u8 ((IntKind.wrap .u8 x1))] ++ []) from ⟨_, _, rfl, rfl, rfl⟩)) (fun a A813 q814 w _ hE h815 hS => ?_)) rfl
 refine sN 1 4 [(5, .slice A813 (List.length (([(IntKind.wrap .u8 x1)] : List Int))) 1)] hE (fun a hE => ?_)
 refine at_end rfl ?_
 refine wpIn_seq ?_
 refine wpIn_seq ?_
 refine region_at ?_
 refine sN 1 1 [(6, .int .i64 ((0 : Int)))] hE (fun a hE => ?_)
 refine at_end rfl ?_
 obtain ⟨s1495, hf, hs1496⟩ := bind_some hf
 refine block_loop (fun a w => ∃ (z1487 : (List Int)), ∃ (A1490 : Option Addr), ∃ (c1491 : Nat), ∃ (q1492 : Blk), ∃ (D1488 : Snap), Env a 31 [] [(5, .slice A1490 (List.length (z1487)) c1491)] ∧ Stp g w0 D0 [] w D1488 [q1492] ∧ Snap.le D0 D1488 ∧ OwnD (kdInt .u8) 5 D1488 A1490 c1491 (z1487) q1492 ∧ z1487 = s1495) (fun k a w => ∃ (y1353 : (List Int) × Int), ∃ (A1356 : Option Addr), ∃ (c1357 : Nat), ∃ (q1358 : Blk), ∃ (D1354 : Snap), Env a 31 [] [(1, .slice A3 (List.length (x2)) c4), (5, .slice A1356 (List.length (y1353.1)) c1357), (6, .int .i64 (y1353.2))] ∧ Stp g w0 D0 [] w D1354 [q1358] ∧ Snap.le D0 D1354 ∧ OwnD (kdInt .u8) 5 D1354 A1356 c1357 (y1353.1) q1358 ∧ inspeximusref02_Text_l1.l K x2 k y1353 = some s1495) K ?_ ?_ ?_
 ·exact ⟨(([(IntKind.wrap .u8 x1)] : List Int), (0 : Int)), A813, 1, q814, D0, hE.weak (by kernel_rfl), hS, Snap.le.refl _, h815, hf⟩
 ·clear hE hS hf
  rintro a w ⟨z1487, A1490, c1491, q1492, D1488, hE, hS, le1489, h1493, rfl⟩
  have hf := hs1496
  clear hs1496
  refine wpIn_seq ?_
  refine region_at ?_
  refine sN 2 2 [(4, .slice A1490 (List.length (z1487)) c1491)] hE (fun a hE => ?_)
  refine at_end rfl ?_
  refine wpIn_ret ?_
  obtain rfl := Option.some.inj hf
  repeat (with_reducible first | refine then_ret ?_ | refine block_ret ?_ | refine qx_ret ?_)
  refine ret_gen ([.slice A1490 (List.length (z1487)) c1491]) hE (by rw [show Tryd.f50.results.toList = [.tmp 4] from rfl]; exact ⟨_, _, rfl, rfl, rfl⟩) ?_
  exact ⟨_, rfl, D1488, A1490, c1491, q1492, rfl, hS, h1493⟩
 ·clear hE hS hf
  rintro k a w ⟨y1353, A1356, c1357, q1358, D1354, hE, hS, le1355, h1359, hf⟩
  obtain ⟨k, rfl, hf⟩ := inspeximusref02_Text_l1.some _ hf
  refine ⟨k, rfl, ?_⟩
  unfold inspeximusref02_Text_l1.b at hf
  refine wpIn_seq ?_
  refine wpIn_seq ?_
  refine region_at ?_
  refine sN 4 4 [(13, .bool ((decide (y1353.2 < ((List.length (x2) : Nat) : Int)))))] hE (fun a hE => ?_)
  refine at_end rfl ?_
  refine cond_split hE (b := (decide (y1353.2 < ((List.length (x2) : Nat) : Int)))) rfl (fun hb => ?_) (fun hb => ?_)
  ·replace hf := cond_t hb hf
   clear hb
   refine wpIn_skip ?_
   refine wpIn_seq ?_
   refine wpIn_block ?_
   refine wpIn_seq ?_
   refine region_at ?_
   refine sN 3 3 [(16, .slice A1356 (List.length (y1353.1)) c1357), (17, .slice A3 (List.length (x2)) c4), (18, .int .i64 (y1353.2))] hE (fun a hE => ?_)
   obtain ⟨x1556, h1557, hf⟩ := bind_some hf
   refine at_op (op_tk hE (g_index (K := (kdSlice (kdInt .u8))) (e := 33) (by_ := 24) (zl := 1) rfl rfl rfl rfl hE rfl rfl rfl (by kernel_rfl) rfl (h5.mono le1355) h1557 (fun a b1558 o1559 hE h1560 => ?_))) rfl
   obtain ⟨cs1561, C1562, T1563, fr1564, hr1565, hb1566, hc1567⟩ := h1560
   obtain ⟨A1568, c1569, rfl, h1570⟩ := hr1565
   refine at_op (op_tk hE (tk_loadX (off0 := o1559) (off := 0) (c := [.slice A1568 (List.length (x1556)) c1569]) (.slice A1568 (List.length (x1556)) c1569) rfl rfl rfl rfl hE rfl hS rfl hb1566 hc1567 (by kernel_rfl) (by kernel_rfl) (kD hS dn_nil) (fun a hE => ?_))) rfl
   refine sN 1 6 [(21, .int .i64 (((List.length (x1556) : Nat) : Int)))] hE (fun a hE => ?_)
   obtain ⟨r1571, h1572, hf⟩ := bind_some hf
   refine aC rfl rfl rfl rfl hE rfl rfl rfl rfl (inspeximusref02_Number.calls (g := g) h1572 (hS.st.fore (L := [])) ) (fun a v w hR hE => ?_)
   obtain ⟨D1573, A1575, c1576, q1577, rfl, hS1, h1578⟩ := hR
   have le1580 := hS1.dle
   have hS := hS.callR hS1 rfl (.c .n)
   clear hS1
   obtain ⟨D1581, q1584, le1582, hS, h1585, h1583⟩ := hS.lent h1578
   have hS := hS.pk (.c 1 rfl (.c 0 rfl .n)) rfl
   obtain ⟨l1586, h1587, hf⟩ := bind_some hf
   refine at_op (g_append (K := (kdInt .u8)) (e := 5) (bytes := 1) (l := y1353.1) (m := r1571) rfl rfl rfl rfl hE rfl hS rfl rfl (by kernel_rfl) rfl rfl (h1359.mono (le2 le1580 le1582)) h1583 h1587 (fun a A1588 c1589 q1590 w _ hE h1591 hS => ?_)) rfl
   refine sN 1 9 [(5, .slice A1588 (List.length (l1586)) c1589)] hE (fun a hE => ?_)
   refine at_end rfl ?_
   refine region_at ?_
   refine sN 3 3 [(24, .slice A1588 (List.length (l1586)) c1589), (25, .slice A3 (List.length (x2)) c4), (26, .int .i64 (y1353.2))] hE (fun a hE => ?_)
   obtain ⟨x1593, h1594, hf⟩ := bind_some hf
   refine at_op (op_tk hE (g_index (K := (kdSlice (kdInt .u8))) (e := 33) (by_ := 24) (zl := 1) rfl rfl rfl rfl hE rfl rfl rfl (by kernel_rfl) rfl (h5.mono (le2 (le2 le1355 le1580) le1582)) h1594 (fun a b1595 o1596 hE h1597 => ?_))) rfl
   obtain ⟨cs1598, C1599, T1600, fr1601, hr1602, hb1603, hc1604⟩ := h1597
   obtain ⟨A1605, c1606, rfl, h1607⟩ := hr1602
   refine at_op (op_tk hE (tk_loadX (off0 := o1596) (off := 0) (c := [.slice A1605 (List.length (x1593)) c1606]) (.slice A1605 (List.length (x1593)) c1606) rfl rfl rfl rfl hE rfl hS rfl hb1603 hc1604 (by kernel_rfl) (by kernel_rfl) (kD hS dn_nil) (fun a hE => ?_))) rfl
   obtain ⟨l1608, h1609, hf⟩ := bind_some hf
   refine at_op (g_append (K := (kdInt .u8)) (e := 5) (bytes := 1) (l := l1586) (m := x1593) rfl rfl rfl rfl hE rfl hS rfl rfl (by kernel_rfl) rfl rfl h1591 h1607 h1609 (fun a A1610 c1611 q1612 w _ hE h1613 hS => ?_)) rfl
   refine sN 1 7 [(5, .slice A1610 (List.length (l1608)) c1611)] hE (fun a hE => ?_)
   refine at_end rfl ?_
   refine region_at ?_
   refine sN 3 3 [(6, .int .i64 ((IntKind.wrap .i64 (y1353.2 + (1 : Int)))))] hE (fun a hE => ?_)
   refine at_end rfl ?_
   have hS := hS.pk (.c 0 rfl .n) rfl
   exact ⟨(l1608, (IntKind.wrap .i64 (y1353.2 + (1 : Int)))), A1610, c1611, q1612, D1581, hE.weak (by kernel_rfl), hS, (le2 (le2 le1355 le1580) le1582), h1613, hf⟩
  ·replace hf := cond_f hb hf
   clear hb
   refine wpIn_exit ?_
   obtain rfl := Option.some.inj hf
   exact ⟨y1353.1, A1356, c1357, q1358, D1354, hE.weak (by kernel_rfl), hS, le1355, h1359, rfl⟩
set_option maxRecDepth 100000 in
set_option maxHeartbeats 4000000 in
theorem inspeximusref01_Fill.calls {K : Nat} {g w0 : World} {D0 : Snap} {x1 : Int} {r : ((List Int))} (hf : inspeximusref01_Fill.f K x1 = some r) (hS0 : St g w0 D0 []) :
  CallsIn (Fw none) 0 Tryd.prog 62 (List.toArray [.int .i64 (x1)]) w0 (fun e w' => ∃ v, e = .returned v ∧ ∃ (D1 : Snap) (A482 : Option Addr) (c483 : Nat) (q484 : Blk), v = .slice A482 (List.length (r)) c483 ∧ Stp g w0 D0 [] w' D1 [q484] ∧ OwnD (kdInt .u8) 5 D1 A482 c483 (r) q484) := by
 unfold inspeximusref01_Fill.f at hf
 have hS := Stp.refl hS0
 clear hS0
 refine calls_body (n := 37) Tryd.func62 rfl Tryd.ntmps62 rfl (fun a hE => ?_)
 have hE : Env a 37 [] [(0, .int .i64 (x1))] := hE
 refine wpIn_seq ?_
 refine region_at ?_
 refine sN 1 1 [(2, .slice none 0 0)] hE (fun a hE => ?_)
 refine at_end rfl ?_
 refine wpIn_seq ?_
 refine wpIn_seq ?_
 refine region_at ?_
 refine sN 2 2 [(8, .bool ((decide (x1 < (0 : Int)))))] hE (fun a hE => ?_)
 refine at_end rfl ?_
 refine cond_split hE (b := (decide (x1 < (0 : Int)))) rfl (fun hb => ?_) (fun hb => ?_)
 ·replace hf := cond_t hb hf
  clear hb
  refine wpIn_seq ?_
  refine region_at ?_
  refine sN 1 1 [(2, .slice none 0 0)] hE (fun a hE => ?_)
  refine at_end rfl ?_
  refine wpIn_ret ?_
  have hS := hS.nils
  obtain rfl := Option.some.inj hf
  repeat (with_reducible first | refine then_ret ?_ | refine block_ret ?_ | refine qx_ret ?_)
  refine ret_gen ([.slice none 0 0]) hE (by rw [show Tryd.f62.results.toList = [.tmp 2] from rfl]; exact ⟨_, _, rfl, rfl, rfl⟩) ?_
  exact ⟨_, rfl, D0, none, 0, none, rfl, hS, (OwnD.nil (kdInt .u8) 5 D0)⟩
 ·replace hf := cond_f hb hf
  clear hb
  refine wpIn_skip ?_
  refine wpIn_seq ?_
  refine region_at ?_
  refine at_op (op_buildSlice (K := (kdInt .u8)) (e := 5) (cs := [.int .u8 ((128 : Int))] ++ []) ([(128 : Int)] : List Int) rfl rfl rfl rfl hE rfl hS rfl (by kernel_rfl) rfl rfl (by exact (show RL (kdInt .u8) D0 ([(128 : Int)] : List Int) ([.int .u8 ((128 : Int))] ++ []) from ⟨_, _, rfl, rfl, rfl⟩)) (fun a A488 q489 w _ hE h490 hS => ?_)) rfl
  refine sN 1 2 [(3, .slice A488 (List.length (([(128 : Int)] : List Int))) 1)] hE (fun a hE => ?_)
  refine at_end rfl ?_
  refine wpIn_seq ?_
  obtain ⟨s660, hf, hs661⟩ := bind_some hf
  refine block_loop (fun a w => ∃ (z652 : (List Int)), ∃ (A655 : Option Addr), ∃ (c656 : Nat), ∃ (q657 : Blk), ∃ (D653 : Snap), Env a 37 [] [(0, .int .i64 (x1)), (3, .slice A655 (List.length (z652)) c656)] ∧ Stp g w0 D0 [] w D653 [q657] ∧ Snap.le D0 D653 ∧ OwnD (kdInt .u8) 5 D653 A655 c656 (z652) q657 ∧ z652 = s660) (fun k a w => ∃ (y620 : (List Int)), ∃ (A623 : Option Addr), ∃ (c624 : Nat), ∃ (q625 : Blk), ∃ (D621 : Snap), Env a 37 [] [(0, .int .i64 (x1)), (3, .slice A623 (List.length (y620)) c624)] ∧ Stp g w0 D0 [] w D621 [q625] ∧ Snap.le D0 D621 ∧ OwnD (kdInt .u8) 5 D621 A623 c624 (y620) q625 ∧ inspeximusref01_Fill_l1.l K x1 k y620 = some s660) K ?_ ?_ ?_
  ·exact ⟨([(128 : Int)] : List Int), A488, 1, q489, D0, hE.weak (by kernel_rfl), hS, Snap.le.refl _, h490, hf⟩
  ·clear hE hS hf
   rintro a w ⟨z652, A655, c656, q657, D653, hE, hS, le654, h658, rfl⟩
   have hf := hs661
   clear hs661
   refine wpIn_seq ?_
   refine region_at ?_
   refine sN 4 4 [(4, .int .u64 ((IntKind.wrap .u64 ((IntKind.wrap .u64 x1) * (8 : Int)))))] hE (fun a hE => ?_)
   refine at_end rfl ?_
   refine wpIn_seq ?_
   refine region_at ?_
   refine sN 1 1 [(5, .int .u64 ((72057594037927936 : Int)))] hE (fun a hE => ?_)
   refine at_end rfl ?_
   refine wpIn_seq ?_
   refine wpIn_seq ?_
   refine region_at ?_
   refine sN 1 1 [(6, .int .i64 ((0 : Int)))] hE (fun a hE => ?_)
   refine at_end rfl ?_
   obtain ⟨s932, hf, hs933⟩ := bind_some hf
   refine block_loop (fun a w => ∃ (z924 : (List Int)), ∃ (A927 : Option Addr), ∃ (c928 : Nat), ∃ (q929 : Blk), ∃ (D925 : Snap), Env a 37 [] [(3, .slice A927 (List.length (z924)) c928)] ∧ Stp g w0 D0 [] w D925 [q929] ∧ Snap.le D653 D925 ∧ OwnD (kdInt .u8) 5 D925 A927 c928 (z924) q929 ∧ z924 = s932) (fun k a w => ∃ (y874 : (List Int) × Int × Int), ∃ (A877 : Option Addr), ∃ (c878 : Nat), ∃ (q879 : Blk), ∃ (D875 : Snap), Env a 37 [] [(3, .slice A877 (List.length (y874.1)) c878), (4, .int .u64 ((IntKind.wrap .u64 ((IntKind.wrap .u64 x1) * (8 : Int))))), (5, .int .u64 (y874.2.1)), (6, .int .i64 (y874.2.2))] ∧ Stp g w0 D0 [] w D875 [q879] ∧ Snap.le D653 D875 ∧ OwnD (kdInt .u8) 5 D875 A877 c878 (y874.1) q879 ∧ inspeximusref01_Fill_l2.l K x1 k y874 = some s932) K ?_ ?_ ?_
   ·exact ⟨(z652, (72057594037927936 : Int), (0 : Int)), A655, c656, q657, D653, hE.weak (by kernel_rfl), hS, Snap.le.refl _, h658, hf⟩
   ·clear hE hS hf
    rintro a w ⟨z924, A927, c928, q929, D925, hE, hS, le926, h930, rfl⟩
    have hf := hs933
    clear hs933
    refine wpIn_seq ?_
    refine region_at ?_
    refine sN 2 2 [(2, .slice A927 (List.length (z924)) c928)] hE (fun a hE => ?_)
    refine at_end rfl ?_
    refine wpIn_ret ?_
    obtain rfl := Option.some.inj hf
    repeat (with_reducible first | refine then_ret ?_ | refine block_ret ?_ | refine qx_ret ?_)
    refine ret_gen ([.slice A927 (List.length (z924)) c928]) hE (by rw [show Tryd.f62.results.toList = [.tmp 2] from rfl]; exact ⟨_, _, rfl, rfl, rfl⟩) ?_
    exact ⟨_, rfl, D925, A927, c928, q929, rfl, hS, h930⟩
   ·clear hE hS hf
    rintro k a w ⟨y874, A877, c878, q879, D875, hE, hS, le876, h880, hf⟩
    obtain ⟨k, rfl, hf⟩ := inspeximusref01_Fill_l2.some _ hf
    refine ⟨k, rfl, ?_⟩
    unfold inspeximusref01_Fill_l2.b at hf
    refine wpIn_seq ?_
    refine wpIn_seq ?_
    refine region_at ?_
    refine sN 2 2 [(23, .bool ((decide (y874.2.2 < (8 : Int)))))] hE (fun a hE => ?_)
    refine at_end rfl ?_
    refine cond_split hE (b := (decide (y874.2.2 < (8 : Int)))) rfl (fun hb => ?_) (fun hb => ?_)
    ·replace hf := cond_t hb hf
     clear hb
     refine wpIn_skip ?_
     refine wpIn_seq ?_
     refine wpIn_block ?_
     refine wpIn_seq ?_
     refine region_at ?_
     refine sN 3 3 [(26, .slice A877 (List.length (y874.1)) c878), (27, .int .u64 ((IntKind.wrap .u64 ((IntKind.wrap .u64 x1) * (8 : Int))))), (28, .int .u64 (y874.2.1))] hE (fun a hE => ?_)
     obtain ⟨hq951, hf⟩ := chk_not hf
     refine at_op (op_tk hE (tk_bin (r := .int .u64 ((IntKind.wrap .u64 (Int.tdiv (IntKind.wrap .u64 ((IntKind.wrap .u64 x1) * (8 : Int))) y874.2.1)))) rfl rfl rfl rfl hE rfl rfl rfl (quo_run hq951) (fun a hE => ?_))) rfl
     refine sN 2 6 [(31, .int .u8 ((IntKind.wrap .u8 (Int.tmod (IntKind.wrap .u64 (Int.tdiv (IntKind.wrap .u64 ((IntKind.wrap .u64 x1) * (8 : Int))) y874.2.1)) 256))))] hE (fun a hE => ?_)
     refine at_op (op_buildSlice (K := (kdInt .u8)) (e := 5) (cs := [.int .u8 ((IntKind.wrap .u8 (Int.tmod (IntKind.wrap .u64 (Int.tdiv (IntKind.wrap .u64 ((IntKind.wrap .u64 x1) * (8 : Int))) y874.2.1)) 256)))] ++ []) ([(IntKind.wrap .u8 (Int.tmod (IntKind.wrap .u64 (Int.tdiv (IntKind.wrap .u64 ((IntKind.wrap .u64 x1) * (8 : Int))) y874.2.1)) 256))] : List Int) rfl rfl rfl rfl hE rfl hS rfl (by kernel_rfl) rfl rfl (by exact (show RL (kdInt .u8) D875 ([(IntKind.wrap .u8 (Int.tmod (IntKind.wrap .u64 (Int.tdiv (IntKind.wrap .u64 ((IntKind.wrap .u64 x1) * (8 : Int))) y874.2.1)) 256))] : List Int) ([.int .u8 ((IntKind.wrap .u8 (Int.tmod (IntKind.wrap .u64 (Int.tdiv (IntKind.wrap .u64 ((IntKind.wrap .u64 x1) * (8 : Int))) y874.2.1)) 256)))] ++ []) from ⟨_, _, rfl, rfl, rfl⟩)) (fun a A952 q953 w _ hE h954 hS => ?_)) rfl
     obtain ⟨D956, q959, le957, hS, h960, h958⟩ := hS.lent h954
     have hS := hS.pk (.c 1 rfl (.c 0 rfl .n)) rfl
     obtain ⟨l961, h962, hf⟩ := bind_some hf
     refine at_op (g_append (K := (kdInt .u8)) (e := 5) (bytes := 1) (l := y874.1) (m := ([(IntKind.wrap .u8 (Int.tmod (IntKind.wrap .u64 (Int.tdiv (IntKind.wrap .u64 ((IntKind.wrap .u64 x1) * (8 : Int))) y874.2.1)) 256))] : List Int)) rfl rfl rfl rfl hE rfl hS rfl rfl (by kernel_rfl) rfl rfl (h880.mono le957) h958 h962 (fun a A963 c964 q965 w _ hE h966 hS => ?_)) rfl
     refine sN 1 9 [(3, .slice A963 (List.length (l961)) c964)] hE (fun a hE => ?_)
     refine at_end rfl ?_
     refine region_at ?_
     refine sN 3 3 [(5, .int .u64 ((IntKind.wrap .u64 (Int.tdiv y874.2.1 256))))] hE (fun a hE => ?_)
     refine at_end rfl ?_
     refine region_at ?_
     refine sN 3 3 [(6, .int .i64 ((IntKind.wrap .i64 (y874.2.2 + (1 : Int)))))] hE (fun a hE => ?_)
     refine at_end rfl ?_
     have hS := hS.pk (.c 0 rfl .n) rfl
     exact ⟨(l961, (IntKind.wrap .u64 (Int.tdiv y874.2.1 256)), (IntKind.wrap .i64 (y874.2.2 + (1 : Int)))), A963, c964, q965, D956, hE.weak (by kernel_rfl), hS, (le2 le876 le957), h966, hf⟩
    ·replace hf := cond_f hb hf
     clear hb
     refine wpIn_exit ?_
     obtain rfl := Option.some.inj hf
     exact ⟨y874.1, A877, c878, q879, D875, hE.weak (by kernel_rfl), hS, le876, h880, rfl⟩
  ·clear hE hS hf
   rintro k a w ⟨y620, A623, c624, q625, D621, hE, hS, le622, h626, hf⟩
   obtain ⟨k, rfl, hf⟩ := inspeximusref01_Fill_l1.some _ hf
   refine ⟨k, rfl, ?_⟩
   unfold inspeximusref01_Fill_l1.b at hf
   refine wpIn_seq ?_
   refine wpIn_seq ?_
   refine region_at ?_
   refine sN 6 6 [(15, .bool ((!decide ((Int.tmod (IntKind.wrap .i64 (x1 + ((List.length (y620) : Nat) : Int))) 64) = (56 : Int)))))] hE (fun a hE => ?_)
   refine at_end rfl ?_
   refine cond_split hE (b := (!decide ((Int.tmod (IntKind.wrap .i64 (x1 + ((List.length (y620) : Nat) : Int))) 64) = (56 : Int)))) rfl (fun hb => ?_) (fun hb => ?_)
   ·replace hf := cond_t hb hf
    clear hb
    refine wpIn_skip ?_
    refine wpIn_block ?_
    refine region_at ?_
    refine sN 1 1 [(16, .slice A623 (List.length (y620)) c624)] hE (fun a hE => ?_)
    refine at_op (op_buildSlice (K := (kdInt .u8)) (e := 5) (cs := [.int .u8 ((0 : Int))] ++ []) ([(0 : Int)] : List Int) rfl rfl rfl rfl hE rfl hS rfl (by kernel_rfl) rfl rfl (by exact (show RL (kdInt .u8) D621 ([(0 : Int)] : List Int) ([.int .u8 ((0 : Int))] ++ []) from ⟨_, _, rfl, rfl, rfl⟩)) (fun a A662 q663 w _ hE h664 hS => ?_)) rfl
    obtain ⟨D666, q669, le667, hS, h670, h668⟩ := hS.lent h664
    have hS := hS.pk (.c 1 rfl (.c 0 rfl .n)) rfl
    obtain ⟨l671, h672, hf⟩ := bind_some hf
    refine at_op (g_append (K := (kdInt .u8)) (e := 5) (bytes := 1) (l := y620) (m := ([(0 : Int)] : List Int)) rfl rfl rfl rfl hE rfl hS rfl rfl (by kernel_rfl) rfl rfl (h626.mono le667) h668 h672 (fun a A673 c674 q675 w _ hE h676 hS => ?_)) rfl
    refine sN 1 4 [(3, .slice A673 (List.length (l671)) c674)] hE (fun a hE => ?_)
    refine at_end rfl ?_
    have hS := hS.pk (.c 0 rfl .n) rfl
    exact ⟨l671, A673, c674, q675, D666, hE.weak (by kernel_rfl), hS, (le2 le622 le667), h676, hf⟩
   ·replace hf := cond_f hb hf
    clear hb
    refine wpIn_exit ?_
    obtain rfl := Option.some.inj hf
    exact ⟨y620, A623, c624, q625, D621, hE.weak (by kernel_rfl), hS, le622, h626, rfl⟩
set_option maxRecDepth 100000 in
set_option maxHeartbeats 4000000 in
theorem inspeximusref01_right.calls {K : Nat} {g w0 : World} {D0 : Snap} {x1 : Int} {x2 : Int} {r : (Int)} (hf : inspeximusref01_right.f K x1 x2 = some r) (hS0 : St g w0 D0 []) :
  CallsIn (Fw none) 0 Tryd.prog 74 (List.toArray [.int .u64 (x1), .int .i64 (x2)]) w0 (fun e w' => ∃ v, e = .returned v ∧ ∃ (D1 : Snap), v = .int .u64 (r) ∧ Stp g w0 D0 [] w' D1 []) := by
 unfold inspeximusref01_right.f at hf
 have hS := Stp.refl hS0
 clear hS0
 refine calls_body (n := 16) Tryd.func74 rfl Tryd.ntmps74 rfl (fun a hE => ?_)
 have hE : Env a 16 [] [(0, .int .u64 (x1)), (1, .int .i64 (x2))] := hE
 refine wpIn_seq ?_
 refine region_at ?_
 refine sN 1 1 [(4, .int .u64 ((0 : Int)))] hE (fun a hE => ?_)
 refine at_end rfl ?_
 refine wpIn_seq ?_
 refine region_at ?_
 refine sN 3 3 [(5, .int .u64 (x1)), (7, .int .u64 ((IntKind.wrap .u64 x2)))] hE (fun a hE => ?_)
 obtain ⟨hq5, hf⟩ := chk_not hf
 refine at_op (op_tk hE (tk_bin (r := .int .u64 ((Int.fdiv x1 (2 ^ (min (Int.toNat (IntKind.wrap .u64 x2)) 64))))) rfl rfl rfl rfl hE rfl rfl rfl (shr_run hq5) (fun a hE => ?_))) rfl
 refine sN 4 8 [(9, .int .u64 (x1)), (12, .int .u64 ((IntKind.wrap .u64 (IntKind.wrap .i64 ((32 : Int) - x2)))))] hE (fun a hE => ?_)
 obtain ⟨hq6, hf⟩ := chk_not hf
 refine at_op (op_tk hE (tk_bin (r := .int .u64 ((IntKind.wrap .u64 (x1 * 2 ^ (min (Int.toNat (IntKind.wrap .u64 (IntKind.wrap .i64 ((32 : Int) - x2)))) 64))))) rfl rfl rfl rfl hE rfl rfl rfl (shl_run hq6) (fun a hE => ?_))) rfl
 refine sN 3 12 [(4, .int .u64 ((Int.tmod (bor .u64 (Int.fdiv x1 (2 ^ (min (Int.toNat (IntKind.wrap .u64 x2)) 64))) (IntKind.wrap .u64 (x1 * 2 ^ (min (Int.toNat (IntKind.wrap .u64 (IntKind.wrap .i64 ((32 : Int) - x2)))) 64)))) 4294967296)))] hE (fun a hE => ?_)
 refine at_end rfl ?_
 refine wpIn_ret ?_
 obtain rfl := Option.some.inj hf
 repeat (with_reducible first | refine then_ret ?_ | refine block_ret ?_ | refine qx_ret ?_)
 refine ret_gen ([.int .u64 ((Int.tmod (bor .u64 (Int.fdiv x1 (2 ^ (min (Int.toNat (IntKind.wrap .u64 x2)) 64))) (IntKind.wrap .u64 (x1 * 2 ^ (min (Int.toNat (IntKind.wrap .u64 (IntKind.wrap .i64 ((32 : Int) - x2)))) 64)))) 4294967296))]) hE (by rw [show Tryd.f74.results.toList = [.tmp 4] from rfl]; exact ⟨_, _, rfl, rfl, rfl⟩) ?_
 exact ⟨_, rfl, D0, rfl, hS⟩
set_option maxRecDepth 100000 in
set_option maxHeartbeats 4000000 in
theorem inspeximusref01_shift.calls {K : Nat} {g w0 : World} {D0 : Snap} {x1 : Int} {x2 : Int} {r : (Int)} (hf : inspeximusref01_shift.f K x1 x2 = some r) (hS0 : St g w0 D0 []) :
  CallsIn (Fw none) 0 Tryd.prog 75 (List.toArray [.int .u64 (x1), .int .i64 (x2)]) w0 (fun e w' => ∃ v, e = .returned v ∧ ∃ (D1 : Snap), v = .int .u64 (r) ∧ Stp g w0 D0 [] w' D1 []) := by
 unfold inspeximusref01_shift.f at hf
 have hS := Stp.refl hS0
 clear hS0
 refine calls_body (n := 9) Tryd.func75 rfl Tryd.ntmps75 rfl (fun a hE => ?_)
 have hE : Env a 9 [] [(0, .int .u64 (x1)), (1, .int .i64 (x2))] := hE
 refine wpIn_seq ?_
 refine region_at ?_
 refine sN 1 1 [(4, .int .u64 ((0 : Int)))] hE (fun a hE => ?_)
 refine at_end rfl ?_
 refine wpIn_seq ?_
 refine region_at ?_
 refine sN 3 3 [(5, .int .u64 (x1)), (7, .int .u64 ((IntKind.wrap .u64 x2)))] hE (fun a hE => ?_)
 obtain ⟨hq4, hf⟩ := chk_not hf
 refine at_op (op_tk hE (tk_bin (r := .int .u64 ((Int.fdiv x1 (2 ^ (min (Int.toNat (IntKind.wrap .u64 x2)) 64))))) rfl rfl rfl rfl hE rfl rfl rfl (shr_run hq4) (fun a hE => ?_))) rfl
 refine sN 1 5 [(4, .int .u64 ((Int.fdiv x1 (2 ^ (min (Int.toNat (IntKind.wrap .u64 x2)) 64)))))] hE (fun a hE => ?_)
 refine at_end rfl ?_
 refine wpIn_ret ?_
 obtain rfl := Option.some.inj hf
 repeat (with_reducible first | refine then_ret ?_ | refine block_ret ?_ | refine qx_ret ?_)
 refine ret_gen ([.int .u64 ((Int.fdiv x1 (2 ^ (min (Int.toNat (IntKind.wrap .u64 x2)) 64))))]) hE (by rw [show Tryd.f75.results.toList = [.tmp 4] from rfl]; exact ⟨_, _, rfl, rfl, rfl⟩) ?_
 exact ⟨_, rfl, D0, rfl, hS⟩
set_option maxRecDepth 100000 in
set_option maxHeartbeats 4000000 in
theorem inspeximusref01_Turn.calls {K : Nat} {g w0 : World} {D0 : Snap} {x1 : (Vector Int 8)} {x2 : (List Int)} {A3 : Option Addr} {c4 : Nat} {r : ((Vector Int 8))} (hf : inspeximusref01_Turn.f K x1 x2 = some r) (hS0 : St g w0 D0 []) (h5 : Sl (kdInt .u8) D0 A3 c4 (x2)) (hG1 : Cell (kdArr .u32 64) D0 1 0 gl_K) :
  CallsIn (Fw none) 0 Tryd.prog 63 (List.toArray [.agg (List.toArray (acells .u32 8 (x1))), .slice A3 (List.length (x2)) c4]) w0 (fun e w' => ∃ v, e = .returned v ∧ ∃ (D1 : Snap), v = .agg (List.toArray (acells .u32 8 (r))) ∧ Stp g w0 D0 [] w' D1 []) := by
 unfold inspeximusref01_Turn.f at hf
 have hS := Stp.refl hS0
 clear hS0
 refine calls_body (n := 218) Tryd.func63 rfl Tryd.ntmps63 rfl (fun a hE => ?_)
 have hE : Env a 218 [] [(0, .agg (List.toArray (acells .u32 8 (x1)))), (1, .slice A3 (List.length (x2)) c4)] := hE
 refine wpIn_seq ?_
 refine region_at ?_
 refine at_op (op_box rfl rfl rfl rfl hE rfl hS rfl (fun a b4392 w _ hE hS => ?_)) rfl
 refine at_op (op_alloc (z := .agg (List.toArray (acells .u32 8 ((Vector.replicate 8 (0 : Int)))))) rfl rfl rfl rfl hE rfl hS (by kernel_rfl) (fun a b4394 w _ hE hS => ?_)) rfl
 refine at_end rfl ?_
 refine wpIn_seq ?_
 refine wpIn_seq ?_
 refine region_at ?_
 refine sN 3 3 [(21, .bool ((!decide (((List.length (x2) : Nat) : Int) = (64 : Int)))))] hE (fun a hE => ?_)
 refine at_end rfl ?_
 refine cond_split hE (b := (!decide (((List.length (x2) : Nat) : Int) = (64 : Int)))) rfl (fun hb => ?_) (fun hb => ?_)
 ·replace hf := cond_t hb hf
  clear hb
  refine wpIn_seq ?_
  refine region_at ?_
  refine aL 1 (.agg (List.toArray (acells .u32 8 (x1)))) hE hS (fun a hE => ?_)
  refine at_op (op_store (v := .agg (List.toArray (acells .u32 8 (x1)))) (acells .u32 8 (x1)) rfl rfl rfl rfl hE hS rfl rfl (by kernel_rfl) (by kernel_rfl) (by kernel_rfl) (by kernel_rfl) (by kernel_rfl) (fun a w _ hE hS => ?_)) rfl
  refine at_end rfl ?_
  refine wpIn_ret ?_
  obtain rfl := Option.some.inj hf
  repeat (with_reducible first | refine then_ret ?_ | refine block_ret ?_ | refine qx_ret ?_)
  refine ret_gen ([.agg (List.toArray (acells .u32 8 (x1)))]) hE (by rw [show Tryd.f63.results.toList = [.cell 4 98] from rfl]; exact ⟨_, _, _, 0, _, _, rfl, rfl, hS.heapAt (j := 0) rfl, by kernel_rfl, rfl⟩) ?_
  have hS := hS.pk .n rfl
  exact ⟨_, rfl, D0, rfl, hS⟩
 ·replace hf := cond_f hb hf
  clear hb
  refine wpIn_skip ?_
  refine wpIn_seq ?_
  refine region_at ?_
  refine at_op (op_alloc (z := .agg (List.toArray (acells .u64 64 ((Vector.replicate 64 (0 : Int)))))) rfl rfl rfl rfl hE rfl hS (by kernel_rfl) (fun a b4396 w _ hE hS => ?_)) rfl
  refine at_end rfl ?_
  refine wpIn_seq ?_
  refine wpIn_seq ?_
  refine region_at ?_
  refine sN 1 1 [(6, .int .i64 ((0 : Int)))] hE (fun a hE => ?_)
  refine at_end rfl ?_
  obtain ⟨s7217, hf, hs7218⟩ := bind_some hf
  have hS := hS.pk (.c 2 rfl (.c 1 rfl (.c 0 rfl .n))) rfl
  refine block_loop (fun a w => ∃ (z7214 : (Vector Int 64)), ∃ (D7215 : Snap), Env a 218 [] [(2, .pointer (some ⟨b4392, 0, none⟩)), (4, .pointer (some ⟨b4394, 0, none⟩)), (5, .pointer (some ⟨b4396, 0, none⟩))] ∧ Stp g w0 D0 [] w D7215 [bx b4392 98 (acells .u32 8 (x1)), bx b4394 98 (acells .u32 8 ((Vector.replicate 8 (0 : Int)))), bx b4396 111 (acells .u64 64 (z7214))] ∧ Snap.le D0 D7215 ∧ z7214 = s7217) (fun k a w => ∃ (y6647 : Int × (Vector Int 64)), ∃ (D6648 : Snap), Env a 218 [] [(1, .slice A3 (List.length (x2)) c4), (2, .pointer (some ⟨b4392, 0, none⟩)), (4, .pointer (some ⟨b4394, 0, none⟩)), (5, .pointer (some ⟨b4396, 0, none⟩)), (6, .int .i64 (y6647.1))] ∧ Stp g w0 D0 [] w D6648 [bx b4392 98 (acells .u32 8 (x1)), bx b4394 98 (acells .u32 8 ((Vector.replicate 8 (0 : Int)))), bx b4396 111 (acells .u64 64 (y6647.2))] ∧ Snap.le D0 D6648 ∧ inspeximusref01_Turn_l1.l K x2 k y6647 = some s7217) K ?_ ?_ ?_
  ·exact ⟨((0 : Int), (Vector.replicate 64 (0 : Int))), D0, hE.weak (by kernel_rfl), hS, Snap.le.refl _, hf⟩
  ·clear hE hS hf
   rintro a w ⟨z7214, D7215, hE, hS, le7216, rfl⟩
   have hf := hs7218
   clear hs7218
   refine wpIn_seq ?_
   refine region_at ?_
   refine at_op (op_alloc (z := .agg (List.toArray (acells .u64 8 ((Vector.replicate 8 (0 : Int)))))) rfl rfl rfl rfl hE rfl hS (by kernel_rfl) (fun a b7780 w _ hE hS => ?_)) rfl
   refine at_end rfl ?_
   refine wpIn_seq ?_
   refine wpIn_seq ?_
   refine region_at ?_
   refine sN 1 1 [(10, .int .i64 ((0 : Int)))] hE (fun a hE => ?_)
   refine at_end rfl ?_
   obtain ⟨s7852, hf, hs7853⟩ := bind_some hf
   have hS := hS.pk (.c 1 rfl (.c 2 rfl (.c 3 rfl (.c 0 rfl .n)))) rfl
   refine block_loop (fun a w => ∃ (z7849 : (Vector Int 8)), ∃ (D7850 : Snap), Env a 218 [] [(2, .pointer (some ⟨b4392, 0, none⟩)), (4, .pointer (some ⟨b4394, 0, none⟩)), (5, .pointer (some ⟨b4396, 0, none⟩)), (9, .pointer (some ⟨b7780, 0, none⟩))] ∧ Stp g w0 D0 [] w D7850 [bx b4392 98 (acells .u32 8 (x1)), bx b4394 98 (acells .u32 8 ((Vector.replicate 8 (0 : Int)))), bx b4396 111 (acells .u64 64 (z7214)), bx b7780 113 (acells .u64 8 (z7849))] ∧ Snap.le D7215 D7850 ∧ z7849 = s7852) (fun k a w => ∃ (y7835 : Int × (Vector Int 8)), ∃ (D7836 : Snap), Env a 218 [] [(2, .pointer (some ⟨b4392, 0, none⟩)), (4, .pointer (some ⟨b4394, 0, none⟩)), (5, .pointer (some ⟨b4396, 0, none⟩)), (9, .pointer (some ⟨b7780, 0, none⟩)), (10, .int .i64 (y7835.1))] ∧ Stp g w0 D0 [] w D7836 [bx b4392 98 (acells .u32 8 (x1)), bx b4394 98 (acells .u32 8 ((Vector.replicate 8 (0 : Int)))), bx b4396 111 (acells .u64 64 (z7214)), bx b7780 113 (acells .u64 8 (y7835.2))] ∧ Snap.le D7215 D7836 ∧ inspeximusref01_Turn_l2.l K x1 k y7835 = some s7852) K ?_ ?_ ?_
   ·exact ⟨((0 : Int), (Vector.replicate 8 (0 : Int))), D7215, hE.weak (by kernel_rfl), hS, Snap.le.refl _, hf⟩
   ·clear hE hS hf
    rintro a w ⟨z7849, D7850, hE, hS, le7851, rfl⟩
    have hf := hs7853
    clear hs7853
    refine wpIn_seq ?_
    refine wpIn_seq ?_
    refine region_at ?_
    refine sN 1 1 [(11, .int .i64 ((0 : Int)))] hE (fun a hE => ?_)
    refine at_end rfl ?_
    obtain ⟨s8514, hf, hs8515⟩ := bind_some hf
    refine block_loop (fun a w => ∃ (z8511 : (Vector Int 8)), ∃ (D8512 : Snap), Env a 218 [] [(2, .pointer (some ⟨b4392, 0, none⟩)), (4, .pointer (some ⟨b4394, 0, none⟩)), (9, .pointer (some ⟨b7780, 0, none⟩))] ∧ Stp g w0 D0 [] w D8512 [bx b4392 98 (acells .u32 8 (x1)), bx b4394 98 (acells .u32 8 ((Vector.replicate 8 (0 : Int)))), bx b7780 113 (acells .u64 8 (z8511))] ∧ Snap.le D7850 D8512 ∧ z8511 = s8514) (fun k a w => ∃ (y8379 : Int × (Vector Int 8)), ∃ (D8380 : Snap), Env a 218 [] [(2, .pointer (some ⟨b4392, 0, none⟩)), (4, .pointer (some ⟨b4394, 0, none⟩)), (5, .pointer (some ⟨b4396, 0, none⟩)), (9, .pointer (some ⟨b7780, 0, none⟩)), (11, .int .i64 (y8379.1))] ∧ Stp g w0 D0 [] w D8380 [bx b4392 98 (acells .u32 8 (x1)), bx b4394 98 (acells .u32 8 ((Vector.replicate 8 (0 : Int)))), bx b4396 111 (acells .u64 64 (z7214)), bx b7780 113 (acells .u64 8 (y8379.2))] ∧ Snap.le D7850 D8380 ∧ inspeximusref01_Turn_l3.l K z7214 k y8379 = some s8514) K ?_ ?_ ?_
    ·exact ⟨((0 : Int), z7849), D7850, hE.weak (by kernel_rfl), hS, Snap.le.refl _, hf⟩
    ·clear hE hS hf
     rintro a w ⟨z8511, D8512, hE, hS, le8513, rfl⟩
     have hf := hs8515
     clear hs8515
     refine wpIn_seq ?_
     refine wpIn_seq ?_
     refine region_at ?_
     refine sN 1 1 [(18, .int .i64 ((0 : Int)))] hE (fun a hE => ?_)
     refine at_end rfl ?_
     obtain ⟨s8756, hf, hs8757⟩ := bind_some hf
     refine block_loop (fun a w => ∃ (z8753 : (Vector Int 8)), ∃ (D8754 : Snap), Env a 218 [] [(2, .pointer (some ⟨b4392, 0, none⟩)), (4, .pointer (some ⟨b4394, 0, none⟩))] ∧ Stp g w0 D0 [] w D8754 [bx b4392 98 (acells .u32 8 (z8753)), bx b4394 98 (acells .u32 8 ((Vector.replicate 8 (0 : Int))))] ∧ Snap.le D8512 D8754 ∧ z8753 = s8756) (fun k a w => ∃ (y8727 : Int × (Vector Int 8)), ∃ (D8728 : Snap), Env a 218 [] [(2, .pointer (some ⟨b4392, 0, none⟩)), (4, .pointer (some ⟨b4394, 0, none⟩)), (9, .pointer (some ⟨b7780, 0, none⟩)), (18, .int .i64 (y8727.1))] ∧ Stp g w0 D0 [] w D8728 [bx b4392 98 (acells .u32 8 (y8727.2)), bx b4394 98 (acells .u32 8 ((Vector.replicate 8 (0 : Int)))), bx b7780 113 (acells .u64 8 (z8511))] ∧ Snap.le D8512 D8728 ∧ inspeximusref01_Turn_l4.l K z8511 k y8727 = some s8756) K ?_ ?_ ?_
     ·exact ⟨((0 : Int), x1), D8512, hE.weak (by kernel_rfl), hS, Snap.le.refl _, hf⟩
     ·clear hE hS hf
      rintro a w ⟨z8753, D8754, hE, hS, le8755, rfl⟩
      have hf := hs8757
      clear hs8757
      refine wpIn_seq ?_
      refine region_at ?_
      refine aL 0 (.agg (List.toArray (acells .u32 8 (z8753)))) hE hS (fun a hE => ?_)
      have hS := hS.pk (.c 1 rfl (.c 0 rfl .n)) rfl
      refine at_op (op_store (v := .agg (List.toArray (acells .u32 8 (z8753)))) (acells .u32 8 (z8753)) rfl rfl rfl rfl hE hS rfl rfl (by kernel_rfl) (by kernel_rfl) (by kernel_rfl) (by kernel_rfl) (by kernel_rfl) (fun a w _ hE hS => ?_)) rfl
      refine at_end rfl ?_
      refine wpIn_ret ?_
      obtain rfl := Option.some.inj hf
      repeat (with_reducible first | refine then_ret ?_ | refine block_ret ?_ | refine qx_ret ?_)
      refine ret_gen ([.agg (List.toArray (acells .u32 8 (z8753)))]) hE (by rw [show Tryd.f63.results.toList = [.cell 4 98] from rfl]; exact ⟨_, _, _, 0, _, _, rfl, rfl, hS.heapAt (j := 0) rfl, by kernel_rfl, rfl⟩) ?_
      have hS := hS.pk .n rfl
      exact ⟨_, rfl, D8754, rfl, hS⟩
     ·clear hE hS hf
      rintro k a w ⟨y8727, D8728, hE, hS, le8729, hf⟩
      obtain ⟨k, rfl, hf⟩ := inspeximusref01_Turn_l4.some _ hf
      refine ⟨k, rfl, ?_⟩
      unfold inspeximusref01_Turn_l4.b at hf
      refine wpIn_seq ?_
      refine wpIn_seq ?_
      refine region_at ?_
      refine sN 2 2 [(202, .bool ((decide (y8727.1 < (8 : Int)))))] hE (fun a hE => ?_)
      refine at_end rfl ?_
      refine cond_split hE (b := (decide (y8727.1 < (8 : Int)))) rfl (fun hb => ?_) (fun hb => ?_)
      ·replace hf := cond_t hb hf
       clear hb
       refine wpIn_skip ?_
       refine wpIn_seq ?_
       refine wpIn_block ?_
       refine region_draw (fun j => Keeps (mfOf [(12, [b4392])] j)) (by kernel_rfl) ?_
       have hS := hS.drew
       first | generalize w.drew = w at hS ⊢ | generalize w0.drew = w at hS ⊢
       refine wP 0 1 12 (.int .i64 (y8727.1)) hE (fun a hE => ?_)
       refine wP 1 3 11 (.int .i64 (y8727.1)) hE (fun a hE => ?_)
       refine wP 5 35 10 (.int .i64 (y8727.1)) hE (fun a hE => ?_)
       obtain ⟨hm8773, hf⟩ := chk_some hf
       refine tW 2 39 (fuel := 9) (by kernel_rfl) hE (fun M => tk_indexPA (N := 8) (k := .u32) (m := y8727.1) rfl rfl rfl rfl hE rfl rfl rfl (by kernel_rfl) hm8773 (fun a hE => ?_))
       refine tT 3 47 (fuel := 8) (by kernel_rfl) hE (tk_loadPA 0 (N := 8) (k := .u32) (v := y8727.2) (m := y8727.1) rfl rfl rfl rfl hE rfl hS rfl rfl (by kernel_rfl) hm8773 (kL (j := 0) hS rfl List.not_mem_nil) (fun a hE => ?_))
       refine tW 4 63 (fuel := 7) (by kernel_rfl) hE (fun M => tk_pure (.int .u64 ((IntKind.wrap .u64 (vget (y8727.2) (Int.toNat (y8727.1)))))) hE rfl rfl rfl rfl (fun _ _ _ e => by cases e; rfl) (by kernel_rfl) (fun a hE => ?_))
       obtain ⟨hm8774, hf⟩ := chk_some hf
       refine tW 6 127 (fuel := 6) (by kernel_rfl) hE (fun M => tk_indexPA (N := 8) (k := .u64) (m := y8727.1) rfl rfl rfl rfl hE rfl rfl rfl (by kernel_rfl) hm8774 (fun a hE => ?_))
       refine tT 7 255 (fuel := 5) (by kernel_rfl) hE (tk_loadPA 2 (N := 8) (k := .u64) (v := z8511) (m := y8727.1) rfl rfl rfl rfl hE rfl hS rfl rfl (by kernel_rfl) hm8774 (kL (j := 2) hS rfl List.not_mem_nil) (fun a hE => ?_))
       refine wP 8 511 4 (.int .u64 ((IntKind.wrap .u64 ((IntKind.wrap .u64 (vget (y8727.2) (Int.toNat (y8727.1)))) + (vget (z8511) (Int.toNat (y8727.1))))))) hE (fun a hE => ?_)
       refine wP 9 1023 3 (.int .u64 ((Int.tmod (IntKind.wrap .u64 ((IntKind.wrap .u64 (vget (y8727.2) (Int.toNat (y8727.1)))) + (vget (z8511) (Int.toNat (y8727.1))))) 4294967296))) hE (fun a hE => ?_)
       refine tW 10 2047 (fuel := 2) (by kernel_rfl) hE (fun M => tk_pure (.int .u32 ((IntKind.wrap .u32 (Int.tmod (IntKind.wrap .u64 ((IntKind.wrap .u64 (vget (y8727.2) (Int.toNat (y8727.1)))) + (vget (z8511) (Int.toNat (y8727.1))))) 4294967296)))) hE rfl rfl rfl rfl (fun _ _ _ e => by cases e; rfl) (by kernel_rfl) (fun a hE => ?_))
       obtain ⟨hm8775, hf⟩ := chk_some hf
       refine tW 11 4095 (fuel := 1) (by kernel_rfl) hE (fun M => tk_indexPA (N := 8) (k := .u32) (m := y8727.1) rfl rfl rfl rfl hE rfl rfl rfl (by kernel_rfl) hm8775 (fun a hE => ?_))
       obtain ⟨v8776, hv8777, hf⟩ := bind_some hf
       replace hv8777 := Option.some.inj hv8777
       refine oG 12 8191 (fuel := 0) (by kernel_rfl) (op_storePA (N := 8) (k := .u32) (v := y8727.2) (m := y8727.1) (z := (IntKind.wrap .u32 (Int.tmod (IntKind.wrap .u64 ((IntKind.wrap .u64 (vget (y8727.2) (Int.toNat (y8727.1)))) + (vget (z8511) (Int.toNat (y8727.1))))) 4294967296))) rfl rfl rfl rfl hE hS rfl rfl (by kernel_rfl) hm8775 (fun a w hkp hE hS => ⟨hkp.mono (fun _ h => h), ?_⟩))
       clear hkp
       rw [hv8777] at hS
       refine doneG (by kernel_rfl) ?_
       refine region_at ?_
       refine sN 3 3 [(18, .int .i64 ((IntKind.wrap .i64 (y8727.1 + (1 : Int)))))] hE (fun a hE => ?_)
       refine at_end rfl ?_
       exact ⟨((IntKind.wrap .i64 (y8727.1 + (1 : Int))), v8776), D8728, hE.weak (by kernel_rfl), hS, le8729, hf⟩
      ·replace hf := cond_f hb hf
       clear hb
       refine wpIn_exit ?_
       obtain rfl := Option.some.inj hf
       have hS := hS.pk (.c 0 rfl (.c 1 rfl .n)) rfl
       exact ⟨y8727.2, D8728, hE.weak (by kernel_rfl), hS, le8729, rfl⟩
    ·clear hE hS hf
     rintro k a w ⟨y8379, D8380, hE, hS, le8381, hf⟩
     obtain ⟨k, rfl, hf⟩ := inspeximusref01_Turn_l3.some _ hf
     refine ⟨k, rfl, ?_⟩
     unfold inspeximusref01_Turn_l3.b at hf
     refine wpIn_seq ?_
     refine wpIn_seq ?_
     refine region_at ?_
     refine sN 2 2 [(113, .bool ((decide (y8379.1 < (64 : Int)))))] hE (fun a hE => ?_)
     refine at_end rfl ?_
     refine cond_split hE (b := (decide (y8379.1 < (64 : Int)))) rfl (fun hb => ?_) (fun hb => ?_)
     ·replace hf := cond_t hb hf
      clear hb
      refine wpIn_skip ?_
      refine wpIn_seq ?_
      refine wpIn_block ?_
      refine wpIn_seq ?_
      refine region_draw (fun j => Keeps (mfOf [] j)) (by kernel_rfl) ?_
      have hS := hS.drew
      first | generalize w.drew = w at hS ⊢ | generalize w0.drew = w at hS ⊢
      refine tW 0 1 (fuel := 5) (by kernel_rfl) hE (fun M => tk_indexPA (N := 8) (k := .u64) (m := (4 : Int)) rfl rfl rfl rfl hE rfl rfl rfl (by kernel_rfl) (by kernel_rfl) (fun a hE => ?_))
      refine tT 1 3 (fuel := 4) (by kernel_rfl) hE (tk_loadPA 3 (N := 8) (k := .u64) (v := y8379.2) (m := (4 : Int)) rfl rfl rfl rfl hE rfl hS rfl rfl (by kernel_rfl) (by kernel_rfl) (kL (j := 3) hS rfl List.not_mem_nil) (fun a hE => ?_))
      refine wP 4 19 3 (.int .u64 ((vget (y8379.2) (Int.toNat ((4 : Int)))))) hE (fun a hE => ?_)
      refine tW 2 23 (fuel := 2) (by kernel_rfl) hE (fun M => tk_indexPA (N := 8) (k := .u64) (m := (0 : Int)) rfl rfl rfl rfl hE rfl rfl rfl (by kernel_rfl) (by kernel_rfl) (fun a hE => ?_))
      refine tT 3 31 (fuel := 1) (by kernel_rfl) hE (tk_loadPA 3 (N := 8) (k := .u64) (v := y8379.2) (m := (0 : Int)) rfl rfl rfl rfl hE rfl hS rfl rfl (by kernel_rfl) (by kernel_rfl) (kL (j := 3) hS rfl List.not_mem_nil) (fun a hE => ?_))
      refine wP 5 63 0 (.int .u64 ((vget (y8379.2) (Int.toNat ((0 : Int)))))) hE (fun a hE => ?_)
      refine doneG (by kernel_rfl) ?_
      refine wpIn_seq ?_
      refine region_at ?_
      refine sN 1 1 [(120, .int .u64 ((vget (y8379.2) (Int.toNat ((4 : Int))))))] hE (fun a hE => ?_)
      refine at_op (op_tk hE (tk_indexPA (N := 8) (k := .u64) (m := (5 : Int)) rfl rfl rfl rfl hE rfl rfl rfl (by kernel_rfl) (by kernel_rfl) (fun a hE => ?_))) rfl
      refine at_op (op_tk hE (tk_loadPA 3 (N := 8) (k := .u64) (v := y8379.2) (m := (5 : Int)) rfl rfl rfl rfl hE rfl hS rfl rfl (by kernel_rfl) (by kernel_rfl) (kL (j := 3) hS rfl List.not_mem_nil) (fun a hE => ?_))) rfl
      refine sN 3 6 [(123, .int .u64 ((band .u64 (vget (y8379.2) (Int.toNat ((4 : Int)))) (vget (y8379.2) (Int.toNat ((5 : Int))))))), (125, .int .u64 ((IntKind.wrap .u64 ((4294967295 : Int) - (vget (y8379.2) (Int.toNat ((4 : Int))))))))] hE (fun a hE => ?_)
      refine at_op (op_tk hE (tk_indexPA (N := 8) (k := .u64) (m := (6 : Int)) rfl rfl rfl rfl hE rfl rfl rfl (by kernel_rfl) (by kernel_rfl) (fun a hE => ?_))) rfl
      refine at_op (op_tk hE (tk_loadPA 3 (N := 8) (k := .u64) (v := y8379.2) (m := (6 : Int)) rfl rfl rfl rfl hE rfl hS rfl rfl (by kernel_rfl) (by kernel_rfl) (kL (j := 3) hS rfl List.not_mem_nil) (fun a hE => ?_))) rfl
      refine sN 3 11 [(14, .int .u64 ((bxor .u64 (band .u64 (vget (y8379.2) (Int.toNat ((4 : Int)))) (vget (y8379.2) (Int.toNat ((5 : Int))))) (band .u64 (IntKind.wrap .u64 ((4294967295 : Int) - (vget (y8379.2) (Int.toNat ((4 : Int)))))) (vget (y8379.2) (Int.toNat ((6 : Int))))))))] hE (fun a hE => ?_)
      refine at_end rfl ?_
      refine wpIn_seq ?_
      refine region_at ?_
      refine sN 1 1 [(130, .int .u64 ((vget (y8379.2) (Int.toNat ((0 : Int))))))] hE (fun a hE => ?_)
      refine at_op (op_tk hE (tk_indexPA (N := 8) (k := .u64) (m := (1 : Int)) rfl rfl rfl rfl hE rfl rfl rfl (by kernel_rfl) (by kernel_rfl) (fun a hE => ?_))) rfl
      refine at_op (op_tk hE (tk_loadPA 3 (N := 8) (k := .u64) (v := y8379.2) (m := (1 : Int)) rfl rfl rfl rfl hE rfl hS rfl rfl (by kernel_rfl) (by kernel_rfl) (kL (j := 3) hS rfl List.not_mem_nil) (fun a hE => ?_))) rfl
      refine sN 2 5 [(133, .int .u64 ((band .u64 (vget (y8379.2) (Int.toNat ((0 : Int)))) (vget (y8379.2) (Int.toNat ((1 : Int))))))), (134, .int .u64 ((vget (y8379.2) (Int.toNat ((0 : Int))))))] hE (fun a hE => ?_)
      refine at_op (op_tk hE (tk_indexPA (N := 8) (k := .u64) (m := (2 : Int)) rfl rfl rfl rfl hE rfl rfl rfl (by kernel_rfl) (by kernel_rfl) (fun a hE => ?_))) rfl
      refine at_op (op_tk hE (tk_loadPA 3 (N := 8) (k := .u64) (v := y8379.2) (m := (2 : Int)) rfl rfl rfl rfl hE rfl hS rfl rfl (by kernel_rfl) (by kernel_rfl) (kL (j := 3) hS rfl List.not_mem_nil) (fun a hE => ?_))) rfl
      refine sN 2 9 [(138, .int .u64 ((bxor .u64 (band .u64 (vget (y8379.2) (Int.toNat ((0 : Int)))) (vget (y8379.2) (Int.toNat ((1 : Int))))) (band .u64 (vget (y8379.2) (Int.toNat ((0 : Int)))) (vget (y8379.2) (Int.toNat ((2 : Int))))))))] hE (fun a hE => ?_)
      refine at_op (op_tk hE (tk_indexPA (N := 8) (k := .u64) (m := (1 : Int)) rfl rfl rfl rfl hE rfl rfl rfl (by kernel_rfl) (by kernel_rfl) (fun a hE => ?_))) rfl
      refine at_op (op_tk hE (tk_loadPA 3 (N := 8) (k := .u64) (v := y8379.2) (m := (1 : Int)) rfl rfl rfl rfl hE rfl hS rfl rfl (by kernel_rfl) (by kernel_rfl) (kL (j := 3) hS rfl List.not_mem_nil) (fun a hE => ?_))) rfl
      refine at_op (op_tk hE (tk_indexPA (N := 8) (k := .u64) (m := (2 : Int)) rfl rfl rfl rfl hE rfl rfl rfl (by kernel_rfl) (by kernel_rfl) (fun a hE => ?_))) rfl
      refine at_op (op_tk hE (tk_loadPA 3 (N := 8) (k := .u64) (v := y8379.2) (m := (2 : Int)) rfl rfl rfl rfl hE rfl hS rfl rfl (by kernel_rfl) (by kernel_rfl) (kL (j := 3) hS rfl List.not_mem_nil) (fun a hE => ?_))) rfl
      refine sN 3 16 [(15, .int .u64 ((bxor .u64 (bxor .u64 (band .u64 (vget (y8379.2) (Int.toNat ((0 : Int)))) (vget (y8379.2) (Int.toNat ((1 : Int))))) (band .u64 (vget (y8379.2) (Int.toNat ((0 : Int)))) (vget (y8379.2) (Int.toNat ((2 : Int)))))) (band .u64 (vget (y8379.2) (Int.toNat ((1 : Int)))) (vget (y8379.2) (Int.toNat ((2 : Int))))))))] hE (fun a hE => ?_)
      refine at_end rfl ?_
      refine wpIn_seq ?_
      refine region_draw (fun j => Keeps (mfOf [] j)) (by kernel_rfl) ?_
      have hS := hS.drew
      first | generalize w.drew = w at hS ⊢ | generalize w0.drew = w at hS ⊢
      refine wP 2 4 23 (.int .u64 ((vget (y8379.2) (Int.toNat ((4 : Int)))))) hE (fun a hE => ?_)
      refine wP 4 20 22 (.int .u64 ((vget (y8379.2) (Int.toNat ((4 : Int)))))) hE (fun a hE => ?_)
      refine wP 7 148 21 (.int .u64 ((vget (y8379.2) (Int.toNat ((4 : Int)))))) hE (fun a hE => ?_)
      refine wP 11 2196 20 (.int .u64 ((bxor .u64 (band .u64 (vget (y8379.2) (Int.toNat ((4 : Int)))) (vget (y8379.2) (Int.toNat ((5 : Int))))) (band .u64 (IntKind.wrap .u64 ((4294967295 : Int) - (vget (y8379.2) (Int.toNat ((4 : Int)))))) (vget (y8379.2) (Int.toNat ((6 : Int)))))))) hE (fun a hE => ?_)
      refine wP 13 10388 19 (.int .i64 (y8379.1)) hE (fun a hE => ?_)
      refine wP 18 272532 18 (.int .i64 (y8379.1)) hE (fun a hE => ?_)
      refine tW 0 272533 (fuel := 17) (by kernel_rfl) hE (fun M => tk_indexPA (N := 8) (k := .u64) (m := (7 : Int)) rfl rfl rfl rfl hE rfl rfl rfl (by kernel_rfl) (by kernel_rfl) (fun a hE => ?_))
      refine tT 1 272535 (fuel := 16) (by kernel_rfl) hE (tk_loadPA 3 (N := 8) (k := .u64) (v := y8379.2) (m := (7 : Int)) rfl rfl rfl rfl hE rfl hS rfl rfl (by kernel_rfl) (by kernel_rfl) (kL (j := 3) hS rfl List.not_mem_nil) (fun a hE => ?_))
      obtain ⟨hm8603, hf⟩ := chk_some hf
      refine tW 14 288919 (fuel := 15) (by kernel_rfl) hE (fun M => tk_indexPA (N := 64) (k := .u32) (m := y8379.1) rfl rfl rfl rfl hE rfl rfl rfl (by kernel_rfl) hm8603 (fun a hE => ?_))
      obtain ⟨cs8604, C8605, T8606, fr8607, hr8608, hb8609, hc8610⟩ := (Cell.elemA (N := 64) (m := y8379.1) (hG1.mono (le2 (le2 le7216 le7851) le8381)) hm8603)
      obtain rfl := hr8608
      refine tT 15 321687 (fuel := 14) (by kernel_rfl) hE (tk_loadX (off0 := (0 + Int.toNat (y8379.1))) (off := 0) (c := [.int .u32 ((vget (gl_K) (Int.toNat (y8379.1))))]) (.int .u32 ((vget (gl_K) (Int.toNat (y8379.1))))) rfl rfl rfl rfl hE rfl hS rfl hb8609 hc8610 (by kernel_rfl) (by kernel_rfl) (kD hS dn_nil) (fun a hE => ?_))
      refine tW 16 387223 (fuel := 13) (by kernel_rfl) hE (fun M => tk_pure (.int .u64 ((IntKind.wrap .u64 (vget (gl_K) (Int.toNat (y8379.1)))))) hE rfl rfl rfl rfl (fun _ _ _ e => by cases e; rfl) (by kernel_rfl) (fun a hE => ?_))
      obtain ⟨hm8611, hf⟩ := chk_some hf
      refine tW 19 911511 (fuel := 12) (by kernel_rfl) hE (fun M => tk_indexPA (N := 64) (k := .u64) (m := y8379.1) rfl rfl rfl rfl hE rfl rfl rfl (by kernel_rfl) hm8611 (fun a hE => ?_))
      refine tT 20 1960087 (fuel := 11) (by kernel_rfl) hE (tk_loadPA 2 (N := 64) (k := .u64) (v := z7214) (m := y8379.1) rfl rfl rfl rfl hE rfl hS rfl rfl (by kernel_rfl) hm8611 (kL (j := 2) hS rfl List.not_mem_nil) (fun a hE => ?_))
      obtain ⟨r8612, h8613, hf⟩ := bind_some hf
      refine oG 3 1960095 (fuel := 10) (by kernel_rfl) (op_call rfl rfl rfl rfl hE rfl rfl rfl rfl (by kernel_rfl) (inspeximusref01_right.calls (g := g) h8613 (hS.st.fore (L := [])) ) (fun a v w hR hE => ?_))
      obtain ⟨D8614, rfl, hS1⟩ := hR
      refine ⟨(hS1.keeps.sub (M' := []) trivial).mono (fun _ h => h), ?_⟩
      have le8616 := hS1.dle
      have hS := hS.callR hS1 rfl .n
      clear hS1
      obtain ⟨r8617, h8618, hf⟩ := bind_some hf
      refine oG 5 1960127 (fuel := 9) (by kernel_rfl) (op_call rfl rfl rfl rfl hE rfl rfl rfl rfl (by kernel_rfl) (inspeximusref01_right.calls (g := g) h8618 (hS.st.fore (L := [])) ) (fun a v w hR hE => ?_))
      obtain ⟨D8619, rfl, hS1⟩ := hR
      refine ⟨(hS1.keeps.sub (M' := []) trivial).mono (fun _ h => h), ?_⟩
      have le8621 := hS1.dle
      have hS := hS.callR hS1 rfl .n
      clear hS1
      refine wP 6 1960191 8 (.int .u64 ((bxor .u64 r8612 r8617))) hE (fun a hE => ?_)
      obtain ⟨r8622, h8623, hf⟩ := bind_some hf
      refine oG 8 1960447 (fuel := 7) (by kernel_rfl) (op_call rfl rfl rfl rfl hE rfl rfl rfl rfl (by kernel_rfl) (inspeximusref01_right.calls (g := g) h8623 (hS.st.fore (L := [])) ) (fun a v w hR hE => ?_))
      obtain ⟨D8624, rfl, hS1⟩ := hR
      refine ⟨(hS1.keeps.sub (M' := []) trivial).mono (fun _ h => h), ?_⟩
      have le8626 := hS1.dle
      have hS := hS.callR hS1 rfl .n
      clear hS1
      refine wP 9 1960959 6 (.int .u64 ((bxor .u64 (bxor .u64 r8612 r8617) r8622))) hE (fun a hE => ?_)
      refine wP 10 1961983 5 (.int .u64 ((IntKind.wrap .u64 ((vget (y8379.2) (Int.toNat ((7 : Int)))) + (bxor .u64 (bxor .u64 r8612 r8617) r8622))))) hE (fun a hE => ?_)
      refine wP 12 1966079 4 (.int .u64 ((IntKind.wrap .u64 ((IntKind.wrap .u64 ((vget (y8379.2) (Int.toNat ((7 : Int)))) + (bxor .u64 (bxor .u64 r8612 r8617) r8622))) + (bxor .u64 (band .u64 (vget (y8379.2) (Int.toNat ((4 : Int)))) (vget (y8379.2) (Int.toNat ((5 : Int))))) (band .u64 (IntKind.wrap .u64 ((4294967295 : Int) - (vget (y8379.2) (Int.toNat ((4 : Int)))))) (vget (y8379.2) (Int.toNat ((6 : Int)))))))))) hE (fun a hE => ?_)
      refine wP 17 2097151 3 (.int .u64 ((IntKind.wrap .u64 ((IntKind.wrap .u64 ((IntKind.wrap .u64 ((vget (y8379.2) (Int.toNat ((7 : Int)))) + (bxor .u64 (bxor .u64 r8612 r8617) r8622))) + (bxor .u64 (band .u64 (vget (y8379.2) (Int.toNat ((4 : Int)))) (vget (y8379.2) (Int.toNat ((5 : Int))))) (band .u64 (IntKind.wrap .u64 ((4294967295 : Int) - (vget (y8379.2) (Int.toNat ((4 : Int)))))) (vget (y8379.2) (Int.toNat ((6 : Int)))))))) + (IntKind.wrap .u64 (vget (gl_K) (Int.toNat (y8379.1)))))))) hE (fun a hE => ?_)
      refine wP 21 4194303 2 (.int .u64 ((IntKind.wrap .u64 ((IntKind.wrap .u64 ((IntKind.wrap .u64 ((IntKind.wrap .u64 ((vget (y8379.2) (Int.toNat ((7 : Int)))) + (bxor .u64 (bxor .u64 r8612 r8617) r8622))) + (bxor .u64 (band .u64 (vget (y8379.2) (Int.toNat ((4 : Int)))) (vget (y8379.2) (Int.toNat ((5 : Int))))) (band .u64 (IntKind.wrap .u64 ((4294967295 : Int) - (vget (y8379.2) (Int.toNat ((4 : Int)))))) (vget (y8379.2) (Int.toNat ((6 : Int)))))))) + (IntKind.wrap .u64 (vget (gl_K) (Int.toNat (y8379.1)))))) + (vget (z7214) (Int.toNat (y8379.1))))))) hE (fun a hE => ?_)
      refine wP 22 8388607 1 (.int .u64 ((Int.tmod (IntKind.wrap .u64 ((IntKind.wrap .u64 ((IntKind.wrap .u64 ((IntKind.wrap .u64 ((vget (y8379.2) (Int.toNat ((7 : Int)))) + (bxor .u64 (bxor .u64 r8612 r8617) r8622))) + (bxor .u64 (band .u64 (vget (y8379.2) (Int.toNat ((4 : Int)))) (vget (y8379.2) (Int.toNat ((5 : Int))))) (band .u64 (IntKind.wrap .u64 ((4294967295 : Int) - (vget (y8379.2) (Int.toNat ((4 : Int)))))) (vget (y8379.2) (Int.toNat ((6 : Int)))))))) + (IntKind.wrap .u64 (vget (gl_K) (Int.toNat (y8379.1)))))) + (vget (z7214) (Int.toNat (y8379.1))))) 4294967296))) hE (fun a hE => ?_)
      refine wP 23 16777215 0 (.int .u64 ((Int.tmod (IntKind.wrap .u64 ((IntKind.wrap .u64 ((IntKind.wrap .u64 ((IntKind.wrap .u64 ((vget (y8379.2) (Int.toNat ((7 : Int)))) + (bxor .u64 (bxor .u64 r8612 r8617) r8622))) + (bxor .u64 (band .u64 (vget (y8379.2) (Int.toNat ((4 : Int)))) (vget (y8379.2) (Int.toNat ((5 : Int))))) (band .u64 (IntKind.wrap .u64 ((4294967295 : Int) - (vget (y8379.2) (Int.toNat ((4 : Int)))))) (vget (y8379.2) (Int.toNat ((6 : Int)))))))) + (IntKind.wrap .u64 (vget (gl_K) (Int.toNat (y8379.1)))))) + (vget (z7214) (Int.toNat (y8379.1))))) 4294967296))) hE (fun a hE => ?_)
      refine doneG (by kernel_rfl) ?_
      refine wpIn_seq ?_
      refine region_at ?_
      refine sN 1 1 [(168, .int .u64 ((vget (y8379.2) (Int.toNat ((0 : Int))))))] hE (fun a hE => ?_)
      obtain ⟨r8627, h8628, hf⟩ := bind_some hf
      refine aC rfl rfl rfl rfl hE rfl rfl rfl rfl (inspeximusref01_right.calls (g := g) h8628 (hS.st.fore (L := [])) ) (fun a v w hR hE => ?_)
      obtain ⟨D8629, rfl, hS1⟩ := hR
      have le8631 := hS1.dle
      have hS := hS.callR hS1 rfl .n
      clear hS1
      refine sN 1 3 [(170, .int .u64 ((vget (y8379.2) (Int.toNat ((0 : Int))))))] hE (fun a hE => ?_)
      obtain ⟨r8632, h8633, hf⟩ := bind_some hf
      refine aC rfl rfl rfl rfl hE rfl rfl rfl rfl (inspeximusref01_right.calls (g := g) h8633 (hS.st.fore (L := [])) ) (fun a v w hR hE => ?_)
      obtain ⟨D8634, rfl, hS1⟩ := hR
      have le8636 := hS1.dle
      have hS := hS.callR hS1 rfl .n
      clear hS1
      refine sN 2 6 [(172, .int .u64 ((bxor .u64 r8627 r8632))), (173, .int .u64 ((vget (y8379.2) (Int.toNat ((0 : Int))))))] hE (fun a hE => ?_)
      obtain ⟨r8637, h8638, hf⟩ := bind_some hf
      refine aC rfl rfl rfl rfl hE rfl rfl rfl rfl (inspeximusref01_right.calls (g := g) h8638 (hS.st.fore (L := [])) ) (fun a v w hR hE => ?_)
      obtain ⟨D8639, rfl, hS1⟩ := hR
      have le8641 := hS1.dle
      have hS := hS.callR hS1 rfl .n
      clear hS1
      refine sN 5 12 [(17, .int .u64 ((Int.tmod (IntKind.wrap .u64 ((bxor .u64 (bxor .u64 r8627 r8632) r8637) + (bxor .u64 (bxor .u64 (band .u64 (vget (y8379.2) (Int.toNat ((0 : Int)))) (vget (y8379.2) (Int.toNat ((1 : Int))))) (band .u64 (vget (y8379.2) (Int.toNat ((0 : Int)))) (vget (y8379.2) (Int.toNat ((2 : Int)))))) (band .u64 (vget (y8379.2) (Int.toNat ((1 : Int)))) (vget (y8379.2) (Int.toNat ((2 : Int)))))))) 4294967296)))] hE (fun a hE => ?_)
      refine at_end rfl ?_
      refine region_at ?_
      refine sN 4 4 [(182, .int .u64 ((Int.tmod (IntKind.wrap .u64 ((Int.tmod (IntKind.wrap .u64 ((IntKind.wrap .u64 ((IntKind.wrap .u64 ((IntKind.wrap .u64 ((vget (y8379.2) (Int.toNat ((7 : Int)))) + (bxor .u64 (bxor .u64 r8612 r8617) r8622))) + (bxor .u64 (band .u64 (vget (y8379.2) (Int.toNat ((4 : Int)))) (vget (y8379.2) (Int.toNat ((5 : Int))))) (band .u64 (IntKind.wrap .u64 ((4294967295 : Int) - (vget (y8379.2) (Int.toNat ((4 : Int)))))) (vget (y8379.2) (Int.toNat ((6 : Int)))))))) + (IntKind.wrap .u64 (vget (gl_K) (Int.toNat (y8379.1)))))) + (vget (z7214) (Int.toNat (y8379.1))))) 4294967296) + (Int.tmod (IntKind.wrap .u64 ((bxor .u64 (bxor .u64 r8627 r8632) r8637) + (bxor .u64 (bxor .u64 (band .u64 (vget (y8379.2) (Int.toNat ((0 : Int)))) (vget (y8379.2) (Int.toNat ((1 : Int))))) (band .u64 (vget (y8379.2) (Int.toNat ((0 : Int)))) (vget (y8379.2) (Int.toNat ((2 : Int)))))) (band .u64 (vget (y8379.2) (Int.toNat ((1 : Int)))) (vget (y8379.2) (Int.toNat ((2 : Int)))))))) 4294967296))) 4294967296)))] hE (fun a hE => ?_)
      refine at_op (op_tk hE (tk_indexPA (N := 8) (k := .u64) (m := (0 : Int)) rfl rfl rfl rfl hE rfl rfl rfl (by kernel_rfl) (by kernel_rfl) (fun a hE => ?_))) rfl
      refine at_op (op_tk hE (tk_loadPA 3 (N := 8) (k := .u64) (v := y8379.2) (m := (0 : Int)) rfl rfl rfl rfl hE rfl hS rfl rfl (by kernel_rfl) (by kernel_rfl) (kL (j := 3) hS rfl List.not_mem_nil) (fun a hE => ?_))) rfl
      refine at_op (op_tk hE (tk_indexPA (N := 8) (k := .u64) (m := (1 : Int)) rfl rfl rfl rfl hE rfl rfl rfl (by kernel_rfl) (by kernel_rfl) (fun a hE => ?_))) rfl
      refine at_op (op_tk hE (tk_loadPA 3 (N := 8) (k := .u64) (v := y8379.2) (m := (1 : Int)) rfl rfl rfl rfl hE rfl hS rfl rfl (by kernel_rfl) (by kernel_rfl) (kL (j := 3) hS rfl List.not_mem_nil) (fun a hE => ?_))) rfl
      refine at_op (op_tk hE (tk_indexPA (N := 8) (k := .u64) (m := (2 : Int)) rfl rfl rfl rfl hE rfl rfl rfl (by kernel_rfl) (by kernel_rfl) (fun a hE => ?_))) rfl
      refine at_op (op_tk hE (tk_loadPA 3 (N := 8) (k := .u64) (v := y8379.2) (m := (2 : Int)) rfl rfl rfl rfl hE rfl hS rfl rfl (by kernel_rfl) (by kernel_rfl) (kL (j := 3) hS rfl List.not_mem_nil) (fun a hE => ?_))) rfl
      refine at_op (op_tk hE (tk_indexPA (N := 8) (k := .u64) (m := (3 : Int)) rfl rfl rfl rfl hE rfl rfl rfl (by kernel_rfl) (by kernel_rfl) (fun a hE => ?_))) rfl
      refine at_op (op_tk hE (tk_loadPA 3 (N := 8) (k := .u64) (v := y8379.2) (m := (3 : Int)) rfl rfl rfl rfl hE rfl hS rfl rfl (by kernel_rfl) (by kernel_rfl) (kL (j := 3) hS rfl List.not_mem_nil) (fun a hE => ?_))) rfl
      refine sN 3 15 [(193, .int .u64 ((Int.tmod (IntKind.wrap .u64 ((vget (y8379.2) (Int.toNat ((3 : Int)))) + (Int.tmod (IntKind.wrap .u64 ((IntKind.wrap .u64 ((IntKind.wrap .u64 ((IntKind.wrap .u64 ((vget (y8379.2) (Int.toNat ((7 : Int)))) + (bxor .u64 (bxor .u64 r8612 r8617) r8622))) + (bxor .u64 (band .u64 (vget (y8379.2) (Int.toNat ((4 : Int)))) (vget (y8379.2) (Int.toNat ((5 : Int))))) (band .u64 (IntKind.wrap .u64 ((4294967295 : Int) - (vget (y8379.2) (Int.toNat ((4 : Int)))))) (vget (y8379.2) (Int.toNat ((6 : Int)))))))) + (IntKind.wrap .u64 (vget (gl_K) (Int.toNat (y8379.1)))))) + (vget (z7214) (Int.toNat (y8379.1))))) 4294967296))) 4294967296)))] hE (fun a hE => ?_)
      refine at_op (op_tk hE (tk_indexPA (N := 8) (k := .u64) (m := (4 : Int)) rfl rfl rfl rfl hE rfl rfl rfl (by kernel_rfl) (by kernel_rfl) (fun a hE => ?_))) rfl
      refine at_op (op_tk hE (tk_loadPA 3 (N := 8) (k := .u64) (v := y8379.2) (m := (4 : Int)) rfl rfl rfl rfl hE rfl hS rfl rfl (by kernel_rfl) (by kernel_rfl) (kL (j := 3) hS rfl List.not_mem_nil) (fun a hE => ?_))) rfl
      refine at_op (op_tk hE (tk_indexPA (N := 8) (k := .u64) (m := (5 : Int)) rfl rfl rfl rfl hE rfl rfl rfl (by kernel_rfl) (by kernel_rfl) (fun a hE => ?_))) rfl
      refine at_op (op_tk hE (tk_loadPA 3 (N := 8) (k := .u64) (v := y8379.2) (m := (5 : Int)) rfl rfl rfl rfl hE rfl hS rfl rfl (by kernel_rfl) (by kernel_rfl) (kL (j := 3) hS rfl List.not_mem_nil) (fun a hE => ?_))) rfl
      refine at_op (op_tk hE (tk_indexPA (N := 8) (k := .u64) (m := (6 : Int)) rfl rfl rfl rfl hE rfl rfl rfl (by kernel_rfl) (by kernel_rfl) (fun a hE => ?_))) rfl
      refine at_op (op_tk hE (tk_loadPA 3 (N := 8) (k := .u64) (v := y8379.2) (m := (6 : Int)) rfl rfl rfl rfl hE rfl hS rfl rfl (by kernel_rfl) (by kernel_rfl) (kL (j := 3) hS rfl List.not_mem_nil) (fun a hE => ?_))) rfl
      refine at_op (op_tk hE (tk_build (acells .u64 8 ((vofL 8 [(Int.tmod (IntKind.wrap .u64 ((Int.tmod (IntKind.wrap .u64 ((IntKind.wrap .u64 ((IntKind.wrap .u64 ((IntKind.wrap .u64 ((vget (y8379.2) (Int.toNat ((7 : Int)))) + (bxor .u64 (bxor .u64 r8612 r8617) r8622))) + (bxor .u64 (band .u64 (vget (y8379.2) (Int.toNat ((4 : Int)))) (vget (y8379.2) (Int.toNat ((5 : Int))))) (band .u64 (IntKind.wrap .u64 ((4294967295 : Int) - (vget (y8379.2) (Int.toNat ((4 : Int)))))) (vget (y8379.2) (Int.toNat ((6 : Int)))))))) + (IntKind.wrap .u64 (vget (gl_K) (Int.toNat (y8379.1)))))) + (vget (z7214) (Int.toNat (y8379.1))))) 4294967296) + (Int.tmod (IntKind.wrap .u64 ((bxor .u64 (bxor .u64 r8627 r8632) r8637) + (bxor .u64 (bxor .u64 (band .u64 (vget (y8379.2) (Int.toNat ((0 : Int)))) (vget (y8379.2) (Int.toNat ((1 : Int))))) (band .u64 (vget (y8379.2) (Int.toNat ((0 : Int)))) (vget (y8379.2) (Int.toNat ((2 : Int)))))) (band .u64 (vget (y8379.2) (Int.toNat ((1 : Int)))) (vget (y8379.2) (Int.toNat ((2 : Int)))))))) 4294967296))) 4294967296), (vget (y8379.2) (Int.toNat ((0 : Int)))), (vget (y8379.2) (Int.toNat ((1 : Int)))), (vget (y8379.2) (Int.toNat ((2 : Int)))), (Int.tmod (IntKind.wrap .u64 ((vget (y8379.2) (Int.toNat ((3 : Int)))) + (Int.tmod (IntKind.wrap .u64 ((IntKind.wrap .u64 ((IntKind.wrap .u64 ((IntKind.wrap .u64 ((vget (y8379.2) (Int.toNat ((7 : Int)))) + (bxor .u64 (bxor .u64 r8612 r8617) r8622))) + (bxor .u64 (band .u64 (vget (y8379.2) (Int.toNat ((4 : Int)))) (vget (y8379.2) (Int.toNat ((5 : Int))))) (band .u64 (IntKind.wrap .u64 ((4294967295 : Int) - (vget (y8379.2) (Int.toNat ((4 : Int)))))) (vget (y8379.2) (Int.toNat ((6 : Int)))))))) + (IntKind.wrap .u64 (vget (gl_K) (Int.toNat (y8379.1)))))) + (vget (z7214) (Int.toNat (y8379.1))))) 4294967296))) 4294967296), (vget (y8379.2) (Int.toNat ((4 : Int)))), (vget (y8379.2) (Int.toNat ((5 : Int)))), (vget (y8379.2) (Int.toNat ((6 : Int))))]))) rfl rfl rfl rfl hE rfl rfl (by kernel_rfl) (fun a hE => ?_))) rfl
      have hS := hS.pk (.c 3 rfl (.c 0 rfl (.c 1 rfl (.c 2 rfl .n)))) rfl
      refine at_op (op_store (v := .agg (List.toArray (acells .u64 8 ((vofL 8 [(Int.tmod (IntKind.wrap .u64 ((Int.tmod (IntKind.wrap .u64 ((IntKind.wrap .u64 ((IntKind.wrap .u64 ((IntKind.wrap .u64 ((vget (y8379.2) (Int.toNat ((7 : Int)))) + (bxor .u64 (bxor .u64 r8612 r8617) r8622))) + (bxor .u64 (band .u64 (vget (y8379.2) (Int.toNat ((4 : Int)))) (vget (y8379.2) (Int.toNat ((5 : Int))))) (band .u64 (IntKind.wrap .u64 ((4294967295 : Int) - (vget (y8379.2) (Int.toNat ((4 : Int)))))) (vget (y8379.2) (Int.toNat ((6 : Int)))))))) + (IntKind.wrap .u64 (vget (gl_K) (Int.toNat (y8379.1)))))) + (vget (z7214) (Int.toNat (y8379.1))))) 4294967296) + (Int.tmod (IntKind.wrap .u64 ((bxor .u64 (bxor .u64 r8627 r8632) r8637) + (bxor .u64 (bxor .u64 (band .u64 (vget (y8379.2) (Int.toNat ((0 : Int)))) (vget (y8379.2) (Int.toNat ((1 : Int))))) (band .u64 (vget (y8379.2) (Int.toNat ((0 : Int)))) (vget (y8379.2) (Int.toNat ((2 : Int)))))) (band .u64 (vget (y8379.2) (Int.toNat ((1 : Int)))) (vget (y8379.2) (Int.toNat ((2 : Int)))))))) 4294967296))) 4294967296), (vget (y8379.2) (Int.toNat ((0 : Int)))), (vget (y8379.2) (Int.toNat ((1 : Int)))), (vget (y8379.2) (Int.toNat ((2 : Int)))), (Int.tmod (IntKind.wrap .u64 ((vget (y8379.2) (Int.toNat ((3 : Int)))) + (Int.tmod (IntKind.wrap .u64 ((IntKind.wrap .u64 ((IntKind.wrap .u64 ((IntKind.wrap .u64 ((vget (y8379.2) (Int.toNat ((7 : Int)))) + (bxor .u64 (bxor .u64 r8612 r8617) r8622))) + (bxor .u64 (band .u64 (vget (y8379.2) (Int.toNat ((4 : Int)))) (vget (y8379.2) (Int.toNat ((5 : Int))))) (band .u64 (IntKind.wrap .u64 ((4294967295 : Int) - (vget (y8379.2) (Int.toNat ((4 : Int)))))) (vget (y8379.2) (Int.toNat ((6 : Int)))))))) + (IntKind.wrap .u64 (vget (gl_K) (Int.toNat (y8379.1)))))) + (vget (z7214) (Int.toNat (y8379.1))))) 4294967296))) 4294967296), (vget (y8379.2) (Int.toNat ((4 : Int)))), (vget (y8379.2) (Int.toNat ((5 : Int)))), (vget (y8379.2) (Int.toNat ((6 : Int))))]))))) (acells .u64 8 ((vofL 8 [(Int.tmod (IntKind.wrap .u64 ((Int.tmod (IntKind.wrap .u64 ((IntKind.wrap .u64 ((IntKind.wrap .u64 ((IntKind.wrap .u64 ((vget (y8379.2) (Int.toNat ((7 : Int)))) + (bxor .u64 (bxor .u64 r8612 r8617) r8622))) + (bxor .u64 (band .u64 (vget (y8379.2) (Int.toNat ((4 : Int)))) (vget (y8379.2) (Int.toNat ((5 : Int))))) (band .u64 (IntKind.wrap .u64 ((4294967295 : Int) - (vget (y8379.2) (Int.toNat ((4 : Int)))))) (vget (y8379.2) (Int.toNat ((6 : Int)))))))) + (IntKind.wrap .u64 (vget (gl_K) (Int.toNat (y8379.1)))))) + (vget (z7214) (Int.toNat (y8379.1))))) 4294967296) + (Int.tmod (IntKind.wrap .u64 ((bxor .u64 (bxor .u64 r8627 r8632) r8637) + (bxor .u64 (bxor .u64 (band .u64 (vget (y8379.2) (Int.toNat ((0 : Int)))) (vget (y8379.2) (Int.toNat ((1 : Int))))) (band .u64 (vget (y8379.2) (Int.toNat ((0 : Int)))) (vget (y8379.2) (Int.toNat ((2 : Int)))))) (band .u64 (vget (y8379.2) (Int.toNat ((1 : Int)))) (vget (y8379.2) (Int.toNat ((2 : Int)))))))) 4294967296))) 4294967296), (vget (y8379.2) (Int.toNat ((0 : Int)))), (vget (y8379.2) (Int.toNat ((1 : Int)))), (vget (y8379.2) (Int.toNat ((2 : Int)))), (Int.tmod (IntKind.wrap .u64 ((vget (y8379.2) (Int.toNat ((3 : Int)))) + (Int.tmod (IntKind.wrap .u64 ((IntKind.wrap .u64 ((IntKind.wrap .u64 ((IntKind.wrap .u64 ((vget (y8379.2) (Int.toNat ((7 : Int)))) + (bxor .u64 (bxor .u64 r8612 r8617) r8622))) + (bxor .u64 (band .u64 (vget (y8379.2) (Int.toNat ((4 : Int)))) (vget (y8379.2) (Int.toNat ((5 : Int))))) (band .u64 (IntKind.wrap .u64 ((4294967295 : Int) - (vget (y8379.2) (Int.toNat ((4 : Int)))))) (vget (y8379.2) (Int.toNat ((6 : Int)))))))) + (IntKind.wrap .u64 (vget (gl_K) (Int.toNat (y8379.1)))))) + (vget (z7214) (Int.toNat (y8379.1))))) 4294967296))) 4294967296), (vget (y8379.2) (Int.toNat ((4 : Int)))), (vget (y8379.2) (Int.toNat ((5 : Int)))), (vget (y8379.2) (Int.toNat ((6 : Int))))]))) rfl rfl rfl rfl hE hS rfl rfl (by kernel_rfl) (by kernel_rfl) (by kernel_rfl) (by kernel_rfl) (by kernel_rfl) (fun a w _ hE hS => ?_)) rfl
      refine at_end rfl ?_
      refine region_at ?_
      refine sN 3 3 [(11, .int .i64 ((IntKind.wrap .i64 (y8379.1 + (1 : Int)))))] hE (fun a hE => ?_)
      refine at_end rfl ?_
      have hS := hS.pk (.c 1 rfl (.c 2 rfl (.c 3 rfl (.c 0 rfl .n)))) rfl
      exact ⟨((IntKind.wrap .i64 (y8379.1 + (1 : Int))), (vofL 8 [(Int.tmod (IntKind.wrap .u64 ((Int.tmod (IntKind.wrap .u64 ((IntKind.wrap .u64 ((IntKind.wrap .u64 ((IntKind.wrap .u64 ((vget (y8379.2) (Int.toNat ((7 : Int)))) + (bxor .u64 (bxor .u64 r8612 r8617) r8622))) + (bxor .u64 (band .u64 (vget (y8379.2) (Int.toNat ((4 : Int)))) (vget (y8379.2) (Int.toNat ((5 : Int))))) (band .u64 (IntKind.wrap .u64 ((4294967295 : Int) - (vget (y8379.2) (Int.toNat ((4 : Int)))))) (vget (y8379.2) (Int.toNat ((6 : Int)))))))) + (IntKind.wrap .u64 (vget (gl_K) (Int.toNat (y8379.1)))))) + (vget (z7214) (Int.toNat (y8379.1))))) 4294967296) + (Int.tmod (IntKind.wrap .u64 ((bxor .u64 (bxor .u64 r8627 r8632) r8637) + (bxor .u64 (bxor .u64 (band .u64 (vget (y8379.2) (Int.toNat ((0 : Int)))) (vget (y8379.2) (Int.toNat ((1 : Int))))) (band .u64 (vget (y8379.2) (Int.toNat ((0 : Int)))) (vget (y8379.2) (Int.toNat ((2 : Int)))))) (band .u64 (vget (y8379.2) (Int.toNat ((1 : Int)))) (vget (y8379.2) (Int.toNat ((2 : Int)))))))) 4294967296))) 4294967296), (vget (y8379.2) (Int.toNat ((0 : Int)))), (vget (y8379.2) (Int.toNat ((1 : Int)))), (vget (y8379.2) (Int.toNat ((2 : Int)))), (Int.tmod (IntKind.wrap .u64 ((vget (y8379.2) (Int.toNat ((3 : Int)))) + (Int.tmod (IntKind.wrap .u64 ((IntKind.wrap .u64 ((IntKind.wrap .u64 ((IntKind.wrap .u64 ((vget (y8379.2) (Int.toNat ((7 : Int)))) + (bxor .u64 (bxor .u64 r8612 r8617) r8622))) + (bxor .u64 (band .u64 (vget (y8379.2) (Int.toNat ((4 : Int)))) (vget (y8379.2) (Int.toNat ((5 : Int))))) (band .u64 (IntKind.wrap .u64 ((4294967295 : Int) - (vget (y8379.2) (Int.toNat ((4 : Int)))))) (vget (y8379.2) (Int.toNat ((6 : Int)))))))) + (IntKind.wrap .u64 (vget (gl_K) (Int.toNat (y8379.1)))))) + (vget (z7214) (Int.toNat (y8379.1))))) 4294967296))) 4294967296), (vget (y8379.2) (Int.toNat ((4 : Int)))), (vget (y8379.2) (Int.toNat ((5 : Int)))), (vget (y8379.2) (Int.toNat ((6 : Int))))])), D8639, hE.weak (by kernel_rfl), hS, (le2 (le2 (le2 (le2 (le2 (le2 le8381 le8616) le8621) le8626) le8631) le8636) le8641), hf⟩
     ·replace hf := cond_f hb hf
      clear hb
      refine wpIn_exit ?_
      obtain rfl := Option.some.inj hf
      have hS := hS.pk (.c 0 rfl (.c 1 rfl (.c 3 rfl .n))) rfl
      exact ⟨y8379.2, D8380, hE.weak (by kernel_rfl), hS, le8381, rfl⟩
   ·clear hE hS hf
    rintro k a w ⟨y7835, D7836, hE, hS, le7837, hf⟩
    obtain ⟨k, rfl, hf⟩ := inspeximusref01_Turn_l2.some _ hf
    refine ⟨k, rfl, ?_⟩
    unfold inspeximusref01_Turn_l2.b at hf
    refine wpIn_seq ?_
    refine wpIn_seq ?_
    refine region_at ?_
    refine sN 2 2 [(103, .bool ((decide (y7835.1 < (8 : Int)))))] hE (fun a hE => ?_)
    refine at_end rfl ?_
    refine cond_split hE (b := (decide (y7835.1 < (8 : Int)))) rfl (fun hb => ?_) (fun hb => ?_)
    ·replace hf := cond_t hb hf
     clear hb
     refine wpIn_skip ?_
     refine wpIn_seq ?_
     refine wpIn_block ?_
     refine region_at ?_
     refine sN 2 2 [(106, .int .i64 (y7835.1)), (107, .int .i64 (y7835.1))] hE (fun a hE => ?_)
     obtain ⟨hm7858, hf⟩ := chk_some hf
     refine at_op (op_tk hE (tk_indexPA (N := 8) (k := .u32) (m := y7835.1) rfl rfl rfl rfl hE rfl rfl rfl (by kernel_rfl) hm7858 (fun a hE => ?_))) rfl
     refine at_op (op_tk hE (tk_loadPA 0 (N := 8) (k := .u32) (v := x1) (m := y7835.1) rfl rfl rfl rfl hE rfl hS rfl rfl (by kernel_rfl) hm7858 (kL (j := 0) hS rfl List.not_mem_nil) (fun a hE => ?_))) rfl
     refine sN 1 5 [(110, .int .u64 ((IntKind.wrap .u64 (vget (x1) (Int.toNat (y7835.1))))))] hE (fun a hE => ?_)
     obtain ⟨hm7859, hf⟩ := chk_some hf
     refine at_op (op_tk hE (tk_indexPA (N := 8) (k := .u64) (m := y7835.1) rfl rfl rfl rfl hE rfl rfl rfl (by kernel_rfl) hm7859 (fun a hE => ?_))) rfl
     have hS := hS.pk (.c 3 rfl (.c 0 rfl (.c 1 rfl (.c 2 rfl .n)))) rfl
     obtain ⟨v7860, hv7861, hf⟩ := bind_some hf
     replace hv7861 := Option.some.inj hv7861
     refine at_op (op_storePA (N := 8) (k := .u64) (v := y7835.2) (m := y7835.1) (z := (IntKind.wrap .u64 (vget (x1) (Int.toNat (y7835.1))))) rfl rfl rfl rfl hE hS rfl rfl (by kernel_rfl) hm7859 (fun a w _ hE hS => ?_)) rfl
     rw [hv7861] at hS
     refine at_end rfl ?_
     refine region_at ?_
     refine sN 3 3 [(10, .int .i64 ((IntKind.wrap .i64 (y7835.1 + (1 : Int)))))] hE (fun a hE => ?_)
     refine at_end rfl ?_
     have hS := hS.pk (.c 1 rfl (.c 2 rfl (.c 3 rfl (.c 0 rfl .n)))) rfl
     exact ⟨((IntKind.wrap .i64 (y7835.1 + (1 : Int))), v7860), D7836, hE.weak (by kernel_rfl), hS, le7837, hf⟩
    ·replace hf := cond_f hb hf
     clear hb
     refine wpIn_exit ?_
     obtain rfl := Option.some.inj hf
     exact ⟨y7835.2, D7836, hE.weak (by kernel_rfl), hS, le7837, rfl⟩
  ·clear hE hS hf
   rintro k a w ⟨y6647, D6648, hE, hS, le6649, hf⟩
   obtain ⟨k, rfl, hf⟩ := inspeximusref01_Turn_l1.some _ hf
   refine ⟨k, rfl, ?_⟩
   unfold inspeximusref01_Turn_l1.b at hf
   refine wpIn_seq ?_
   refine wpIn_seq ?_
   refine region_at ?_
   refine sN 2 2 [(24, .bool ((decide (y6647.1 < (64 : Int)))))] hE (fun a hE => ?_)
   refine at_end rfl ?_
   refine cond_split hE (b := (decide (y6647.1 < (64 : Int)))) rfl (fun hb => ?_) (fun hb => ?_)
   ·replace hf := cond_t hb hf
    clear hb
    refine wpIn_skip ?_
    obtain ⟨j7500, hj7501, hf⟩ := jn_elim hf
    refine seq_join (fun a w => ∃ (y7497 : (Vector Int 64)), ∃ (D7498 : Snap), Env a 218 [] [(1, .slice A3 (List.length (x2)) c4), (2, .pointer (some ⟨b4392, 0, none⟩)), (4, .pointer (some ⟨b4394, 0, none⟩)), (5, .pointer (some ⟨b4396, 0, none⟩)), (6, .int .i64 (y6647.1))] ∧ Stp g w0 D0 [] w D7498 [bx b4392 98 (acells .u32 8 (x1)), bx b4394 98 (acells .u32 8 ((Vector.replicate 8 (0 : Int)))), bx b4396 111 (acells .u64 64 (y7497))] ∧ Snap.le D6648 D7498 ∧ j7500 y7497 = some s7217) ?_ ?_
    ·clear hj7501
     refine wpIn_block ?_
     refine wpIn_seq ?_
     refine wpIn_seq ?_
     refine region_at ?_
     refine sN 2 2 [(28, .bool ((decide (y6647.1 < (16 : Int)))))] hE (fun a hE => ?_)
     refine at_end rfl ?_
     refine cond_split hE (b := (decide (y6647.1 < (16 : Int)))) rfl (fun hb => ?_) (fun hb => ?_)
     ·replace hf := cond_t hb hf
      clear hb
      refine wpIn_seq ?_
      refine region_draw (fun j => Keeps (mfOf [(35, [b4396])] j)) (by kernel_rfl) ?_
      have hS := hS.drew
      first | generalize w.drew = w at hS ⊢ | generalize w0.drew = w at hS ⊢
      refine wP 0 1 35 (.int .i64 (y6647.1)) hE (fun a hE => ?_)
      refine wP 1 3 34 (.slice A3 (List.length (x2)) c4) hE (fun a hE => ?_)
      refine wP 2 7 33 (.int .i64 (y6647.1)) hE (fun a hE => ?_)
      refine wP 3 15 32 (.int .i64 ((IntKind.wrap .i64 ((4 : Int) * y6647.1)))) hE (fun a hE => ?_)
      refine wP 8 271 31 (.slice A3 (List.length (x2)) c4) hE (fun a hE => ?_)
      refine wP 9 783 30 (.int .i64 (y6647.1)) hE (fun a hE => ?_)
      refine wP 10 1807 29 (.int .i64 ((IntKind.wrap .i64 ((4 : Int) * y6647.1)))) hE (fun a hE => ?_)
      refine wP 11 3855 28 (.int .i64 ((IntKind.wrap .i64 ((IntKind.wrap .i64 ((4 : Int) * y6647.1)) + (1 : Int))))) hE (fun a hE => ?_)
      refine wP 17 134927 27 (.slice A3 (List.length (x2)) c4) hE (fun a hE => ?_)
      refine wP 18 397071 26 (.int .i64 (y6647.1)) hE (fun a hE => ?_)
      refine wP 19 921359 25 (.int .i64 ((IntKind.wrap .i64 ((4 : Int) * y6647.1)))) hE (fun a hE => ?_)
      refine wP 20 1969935 24 (.int .i64 ((IntKind.wrap .i64 ((IntKind.wrap .i64 ((4 : Int) * y6647.1)) + (2 : Int))))) hE (fun a hE => ?_)
      refine wP 26 69078799 23 (.slice A3 (List.length (x2)) c4) hE (fun a hE => ?_)
      refine wP 27 203296527 22 (.int .i64 (y6647.1)) hE (fun a hE => ?_)
      refine wP 28 471731983 21 (.int .i64 ((IntKind.wrap .i64 ((4 : Int) * y6647.1)))) hE (fun a hE => ?_)
      refine wP 29 1008602895 20 (.int .i64 ((IntKind.wrap .i64 ((IntKind.wrap .i64 ((4 : Int) * y6647.1)) + (3 : Int))))) hE (fun a hE => ?_)
      obtain ⟨x7655, h7656, hf⟩ := bind_some hf
      refine tW 4 1008602911 (fuel := 19) (by kernel_rfl) hE (fun M => g_index (K := (kdInt .u8)) (e := 5) (by_ := 1) (zl := 1) rfl rfl rfl rfl hE rfl rfl rfl (by kernel_rfl) rfl (h5.mono le6649) h7656 (fun a b7657 o7658 hE h7659 => ?_))
      obtain ⟨cs7660, C7661, T7662, fr7663, hr7664, hb7665, hc7666⟩ := h7659
      obtain rfl := hr7664
      refine tT 5 1008602943 (fuel := 18) (by kernel_rfl) hE (tk_loadX (off0 := o7658) (off := 0) (c := [.int .u8 (x7655)]) (.int .u8 (x7655)) rfl rfl rfl rfl hE rfl hS rfl hb7665 hc7666 (by kernel_rfl) (by kernel_rfl) (kD hS dn_nil) (fun a hE => ?_))
      refine tW 6 1008603007 (fuel := 17) (by kernel_rfl) hE (fun M => tk_pure (.int .u64 ((IntKind.wrap .u64 x7655))) hE rfl rfl rfl rfl (fun _ _ _ e => by cases e; rfl) (by kernel_rfl) (fun a hE => ?_))
      refine wP 7 1008603135 16 (.int .u64 ((IntKind.wrap .u64 ((IntKind.wrap .u64 x7655) * (256 : Int))))) hE (fun a hE => ?_)
      obtain ⟨x7667, h7668, hf⟩ := bind_some hf
      refine tW 12 1008607231 (fuel := 15) (by kernel_rfl) hE (fun M => g_index (K := (kdInt .u8)) (e := 5) (by_ := 1) (zl := 1) rfl rfl rfl rfl hE rfl rfl rfl (by kernel_rfl) rfl (h5.mono le6649) h7668 (fun a b7669 o7670 hE h7671 => ?_))
      obtain ⟨cs7672, C7673, T7674, fr7675, hr7676, hb7677, hc7678⟩ := h7671
      obtain rfl := hr7676
      refine tT 13 1008615423 (fuel := 14) (by kernel_rfl) hE (tk_loadX (off0 := o7670) (off := 0) (c := [.int .u8 (x7667)]) (.int .u8 (x7667)) rfl rfl rfl rfl hE rfl hS rfl hb7677 hc7678 (by kernel_rfl) (by kernel_rfl) (kD hS dn_nil) (fun a hE => ?_))
      refine tW 14 1008631807 (fuel := 13) (by kernel_rfl) hE (fun M => tk_pure (.int .u64 ((IntKind.wrap .u64 x7667))) hE rfl rfl rfl rfl (fun _ _ _ e => by cases e; rfl) (by kernel_rfl) (fun a hE => ?_))
      refine wP 15 1008664575 12 (.int .u64 ((IntKind.wrap .u64 ((IntKind.wrap .u64 ((IntKind.wrap .u64 x7655) * (256 : Int))) + (IntKind.wrap .u64 x7667))))) hE (fun a hE => ?_)
      refine wP 16 1008730111 11 (.int .u64 ((IntKind.wrap .u64 ((IntKind.wrap .u64 ((IntKind.wrap .u64 ((IntKind.wrap .u64 x7655) * (256 : Int))) + (IntKind.wrap .u64 x7667))) * (256 : Int))))) hE (fun a hE => ?_)
      obtain ⟨x7679, h7680, hf⟩ := bind_some hf
      refine tW 21 1010827263 (fuel := 10) (by kernel_rfl) hE (fun M => g_index (K := (kdInt .u8)) (e := 5) (by_ := 1) (zl := 1) rfl rfl rfl rfl hE rfl rfl rfl (by kernel_rfl) rfl (h5.mono le6649) h7680 (fun a b7681 o7682 hE h7683 => ?_))
      obtain ⟨cs7684, C7685, T7686, fr7687, hr7688, hb7689, hc7690⟩ := h7683
      obtain rfl := hr7688
      refine tT 22 1015021567 (fuel := 9) (by kernel_rfl) hE (tk_loadX (off0 := o7682) (off := 0) (c := [.int .u8 (x7679)]) (.int .u8 (x7679)) rfl rfl rfl rfl hE rfl hS rfl hb7689 hc7690 (by kernel_rfl) (by kernel_rfl) (kD hS dn_nil) (fun a hE => ?_))
      refine tW 23 1023410175 (fuel := 8) (by kernel_rfl) hE (fun M => tk_pure (.int .u64 ((IntKind.wrap .u64 x7679))) hE rfl rfl rfl rfl (fun _ _ _ e => by cases e; rfl) (by kernel_rfl) (fun a hE => ?_))
      refine wP 24 1040187391 7 (.int .u64 ((IntKind.wrap .u64 ((IntKind.wrap .u64 ((IntKind.wrap .u64 ((IntKind.wrap .u64 ((IntKind.wrap .u64 x7655) * (256 : Int))) + (IntKind.wrap .u64 x7667))) * (256 : Int))) + (IntKind.wrap .u64 x7679))))) hE (fun a hE => ?_)
      refine wP 25 1073741823 6 (.int .u64 ((IntKind.wrap .u64 ((IntKind.wrap .u64 ((IntKind.wrap .u64 ((IntKind.wrap .u64 ((IntKind.wrap .u64 ((IntKind.wrap .u64 x7655) * (256 : Int))) + (IntKind.wrap .u64 x7667))) * (256 : Int))) + (IntKind.wrap .u64 x7679))) * (256 : Int))))) hE (fun a hE => ?_)
      obtain ⟨x7691, h7692, hf⟩ := bind_some hf
      refine tW 30 2147483647 (fuel := 5) (by kernel_rfl) hE (fun M => g_index (K := (kdInt .u8)) (e := 5) (by_ := 1) (zl := 1) rfl rfl rfl rfl hE rfl rfl rfl (by kernel_rfl) rfl (h5.mono le6649) h7692 (fun a b7693 o7694 hE h7695 => ?_))
      obtain ⟨cs7696, C7697, T7698, fr7699, hr7700, hb7701, hc7702⟩ := h7695
      obtain rfl := hr7700
      refine tT 31 4294967295 (fuel := 4) (by kernel_rfl) hE (tk_loadX (off0 := o7694) (off := 0) (c := [.int .u8 (x7691)]) (.int .u8 (x7691)) rfl rfl rfl rfl hE rfl hS rfl hb7701 hc7702 (by kernel_rfl) (by kernel_rfl) (kD hS dn_nil) (fun a hE => ?_))
      refine tW 32 8589934591 (fuel := 3) (by kernel_rfl) hE (fun M => tk_pure (.int .u64 ((IntKind.wrap .u64 x7691))) hE rfl rfl rfl rfl (fun _ _ _ e => by cases e; rfl) (by kernel_rfl) (fun a hE => ?_))
      refine wP 33 17179869183 2 (.int .u64 ((IntKind.wrap .u64 ((IntKind.wrap .u64 ((IntKind.wrap .u64 ((IntKind.wrap .u64 ((IntKind.wrap .u64 ((IntKind.wrap .u64 ((IntKind.wrap .u64 x7655) * (256 : Int))) + (IntKind.wrap .u64 x7667))) * (256 : Int))) + (IntKind.wrap .u64 x7679))) * (256 : Int))) + (IntKind.wrap .u64 x7691))))) hE (fun a hE => ?_)
      obtain ⟨hm7703, hf⟩ := chk_some hf
      refine tW 34 34359738367 (fuel := 1) (by kernel_rfl) hE (fun M => tk_indexPA (N := 64) (k := .u64) (m := y6647.1) rfl rfl rfl rfl hE rfl rfl rfl (by kernel_rfl) hm7703 (fun a hE => ?_))
      have hS := hS.pk (.c 2 rfl (.c 0 rfl (.c 1 rfl .n))) rfl
      obtain ⟨v7704, hv7705, hf⟩ := bind_some hf
      replace hv7705 := Option.some.inj hv7705
      refine oG 35 68719476735 (fuel := 0) (by kernel_rfl) (op_storePA (N := 64) (k := .u64) (v := y6647.2) (m := y6647.1) (z := (IntKind.wrap .u64 ((IntKind.wrap .u64 ((IntKind.wrap .u64 ((IntKind.wrap .u64 ((IntKind.wrap .u64 ((IntKind.wrap .u64 ((IntKind.wrap .u64 x7655) * (256 : Int))) + (IntKind.wrap .u64 x7667))) * (256 : Int))) + (IntKind.wrap .u64 x7679))) * (256 : Int))) + (IntKind.wrap .u64 x7691)))) rfl rfl rfl rfl hE hS rfl rfl (by kernel_rfl) hm7703 (fun a w hkp hE hS => ⟨hkp.mono (fun _ h => h), ?_⟩))
      clear hkp
      rw [hv7705] at hS
      refine doneG (by kernel_rfl) ?_
      refine wpIn_exit ?_
      have hS := hS.pk (.c 1 rfl (.c 2 rfl (.c 0 rfl .n))) rfl
      exact ⟨v7704, D6648, hE.weak (by kernel_rfl), hS, Snap.le.refl _, hf⟩
     ·replace hf := cond_f hb hf
      clear hb
      refine wpIn_skip ?_
      refine wpIn_seq ?_
      refine region_draw (fun j => Keeps (mfOf [] j)) (by kernel_rfl) ?_
      have hS := hS.drew
      first | generalize w.drew = w at hS ⊢ | generalize w0.drew = w at hS ⊢
      refine wP 0 1 9 (.int .i64 (y6647.1)) hE (fun a hE => ?_)
      refine wP 1 3 8 (.int .i64 ((IntKind.wrap .i64 (y6647.1 - (15 : Int))))) hE (fun a hE => ?_)
      refine wP 4 19 7 (.int .i64 (y6647.1)) hE (fun a hE => ?_)
      refine wP 5 51 6 (.int .i64 ((IntKind.wrap .i64 (y6647.1 - (2 : Int))))) hE (fun a hE => ?_)
      obtain ⟨hm7708, hf⟩ := chk_some hf
      refine tW 2 55 (fuel := 5) (by kernel_rfl) hE (fun M => tk_indexPA (N := 64) (k := .u64) (m := (IntKind.wrap .i64 (y6647.1 - (15 : Int)))) rfl rfl rfl rfl hE rfl rfl rfl (by kernel_rfl) hm7708 (fun a hE => ?_))
      refine tT 3 63 (fuel := 4) (by kernel_rfl) hE (tk_loadPA 2 (N := 64) (k := .u64) (v := y6647.2) (m := (IntKind.wrap .i64 (y6647.1 - (15 : Int)))) rfl rfl rfl rfl hE rfl hS rfl rfl (by kernel_rfl) hm7708 (kL (j := 2) hS rfl List.not_mem_nil) (fun a hE => ?_))
      refine wP 8 319 3 (.int .u64 ((vget (y6647.2) (Int.toNat ((IntKind.wrap .i64 (y6647.1 - (15 : Int)))))))) hE (fun a hE => ?_)
      obtain ⟨hm7709, hf⟩ := chk_some hf
      refine tW 6 383 (fuel := 2) (by kernel_rfl) hE (fun M => tk_indexPA (N := 64) (k := .u64) (m := (IntKind.wrap .i64 (y6647.1 - (2 : Int)))) rfl rfl rfl rfl hE rfl rfl rfl (by kernel_rfl) hm7709 (fun a hE => ?_))
      refine tT 7 511 (fuel := 1) (by kernel_rfl) hE (tk_loadPA 2 (N := 64) (k := .u64) (v := y6647.2) (m := (IntKind.wrap .i64 (y6647.1 - (2 : Int)))) rfl rfl rfl rfl hE rfl hS rfl rfl (by kernel_rfl) hm7709 (kL (j := 2) hS rfl List.not_mem_nil) (fun a hE => ?_))
      refine wP 9 1023 0 (.int .u64 ((vget (y6647.2) (Int.toNat ((IntKind.wrap .i64 (y6647.1 - (2 : Int)))))))) hE (fun a hE => ?_)
      refine doneG (by kernel_rfl) ?_
      refine region_draw (fun j => Keeps (mfOf [(30, [b4396])] j)) (by kernel_rfl) ?_
      have hS := hS.drew
      first | generalize w.drew = w at hS ⊢ | generalize w0.drew = w at hS ⊢
      refine wP 0 1 30 (.int .i64 (y6647.1)) hE (fun a hE => ?_)
      refine wP 1 3 29 (.int .u64 ((vget (y6647.2) (Int.toNat ((IntKind.wrap .i64 (y6647.1 - (2 : Int)))))))) hE (fun a hE => ?_)
      refine wP 3 11 28 (.int .u64 ((vget (y6647.2) (Int.toNat ((IntKind.wrap .i64 (y6647.1 - (2 : Int)))))))) hE (fun a hE => ?_)
      refine wP 6 75 27 (.int .u64 ((vget (y6647.2) (Int.toNat ((IntKind.wrap .i64 (y6647.1 - (2 : Int)))))))) hE (fun a hE => ?_)
      refine wP 9 587 26 (.int .i64 (y6647.1)) hE (fun a hE => ?_)
      refine wP 10 1611 25 (.int .i64 ((IntKind.wrap .i64 (y6647.1 - (7 : Int))))) hE (fun a hE => ?_)
      refine wP 14 17995 24 (.int .u64 ((vget (y6647.2) (Int.toNat ((IntKind.wrap .i64 (y6647.1 - (15 : Int)))))))) hE (fun a hE => ?_)
      refine wP 16 83531 23 (.int .u64 ((vget (y6647.2) (Int.toNat ((IntKind.wrap .i64 (y6647.1 - (15 : Int)))))))) hE (fun a hE => ?_)
      refine wP 19 607819 22 (.int .u64 ((vget (y6647.2) (Int.toNat ((IntKind.wrap .i64 (y6647.1 - (15 : Int)))))))) hE (fun a hE => ?_)
      refine wP 23 8996427 21 (.int .i64 (y6647.1)) hE (fun a hE => ?_)
      refine wP 24 25773643 20 (.int .i64 ((IntKind.wrap .i64 (y6647.1 - (16 : Int))))) hE (fun a hE => ?_)
      obtain ⟨hm7745, hf⟩ := chk_some hf
      refine tW 11 25775691 (fuel := 19) (by kernel_rfl) hE (fun M => tk_indexPA (N := 64) (k := .u64) (m := (IntKind.wrap .i64 (y6647.1 - (7 : Int)))) rfl rfl rfl rfl hE rfl rfl rfl (by kernel_rfl) hm7745 (fun a hE => ?_))
      refine tT 12 25779787 (fuel := 18) (by kernel_rfl) hE (tk_loadPA 2 (N := 64) (k := .u64) (v := y6647.2) (m := (IntKind.wrap .i64 (y6647.1 - (7 : Int)))) rfl rfl rfl rfl hE rfl hS rfl rfl (by kernel_rfl) hm7745 (kL (j := 2) hS rfl List.not_mem_nil) (fun a hE => ?_))
      obtain ⟨hm7746, hf⟩ := chk_some hf
      refine tW 25 59334219 (fuel := 17) (by kernel_rfl) hE (fun M => tk_indexPA (N := 64) (k := .u64) (m := (IntKind.wrap .i64 (y6647.1 - (16 : Int)))) rfl rfl rfl rfl hE rfl rfl rfl (by kernel_rfl) hm7746 (fun a hE => ?_))
      refine tT 26 126443083 (fuel := 16) (by kernel_rfl) hE (tk_loadPA 2 (N := 64) (k := .u64) (v := y6647.2) (m := (IntKind.wrap .i64 (y6647.1 - (16 : Int)))) rfl rfl rfl rfl hE rfl hS rfl rfl (by kernel_rfl) hm7746 (kL (j := 2) hS rfl List.not_mem_nil) (fun a hE => ?_))
      obtain ⟨r7747, h7748, hf⟩ := bind_some hf
      refine oG 2 126443087 (fuel := 15) (by kernel_rfl) (op_call rfl rfl rfl rfl hE rfl rfl rfl rfl (by kernel_rfl) (inspeximusref01_right.calls (g := g) h7748 (hS.st.fore (L := [])) ) (fun a v w hR hE => ?_))
      obtain ⟨D7749, rfl, hS1⟩ := hR
      refine ⟨(hS1.keeps.sub (M' := []) trivial).mono (fun _ h => h), ?_⟩
      have le7751 := hS1.dle
      have hS := hS.callR hS1 rfl .n
      clear hS1
      obtain ⟨r7752, h7753, hf⟩ := bind_some hf
      refine oG 4 126443103 (fuel := 14) (by kernel_rfl) (op_call rfl rfl rfl rfl hE rfl rfl rfl rfl (by kernel_rfl) (inspeximusref01_right.calls (g := g) h7753 (hS.st.fore (L := [])) ) (fun a v w hR hE => ?_))
      obtain ⟨D7754, rfl, hS1⟩ := hR
      refine ⟨(hS1.keeps.sub (M' := []) trivial).mono (fun _ h => h), ?_⟩
      have le7756 := hS1.dle
      have hS := hS.callR hS1 rfl .n
      clear hS1
      refine wP 5 126443135 13 (.int .u64 ((bxor .u64 r7747 r7752))) hE (fun a hE => ?_)
      obtain ⟨r7757, h7758, hf⟩ := bind_some hf
      refine oG 7 126443263 (fuel := 12) (by kernel_rfl) (op_call rfl rfl rfl rfl hE rfl rfl rfl rfl (by kernel_rfl) (inspeximusref01_shift.calls (g := g) h7758 (hS.st.fore (L := [])) ) (fun a v w hR hE => ?_))
      obtain ⟨D7759, rfl, hS1⟩ := hR
      refine ⟨(hS1.keeps.sub (M' := []) trivial).mono (fun _ h => h), ?_⟩
      have le7761 := hS1.dle
      have hS := hS.callR hS1 rfl .n
      clear hS1
      refine wP 8 126443519 11 (.int .u64 ((bxor .u64 (bxor .u64 r7747 r7752) r7757))) hE (fun a hE => ?_)
      refine wP 13 126451711 10 (.int .u64 ((IntKind.wrap .u64 ((bxor .u64 (bxor .u64 r7747 r7752) r7757) + (vget (y6647.2) (Int.toNat ((IntKind.wrap .i64 (y6647.1 - (7 : Int)))))))))) hE (fun a hE => ?_)
      obtain ⟨r7762, h7763, hf⟩ := bind_some hf
      refine oG 15 126484479 (fuel := 9) (by kernel_rfl) (op_call rfl rfl rfl rfl hE rfl rfl rfl rfl (by kernel_rfl) (inspeximusref01_right.calls (g := g) h7763 (hS.st.fore (L := [])) ) (fun a v w hR hE => ?_))
      obtain ⟨D7764, rfl, hS1⟩ := hR
      refine ⟨(hS1.keeps.sub (M' := []) trivial).mono (fun _ h => h), ?_⟩
      have le7766 := hS1.dle
      have hS := hS.callR hS1 rfl .n
      clear hS1
      obtain ⟨r7767, h7768, hf⟩ := bind_some hf
      refine oG 17 126615551 (fuel := 8) (by kernel_rfl) (op_call rfl rfl rfl rfl hE rfl rfl rfl rfl (by kernel_rfl) (inspeximusref01_right.calls (g := g) h7768 (hS.st.fore (L := [])) ) (fun a v w hR hE => ?_))
      obtain ⟨D7769, rfl, hS1⟩ := hR
      refine ⟨(hS1.keeps.sub (M' := []) trivial).mono (fun _ h => h), ?_⟩
      have le7771 := hS1.dle
      have hS := hS.callR hS1 rfl .n
      clear hS1
      refine wP 18 126877695 7 (.int .u64 ((bxor .u64 r7762 r7767))) hE (fun a hE => ?_)
      obtain ⟨r7772, h7773, hf⟩ := bind_some hf
      refine oG 20 127926271 (fuel := 6) (by kernel_rfl) (op_call rfl rfl rfl rfl hE rfl rfl rfl rfl (by kernel_rfl) (inspeximusref01_shift.calls (g := g) h7773 (hS.st.fore (L := [])) ) (fun a v w hR hE => ?_))
      obtain ⟨D7774, rfl, hS1⟩ := hR
      refine ⟨(hS1.keeps.sub (M' := []) trivial).mono (fun _ h => h), ?_⟩
      have le7776 := hS1.dle
      have hS := hS.callR hS1 rfl .n
      clear hS1
      refine wP 21 130023423 5 (.int .u64 ((bxor .u64 (bxor .u64 r7762 r7767) r7772))) hE (fun a hE => ?_)
      refine wP 22 134217727 4 (.int .u64 ((IntKind.wrap .u64 ((IntKind.wrap .u64 ((bxor .u64 (bxor .u64 r7747 r7752) r7757) + (vget (y6647.2) (Int.toNat ((IntKind.wrap .i64 (y6647.1 - (7 : Int)))))))) + (bxor .u64 (bxor .u64 r7762 r7767) r7772))))) hE (fun a hE => ?_)
      refine wP 27 268435455 3 (.int .u64 ((IntKind.wrap .u64 ((IntKind.wrap .u64 ((IntKind.wrap .u64 ((bxor .u64 (bxor .u64 r7747 r7752) r7757) + (vget (y6647.2) (Int.toNat ((IntKind.wrap .i64 (y6647.1 - (7 : Int)))))))) + (bxor .u64 (bxor .u64 r7762 r7767) r7772))) + (vget (y6647.2) (Int.toNat ((IntKind.wrap .i64 (y6647.1 - (16 : Int)))))))))) hE (fun a hE => ?_)
      refine wP 28 536870911 2 (.int .u64 ((Int.tmod (IntKind.wrap .u64 ((IntKind.wrap .u64 ((IntKind.wrap .u64 ((bxor .u64 (bxor .u64 r7747 r7752) r7757) + (vget (y6647.2) (Int.toNat ((IntKind.wrap .i64 (y6647.1 - (7 : Int)))))))) + (bxor .u64 (bxor .u64 r7762 r7767) r7772))) + (vget (y6647.2) (Int.toNat ((IntKind.wrap .i64 (y6647.1 - (16 : Int)))))))) 4294967296))) hE (fun a hE => ?_)
      obtain ⟨hm7777, hf⟩ := chk_some hf
      refine tW 29 1073741823 (fuel := 1) (by kernel_rfl) hE (fun M => tk_indexPA (N := 64) (k := .u64) (m := y6647.1) rfl rfl rfl rfl hE rfl rfl rfl (by kernel_rfl) hm7777 (fun a hE => ?_))
      have hS := hS.pk (.c 2 rfl (.c 0 rfl (.c 1 rfl .n))) rfl
      obtain ⟨v7778, hv7779, hf⟩ := bind_some hf
      replace hv7779 := Option.some.inj hv7779
      refine oG 30 2147483647 (fuel := 0) (by kernel_rfl) (op_storePA (N := 64) (k := .u64) (v := y6647.2) (m := y6647.1) (z := (Int.tmod (IntKind.wrap .u64 ((IntKind.wrap .u64 ((IntKind.wrap .u64 ((bxor .u64 (bxor .u64 r7747 r7752) r7757) + (vget (y6647.2) (Int.toNat ((IntKind.wrap .i64 (y6647.1 - (7 : Int)))))))) + (bxor .u64 (bxor .u64 r7762 r7767) r7772))) + (vget (y6647.2) (Int.toNat ((IntKind.wrap .i64 (y6647.1 - (16 : Int)))))))) 4294967296)) rfl rfl rfl rfl hE hS rfl rfl (by kernel_rfl) hm7777 (fun a w hkp hE hS => ⟨hkp.mono (fun _ h => h), ?_⟩))
      clear hkp
      rw [hv7779] at hS
      refine doneG (by kernel_rfl) ?_
      have hS := hS.pk (.c 1 rfl (.c 2 rfl (.c 0 rfl .n))) rfl
      exact ⟨v7778, D7774, hE.weak (by kernel_rfl), hS, (le2 (le2 (le2 (le2 (le2 le7751 le7756) le7761) le7766) le7771) le7776), hf⟩
    ·clear hE hS
     rintro a w ⟨y7497, D7498, hE, hS, le7499, hf⟩
     replace hf := hj7501 _ hf
     clear hj7501
     refine region_at ?_
     refine sN 3 3 [(6, .int .i64 ((IntKind.wrap .i64 (y6647.1 + (1 : Int)))))] hE (fun a hE => ?_)
     refine at_end rfl ?_
     exact ⟨((IntKind.wrap .i64 (y6647.1 + (1 : Int))), y7497), D7498, hE.weak (by kernel_rfl), hS, (le2 le6649 le7499), hf⟩
   ·replace hf := cond_f hb hf
    clear hb
    refine wpIn_exit ?_
    obtain rfl := Option.some.inj hf
    exact ⟨y6647.2, D6648, hE.weak (by kernel_rfl), hS, le6649, rfl⟩
set_option maxRecDepth 100000 in
set_option maxHeartbeats 4000000 in
theorem inspeximusref01_Sum.calls {K : Nat} {g w0 : World} {D0 : Snap} {x1 : (List Int)} {A2 : Option Addr} {c3 : Nat} {r : ((Vector Int 32))} (hf : inspeximusref01_Sum.f K x1 = some r) (hS0 : St g w0 D0 []) (h4 : Sl (kdInt .u8) D0 A2 c3 (x1)) (hG0 : Cell (kdArr .u32 8) D0 0 0 gl_First) (hG1 : Cell (kdArr .u32 64) D0 1 0 gl_K) :
  CallsIn (Fw none) 0 Tryd.prog 49 (List.toArray [.slice A2 (List.length (x1)) c3]) w0 (fun e w' => ∃ v, e = .returned v ∧ ∃ (D1 : Snap), v = .agg (List.toArray (acells .u8 32 (r))) ∧ Stp g w0 D0 [] w' D1 []) := by
 unfold inspeximusref01_Sum.f at hf
 have hS := Stp.refl hS0
 clear hS0
 refine calls_body (n := 54) Tryd.func49 rfl Tryd.ntmps49 rfl (fun a hE => ?_)
 have hE : Env a 54 [] [(0, .slice A2 (List.length (x1)) c3)] := hE
 refine wpIn_seq ?_
 refine region_at ?_
 refine at_op (op_alloc (z := .agg (List.toArray (acells .u8 32 ((Vector.replicate 32 (0 : Int)))))) rfl rfl rfl rfl hE rfl hS (by kernel_rfl) (fun a b971 w _ hE hS => ?_)) rfl
 refine at_end rfl ?_
 refine wpIn_seq ?_
 refine region_at ?_
 refine at_op (op_buildSlice (K := (kdInt .u8)) (e := 5) (cs := []) ([] : List Int) rfl rfl rfl rfl hE rfl hS rfl (by kernel_rfl) rfl rfl (by exact (show RL (kdInt .u8) D0 ([] : List Int) ([]) from rfl)) (fun a A973 q974 w _ hE h975 hS => ?_)) rfl
 refine sN 1 2 [(11, .slice A2 (List.length (x1)) c3)] hE (fun a hE => ?_)
 obtain ⟨l977, h978, hf⟩ := bind_some hf
 refine at_op (g_append (K := (kdInt .u8)) (e := 5) (bytes := 1) (l := ([] : List Int)) (m := x1) rfl rfl rfl rfl hE rfl hS rfl rfl (by kernel_rfl) rfl rfl h975 h4 h978 (fun a A979 c980 q981 w _ hE h982 hS => ?_)) rfl
 refine sN 2 5 [(14, .int .i64 (((List.length (x1) : Nat) : Int)))] hE (fun a hE => ?_)
 obtain ⟨r984, h985, hf⟩ := bind_some hf
 refine aC rfl rfl rfl rfl hE rfl rfl rfl rfl (inspeximusref01_Fill.calls (g := g) h985 (hS.st.fore (L := [])) ) (fun a v w hR hE => ?_)
 obtain ⟨D986, A988, c989, q990, rfl, hS1, h991⟩ := hR
 have le993 := hS1.dle
 have hS := hS.callR hS1 rfl (.c .n)
 clear hS1
 obtain ⟨D994, q997, le995, hS, h998, h996⟩ := hS.lent h991
 have hS := hS.pk (.c 1 rfl (.c 0 rfl (.c 2 rfl .n))) rfl
 obtain ⟨l999, h1000, hf⟩ := bind_some hf
 refine at_op (g_append (K := (kdInt .u8)) (e := 5) (bytes := 1) (l := l977) (m := r984) rfl rfl rfl rfl hE rfl hS rfl rfl (by kernel_rfl) rfl rfl (h982.mono (le2 le993 le995)) h996 h1000 (fun a A1001 c1002 q1003 w _ hE h1004 hS => ?_)) rfl
 refine sN 1 8 [(3, .slice A1001 (List.length (l999)) c1002)] hE (fun a hE => ?_)
 refine at_end rfl ?_
 refine wpIn_seq ?_
 refine region_at ?_
 obtain ⟨cs1006, C1007, T1008, fr1009, hr1010, hb1011, hc1012⟩ := (hG0.mono (le2 le993 le995))
 obtain rfl := hr1010
 refine at_op (op_tk hE (tk_loadX (off0 := 0) (off := 0) (c := acells .u32 8 (gl_First)) (.agg (List.toArray (acells .u32 8 (gl_First)))) rfl rfl rfl rfl hE rfl hS rfl hb1011 hc1012 (by kernel_rfl) (by kernel_rfl) (kD hS dn_nil) (fun a hE => ?_))) rfl
 refine at_op (op_alloc (z := .agg (List.toArray (acells .u32 8 ((Vector.replicate 8 (0 : Int)))))) rfl rfl rfl rfl hE rfl hS (by kernel_rfl) (fun a b1013 w _ hE hS => ?_)) rfl
 refine at_op (op_store (v := .agg (List.toArray (acells .u32 8 (gl_First)))) (acells .u32 8 (gl_First)) rfl rfl rfl rfl hE hS rfl rfl (by kernel_rfl) (by kernel_rfl) (by kernel_rfl) (by kernel_rfl) (by kernel_rfl) (fun a w _ hE hS => ?_)) rfl
 refine at_end rfl ?_
 refine wpIn_seq ?_
 refine wpIn_seq ?_
 refine region_at ?_
 refine sN 1 1 [(5, .int .i64 ((0 : Int)))] hE (fun a hE => ?_)
 refine at_end rfl ?_
 have hS := hS.pk (.c 1 rfl (.c 0 rfl (.c 2 rfl (.c 3 rfl .n)))) rfl
 obtain ⟨D1286, q1289, le1287, hS, h1290, h1288⟩ := hS.lent h1004
 obtain ⟨s1389, hf, hs1390⟩ := bind_some hf
 have hS := hS.pk (.c 3 rfl (.c 1 rfl (.c 0 rfl .n))) rfl
 refine block_loop (fun a w => ∃ (z1386 : (Vector Int 8)), ∃ (D1387 : Snap), Env a 54 [] [(2, .pointer (some ⟨b971, 0, none⟩)), (4, .pointer (some ⟨b1013, 0, none⟩))] ∧ Stp g w0 D0 [] w D1387 [bx b971 48 (acells .u8 32 ((Vector.replicate 32 (0 : Int)))), bx b1013 98 (acells .u32 8 (z1386))] ∧ Snap.le D1286 D1387 ∧ z1386 = s1389) (fun k a w => ∃ (y1340 : Int × (Vector Int 8)), ∃ (D1341 : Snap), Env a 54 [] [(2, .pointer (some ⟨b971, 0, none⟩)), (3, .slice A1001 (List.length (l999)) c1002), (4, .pointer (some ⟨b1013, 0, none⟩)), (5, .int .i64 (y1340.1))] ∧ Stp g w0 D0 [] w D1341 [bx b971 48 (acells .u8 32 ((Vector.replicate 32 (0 : Int)))), bx b1013 98 (acells .u32 8 (y1340.2)), q1289] ∧ Snap.le D1286 D1341 ∧ inspeximusref01_Sum_l1.l K l999 k y1340 = some s1389) K ?_ ?_ ?_
 ·exact ⟨((0 : Int), gl_First), D1286, hE.weak (by kernel_rfl), hS, Snap.le.refl _, hf⟩
 ·clear hE hS hf
  rintro a w ⟨z1386, D1387, hE, hS, le1388, rfl⟩
  have hf := hs1390
  clear hs1390
  refine wpIn_seq ?_
  refine region_at ?_
  refine at_op (op_alloc (z := .agg (List.toArray (acells .u8 32 ((Vector.replicate 32 (0 : Int)))))) rfl rfl rfl rfl hE rfl hS (by kernel_rfl) (fun a b1431 w _ hE hS => ?_)) rfl
  refine at_end rfl ?_
  refine wpIn_seq ?_
  refine wpIn_seq ?_
  refine region_at ?_
  refine sN 1 1 [(7, .int .i64 ((0 : Int)))] hE (fun a hE => ?_)
  refine at_end rfl ?_
  obtain ⟨s1857, hf, hs1858⟩ := bind_some hf
  have hS := hS.pk (.c 1 rfl (.c 2 rfl (.c 0 rfl .n))) rfl
  refine block_loop (fun a w => ∃ (z1854 : (Vector Int 32)), ∃ (D1855 : Snap), Env a 54 [] [(2, .pointer (some ⟨b971, 0, none⟩)), (6, .pointer (some ⟨b1431, 0, none⟩))] ∧ Stp g w0 D0 [] w D1855 [bx b971 48 (acells .u8 32 ((Vector.replicate 32 (0 : Int)))), bx b1431 48 (acells .u8 32 (z1854))] ∧ Snap.le D1387 D1855 ∧ z1854 = s1857) (fun k a w => ∃ (y1770 : Int × (Vector Int 32)), ∃ (D1771 : Snap), Env a 54 [] [(2, .pointer (some ⟨b971, 0, none⟩)), (4, .pointer (some ⟨b1013, 0, none⟩)), (6, .pointer (some ⟨b1431, 0, none⟩)), (7, .int .i64 (y1770.1))] ∧ Stp g w0 D0 [] w D1771 [bx b971 48 (acells .u8 32 ((Vector.replicate 32 (0 : Int)))), bx b1013 98 (acells .u32 8 (z1386)), bx b1431 48 (acells .u8 32 (y1770.2))] ∧ Snap.le D1387 D1771 ∧ inspeximusref01_Sum_l2.l K z1386 k y1770 = some s1857) K ?_ ?_ ?_
  ·exact ⟨((0 : Int), (Vector.replicate 32 (0 : Int))), D1387, hE.weak (by kernel_rfl), hS, Snap.le.refl _, hf⟩
  ·clear hE hS hf
   rintro a w ⟨z1854, D1855, hE, hS, le1856, rfl⟩
   have hf := hs1858
   clear hs1858
   refine wpIn_seq ?_
   refine region_at ?_
   refine aL 1 (.agg (List.toArray (acells .u8 32 (z1854)))) hE hS (fun a hE => ?_)
   refine at_op (op_store (v := .agg (List.toArray (acells .u8 32 (z1854)))) (acells .u8 32 (z1854)) rfl rfl rfl rfl hE hS rfl rfl (by kernel_rfl) (by kernel_rfl) (by kernel_rfl) (by kernel_rfl) (by kernel_rfl) (fun a w _ hE hS => ?_)) rfl
   refine at_end rfl ?_
   refine wpIn_ret ?_
   obtain rfl := Option.some.inj hf
   repeat (with_reducible first | refine then_ret ?_ | refine block_ret ?_ | refine qx_ret ?_)
   refine ret_gen ([.agg (List.toArray (acells .u8 32 (z1854)))]) hE (by rw [show Tryd.f49.results.toList = [.cell 2 48] from rfl]; exact ⟨_, _, _, 0, _, _, rfl, rfl, hS.heapAt (j := 0) rfl, by kernel_rfl, rfl⟩) ?_
   have hS := hS.pk .n rfl
   exact ⟨_, rfl, D1855, rfl, hS⟩
  ·clear hE hS hf
   rintro k a w ⟨y1770, D1771, hE, hS, le1772, hf⟩
   obtain ⟨k, rfl, hf⟩ := inspeximusref01_Sum_l2.some _ hf
   refine ⟨k, rfl, ?_⟩
   unfold inspeximusref01_Sum_l2.b at hf
   refine wpIn_seq ?_
   refine wpIn_seq ?_
   refine region_at ?_
   refine sN 2 2 [(33, .bool ((decide (y1770.1 < (8 : Int)))))] hE (fun a hE => ?_)
   refine at_end rfl ?_
   refine cond_split hE (b := (decide (y1770.1 < (8 : Int)))) rfl (fun hb => ?_) (fun hb => ?_)
   ·replace hf := cond_t hb hf
    clear hb
    refine wpIn_skip ?_
    refine wpIn_seq ?_
    refine wpIn_block ?_
    refine wpIn_seq ?_
    refine region_at ?_
    refine sN 1 1 [(36, .int .i64 (y1770.1))] hE (fun a hE => ?_)
    obtain ⟨hm1898, hf⟩ := chk_some hf
    refine at_op (op_tk hE (tk_indexPA (N := 8) (k := .u32) (m := y1770.1) rfl rfl rfl rfl hE rfl rfl rfl (by kernel_rfl) hm1898 (fun a hE => ?_))) rfl
    refine at_op (op_tk hE (tk_loadPA 1 (N := 8) (k := .u32) (v := z1386) (m := y1770.1) rfl rfl rfl rfl hE rfl hS rfl rfl (by kernel_rfl) hm1898 (kL (j := 1) hS rfl List.not_mem_nil) (fun a hE => ?_))) rfl
    refine sN 1 4 [(8, .int .u32 ((vget (z1386) (Int.toNat (y1770.1)))))] hE (fun a hE => ?_)
    refine at_end rfl ?_
    refine wpIn_seq ?_
    refine region_at ?_
    refine sN 1 1 [(9, .int .i64 ((3 : Int)))] hE (fun a hE => ?_)
    refine at_end rfl ?_
    obtain ⟨s1929, hf, hs1930⟩ := bind_some hf
    refine block_loop (fun a w => ∃ (z1926 : (Vector Int 32)), ∃ (D1927 : Snap), Env a 54 [] [(2, .pointer (some ⟨b971, 0, none⟩)), (4, .pointer (some ⟨b1013, 0, none⟩)), (6, .pointer (some ⟨b1431, 0, none⟩)), (7, .int .i64 (y1770.1))] ∧ Stp g w0 D0 [] w D1927 [bx b971 48 (acells .u8 32 ((Vector.replicate 32 (0 : Int)))), bx b1013 98 (acells .u32 8 (z1386)), bx b1431 48 (acells .u8 32 (z1926))] ∧ Snap.le D1771 D1927 ∧ z1926 = s1929) (fun k a w => ∃ (y1914 : Int × Int × (Vector Int 32)), ∃ (D1915 : Snap), Env a 54 [] [(2, .pointer (some ⟨b971, 0, none⟩)), (4, .pointer (some ⟨b1013, 0, none⟩)), (6, .pointer (some ⟨b1431, 0, none⟩)), (7, .int .i64 (y1770.1)), (8, .int .u32 (y1914.1)), (9, .int .i64 (y1914.2.1))] ∧ Stp g w0 D0 [] w D1915 [bx b971 48 (acells .u8 32 ((Vector.replicate 32 (0 : Int)))), bx b1013 98 (acells .u32 8 (z1386)), bx b1431 48 (acells .u8 32 (y1914.2.2))] ∧ Snap.le D1771 D1915 ∧ inspeximusref01_Sum_l3.l K y1770 k y1914 = some s1929) K ?_ ?_ ?_
    ·exact ⟨((vget (z1386) (Int.toNat (y1770.1))), (3 : Int), y1770.2), D1771, hE.weak (by kernel_rfl), hS, Snap.le.refl _, hf⟩
    ·clear hE hS hf
     rintro a w ⟨z1926, D1927, hE, hS, le1928, rfl⟩
     have hf := hs1930
     clear hs1930
     refine region_at ?_
     refine sN 3 3 [(7, .int .i64 ((IntKind.wrap .i64 (y1770.1 + (1 : Int)))))] hE (fun a hE => ?_)
     refine at_end rfl ?_
     exact ⟨((IntKind.wrap .i64 (y1770.1 + (1 : Int))), z1926), D1927, hE.weak (by kernel_rfl), hS, (le2 le1772 le1928), hf⟩
    ·clear hE hS hf
     rintro k a w ⟨y1914, D1915, hE, hS, le1916, hf⟩
     obtain ⟨k, rfl, hf⟩ := inspeximusref01_Sum_l3.some _ hf
     refine ⟨k, rfl, ?_⟩
     unfold inspeximusref01_Sum_l3.b at hf
     refine wpIn_seq ?_
     refine wpIn_seq ?_
     refine region_at ?_
     refine sN 2 2 [(40, .bool ((decide ((0 : Int) ≤ y1914.2.1))))] hE (fun a hE => ?_)
     refine at_end rfl ?_
     refine cond_split hE (b := (decide ((0 : Int) ≤ y1914.2.1))) rfl (fun hb => ?_) (fun hb => ?_)
     ·replace hf := cond_t hb hf
      clear hb
      refine wpIn_skip ?_
      refine wpIn_seq ?_
      refine wpIn_block ?_
      refine wpIn_seq ?_
      refine region_at ?_
      refine sN 7 7 [(46, .int .i64 ((IntKind.wrap .i64 ((IntKind.wrap .i64 ((4 : Int) * y1770.1)) + y1914.2.1)))), (49, .int .u8 ((IntKind.wrap .u8 (Int.tmod y1914.1 256))))] hE (fun a hE => ?_)
      obtain ⟨hm1934, hf⟩ := chk_some hf
      refine at_op (op_tk hE (tk_indexPA (N := 32) (k := .u8) (m := (IntKind.wrap .i64 ((IntKind.wrap .i64 ((4 : Int) * y1770.1)) + y1914.2.1))) rfl rfl rfl rfl hE rfl rfl rfl (by kernel_rfl) hm1934 (fun a hE => ?_))) rfl
      have hS := hS.pk (.c 2 rfl (.c 0 rfl (.c 1 rfl .n))) rfl
      obtain ⟨v1935, hv1936, hf⟩ := bind_some hf
      replace hv1936 := Option.some.inj hv1936
      refine at_op (op_storePA (N := 32) (k := .u8) (v := y1914.2.2) (m := (IntKind.wrap .i64 ((IntKind.wrap .i64 ((4 : Int) * y1770.1)) + y1914.2.1))) (z := (IntKind.wrap .u8 (Int.tmod y1914.1 256))) rfl rfl rfl rfl hE hS rfl rfl (by kernel_rfl) hm1934 (fun a w _ hE hS => ?_)) rfl
      rw [hv1936] at hS
      refine at_end rfl ?_
      refine region_at ?_
      refine sN 3 3 [(8, .int .u32 ((IntKind.wrap .u32 (Int.tdiv y1914.1 256))))] hE (fun a hE => ?_)
      refine at_end rfl ?_
      refine region_at ?_
      refine sN 3 3 [(9, .int .i64 ((IntKind.wrap .i64 (y1914.2.1 - (1 : Int)))))] hE (fun a hE => ?_)
      refine at_end rfl ?_
      have hS := hS.pk (.c 1 rfl (.c 2 rfl (.c 0 rfl .n))) rfl
      exact ⟨((IntKind.wrap .u32 (Int.tdiv y1914.1 256)), (IntKind.wrap .i64 (y1914.2.1 - (1 : Int))), v1935), D1915, hE.weak (by kernel_rfl), hS, le1916, hf⟩
     ·replace hf := cond_f hb hf
      clear hb
      refine wpIn_exit ?_
      obtain rfl := Option.some.inj hf
      exact ⟨y1914.2.2, D1915, hE.weak (by kernel_rfl), hS, le1916, rfl⟩
   ·replace hf := cond_f hb hf
    clear hb
    refine wpIn_exit ?_
    obtain rfl := Option.some.inj hf
    have hS := hS.pk (.c 0 rfl (.c 2 rfl .n)) rfl
    exact ⟨y1770.2, D1771, hE.weak (by kernel_rfl), hS, le1772, rfl⟩
 ·clear hE hS hf
  rintro k a w ⟨y1340, D1341, hE, hS, le1342, hf⟩
  obtain ⟨k, rfl, hf⟩ := inspeximusref01_Sum_l1.some _ hf
  refine ⟨k, rfl, ?_⟩
  unfold inspeximusref01_Sum_l1.b at hf
  refine wpIn_seq ?_
  refine wpIn_seq ?_
  refine region_at ?_
  refine sN 5 5 [(22, .bool ((decide ((IntKind.wrap .i64 (y1340.1 + (64 : Int))) ≤ ((List.length (l999) : Nat) : Int)))))] hE (fun a hE => ?_)
  refine at_end rfl ?_
  refine cond_split hE (b := (decide ((IntKind.wrap .i64 (y1340.1 + (64 : Int))) ≤ ((List.length (l999) : Nat) : Int)))) rfl (fun hb => ?_) (fun hb => ?_)
  ·replace hf := cond_t hb hf
   clear hb
   refine wpIn_skip ?_
   refine wpIn_seq ?_
   refine wpIn_block ?_
   refine region_draw (fun j => Keeps (mfOf [(7, [b1013])] j)) (by kernel_rfl) ?_
   have hS := hS.drew
   first | generalize w.drew = w at hS ⊢ | generalize w0.drew = w at hS ⊢
   refine wP 1 2 7 (.slice A1001 (List.length (l999)) c1002) hE (fun a hE => ?_)
   refine wP 2 6 6 (.int .i64 (y1340.1)) hE (fun a hE => ?_)
   refine wP 3 14 5 (.int .i64 (y1340.1)) hE (fun a hE => ?_)
   refine wP 4 30 4 (.int .i64 ((IntKind.wrap .i64 (y1340.1 + (64 : Int))))) hE (fun a hE => ?_)
   refine tT 0 31 (fuel := 3) (by kernel_rfl) hE (tk_load 1 (.agg (List.toArray (acells .u32 8 (y1340.2)))) rfl rfl rfl rfl hE rfl hS rfl rfl (by kernel_rfl) (kL (j := 1) hS rfl List.not_mem_nil) (fun a hE => ?_))
   obtain ⟨l1421, h1422, hf⟩ := bind_some hf
   refine tW 5 63 (fuel := 2) (by kernel_rfl) hE (fun M => g_slice (K := (kdInt .u8)) (e := 5) (by_ := 1) (zl := 1) rfl rfl rfl rfl hE rfl rfl (by kernel_rfl) ⟨_, rfl⟩ ⟨_, rfl⟩ (h1288.mono le1342) h1422 (fun a A1423 c1424 hE h1425 => ?_))
   obtain ⟨r1426, h1427, hf⟩ := bind_some hf
   refine oG 6 127 (fuel := 1) (by kernel_rfl) (op_call rfl rfl rfl rfl hE rfl rfl rfl rfl (by kernel_rfl) (inspeximusref01_Turn.calls (g := g) h1427 (hS.st.fore (L := [])) h1425 (hG1.mono (le2 (le2 (le2 le993 le995) le1287) le1342))) (fun a v w hR hE => ?_))
   obtain ⟨D1428, rfl, hS1⟩ := hR
   refine ⟨(hS1.keeps.sub (M' := []) trivial).mono (fun _ h => h), ?_⟩
   have le1430 := hS1.dle
   have hS := hS.callR hS1 rfl .n
   clear hS1
   have hS := hS.pk (.c 1 rfl (.c 0 rfl (.c 2 rfl .n))) rfl
   refine oG 7 255 (fuel := 0) (by kernel_rfl) (op_store (v := .agg (List.toArray (acells .u32 8 (r1426)))) (acells .u32 8 (r1426)) rfl rfl rfl rfl hE hS rfl rfl (by kernel_rfl) (by kernel_rfl) (by kernel_rfl) (by kernel_rfl) (by kernel_rfl) (fun a w hkp hE hS => ⟨hkp.mono (fun _ h => h), ?_⟩))
   clear hkp
   refine doneG (by kernel_rfl) ?_
   refine region_at ?_
   refine sN 3 3 [(5, .int .i64 ((IntKind.wrap .i64 (y1340.1 + (64 : Int)))))] hE (fun a hE => ?_)
   refine at_end rfl ?_
   have hS := hS.pk (.c 1 rfl (.c 0 rfl (.c 2 rfl .n))) rfl
   exact ⟨((IntKind.wrap .i64 (y1340.1 + (64 : Int))), r1426), D1428, hE.weak (by kernel_rfl), hS, (le2 le1342 le1430), hf⟩
  ·replace hf := cond_f hb hf
   clear hb
   refine wpIn_exit ?_
   obtain rfl := Option.some.inj hf
   have hS := hS.pk (.c 0 rfl (.c 1 rfl .n)) rfl
   exact ⟨y1340.2, D1341, hE.weak (by kernel_rfl), hS, le1342, rfl⟩
set_option maxRecDepth 100000 in
set_option maxHeartbeats 4000000 in
theorem inspeximusref02_Of.calls {K : Nat} {g w0 : World} {D0 : Snap} {x1 : Int} {x2 : (List (List Int))} {A3 : Option Addr} {c4 : Nat} {r : ((Vector Int 32))} (hf : inspeximusref02_Of.f K x1 x2 = some r) (hS0 : St g w0 D0 []) (h5 : Sl (kdSlice (kdInt .u8)) D0 A3 c4 (x2)) (hG0 : Cell (kdArr .u32 8) D0 0 0 gl_First) (hG1 : Cell (kdArr .u32 64) D0 1 0 gl_K) :
  CallsIn (Fw none) 0 Tryd.prog 40 (List.toArray [.int .i64 (x1), .slice A3 (List.length (x2)) c4]) w0 (fun e w' => ∃ v, e = .returned v ∧ ∃ (D1 : Snap), v = .agg (List.toArray (acells .u8 32 (r))) ∧ Stp g w0 D0 [] w' D1 []) := by
 unfold inspeximusref02_Of.f at hf
 have hS := Stp.refl hS0
 clear hS0
 refine calls_body (n := 9) Tryd.func40 rfl Tryd.ntmps40 rfl (fun a hE => ?_)
 have hE : Env a 9 [] [(0, .int .i64 (x1)), (1, .slice A3 (List.length (x2)) c4)] := hE
 refine wpIn_seq ?_
 refine region_at ?_
 refine at_op (op_alloc (z := .agg (List.toArray (acells .u8 32 ((Vector.replicate 32 (0 : Int)))))) rfl rfl rfl rfl hE rfl hS (by kernel_rfl) (fun a b28 w _ hE hS => ?_)) rfl
 refine at_end rfl ?_
 refine wpIn_seq ?_
 refine region_at ?_
 refine sN 2 2 [(5, .int .i64 (x1)), (6, .slice A3 (List.length (x2)) c4)] hE (fun a hE => ?_)
 obtain ⟨r30, h31, hf⟩ := bind_some hf
 refine aC rfl rfl rfl rfl hE rfl rfl rfl rfl (inspeximusref02_Text.calls (g := g) h31 (hS.st.fore (L := [])) h5) (fun a v w hR hE => ?_)
 obtain ⟨D32, A34, c35, q36, rfl, hS1, h37⟩ := hR
 have le39 := hS1.dle
 have hS := hS.callR hS1 rfl (.c .n)
 clear hS1
 obtain ⟨D40, q43, le41, hS, h44, h42⟩ := hS.lent h37
 obtain ⟨r45, h46, hf⟩ := bind_some hf
 refine aC rfl rfl rfl rfl hE rfl rfl rfl rfl (inspeximusref01_Sum.calls (g := g) h46 (hS.st.fore (L := [])) h42 (hG0.mono (le2 le39 le41)) (hG1.mono (le2 le39 le41))) (fun a v w hR hE => ?_)
 obtain ⟨D47, rfl, hS1⟩ := hR
 have le49 := hS1.dle
 have hS := hS.callR hS1 rfl .n
 clear hS1
 have hS := hS.pk (.c 1 rfl (.c 0 rfl .n)) rfl
 refine at_op (op_store (v := .agg (List.toArray (acells .u8 32 (r45)))) (acells .u8 32 (r45)) rfl rfl rfl rfl hE hS rfl rfl (by kernel_rfl) (by kernel_rfl) (by kernel_rfl) (by kernel_rfl) (by kernel_rfl) (fun a w _ hE hS => ?_)) rfl
 refine at_end rfl ?_
 refine wpIn_ret ?_
 obtain rfl := Option.some.inj hf
 repeat (with_reducible first | refine then_ret ?_ | refine block_ret ?_ | refine qx_ret ?_)
 refine ret_gen ([.agg (List.toArray (acells .u8 32 (r45)))]) hE (by rw [show Tryd.f40.results.toList = [.cell 4 48] from rfl]; exact ⟨_, _, _, 0, _, _, rfl, rfl, hS.heapAt (j := 0) rfl, by kernel_rfl, rfl⟩) ?_
 have hS := hS.pk .n rfl
 exact ⟨_, rfl, D47, rfl, hS⟩
set_option maxRecDepth 100000 in
set_option maxHeartbeats 4000000 in
theorem inspeximusref09_Chain.calls {K : Nat} {g w0 : World} {D0 : Snap} {x1 : (List (List Int))} {A2 : Option Addr} {c3 : Nat} {r : ((Vector Int 32))} (hf : inspeximusref09_Chain.f K x1 = some r) (hS0 : St g w0 D0 []) (h4 : Sl (kdSlice (kdInt .u8)) D0 A2 c3 (x1)) (hG0 : Cell (kdArr .u32 8) D0 0 0 gl_First) (hG1 : Cell (kdArr .u32 64) D0 1 0 gl_K) :
  CallsIn (Fw none) 0 Tryd.prog 23 (List.toArray [.slice A2 (List.length (x1)) c3]) w0 (fun e w' => ∃ v, e = .returned v ∧ ∃ (D1 : Snap), v = .agg (List.toArray (acells .u8 32 (r))) ∧ Stp g w0 D0 [] w' D1 []) := by
 unfold inspeximusref09_Chain.f at hf
 have hS := Stp.refl hS0
 clear hS0
 refine calls_body (n := 19) Tryd.func23 rfl Tryd.ntmps23 rfl (fun a hE => ?_)
 have hE : Env a 19 [] [(0, .slice A2 (List.length (x1)) c3)] := hE
 refine wpIn_seq ?_
 refine region_at ?_
 refine at_op (op_alloc (z := .agg (List.toArray (acells .u8 32 ((Vector.replicate 32 (0 : Int)))))) rfl rfl rfl rfl hE rfl hS (by kernel_rfl) (fun a b961 w _ hE hS => ?_)) rfl
 refine at_end rfl ?_
 refine wpIn_seq ?_
 refine region_at ?_
 refine at_op (op_alloc (z := .agg (List.toArray (acells .u8 32 ((Vector.replicate 32 (0 : Int)))))) rfl rfl rfl rfl hE rfl hS (by kernel_rfl) (fun a b963 w _ hE hS => ?_)) rfl
 refine at_end rfl ?_
 refine wpIn_seq ?_
 refine wpIn_seq ?_
 refine region_at ?_
 refine sN 1 1 [(4, .int .i64 ((0 : Int)))] hE (fun a hE => ?_)
 refine at_end rfl ?_
 obtain ⟨s1763, hf, hs1764⟩ := bind_some hf
 have hS := hS.pk (.c 1 rfl (.c 0 rfl .n)) rfl
 refine block_loop (fun a w => ∃ (z1760 : (Vector Int 32)), ∃ (D1761 : Snap), Env a 19 [] [(2, .pointer (some ⟨b961, 0, none⟩)), (3, .pointer (some ⟨b963, 0, none⟩))] ∧ Stp g w0 D0 [] w D1761 [bx b961 48 (acells .u8 32 ((Vector.replicate 32 (0 : Int)))), bx b963 48 (acells .u8 32 (z1760))] ∧ Snap.le D0 D1761 ∧ z1760 = s1763) (fun k a w => ∃ (y1602 : Int × (Vector Int 32)), ∃ (D1603 : Snap), Env a 19 [] [(0, .slice A2 (List.length (x1)) c3), (2, .pointer (some ⟨b961, 0, none⟩)), (3, .pointer (some ⟨b963, 0, none⟩)), (4, .int .i64 (y1602.1))] ∧ Stp g w0 D0 [] w D1603 [bx b961 48 (acells .u8 32 ((Vector.replicate 32 (0 : Int)))), bx b963 48 (acells .u8 32 (y1602.2))] ∧ Snap.le D0 D1603 ∧ inspeximusref09_Chain_l1.l K x1 k y1602 = some s1763) K ?_ ?_ ?_
 ·exact ⟨((0 : Int), (Vector.replicate 32 (0 : Int))), D0, hE.weak (by kernel_rfl), hS, Snap.le.refl _, hf⟩
 ·clear hE hS hf
  rintro a w ⟨z1760, D1761, hE, hS, le1762, rfl⟩
  have hf := hs1764
  clear hs1764
  refine wpIn_seq ?_
  refine region_at ?_
  refine aL 1 (.agg (List.toArray (acells .u8 32 (z1760)))) hE hS (fun a hE => ?_)
  refine at_op (op_store (v := .agg (List.toArray (acells .u8 32 (z1760)))) (acells .u8 32 (z1760)) rfl rfl rfl rfl hE hS rfl rfl (by kernel_rfl) (by kernel_rfl) (by kernel_rfl) (by kernel_rfl) (by kernel_rfl) (fun a w _ hE hS => ?_)) rfl
  refine at_end rfl ?_
  refine wpIn_ret ?_
  obtain rfl := Option.some.inj hf
  repeat (with_reducible first | refine then_ret ?_ | refine block_ret ?_ | refine qx_ret ?_)
  refine ret_gen ([.agg (List.toArray (acells .u8 32 (z1760)))]) hE (by rw [show Tryd.f23.results.toList = [.cell 2 48] from rfl]; exact ⟨_, _, _, 0, _, _, rfl, rfl, hS.heapAt (j := 0) rfl, by kernel_rfl, rfl⟩) ?_
  have hS := hS.pk .n rfl
  exact ⟨_, rfl, D1761, rfl, hS⟩
 ·clear hE hS hf
  rintro k a w ⟨y1602, D1603, hE, hS, le1604, hf⟩
  obtain ⟨k, rfl, hf⟩ := inspeximusref09_Chain_l1.some _ hf
  refine ⟨k, rfl, ?_⟩
  unfold inspeximusref09_Chain_l1.b at hf
  refine wpIn_seq ?_
  refine wpIn_seq ?_
  refine region_at ?_
  refine sN 4 4 [(8, .bool ((decide (y1602.1 < ((List.length (x1) : Nat) : Int)))))] hE (fun a hE => ?_)
  refine at_end rfl ?_
  refine cond_split hE (b := (decide (y1602.1 < ((List.length (x1) : Nat) : Int)))) rfl (fun hb => ?_) (fun hb => ?_)
  ·replace hf := cond_t hb hf
   clear hb
   refine wpIn_skip ?_
   refine wpIn_seq ?_
   refine wpIn_block ?_
   refine region_draw (fun j => Keeps (mfOf [(7, [b963])] j)) (by kernel_rfl) ?_
   have hS := hS.drew
   first | generalize w.drew = w at hS ⊢ | generalize w0.drew = w at hS ⊢
   refine wP 1 2 7 (.slice A2 (List.length (x1)) c3) hE (fun a hE => ?_)
   refine wP 2 6 6 (.int .i64 (y1602.1)) hE (fun a hE => ?_)
   have hS := hS.pk (.c 1 rfl (.c 0 rfl .n)) rfl
   have hK1882 := hS
   obtain ⟨D1879, le1880, e1881, hS⟩ := hS.lendB
   obtain ⟨l1883, h1884, hf⟩ := bind_some hf
   refine tW 0 7 (fuel := 5) (by kernel_rfl) hE (fun M => g_sliceArr (kk := .u8) (e := 5) (v := y1602.2) rfl rfl rfl rfl hE rfl rfl (by kernel_rfl) rfl rfl e1881 rfl h1884 (fun a A1885 c1886 hE h1887 => ?_))
   obtain ⟨x1888, h1889, hf⟩ := bind_some hf
   refine tW 3 15 (fuel := 4) (by kernel_rfl) hE (fun M => g_index (K := (kdSlice (kdInt .u8))) (e := 33) (by_ := 24) (zl := 1) rfl rfl rfl rfl hE rfl rfl rfl (by kernel_rfl) rfl (h4.mono (le2 le1604 le1880)) h1889 (fun a b1890 o1891 hE h1892 => ?_))
   obtain ⟨cs1893, C1894, T1895, fr1896, hr1897, hb1898, hc1899⟩ := h1892
   obtain ⟨A1900, c1901, rfl, h1902⟩ := hr1897
   refine tT 4 31 (fuel := 3) (by kernel_rfl) hE (tk_loadX (off0 := o1891) (off := 0) (c := [.slice A1900 (List.length (x1888)) c1901]) (.slice A1900 (List.length (x1888)) c1901) rfl rfl rfl rfl hE rfl hS rfl hb1898 hc1899 (by kernel_rfl) (by kernel_rfl) (kD hS dn_nil) (fun a hE => ?_))
   refine oG 5 63 (fuel := 2) (by kernel_rfl) (op_buildSlice (K := (kdSlice (kdInt .u8))) (e := 33) (cs := [.slice A1885 (List.length (l1883)) c1886] ++ ([.slice A1900 (List.length (x1888)) c1901] ++ [])) ([l1883, x1888] : List (List Int)) rfl rfl rfl rfl hE rfl hS rfl (by kernel_rfl) rfl rfl (by exact (show RL (kdSlice (kdInt .u8)) D1879 ([l1883, x1888] : List (List Int)) ([.slice A1885 (List.length (l1883)) c1886] ++ ([.slice A1900 (List.length (x1888)) c1901] ++ [])) from ⟨_, _, rfl, (kslice h1887), ⟨_, _, rfl, (kslice h1902), rfl⟩⟩)) (fun a A1903 q1904 w hkp hE h1905 hS => ⟨hkp.mono (fun _ h => absurd h List.not_mem_nil), ?_⟩))
   clear hkp
   obtain ⟨D1907, q1910, le1908, hS, h1911, h1909⟩ := hS.lent h1905
   obtain ⟨r1912, h1913, hf⟩ := bind_some hf
   refine oG 6 127 (fuel := 1) (by kernel_rfl) (op_call rfl rfl rfl rfl hE rfl rfl rfl rfl (by kernel_rfl) (inspeximusref02_Of.calls (g := g) h1913 (hS.st.fore (L := [])) h1909 (hG0.mono (le2 (le2 le1604 le1880) le1908)) (hG1.mono (le2 (le2 le1604 le1880) le1908))) (fun a v w hR hE => ?_))
   obtain ⟨D1914, rfl, hS1⟩ := hR
   refine ⟨(hS1.keeps.sub (M' := []) trivial).mono (fun _ h => h), ?_⟩
   have le1916 := hS1.dle
   have hS := hS.callR hS1 rfl .n
   clear hS1
   have hS := hS.pk (.c 1 rfl (.c 2 rfl .n)) rfl
   have hS := hK1882.back hS (le2 (le2 le1880 le1908) le1916)
   refine oG 7 255 (fuel := 0) (by kernel_rfl) (op_store (v := .agg (List.toArray (acells .u8 32 (r1912)))) (acells .u8 32 (r1912)) rfl rfl rfl rfl hE hS rfl rfl (by kernel_rfl) (by kernel_rfl) (by kernel_rfl) (by kernel_rfl) (by kernel_rfl) (fun a w hkp hE hS => ⟨hkp.mono (fun _ h => h), ?_⟩))
   clear hkp
   refine doneG (by kernel_rfl) ?_
   refine region_at ?_
   refine sN 3 3 [(4, .int .i64 ((IntKind.wrap .i64 (y1602.1 + (1 : Int)))))] hE (fun a hE => ?_)
   refine at_end rfl ?_
   have hS := hS.pk (.c 1 rfl (.c 0 rfl .n)) rfl
   exact ⟨((IntKind.wrap .i64 (y1602.1 + (1 : Int))), r1912), D1603, hE.weak (by kernel_rfl), hS, le1604, hf⟩
  ·replace hf := cond_f hb hf
   clear hb
   refine wpIn_exit ?_
   obtain rfl := Option.some.inj hf
   exact ⟨y1602.2, D1603, hE.weak (by kernel_rfl), hS, le1604, rfl⟩
set_option maxRecDepth 100000 in
set_option maxHeartbeats 4000000 in
theorem inspeximuslaw09_LogChained.calls {K : Nat} {g w0 : World} {D0 : Snap} {x1 : (List (List Int))} {A2 : Option Addr} {c3 : Nat} {r : (Bool)} (hf : inspeximuslaw09_LogChained.f K x1 = some r) (hS0 : St g w0 D0 []) (h4 : Sl (kdSlice (kdInt .u8)) D0 A2 c3 (x1)) (hG0 : Cell (kdArr .u32 8) D0 0 0 gl_First) (hG1 : Cell (kdArr .u32 64) D0 1 0 gl_K) :
  CallsIn (Fw none) 0 Tryd.prog 6 (List.toArray [.slice A2 (List.length (x1)) c3]) w0 (fun e w' => ∃ v, e = .returned v ∧ ∃ (D1 : Snap), v = .bool (r) ∧ Stp g w0 D0 [] w' D1 []) := by
 unfold inspeximuslaw09_LogChained.f at hf
 have hS := Stp.refl hS0
 clear hS0
 refine calls_body (n := 103) Tryd.func6 rfl Tryd.ntmps6 rfl (fun a hE => ?_)
 have hE : Env a 103 [] [(0, .slice A2 (List.length (x1)) c3)] := hE
 refine wpIn_seq ?_
 refine region_at ?_
 refine sN 1 1 [(2, .bool false)] hE (fun a hE => ?_)
 refine at_end rfl ?_
 refine wpIn_seq ?_
 refine wpIn_seq ?_
 refine region_at ?_
 obtain ⟨r3435, h3436, hf⟩ := bind_some hf
 refine aC rfl rfl rfl rfl hE rfl rfl rfl rfl (inspeximuslaw09_alive.calls (g := g) h3436 (hS.st.fore (L := [])) hG0 hG1) (fun a v w hR hE => ?_)
 obtain ⟨D3437, rfl, hS1⟩ := hR
 have le3439 := hS1.dle
 have hS := hS.callR hS1 rfl .n
 clear hS1
 refine sN 1 2 [(16, .bool ((!r3435)))] hE (fun a hE => ?_)
 refine at_end rfl ?_
 refine cond_split hE (b := (!r3435)) rfl (fun hb => ?_) (fun hb => ?_)
 ·replace hf := cond_t hb hf
  clear hb
  refine wpIn_seq ?_
  refine region_at ?_
  refine sN 1 1 [(2, .bool false)] hE (fun a hE => ?_)
  refine at_end rfl ?_
  refine wpIn_ret ?_
  obtain rfl := Option.some.inj hf
  repeat (with_reducible first | refine then_ret ?_ | refine block_ret ?_ | refine qx_ret ?_)
  refine ret_gen ([.bool false]) hE (by rw [show Tryd.f6.results.toList = [.tmp 2] from rfl]; exact ⟨_, _, rfl, rfl, rfl⟩) ?_
  exact ⟨_, rfl, D3437, rfl, hS⟩
 ·replace hf := cond_f hb hf
  clear hb
  refine wpIn_skip ?_
  refine wpIn_seq ?_
  refine wpIn_seq ?_
  refine region_at ?_
  refine sN 3 3 [(19, .bool ((decide ((12 : Int) < ((List.length (x1) : Nat) : Int)))))] hE (fun a hE => ?_)
  refine at_end rfl ?_
  refine cond_split hE (b := (decide ((12 : Int) < ((List.length (x1) : Nat) : Int)))) rfl (fun hb => ?_) (fun hb => ?_)
  ·replace hf := cond_t hb hf
   clear hb
   refine wpIn_seq ?_
   refine region_at ?_
   refine sN 1 1 [(2, .bool true)] hE (fun a hE => ?_)
   refine at_end rfl ?_
   refine wpIn_ret ?_
   obtain rfl := Option.some.inj hf
   repeat (with_reducible first | refine then_ret ?_ | refine block_ret ?_ | refine qx_ret ?_)
   refine ret_gen ([.bool true]) hE (by rw [show Tryd.f6.results.toList = [.tmp 2] from rfl]; exact ⟨_, _, rfl, rfl, rfl⟩) ?_
   exact ⟨_, rfl, D3437, rfl, hS⟩
  ·replace hf := cond_f hb hf
   clear hb
   refine wpIn_skip ?_
   refine wpIn_seq ?_
   refine region_at ?_
   obtain ⟨r3440, h3441, hf⟩ := bind_some hf
   refine aC rfl rfl rfl rfl hE rfl rfl rfl rfl (disk_New.calls (g := g) h3441 (hS.st.fore (L := [])) ) (fun a v w hR hE => ?_)
   obtain ⟨D3442, b3444, A3446, c3447, q3448, rfl, hS1, h3449⟩ := hR
   have le3451 := hS1.dle
   have hS := hS.callR hS1 rfl (.c (.c .n))
   clear hS1
   obtain ⟨r3452, h3453, hf⟩ := bind_some hf
   refine aC rfl rfl rfl rfl hE rfl rfl rfl rfl (disk_New.calls (g := g) h3453 (hS.st.fore (L := [])) ) (fun a v w hR hE => ?_)
   obtain ⟨D3454, b3456, A3458, c3459, q3460, rfl, hS1, h3461⟩ := hR
   have le3463 := hS1.dle
   have hS := hS.callR hS1 rfl (.c (.c .n))
   clear hS1
   refine sN 2 4 [(3, .pointer (some ⟨b3444, 0, none⟩)), (4, .pointer (some ⟨b3456, 0, none⟩))] hE (fun a hE => ?_)
   refine at_end rfl ?_
   refine wpIn_seq ?_
   refine region_at ?_
   refine sN 1 1 [(23, .pointer (some ⟨b3444, 0, none⟩))] hE (fun a hE => ?_)
   have hS := hS.pk (.c 2 rfl (.c 3 rfl (.c 0 rfl (.c 1 rfl .n)))) rfl
   obtain ⟨r3464, h3465, hf⟩ := bind_some hf
   refine aC rfl rfl rfl rfl hE rfl rfl rfl rfl (log_Open.calls (g := g) h3465 (hS.st.fore (L := [bx b3444 72 (c_T_disk_Disk ((T_disk_Disk.mk (r3440.1) (r3440.2.1) (r3440.2.2))) A3446 c3447), q3448])) (h3449.mono le3463) (hG0.mono (le2 (le2 le3439 le3451) le3463)) (hG1.mono (le2 (le2 le3439 le3451) le3463))) (fun a v w hR hE => ?_)
   obtain ⟨D3466, b3468, A3470, c3471, q3472, A3475, c3476, q3477, rfl, hS1, h3473, h3478⟩ := hR
   have le3480 := hS1.dle
   have hS := hS.callR hS1 rfl (.c (.c (.c (.c .n))))
   clear hS1
   refine sN 7 9 [(5, .pointer (some ⟨b3468, 0, none⟩))] hE (fun a hE => ?_)
   refine at_end rfl ?_
   refine wpIn_seq ?_
   refine region_at ?_
   refine sN 1 1 [(29, .pointer (some ⟨b3456, 0, none⟩))] hE (fun a hE => ?_)
   have hS := hS.pk (.c 4 rfl (.c 5 rfl (.c 0 rfl (.c 1 rfl (.c 3 rfl .n))))) rfl
   obtain ⟨r3481, h3482, hf⟩ := bind_some hf
   refine aC rfl rfl rfl rfl hE rfl rfl rfl rfl (log_Open.calls (g := g) h3482 (hS.st.fore (L := [bx b3456 72 (c_T_disk_Disk ((T_disk_Disk.mk (r3452.1) (r3452.2.1) (r3452.2.2))) A3458 c3459), q3460])) (h3461.mono le3480) (hG0.mono (le2 (le2 (le2 le3439 le3451) le3463) le3480)) (hG1.mono (le2 (le2 (le2 le3439 le3451) le3463) le3480))) (fun a v w hR hE => ?_)
   obtain ⟨D3483, b3485, A3487, c3488, q3489, A3492, c3493, q3494, rfl, hS1, h3490, h3495⟩ := hR
   have le3497 := hS1.dle
   have hS := hS.callR hS1 rfl (.c (.c (.c (.c .n))))
   clear hS1
   refine sN 7 9 [(8, .pointer (some ⟨b3485, 0, none⟩))] hE (fun a hE => ?_)
   refine at_end rfl ?_
   refine wpIn_seq ?_
   refine wpIn_seq ?_
   refine region_at ?_
   refine sN 1 1 [(11, .int .i64 ((0 : Int)))] hE (fun a hE => ?_)
   refine at_end rfl ?_
   obtain ⟨s6229, hf, hs6230⟩ := bind_some hf
   have hS := hS.pk (.c 0 rfl (.c 5 rfl (.c 1 rfl (.c 4 rfl (.c 3 rfl (.c 6 rfl .n)))))) rfl
   refine block_loop (fun a w => ∃ (z6216 : (List Int) × T_log_at × (List Int) × Int), ∃ (A6219 : Option Addr), ∃ (c6220 : Nat), ∃ (q6221 : Blk), ∃ (A6224 : Option Addr), ∃ (c6225 : Nat), ∃ (q6226 : Blk), ∃ (D6217 : Snap), Env a 103 [] [(0, .slice A2 (List.length (x1)) c3), (4, .pointer (some ⟨b3456, 0, none⟩)), (5, .pointer (some ⟨b3468, 0, none⟩))] ∧ Stp g w0 D0 [] w D6217 [bx b3456 72 (c_T_disk_Disk ((T_disk_Disk.mk (z6216.1) (r3481.2.2.2.1) (r3452.2.2))) A6219 c6220), bx b3468 64 ([.pointer (some ⟨b3444, 0, none⟩)] ++ ((c_T_log_at (z6216.2.1)))), bx b3444 72 (c_T_disk_Disk ((T_disk_Disk.mk (z6216.2.2.1) (z6216.2.2.2) (r3440.2.2))) A6224 c6225), q6221, q6226] ∧ Snap.le D3483 D6217 ∧ OwnL (kdInt .u8) 5 D6217 A6219 c6220 (z6216.1) q6221 ∧ OwnL (kdInt .u8) 5 D6217 A6224 c6225 (z6216.2.2.1) q6226 ∧ (Sum.inr z6216) = s6229) (fun k a w => ∃ (y5672 : Int × (List Int) × T_log_at × T_log_at × (List Int) × Int), ∃ (A5675 : Option Addr), ∃ (c5676 : Nat), ∃ (q5677 : Blk), ∃ (A5680 : Option Addr), ∃ (c5681 : Nat), ∃ (q5682 : Blk), ∃ (D5673 : Snap), Env a 103 [] [(0, .slice A2 (List.length (x1)) c3), (4, .pointer (some ⟨b3456, 0, none⟩)), (5, .pointer (some ⟨b3468, 0, none⟩)), (8, .pointer (some ⟨b3485, 0, none⟩)), (11, .int .i64 (y5672.1))] ∧ Stp g w0 D0 [] w D5673 [bx b3456 72 (c_T_disk_Disk ((T_disk_Disk.mk (y5672.2.1) (r3481.2.2.2.1) (r3452.2.2))) A5675 c5676), bx b3468 64 ([.pointer (some ⟨b3444, 0, none⟩)] ++ ((c_T_log_at (y5672.2.2.1)))), bx b3485 64 ([.pointer (some ⟨b3456, 0, none⟩)] ++ ((c_T_log_at (y5672.2.2.2.1)))), bx b3444 72 (c_T_disk_Disk ((T_disk_Disk.mk (y5672.2.2.2.2.1) (y5672.2.2.2.2.2) (r3440.2.2))) A5680 c5681), q5677, q5682] ∧ Snap.le D3483 D5673 ∧ OwnL (kdInt .u8) 5 D5673 A5675 c5676 (y5672.2.1) q5677 ∧ OwnL (kdInt .u8) 5 D5673 A5680 c5681 (y5672.2.2.2.2.1) q5682 ∧ inspeximuslaw09_LogChained_l1.l K x1 r3440 r3452 r3481 k y5672 = some s6229) K ?_ ?_ ?_
   ·exact ⟨((0 : Int), r3481.2.2.1, r3464.2.2.2.2, r3481.2.2.2.2, r3464.2.2.1, r3464.2.2.2.1), A3492, c3493, q3494, A3475, c3476, q3477, D3483, hE.weak (by kernel_rfl), hS, Snap.le.refl _, h3495, (h3478.mono le3497), hf⟩
   ·clear hE hS hf
    rintro a w ⟨z6216, A6219, c6220, q6221, A6224, c6225, q6226, D6217, hE, hS, le6218, h6222, h6227, rfl⟩
    have hf := hs6230
    clear hs6230
    refine wpIn_seq ?_
    refine region_at ?_
    refine sN 1 1 [(78, .pointer (some ⟨b3456, 0, none⟩))] hE (fun a hE => ?_)
    have hS := hS.pk (.c 0 rfl (.c 3 rfl (.c 1 rfl (.c 2 rfl (.c 4 rfl .n))))) rfl
    obtain ⟨r6749, h6750, hf⟩ := bind_some hf
    refine aC rfl rfl rfl rfl hE rfl rfl rfl rfl (disk_Disk_Sync.calls (g := g) h6750 (hS.st.fore (L := [bx b3456 72 (c_T_disk_Disk ((T_disk_Disk.mk (z6216.1) (r3481.2.2.2.1) (r3452.2.2))) A6219 c6220), q6221])) h6222) (fun a v w hR hE => ?_)
    obtain ⟨D6751, q6753, rfl, hS1, h6754⟩ := hR
    have le6756 := hS1.dle
    have hS := hS.callR hS1 rfl (.c (.c .n))
    clear hS1
    refine at_end rfl ?_
    refine wpIn_seq ?_
    refine region_at ?_
    refine sN 1 1 [(81, .pointer (some ⟨b3456, 0, none⟩))] hE (fun a hE => ?_)
    obtain ⟨r6757, h6758, hf⟩ := bind_some hf
    refine aC rfl rfl rfl rfl hE rfl rfl rfl rfl (log_Open.calls (g := g) h6758 (hS.st.fore (L := [bx b3456 72 (c_T_disk_Disk ((T_disk_Disk.mk (z6216.1) (r6749) (r3452.2.2))) A6219 c6220), q6753])) h6754 (hG0.mono (le2 (le2 (le2 (le2 (le2 (le2 le3439 le3451) le3463) le3480) le3497) le6218) le6756)) (hG1.mono (le2 (le2 (le2 (le2 (le2 (le2 le3439 le3451) le3463) le3480) le3497) le6218) le6756))) (fun a v w hR hE => ?_)
    obtain ⟨D6759, b6761, A6763, c6764, q6765, A6768, c6769, q6770, rfl, hS1, h6766, h6771⟩ := hR
    have le6773 := hS1.dle
    have hS := hS.callR hS1 rfl (.c (.c (.c (.c .n))))
    clear hS1
    refine sN 7 9 [(12, .pointer (some ⟨b6761, 0, none⟩)), (13, .slice A6763 (List.length (r6757.1)) c6764)] hE (fun a hE => ?_)
    refine at_end rfl ?_
    refine wpIn_seq ?_
    refine region_at ?_
    refine sN 1 1 [(86, .pointer (some ⟨b6761, 0, none⟩))] hE (fun a hE => ?_)
    have hS := hS.pk (.c 1 rfl (.c 0 rfl (.c 3 rfl (.c 2 rfl (.c 4 rfl (.c 5 rfl (.c 6 rfl .n))))))) rfl
    obtain ⟨r6813, h6814, hf⟩ := bind_some hf
    refine aC rfl rfl rfl rfl hE rfl rfl rfl rfl (log_Log_Chain.calls (g := g) h6814 (hS.st.fore (L := [bx b6761 64 ([.pointer (some ⟨b3456, 0, none⟩)] ++ ((c_T_log_at (r6757.2.2.2.2)))), bx b3456 72 (c_T_disk_Disk ((T_disk_Disk.mk (r6757.2.2.1) (r6757.2.2.2.1) (r3452.2.2))) A6768 c6769), q6770])) h6771) (fun a v w hR hE => ?_)
    obtain ⟨D6815, q6817, rfl, hS1, h6818⟩ := hR
    have le6820 := hS1.dle
    have hS := hS.callR hS1 rfl (.c (.c (.c .n)))
    clear hS1
    refine sN 1 3 [(88, .pointer (some ⟨b3468, 0, none⟩))] hE (fun a hE => ?_)
    have hS := hS.pk (.c 4 rfl (.c 5 rfl (.c 6 rfl (.c 0 rfl (.c 1 rfl (.c 2 rfl (.c 3 rfl .n))))))) rfl
    obtain ⟨r6821, h6822, hf⟩ := bind_some hf
    refine aC rfl rfl rfl rfl hE rfl rfl rfl rfl (log_Log_Chain.calls (g := g) h6822 (hS.st.fore (L := [bx b3468 64 ([.pointer (some ⟨b3444, 0, none⟩)] ++ ((c_T_log_at (z6216.2.1)))), bx b3444 72 (c_T_disk_Disk ((T_disk_Disk.mk (z6216.2.2.1) (z6216.2.2.2) (r3440.2.2))) A6224 c6225), q6226])) (h6227.mono (le2 (le2 le6756 le6773) le6820))) (fun a v w hR hE => ?_)
    obtain ⟨D6823, q6825, rfl, hS1, h6826⟩ := hR
    have le6828 := hS1.dle
    have hS := hS.callR hS1 rfl (.c (.c (.c .n)))
    clear hS1
    refine at_op (op_tk hE (tk_bin (r := .bool ((decide (r6813 = r6821)))) rfl rfl rfl rfl hE rfl rfl rfl (eqagg_run (by kernel_rfl) (EqR_arr (k := .u8) (N := 32) (by kernel_rfl))) (fun a hE => ?_))) rfl
    refine sN 1 6 [(91, .bool ((decide (r6813 = r6821))))] hE (fun a hE => ?_)
    refine Or.elim (Bool.eq_false_or_eq_true ((decide (r6813 = r6821)))).symm (fun hb => ?_) (fun hb => ?_)
    ·replace hf := cond_f hb hf
     have hE := hE.know (t := 91) (b := (decide (r6813 = r6821))) (b' := false) rfl hb
     clear hb
     refine sN 12 18 [(2, .bool false)] hE (fun a hE => ?_)
     refine at_end rfl ?_
     refine wpIn_ret ?_
     obtain rfl := Option.some.inj hf
     repeat (with_reducible first | refine then_ret ?_ | refine block_ret ?_ | refine qx_ret ?_)
     refine ret_gen ([.bool false]) hE (by rw [show Tryd.f6.results.toList = [.tmp 2] from rfl]; exact ⟨_, _, rfl, rfl, rfl⟩) ?_
     have hS := hS.pk .n rfl
     exact ⟨_, rfl, D6823, rfl, hS⟩
    ·replace hf := cond_t hb hf
     have hE := hE.know (t := 91) (b := (decide (r6813 = r6821))) (b' := true) rfl hb
     clear hb
     refine sN 2 8 [(92, .slice A6763 (List.length (r6757.1)) c6764), (93, .slice A2 (List.length (x1)) c3)] hE (fun a hE => ?_)
     have hS := hS.pk (.c 6 rfl (.c 0 rfl (.c 1 rfl (.c 2 rfl (.c 3 rfl (.c 4 rfl (.c 5 rfl .n))))))) rfl
     obtain ⟨D6829, q6832, le6830, hS, h6833, h6831⟩ := hS.lent (h6766.mono (le2 le6820 le6828))
     obtain ⟨r6834, h6835, hf⟩ := bind_some hf
     refine aC rfl rfl rfl rfl hE rfl rfl rfl rfl (inspeximusref09_Same.calls (g := g) h6835 (hS.st.fore (L := [])) h6831 (h4.mono (le2 (le2 (le2 (le2 (le2 (le2 (le2 (le2 (le2 (le2 le3439 le3451) le3463) le3480) le3497) le6218) le6756) le6773) le6820) le6828) le6830))) (fun a v w hR hE => ?_)
     obtain ⟨D6836, rfl, hS1⟩ := hR
     have le6838 := hS1.dle
     have hS := hS.callR hS1 rfl .n
     clear hS1
     refine sN 2 11 [(96, .bool (r6834))] hE (fun a hE => ?_)
     refine Or.elim (Bool.eq_false_or_eq_true (r6834)).symm (fun hb => ?_) (fun hb => ?_)
     ·replace hf := cond_f hb hf
      have hE := hE.know (t := 96) (b := r6834) (b' := false) rfl hb
      clear hb
      refine sN 7 18 [(2, .bool false)] hE (fun a hE => ?_)
      refine at_end rfl ?_
      refine wpIn_ret ?_
      obtain rfl := Option.some.inj hf
      repeat (with_reducible first | refine then_ret ?_ | refine block_ret ?_ | refine qx_ret ?_)
      refine ret_gen ([.bool false]) hE (by rw [show Tryd.f6.results.toList = [.tmp 2] from rfl]; exact ⟨_, _, rfl, rfl, rfl⟩) ?_
      have hS := hS.pk .n rfl
      exact ⟨_, rfl, D6836, rfl, hS⟩
     ·replace hf := cond_t hb hf
      have hE := hE.know (t := 96) (b := r6834) (b' := true) rfl hb
      clear hb
      refine sN 1 12 [(97, .pointer (some ⟨b3468, 0, none⟩))] hE (fun a hE => ?_)
      have hS := hS.pk (.c 1 rfl (.c 2 rfl (.c 3 rfl (.c 0 rfl (.c 4 rfl (.c 5 rfl (.c 6 rfl .n))))))) rfl
      obtain ⟨r6839, h6840, hf⟩ := bind_some hf
      refine aC rfl rfl rfl rfl hE rfl rfl rfl rfl (log_Log_Chain.calls (g := g) h6840 (hS.st.fore (L := [bx b3468 64 ([.pointer (some ⟨b3444, 0, none⟩)] ++ ((c_T_log_at (z6216.2.1)))), bx b3444 72 (c_T_disk_Disk ((T_disk_Disk.mk (z6216.2.2.1) (z6216.2.2.2) (r3440.2.2))) A6224 c6225), q6825])) (h6826.mono (le2 le6830 le6838))) (fun a v w hR hE => ?_)
      obtain ⟨D6841, q6843, rfl, hS1, h6844⟩ := hR
      have le6846 := hS1.dle
      have hS := hS.callR hS1 rfl (.c (.c (.c .n)))
      clear hS1
      refine sN 1 14 [(99, .slice A2 (List.length (x1)) c3)] hE (fun a hE => ?_)
      obtain ⟨r6847, h6848, hf⟩ := bind_some hf
      refine aC rfl rfl rfl rfl hE rfl rfl rfl rfl (inspeximusref09_Chain.calls (g := g) h6848 (hS.st.fore (L := [])) (h4.mono (le2 (le2 (le2 (le2 (le2 (le2 (le2 (le2 (le2 (le2 (le2 (le2 le3439 le3451) le3463) le3480) le3497) le6218) le6756) le6773) le6820) le6828) le6830) le6838) le6846)) (hG0.mono (le2 (le2 (le2 (le2 (le2 (le2 (le2 (le2 (le2 (le2 (le2 (le2 le3439 le3451) le3463) le3480) le3497) le6218) le6756) le6773) le6820) le6828) le6830) le6838) le6846)) (hG1.mono (le2 (le2 (le2 (le2 (le2 (le2 (le2 (le2 (le2 (le2 (le2 (le2 le3439 le3451) le3463) le3480) le3497) le6218) le6756) le6773) le6820) le6828) le6830) le6838) le6846))) (fun a v w hR hE => ?_)
      obtain ⟨D6849, rfl, hS1⟩ := hR
      have le6851 := hS1.dle
      have hS := hS.callR hS1 rfl .n
      clear hS1
      refine at_op (op_tk hE (tk_bin (r := .bool ((decide (r6839 = r6847)))) rfl rfl rfl rfl hE rfl rfl rfl (eqagg_run (by kernel_rfl) (EqR_arr (k := .u8) (N := 32) (by kernel_rfl))) (fun a hE => ?_))) rfl
      refine sN 2 18 [(2, .bool ((decide (r6839 = r6847))))] hE (fun a hE => ?_)
      refine at_end rfl ?_
      refine wpIn_ret ?_
      obtain rfl := Option.some.inj hf
      repeat (with_reducible first | refine then_ret ?_ | refine block_ret ?_ | refine qx_ret ?_)
      refine ret_gen ([.bool ((decide (r6839 = r6847)))]) hE (by rw [show Tryd.f6.results.toList = [.tmp 2] from rfl]; exact ⟨_, _, rfl, rfl, rfl⟩) ?_
      have hS := hS.pk .n rfl
      exact ⟨_, rfl, D6849, rfl, hS⟩
   ·clear hE hS hf
    rintro k a w ⟨y5672, A5675, c5676, q5677, A5680, c5681, q5682, D5673, hE, hS, le5674, h5678, h5683, hf⟩
    obtain ⟨k, rfl, hf⟩ := inspeximuslaw09_LogChained_l1.some _ _ _ _ hf
    refine ⟨k, rfl, ?_⟩
    unfold inspeximuslaw09_LogChained_l1.b at hf
    refine wpIn_seq ?_
    refine wpIn_seq ?_
    refine region_at ?_
    refine sN 4 4 [(37, .bool ((decide (y5672.1 < ((List.length (x1) : Nat) : Int)))))] hE (fun a hE => ?_)
    refine at_end rfl ?_
    refine cond_split hE (b := (decide (y5672.1 < ((List.length (x1) : Nat) : Int)))) rfl (fun hb => ?_) (fun hb => ?_)
    ·replace hf := cond_t hb hf
     clear hb
     refine wpIn_skip ?_
     refine wpIn_seq ?_
     refine wpIn_block ?_
     refine wpIn_seq ?_
     obtain ⟨j6717, hj6718, hf⟩ := jn_elim hf
     refine seq_join (fun a w => ∃ (y6585 : Bool), ∃ (D6586 : Snap), Env a 103 [] [(0, .slice A2 (List.length (x1)) c3), (4, .pointer (some ⟨b3456, 0, none⟩)), (5, .pointer (some ⟨b3468, 0, none⟩)), (8, .pointer (some ⟨b3485, 0, none⟩)), (11, .int .i64 (y5672.1)), (53, .bool (y6585))] ∧ Stp g w0 D0 [] w D6586 [bx b3456 72 (c_T_disk_Disk ((T_disk_Disk.mk (y5672.2.1) (r3481.2.2.2.1) (r3452.2.2))) A5675 c5676), bx b3468 64 ([.pointer (some ⟨b3444, 0, none⟩)] ++ ((c_T_log_at (y5672.2.2.1)))), bx b3485 64 ([.pointer (some ⟨b3456, 0, none⟩)] ++ ((c_T_log_at (y5672.2.2.2.1)))), bx b3444 72 (c_T_disk_Disk ((T_disk_Disk.mk (y5672.2.2.2.2.1) (y5672.2.2.2.2.2) (r3440.2.2))) A5680 c5681), q5677, q5682] ∧ Snap.le D5673 D6586 ∧ j6717 y6585 = some s6229) ?_ ?_
     ·clear hj6718
      refine region_at ?_
      refine sN 2 2 [(40, .slice A2 (List.length (x1)) c3), (41, .int .i64 (y5672.1))] hE (fun a hE => ?_)
      obtain ⟨x6719, h6720, hf⟩ := bind_some hf
      refine at_op (op_tk hE (g_index (K := (kdSlice (kdInt .u8))) (e := 33) (by_ := 24) (zl := 1) rfl rfl rfl rfl hE rfl rfl rfl (by kernel_rfl) rfl (h4.mono (le2 (le2 (le2 (le2 (le2 le3439 le3451) le3463) le3480) le3497) le5674)) h6720 (fun a b6721 o6722 hE h6723 => ?_))) rfl
      obtain ⟨cs6724, C6725, T6726, fr6727, hr6728, hb6729, hc6730⟩ := h6723
      obtain ⟨A6731, c6732, rfl, h6733⟩ := hr6728
      refine at_op (op_tk hE (tk_loadX (off0 := o6722) (off := 0) (c := [.slice A6731 (List.length (x6719)) c6732]) (.slice A6731 (List.length (x6719)) c6732) rfl rfl rfl rfl hE rfl hS rfl hb6729 hc6730 (by kernel_rfl) (by kernel_rfl) (kD hS dn_nil) (fun a hE => ?_))) rfl
      refine sN 3 7 [(46, .bool ((decide ((300 : Int) < ((List.length (x6719) : Nat) : Int)))))] hE (fun a hE => ?_)
      refine Or.elim (Bool.eq_false_or_eq_true ((decide ((300 : Int) < ((List.length (x6719) : Nat) : Int))))).symm (fun hb => ?_) (fun hb => ?_)
      ·replace hf := cond_f hb hf
       have hE := hE.know (t := 46) (b := (decide ((300 : Int) < ((List.length (x6719) : Nat) : Int)))) (b' := false) rfl hb
       clear hb
       refine sN 2 9 [(47, .slice A2 (List.length (x1)) c3), (48, .int .i64 (y5672.1))] hE (fun a hE => ?_)
       obtain ⟨x6734, h6735, hf⟩ := bind_some hf
       refine at_op (op_tk hE (g_index (K := (kdSlice (kdInt .u8))) (e := 33) (by_ := 24) (zl := 1) rfl rfl rfl rfl hE rfl rfl rfl (by kernel_rfl) rfl (h4.mono (le2 (le2 (le2 (le2 (le2 le3439 le3451) le3463) le3480) le3497) le5674)) h6735 (fun a b6736 o6737 hE h6738 => ?_))) rfl
       obtain ⟨cs6739, C6740, T6741, fr6742, hr6743, hb6744, hc6745⟩ := h6738
       obtain ⟨A6746, c6747, rfl, h6748⟩ := hr6743
       refine at_op (op_tk hE (tk_loadX (off0 := o6737) (off := 0) (c := [.slice A6746 (List.length (x6734)) c6747]) (.slice A6746 (List.length (x6734)) c6747) rfl rfl rfl rfl hE rfl hS rfl hb6744 hc6745 (by kernel_rfl) (by kernel_rfl) (kD hS dn_nil) (fun a hE => ?_))) rfl
       refine sN 3 14 [(53, .bool ((decide (((List.length (x6734) : Nat) : Int) = (0 : Int)))))] hE (fun a hE => ?_)
       refine at_end rfl ?_
       exact ⟨(decide (((List.length (x6734) : Nat) : Int) = (0 : Int))), D5673, hE.weak (by kernel_rfl), hS, Snap.le.refl _, hf⟩
      ·replace hf := cond_t hb hf
       have hE := hE.know (t := 46) (b := (decide ((300 : Int) < ((List.length (x6719) : Nat) : Int)))) (b' := true) rfl hb
       clear hb
       refine sN 7 14 [(53, .bool true)] hE (fun a hE => ?_)
       refine at_end rfl ?_
       exact ⟨true, D5673, hE.weak (by kernel_rfl), hS, Snap.le.refl _, hf⟩
     ·clear hE hS
      rintro a w ⟨y6585, D6586, hE, hS, le6587, hf⟩
      replace hf := hj6718 _ hf
      clear hj6718
      refine cond_split hE (b := y6585) rfl (fun hb => ?_) (fun hb => ?_)
      ·replace hf := cond_t hb hf
       clear hb
       refine wpIn_seq ?_
       refine region_at ?_
       refine sN 1 1 [(2, .bool true)] hE (fun a hE => ?_)
       refine at_end rfl ?_
       refine wpIn_ret ?_
       obtain rfl := Option.some.inj hf
       replace hf := hs6230
       obtain rfl := Option.some.inj hf
       repeat (with_reducible first | refine then_ret ?_ | refine block_ret ?_ | refine qx_ret ?_)
       refine ret_gen ([.bool true]) hE (by rw [show Tryd.f6.results.toList = [.tmp 2] from rfl]; exact ⟨_, _, rfl, rfl, rfl⟩) ?_
       have hS := hS.pk .n rfl
       exact ⟨_, rfl, D6586, rfl, hS⟩
      ·replace hf := cond_f hb hf
       clear hb
       refine wpIn_skip ?_
       refine wpIn_seq ?_
       refine region_at ?_
       refine sN 3 3 [(54, .pointer (some ⟨b3468, 0, none⟩)), (55, .slice A2 (List.length (x1)) c3), (56, .int .i64 (y5672.1))] hE (fun a hE => ?_)
       obtain ⟨x6588, h6589, hf⟩ := bind_some hf
       refine at_op (op_tk hE (g_index (K := (kdSlice (kdInt .u8))) (e := 33) (by_ := 24) (zl := 1) rfl rfl rfl rfl hE rfl rfl rfl (by kernel_rfl) rfl (h4.mono (le2 (le2 (le2 (le2 (le2 (le2 le3439 le3451) le3463) le3480) le3497) le5674) le6587)) h6589 (fun a b6590 o6591 hE h6592 => ?_))) rfl
       obtain ⟨cs6593, C6594, T6595, fr6596, hr6597, hb6598, hc6599⟩ := h6592
       obtain ⟨A6600, c6601, rfl, h6602⟩ := hr6597
       refine at_op (op_tk hE (tk_loadX (off0 := o6591) (off := 0) (c := [.slice A6600 (List.length (x6588)) c6601]) (.slice A6600 (List.length (x6588)) c6601) rfl rfl rfl rfl hE rfl hS rfl hb6598 hc6599 (by kernel_rfl) (by kernel_rfl) (kD hS dn_nil) (fun a hE => ?_))) rfl
       have hS := hS.pk (.c 1 rfl (.c 3 rfl (.c 5 rfl (.c 0 rfl (.c 2 rfl (.c 4 rfl .n)))))) rfl
       obtain ⟨r6603, h6604, hf⟩ := bind_some hf
       refine aC rfl rfl rfl rfl hE rfl rfl rfl rfl (log_Log_Append.calls (g := g) h6604 (hS.st.fore (L := [bx b3468 64 ([.pointer (some ⟨b3444, 0, none⟩)] ++ ((c_T_log_at (y5672.2.2.1)))), bx b3444 72 (c_T_disk_Disk ((T_disk_Disk.mk (y5672.2.2.2.2.1) (y5672.2.2.2.2.2) (r3440.2.2))) A5680 c5681), q5682])) h6602 (h5683.mono le6587) (hG0.mono (le2 (le2 (le2 (le2 (le2 (le2 le3439 le3451) le3463) le3480) le3497) le5674) le6587)) (hG1.mono (le2 (le2 (le2 (le2 (le2 (le2 le3439 le3451) le3463) le3480) le3497) le5674) le6587))) (fun a v w hR hE => ?_)
       obtain ⟨D6605, A6607, c6608, q6609, rfl, hS1, h6610⟩ := hR
       have le6612 := hS1.dle
       have hS := hS.callR hS1 rfl (.c (.c (.c .n)))
       clear hS1
       refine at_end rfl ?_
       refine wpIn_seq ?_
       refine region_at ?_
       refine sN 3 3 [(60, .pointer (some ⟨b3485, 0, none⟩)), (61, .slice A2 (List.length (x1)) c3), (62, .int .i64 (y5672.1))] hE (fun a hE => ?_)
       obtain ⟨x6613, h6614, hf⟩ := bind_some hf
       refine at_op (op_tk hE (g_index (K := (kdSlice (kdInt .u8))) (e := 33) (by_ := 24) (zl := 1) rfl rfl rfl rfl hE rfl rfl rfl (by kernel_rfl) rfl (h4.mono (le2 (le2 (le2 (le2 (le2 (le2 (le2 le3439 le3451) le3463) le3480) le3497) le5674) le6587) le6612)) h6614 (fun a b6615 o6616 hE h6617 => ?_))) rfl
       obtain ⟨cs6618, C6619, T6620, fr6621, hr6622, hb6623, hc6624⟩ := h6617
       obtain ⟨A6625, c6626, rfl, h6627⟩ := hr6622
       refine at_op (op_tk hE (tk_loadX (off0 := o6616) (off := 0) (c := [.slice A6625 (List.length (x6613)) c6626]) (.slice A6625 (List.length (x6613)) c6626) rfl rfl rfl rfl hE rfl hS rfl hb6623 hc6624 (by kernel_rfl) (by kernel_rfl) (kD hS dn_nil) (fun a hE => ?_))) rfl
       have hS := hS.pk (.c 4 rfl (.c 3 rfl (.c 5 rfl (.c 0 rfl (.c 1 rfl (.c 2 rfl .n)))))) rfl
       obtain ⟨r6628, h6629, hf⟩ := bind_some hf
       refine aC rfl rfl rfl rfl hE rfl rfl rfl rfl (log_Log_Put.calls (g := g) h6629 (hS.st.fore (L := [bx b3485 64 ([.pointer (some ⟨b3456, 0, none⟩)] ++ ((c_T_log_at (y5672.2.2.2.1)))), bx b3456 72 (c_T_disk_Disk ((T_disk_Disk.mk (y5672.2.1) (r3481.2.2.2.1) (r3452.2.2))) A5675 c5676), q5677])) h6627 (h5678.mono (le2 le6587 le6612)) (hG0.mono (le2 (le2 (le2 (le2 (le2 (le2 (le2 le3439 le3451) le3463) le3480) le3497) le5674) le6587) le6612)) (hG1.mono (le2 (le2 (le2 (le2 (le2 (le2 (le2 le3439 le3451) le3463) le3480) le3497) le5674) le6587) le6612))) (fun a v w hR hE => ?_)
       obtain ⟨D6630, A6632, c6633, q6634, rfl, hS1, h6635⟩ := hR
       have le6637 := hS1.dle
       have hS := hS.callR hS1 rfl (.c (.c (.c .n)))
       clear hS1
       refine at_end rfl ?_
       obtain ⟨j6683, hj6684, hf⟩ := jn_elim hf
       refine seq_join (fun a w => ∃ (y6670 : Bool × (List Int) × (List Int)), ∃ (A6673 : Option Addr), ∃ (c6674 : Nat), ∃ (q6675 : Blk), ∃ (A6678 : Option Addr), ∃ (c6679 : Nat), ∃ (q6680 : Blk), ∃ (D6671 : Snap), Env a 103 [] [(0, .slice A2 (List.length (x1)) c3), (4, .pointer (some ⟨b3456, 0, none⟩)), (5, .pointer (some ⟨b3468, 0, none⟩)), (8, .pointer (some ⟨b3485, 0, none⟩)), (11, .int .i64 (y5672.1)), (77, .bool (y6670.1))] ∧ Stp g w0 D0 [] w D6671 [bx b3456 72 (c_T_disk_Disk ((T_disk_Disk.mk (y6670.2.1) (r3481.2.2.2.1) (r3452.2.2))) A6673 c6674), bx b3468 64 ([.pointer (some ⟨b3444, 0, none⟩)] ++ ((c_T_log_at (r6603.2.1)))), bx b3485 64 ([.pointer (some ⟨b3456, 0, none⟩)] ++ ((c_T_log_at (r6628.2.1)))), bx b3444 72 (c_T_disk_Disk ((T_disk_Disk.mk (y6670.2.2) (r6603.2.2.2) (r3440.2.2))) A6678 c6679), q6675, q6680] ∧ Snap.le D6630 D6671 ∧ OwnL (kdInt .u8) 5 D6671 A6673 c6674 (y6670.2.1) q6675 ∧ OwnL (kdInt .u8) 5 D6671 A6678 c6679 (y6670.2.2) q6680 ∧ j6683 y6670 = some s6229) ?_ ?_
       ·clear hj6684
        refine region_at ?_
        refine sN 1 1 [(66, .pointer (some ⟨b3468, 0, none⟩))] hE (fun a hE => ?_)
        have hS := hS.pk (.c 3 rfl (.c 4 rfl (.c 5 rfl (.c 0 rfl (.c 1 rfl (.c 2 rfl .n)))))) rfl
        obtain ⟨r6685, h6686, hf⟩ := bind_some hf
        refine aC rfl rfl rfl rfl hE rfl rfl rfl rfl (log_Log_Chain.calls (g := g) h6686 (hS.st.fore (L := [bx b3468 64 ([.pointer (some ⟨b3444, 0, none⟩)] ++ ((c_T_log_at (r6603.2.1)))), bx b3444 72 (c_T_disk_Disk ((T_disk_Disk.mk (r6603.2.2.1) (r6603.2.2.2) (r3440.2.2))) A6607 c6608), q6609])) (h6610.mono le6637)) (fun a v w hR hE => ?_)
        obtain ⟨D6687, q6689, rfl, hS1, h6690⟩ := hR
        have le6692 := hS1.dle
        have hS := hS.callR hS1 rfl (.c (.c (.c .n)))
        clear hS1
        refine sN 1 3 [(68, .pointer (some ⟨b3485, 0, none⟩))] hE (fun a hE => ?_)
        have hS := hS.pk (.c 3 rfl (.c 4 rfl (.c 5 rfl (.c 0 rfl (.c 1 rfl (.c 2 rfl .n)))))) rfl
        obtain ⟨r6693, h6694, hf⟩ := bind_some hf
        refine aC rfl rfl rfl rfl hE rfl rfl rfl rfl (log_Log_Chain.calls (g := g) h6694 (hS.st.fore (L := [bx b3485 64 ([.pointer (some ⟨b3456, 0, none⟩)] ++ ((c_T_log_at (r6628.2.1)))), bx b3456 72 (c_T_disk_Disk ((T_disk_Disk.mk (r6628.2.2) (r3481.2.2.2.1) (r3452.2.2))) A6632 c6633), q6634])) (h6635.mono le6692)) (fun a v w hR hE => ?_)
        obtain ⟨D6695, q6697, rfl, hS1, h6698⟩ := hR
        have le6700 := hS1.dle
        have hS := hS.callR hS1 rfl (.c (.c (.c .n)))
        clear hS1
        refine at_op (op_tk hE (tk_bin (r := .bool ((!(decide (r6685 = r6693))))) rfl rfl rfl rfl hE rfl rfl rfl (neagg_run (by kernel_rfl) (EqR_arr (k := .u8) (N := 32) (by kernel_rfl))) (fun a hE => ?_))) rfl
        refine sN 1 6 [(71, .bool ((!(decide (r6685 = r6693)))))] hE (fun a hE => ?_)
        refine Or.elim (Bool.eq_false_or_eq_true ((!(decide (r6685 = r6693))))).symm (fun hb => ?_) (fun hb => ?_)
        ·replace hf := cond_f hb hf
         have hE := hE.know (t := 71) (b := (!(decide (r6685 = r6693)))) (b' := false) rfl hb
         clear hb
         refine sN 1 7 [(72, .pointer (some ⟨b3468, 0, none⟩))] hE (fun a hE => ?_)
         have hS := hS.pk (.c 3 rfl (.c 4 rfl (.c 5 rfl (.c 0 rfl (.c 1 rfl (.c 2 rfl .n)))))) rfl
         obtain ⟨r6701, h6702, hf⟩ := bind_some hf
         refine aC rfl rfl rfl rfl hE rfl rfl rfl rfl (log_Log_Count.calls (g := g) h6702 (hS.st.fore (L := [bx b3468 64 ([.pointer (some ⟨b3444, 0, none⟩)] ++ ((c_T_log_at (r6603.2.1)))), bx b3444 72 (c_T_disk_Disk ((T_disk_Disk.mk (r6603.2.2.1) (r6603.2.2.2) (r3440.2.2))) A6607 c6608), q6689])) (h6690.mono le6700)) (fun a v w hR hE => ?_)
         obtain ⟨D6703, q6705, rfl, hS1, h6706⟩ := hR
         have le6708 := hS1.dle
         have hS := hS.callR hS1 rfl (.c (.c (.c .n)))
         clear hS1
         refine sN 1 9 [(74, .pointer (some ⟨b3485, 0, none⟩))] hE (fun a hE => ?_)
         have hS := hS.pk (.c 3 rfl (.c 4 rfl (.c 5 rfl (.c 0 rfl (.c 1 rfl (.c 2 rfl .n)))))) rfl
         obtain ⟨r6709, h6710, hf⟩ := bind_some hf
         refine aC rfl rfl rfl rfl hE rfl rfl rfl rfl (log_Log_Count.calls (g := g) h6710 (hS.st.fore (L := [bx b3485 64 ([.pointer (some ⟨b3456, 0, none⟩)] ++ ((c_T_log_at (r6628.2.1)))), bx b3456 72 (c_T_disk_Disk ((T_disk_Disk.mk (r6628.2.2) (r3481.2.2.2.1) (r3452.2.2))) A6632 c6633), q6697])) (h6698.mono le6708)) (fun a v w hR hE => ?_)
         obtain ⟨D6711, q6713, rfl, hS1, h6714⟩ := hR
         have le6716 := hS1.dle
         have hS := hS.callR hS1 rfl (.c (.c (.c .n)))
         clear hS1
         refine sN 2 12 [(77, .bool ((!decide (r6701 = r6709))))] hE (fun a hE => ?_)
         refine at_end rfl ?_
         have hS := hS.pk (.c 1 rfl (.c 3 rfl (.c 0 rfl (.c 4 rfl (.c 2 rfl (.c 5 rfl .n)))))) rfl
         exact ⟨((!decide (r6701 = r6709)), r6628.2.2, r6603.2.2.1), A6632, c6633, q6713, A6607, c6608, q6705, D6711, hE.weak (by kernel_rfl), hS, (le2 (le2 (le2 le6692 le6700) le6708) le6716), h6714, (h6706.mono le6716), hf⟩
        ·replace hf := cond_t hb hf
         have hE := hE.know (t := 71) (b := (!(decide (r6685 = r6693)))) (b' := true) rfl hb
         clear hb
         refine sN 6 12 [(77, .bool true)] hE (fun a hE => ?_)
         refine at_end rfl ?_
         have hS := hS.pk (.c 1 rfl (.c 3 rfl (.c 0 rfl (.c 4 rfl (.c 2 rfl (.c 5 rfl .n)))))) rfl
         exact ⟨(true, r6628.2.2, r6603.2.2.1), A6632, c6633, q6697, A6607, c6608, q6689, D6695, hE.weak (by kernel_rfl), hS, (le2 le6692 le6700), h6698, (h6690.mono le6700), hf⟩
       ·clear hE hS
        rintro a w ⟨y6670, A6673, c6674, q6675, A6678, c6679, q6680, D6671, hE, hS, le6672, h6676, h6681, hf⟩
        replace hf := hj6684 _ hf
        clear hj6684
        refine cond_split hE (b := y6670.1) rfl (fun hb => ?_) (fun hb => ?_)
        ·replace hf := cond_t hb hf
         clear hb
         refine wpIn_seq ?_
         refine region_at ?_
         refine sN 1 1 [(2, .bool false)] hE (fun a hE => ?_)
         refine at_end rfl ?_
         refine wpIn_ret ?_
         obtain rfl := Option.some.inj hf
         replace hf := hs6230
         obtain rfl := Option.some.inj hf
         repeat (with_reducible first | refine then_ret ?_ | refine block_ret ?_ | refine qx_ret ?_)
         refine ret_gen ([.bool false]) hE (by rw [show Tryd.f6.results.toList = [.tmp 2] from rfl]; exact ⟨_, _, rfl, rfl, rfl⟩) ?_
         have hS := hS.pk .n rfl
         exact ⟨_, rfl, D6671, rfl, hS⟩
        ·replace hf := cond_f hb hf
         clear hb
         refine wpIn_skip ?_
         refine region_at ?_
         refine sN 3 3 [(11, .int .i64 ((IntKind.wrap .i64 (y5672.1 + (1 : Int)))))] hE (fun a hE => ?_)
         refine at_end rfl ?_
         exact ⟨((IntKind.wrap .i64 (y5672.1 + (1 : Int))), y6670.2.1, r6603.2.1, r6628.2.1, y6670.2.2, r6603.2.2.2), A6673, c6674, q6675, A6678, c6679, q6680, D6671, hE.weak (by kernel_rfl), hS, (le2 (le2 (le2 (le2 le5674 le6587) le6612) le6637) le6672), h6676, h6681, hf⟩
    ·replace hf := cond_f hb hf
     clear hb
     refine wpIn_exit ?_
     obtain rfl := Option.some.inj hf
     have hS := hS.pk (.c 0 rfl (.c 1 rfl (.c 3 rfl (.c 4 rfl (.c 5 rfl .n))))) rfl
     exact ⟨(y5672.2.1, y5672.2.2.1, y5672.2.2.2.2.1, y5672.2.2.2.2.2), A5675, c5676, q5677, A5680, c5681, q5682, D5673, hE.weak (by kernel_rfl), hS, le5674, h5678, h5683, rfl⟩
end Go.Proofs.YthnfokfankaenaaDoor
