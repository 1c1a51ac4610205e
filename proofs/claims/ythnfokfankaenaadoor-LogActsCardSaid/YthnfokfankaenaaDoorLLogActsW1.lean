/-
  Proved, text by text: a call of a function of the cut comes to what its plain function computes.
  Conditions: those that each theorem names.
-/
import Derived.Test.YthnfokfankaenaaDoorProg
import Derived.Test.YthnfokfankaenaaDoorSepN
import Derived.Test.YthnfokfankaenaaDoorLLogActsW0
set_option linter.unusedVariables false
namespace Go.Proofs.YthnfokfankaenaaDoor
open Go Go.Sep
set_option maxRecDepth 100000 in
set_option maxHeartbeats 4000000 in
theorem log_Log_Append.calls {K : Nat} {g w0 : World} {D0 : Snap} {x5 : (List Int)} {x9 : T_log_at} {x10 : (List Int)} {x16 : Int} {x17 : Int} {b1 : Nat} {b2 : Nat} {A6 : Option Addr} {c7 : Nat} {A11 : Option Addr} {c12 : Nat} {q13 : Blk} {r : (Int × T_log_at × (List Int) × Int)} (hf : log_Log_Append.f K x5 x9 x10 x16 x17 = some r) (hS0 : St g w0 D0 [bx b1 64 ([.pointer (some ⟨b2, 0, none⟩)] ++ ((c_T_log_at (x9)))), bx b2 72 (c_T_disk_Disk ((T_disk_Disk.mk (x10) (x16) (x17))) A11 c12), q13]) (h8 : Sl (kdInt .u8) D0 A6 c7 (x5)) (h14 : OwnL (kdInt .u8) 5 D0 A11 c12 (x10) q13) (hG0 : Cell (kdArr .u32 8) D0 0 0 gl_First) (hG1 : Cell (kdArr .u32 64) D0 1 0 gl_K) :
  CallsIn (Fw none) 0 Tryd.prog 17 (List.toArray [.pointer (some ⟨b1, 0, none⟩), .slice A6 (List.length (x5)) c7]) w0 (fun e w' => ∃ v, e = .returned v ∧ ∃ (D1 : Snap) (A44 : Option Addr) (c45 : Nat) (q46 : Blk), v = .int .i64 (r.1) ∧ Stp g w0 D0 [bx b1 64 ([.pointer (some ⟨b2, 0, none⟩)] ++ ((c_T_log_at (x9)))), bx b2 72 (c_T_disk_Disk ((T_disk_Disk.mk (x10) (x16) (x17))) A11 c12), q13] w' D1 [bx b1 64 ([.pointer (some ⟨b2, 0, none⟩)] ++ ((c_T_log_at ((T_log_at.mk (r.2.1.fCount) (r.2.1.fChain)))))), bx b2 72 (c_T_disk_Disk ((T_disk_Disk.mk (r.2.2.1) (r.2.2.2) (x17))) A44 c45), q46] ∧ OwnL (kdInt .u8) 5 D1 A44 c45 (r.2.2.1) q46) := by
 unfold log_Log_Append.f at hf
 have hS := Stp.refl hS0
 clear hS0
 refine calls_body (n := 17) Tryd.func17 rfl Tryd.ntmps17 rfl (fun a hE => ?_)
 have hE : Env a 17 [] [(0, .pointer (some ⟨b1, 0, none⟩)), (1, .slice A6 (List.length (x5)) c7)] := hE
 refine wpIn_seq ?_
 refine region_at ?_
 refine sN 1 1 [(4, .int .i64 ((0 : Int)))] hE (fun a hE => ?_)
 refine at_end rfl ?_
 refine wpIn_seq ?_
 refine region_at ?_
 refine sN 2 2 [(6, .pointer (some ⟨b1, 0, none⟩)), (7, .slice A6 (List.length (x5)) c7)] hE (fun a hE => ?_)
 obtain ⟨r49, h50, hf⟩ := bind_some hf
 refine aC rfl rfl rfl rfl hE rfl rfl rfl rfl (log_Log_Put.calls (g := g) h50 (hS.st.fore (L := [bx b1 64 ([.pointer (some ⟨b2, 0, none⟩)] ++ ((c_T_log_at (x9)))), bx b2 72 (c_T_disk_Disk ((T_disk_Disk.mk (x10) (x16) (x17))) A11 c12), q13])) h8 h14 hG0 hG1) (fun a v w hR hE => ?_)
 obtain ⟨D51, A53, c54, q55, rfl, hS1, h56⟩ := hR
 have le58 := hS1.dle
 have hS := hS.callR hS1 rfl (.c (.c (.c .n)))
 clear hS1
 refine sN 1 4 [(5, .int .i64 (r49.1))] hE (fun a hE => ?_)
 refine at_end rfl ?_
 refine wpIn_seq ?_
 refine wpIn_seq ?_
 refine region_at ?_
 refine sN 2 2 [(10, .bool ((decide (r49.1 = (0 : Int)))))] hE (fun a hE => ?_)
 refine at_end rfl ?_
 refine cond_split hE (b := (decide (r49.1 = (0 : Int)))) rfl (fun hb => ?_) (fun hb => ?_)
 ·replace hf := cond_t hb hf
  clear hb
  refine region_at ?_
  refine sN 2 2 [(12, .pointer (some ⟨b1, 0, none⟩))] hE (fun a hE => ?_)
  refine aF 0 30 0 hE (fun a hE => ?_)
  refine aL 0 (.pointer (some ⟨b2, 0, none⟩)) hE hS (fun a hE => ?_)
  have hS := hS.pk (.c 1 rfl (.c 2 rfl (.c 0 rfl .n))) rfl
  obtain ⟨r67, h68, hf⟩ := bind_some hf
  refine aC rfl rfl rfl rfl hE rfl rfl rfl rfl (disk_Disk_Sync.calls (g := g) h68 (hS.st.fore (L := [bx b2 72 (c_T_disk_Disk ((T_disk_Disk.mk (r49.2.2) (x16) (x17))) A53 c54), q55])) h56) (fun a v w hR hE => ?_)
  obtain ⟨D69, q71, rfl, hS1, h72⟩ := hR
  have le74 := hS1.dle
  have hS := hS.callR hS1 rfl (.c (.c .n))
  clear hS1
  refine at_end rfl ?_
  refine wpIn_seq ?_
  refine region_at ?_
  refine sN 2 2 [(4, .int .i64 (r49.1))] hE (fun a hE => ?_)
  refine at_end rfl ?_
  refine wpIn_ret ?_
  obtain rfl := Option.some.inj hf
  repeat (with_reducible first | refine then_ret ?_ | refine block_ret ?_ | refine qx_ret ?_)
  refine ret_gen ([.int .i64 (r49.1)]) hE (by rw [show Tryd.f17.results.toList = [.tmp 4] from rfl]; exact ⟨_, _, rfl, rfl, rfl⟩) ?_
  have hS := hS.pk (.c 2 rfl (.c 0 rfl (.c 1 rfl .n))) rfl
  exact ⟨_, rfl, D69, A53, c54, q71, rfl, hS, h72⟩
 ·replace hf := cond_f hb hf
  clear hb
  refine wpIn_skip ?_
  refine wpIn_seq ?_
  refine region_at ?_
  refine sN 2 2 [(4, .int .i64 (r49.1))] hE (fun a hE => ?_)
  refine at_end rfl ?_
  refine wpIn_ret ?_
  obtain rfl := Option.some.inj hf
  repeat (with_reducible first | refine then_ret ?_ | refine block_ret ?_ | refine qx_ret ?_)
  refine ret_gen ([.int .i64 (r49.1)]) hE (by rw [show Tryd.f17.results.toList = [.tmp 4] from rfl]; exact ⟨_, _, rfl, rfl, rfl⟩) ?_
  exact ⟨_, rfl, D51, A53, c54, q55, rfl, hS, h56⟩
set_option maxRecDepth 100000 in
set_option maxHeartbeats 4000000 in
theorem log_Log_Count.calls {K : Nat} {g w0 : World} {D0 : Snap} {x5 : T_log_at} {x6 : (List Int)} {x12 : Int} {x13 : Int} {b1 : Nat} {b2 : Nat} {A7 : Option Addr} {c8 : Nat} {q9 : Blk} {r : (Int)} (hf : log_Log_Count.f K x5 x6 x12 x13 = some r) (hS0 : St g w0 D0 [bx b1 64 ([.pointer (some ⟨b2, 0, none⟩)] ++ ((c_T_log_at (x5)))), bx b2 72 (c_T_disk_Disk ((T_disk_Disk.mk (x6) (x12) (x13))) A7 c8), q9]) (h10 : OwnL (kdInt .u8) 5 D0 A7 c8 (x6) q9) :
  CallsIn (Fw none) 0 Tryd.prog 21 (List.toArray [.pointer (some ⟨b1, 0, none⟩)]) w0 (fun e w' => ∃ v, e = .returned v ∧ ∃ (D1 : Snap) (q14 : Blk), v = .int .i64 (r) ∧ Stp g w0 D0 [bx b1 64 ([.pointer (some ⟨b2, 0, none⟩)] ++ ((c_T_log_at (x5)))), bx b2 72 (c_T_disk_Disk ((T_disk_Disk.mk (x6) (x12) (x13))) A7 c8), q9] w' D1 [bx b1 64 ([.pointer (some ⟨b2, 0, none⟩)] ++ ((c_T_log_at (x5)))), bx b2 72 (c_T_disk_Disk ((T_disk_Disk.mk (x6) (x12) (x13))) A7 c8), q14] ∧ OwnL (kdInt .u8) 5 D1 A7 c8 (x6) q14) := by
 unfold log_Log_Count.f at hf
 have hS := Stp.refl hS0
 clear hS0
 refine calls_body (n := 10) Tryd.func21 rfl Tryd.ntmps21 rfl (fun a hE => ?_)
 have hE : Env a 10 [] [(0, .pointer (some ⟨b1, 0, none⟩))] := hE
 refine wpIn_seq ?_
 refine region_at ?_
 refine sN 1 1 [(2, .int .i64 ((0 : Int)))] hE (fun a hE => ?_)
 refine at_end rfl ?_
 refine wpIn_seq ?_
 refine wpIn_seq ?_
 refine region_at ?_
 refine sN 1 1 [(3, .pointer (some ⟨b1, 0, none⟩))] hE (fun a hE => ?_)
 refine at_op (op_tk hE (tk_bin (r := .bool false) rfl rfl rfl rfl hE rfl rfl rfl (eqptr_run (by kernel_rfl) _) (fun a hE => ?_))) rfl
 refine at_end rfl ?_
 refine wpIn_cond_false (hE.eval rfl) ?_
 refine wpIn_skip ?_
 refine wpIn_seq ?_
 refine region_at ?_
 refine sN 2 2 [(6, .pointer (some ⟨b1, 0, none⟩))] hE (fun a hE => ?_)
 refine aF 1 62 1 hE (fun a hE => ?_)
 refine aF 0 3 1 hE (fun a hE => ?_)
 refine aL 0 (.int .i64 (x5.fCount)) hE hS (fun a hE => ?_)
 refine sN 1 6 [(2, .int .i64 (x5.fCount))] hE (fun a hE => ?_)
 refine at_end rfl ?_
 refine wpIn_ret ?_
 obtain rfl := Option.some.inj hf
 repeat (with_reducible first | refine then_ret ?_ | refine block_ret ?_ | refine qx_ret ?_)
 refine ret_gen ([.int .i64 (x5.fCount)]) hE (by rw [show Tryd.f21.results.toList = [.tmp 2] from rfl]; exact ⟨_, _, rfl, rfl, rfl⟩) ?_
 exact ⟨_, rfl, D0, q9, rfl, hS, h10⟩
set_option maxRecDepth 100000 in
set_option maxHeartbeats 4000000 in
theorem disk_Disk_Crash.calls {K : Nat} {g w0 : World} {D0 : Snap} {x3 : Int} {x4 : (List Int)} {x10 : Int} {x11 : Int} {b1 : Nat} {A5 : Option Addr} {c6 : Nat} {q7 : Blk} {r : ((List Int) × Int)} (hf : disk_Disk_Crash.f K x3 x4 x10 x11 = some r) (hS0 : St g w0 D0 [bx b1 72 (c_T_disk_Disk ((T_disk_Disk.mk (x4) (x10) (x11))) A5 c6), q7]) (h8 : OwnL (kdInt .u8) 5 D0 A5 c6 (x4) q7) :
  CallsIn (Fw none) 0 Tryd.prog 18 (List.toArray [.pointer (some ⟨b1, 0, none⟩), .int .i64 (x3)]) w0 (fun e w' => ∃ v, e = .returned v ∧ ∃ (D1 : Snap) (A32 : Option Addr) (c33 : Nat) (q34 : Blk), v = .tuple #[] ∧ Stp g w0 D0 [bx b1 72 (c_T_disk_Disk ((T_disk_Disk.mk (x4) (x10) (x11))) A5 c6), q7] w' D1 [bx b1 72 (c_T_disk_Disk ((T_disk_Disk.mk (r.1) (r.2) (x11))) A32 c33), q34] ∧ OwnL (kdInt .u8) 5 D1 A32 c33 (r.1) q34) := by
 unfold disk_Disk_Crash.f at hf
 have hS := Stp.refl hS0
 clear hS0
 refine calls_body (n := 26) Tryd.func18 rfl Tryd.ntmps18 rfl (fun a hE => ?_)
 have hE : Env a 26 [] [(0, .pointer (some ⟨b1, 0, none⟩)), (1, .int .i64 (x3))] := hE
 refine wpIn_seq ?_
 refine region_at ?_
 refine sN 1 1 [(4, .pointer (some ⟨b1, 0, none⟩))] hE (fun a hE => ?_)
 refine at_op (op_tk hE (tk_bin (r := .bool true) rfl rfl rfl rfl hE rfl rfl rfl (neptr_run (by kernel_rfl) _) (fun a hE => ?_))) rfl
 refine at_end rfl ?_
 refine wpIn_cond_true (hE.eval rfl) ?_
 refine region_draw (fun j => Keeps (mfOf [(19, [b1] ++ ids [q7])] j)) (by kernel_rfl) ?_
 have hS := hS.drew
 first | generalize w.drew = w at hS ⊢ | generalize w0.drew = w at hS ⊢
 refine wP 0 1 19 (.pointer (some ⟨b1, 0, none⟩)) hE (fun a hE => ?_)
 refine wP 1 3 18 (.pointer (some ⟨b1, 0, none⟩)) hE (fun a hE => ?_)
 refine wP 2 7 17 (.pointer (some ⟨b1, 0, none⟩)) hE (fun a hE => ?_)
 refine wP 5 39 16 (.int .i64 (x3)) hE (fun a hE => ?_)
 refine wP 6 103 15 (.pointer (some ⟨b1, 0, none⟩)) hE (fun a hE => ?_)
 refine wP 7 231 14 (.pointer (some ⟨b1, 0, none⟩)) hE (fun a hE => ?_)
 refine wP 11 2279 13 (.pointer (some ⟨b1, 0, none⟩)) hE (fun a hE => ?_)
 refine wP 12 6375 12 (.pointer (some ⟨b1, 0, none⟩)) hE (fun a hE => ?_)
 refine wF 3 6383 11 1 3 1 hE (fun a hE => ?_)
 refine tS (T := [(19, [b1] ++ ids [q7])]) [] [4, 18, 19] 4 6399 (fuel := 10) (by kernel_rfl) hE (tk_load 0 (.int .i64 (x10)) rfl rfl rfl rfl hE rfl hS rfl rfl (by kernel_rfl) (kL (j := 0) hS rfl List.not_mem_nil) (fun a hE => ?_))
 refine wF 8 6655 9 0 33 0 hE (fun a hE => ?_)
 refine tS (T := [(19, [b1] ++ ids [q7])]) [] [9, 10, 15, 16, 17, 18, 19] 9 7167 (fuel := 8) (by kernel_rfl) hE (tk_load 0 (.slice A5 (List.length (x4)) c6) rfl rfl rfl rfl hE rfl hS rfl rfl (by kernel_rfl) (kL (j := 0) hS rfl List.not_mem_nil) (fun a hE => ?_))
 refine wP 10 8191 7 (.int .i64 (((List.length (x4) : Nat) : Int))) hE (fun a hE => ?_)
 refine wF 13 16383 6 1 3 1 hE (fun a hE => ?_)
 refine tS (T := [(19, [b1] ++ ids [q7])]) [] [14, 15, 16, 17, 18, 19] 14 32767 (fuel := 5) (by kernel_rfl) hE (tk_load 0 (.int .i64 (x10)) rfl rfl rfl rfl hE rfl hS rfl rfl (by kernel_rfl) (kL (j := 0) hS rfl List.not_mem_nil) (fun a hE => ?_))
 refine wP 15 65535 4 (.int .i64 ((IntKind.wrap .i64 (((List.length (x4) : Nat) : Int) - x10)))) hE (fun a hE => ?_)
 refine wP 16 131071 3 (.int .i64 ((minI x3 (IntKind.wrap .i64 (((List.length (x4) : Nat) : Int) - x10))))) hE (fun a hE => ?_)
 refine wP 17 262143 2 (.int .i64 ((maxI (0 : Int) (minI x3 (IntKind.wrap .i64 (((List.length (x4) : Nat) : Int) - x10)))))) hE (fun a hE => ?_)
 refine wP 18 524287 1 (.int .i64 ((IntKind.wrap .i64 (x10 + (maxI (0 : Int) (minI x3 (IntKind.wrap .i64 (((List.length (x4) : Nat) : Int) - x10)))))))) hE (fun a hE => ?_)
 obtain ⟨r47, h48, hf⟩ := bind_some hf
 refine oG 19 1048575 (fuel := 0) (by kernel_rfl) (op_call rfl rfl rfl rfl hE rfl rfl rfl rfl (by kernel_rfl) (disk_Disk_leave.calls (g := g) h48 (hS.st.fore (L := [bx b1 72 (c_T_disk_Disk ((T_disk_Disk.mk (x4) (x10) (x11))) A5 c6), q7])) h8) (fun a v w hR hE => ?_))
 obtain ⟨D49, A51, c52, q53, rfl, hS1, h54⟩ := hR
 refine ⟨hS1.keeps.mono (fun _ h => h), ?_⟩
 have le56 := hS1.dle
 have hS := hS.callR hS1 rfl (.c (.c .n))
 clear hS1
 refine doneG (by kernel_rfl) ?_
 obtain rfl := Option.some.inj hf
 repeat (with_reducible first | refine then_ret ?_ | refine block_ret ?_ | refine qx_ret ?_)
 refine ret_genN ([]) hE (by rw [show Tryd.f18.results.toList = [] from rfl]; exact rfl) ?_
 exact ⟨_, rfl, D49, A51, c52, q53, rfl, hS, h54⟩
set_option maxRecDepth 100000 in
set_option maxHeartbeats 4000000 in
theorem log_Log_Size.calls {K : Nat} {g w0 : World} {D0 : Snap} {x5 : Int} {x6 : T_log_at} {x7 : (List Int)} {x13 : Int} {x14 : Int} {b1 : Nat} {b2 : Nat} {A8 : Option Addr} {c9 : Nat} {q10 : Blk} {r : (Int)} (hf : log_Log_Size.f K x5 x6 x7 x13 x14 = some r) (hS0 : St g w0 D0 [bx b1 64 ([.pointer (some ⟨b2, 0, none⟩)] ++ ((c_T_log_at (x6)))), bx b2 72 (c_T_disk_Disk ((T_disk_Disk.mk (x7) (x13) (x14))) A8 c9), q10]) (h11 : OwnL (kdInt .u8) 5 D0 A8 c9 (x7) q10) :
  CallsIn (Fw none) 0 Tryd.prog 29 (List.toArray [.pointer (some ⟨b1, 0, none⟩), .int .i64 (x5)]) w0 (fun e w' => ∃ v, e = .returned v ∧ ∃ (D1 : Snap) (q35 : Blk), v = .int .i64 (r) ∧ Stp g w0 D0 [bx b1 64 ([.pointer (some ⟨b2, 0, none⟩)] ++ ((c_T_log_at (x6)))), bx b2 72 (c_T_disk_Disk ((T_disk_Disk.mk (x7) (x13) (x14))) A8 c9), q10] w' D1 [bx b1 64 ([.pointer (some ⟨b2, 0, none⟩)] ++ ((c_T_log_at (x6)))), bx b2 72 (c_T_disk_Disk ((T_disk_Disk.mk (x7) (x13) (x14))) A8 c9), q35] ∧ OwnL (kdInt .u8) 5 D1 A8 c9 (x7) q35) := by
 unfold log_Log_Size.f at hf
 have hS := Stp.refl hS0
 clear hS0
 refine calls_body (n := 17) Tryd.func29 rfl Tryd.ntmps29 rfl (fun a hE => ?_)
 have hE : Env a 17 [] [(0, .pointer (some ⟨b1, 0, none⟩)), (1, .int .i64 (x5))] := hE
 refine wpIn_seq ?_
 refine region_at ?_
 refine sN 1 1 [(4, .int .i64 ((0 : Int)))] hE (fun a hE => ?_)
 refine at_end rfl ?_
 refine wpIn_seq ?_
 obtain ⟨j56, hj57, hf⟩ := jn_elim hf
 refine seq_join (fun a w => ∃ (y43 : Bool), ∃ (D44 : Snap), Env a 17 [] [(1, .int .i64 (x5)), (10, .bool (y43))] ∧ Stp g w0 D0 [bx b1 64 ([.pointer (some ⟨b2, 0, none⟩)] ++ ((c_T_log_at (x6)))), bx b2 72 (c_T_disk_Disk ((T_disk_Disk.mk (x7) (x13) (x14))) A8 c9), q10] w D44 [bx b1 64 ([.pointer (some ⟨b2, 0, none⟩)] ++ ((c_T_log_at (x6)))), bx b2 72 (c_T_disk_Disk ((T_disk_Disk.mk (x7) (x13) (x14))) A8 c9), q10] ∧ Snap.le D0 D44 ∧ j56 y43 = some r) ?_ ?_
 ·clear hj57
  refine region_at ?_
  refine sN 3 3 [(7, .bool ((decide (x5 < (1 : Int)))))] hE (fun a hE => ?_)
  refine Or.elim (Bool.eq_false_or_eq_true ((decide (x5 < (1 : Int))))).symm (fun hb => ?_) (fun hb => ?_)
  ·replace hf := cond_f hb hf
   have hE := hE.know (t := 7) (b := (decide (x5 < (1 : Int)))) (b' := false) rfl hb
   clear hb
   refine sN 3 6 [(10, .bool ((decide ((2000 : Int) < x5))))] hE (fun a hE => ?_)
   refine at_end rfl ?_
   exact ⟨(decide ((2000 : Int) < x5)), D0, hE.weak (by kernel_rfl), hS, Snap.le.refl _, hf⟩
  ·replace hf := cond_t hb hf
   have hE := hE.know (t := 7) (b := (decide (x5 < (1 : Int)))) (b' := true) rfl hb
   clear hb
   refine sN 3 6 [(10, .bool true)] hE (fun a hE => ?_)
   refine at_end rfl ?_
   exact ⟨true, D0, hE.weak (by kernel_rfl), hS, Snap.le.refl _, hf⟩
 ·clear hE hS
  rintro a w ⟨y43, D44, hE, hS, le45, hf⟩
  replace hf := hj57 _ hf
  clear hj57
  refine cond_split hE (b := y43) rfl (fun hb => ?_) (fun hb => ?_)
  ·replace hf := cond_t hb hf
   clear hb
   refine wpIn_seq ?_
   refine region_at ?_
   refine sN 1 1 [(4, .int .i64 ((0 : Int)))] hE (fun a hE => ?_)
   refine at_end rfl ?_
   refine wpIn_ret ?_
   obtain rfl := Option.some.inj hf
   repeat (with_reducible first | refine then_ret ?_ | refine block_ret ?_ | refine qx_ret ?_)
   refine ret_gen ([.int .i64 ((0 : Int))]) hE (by rw [show Tryd.f29.results.toList = [.tmp 4] from rfl]; exact ⟨_, _, rfl, rfl, rfl⟩) ?_
   exact ⟨_, rfl, D44, q10, rfl, hS, (h11.mono le45)⟩
  ·replace hf := cond_f hb hf
   clear hb
   refine wpIn_skip ?_
   refine wpIn_seq ?_
   refine region_at ?_
   refine sN 1 1 [(11, .int .i64 (x5))] hE (fun a hE => ?_)
   obtain ⟨r46, h47, hf⟩ := bind_some hf
   refine aC rfl rfl rfl rfl hE rfl rfl rfl rfl (wire_Num.calls (g := g) h47 (hS.st.fore (L := [])) ) (fun a v w hR hE => ?_)
   obtain ⟨D48, A50, c51, q52, rfl, hS1, h53⟩ := hR
   have le55 := hS1.dle
   have hS := hS.callR hS1 rfl (.c .n)
   clear hS1
   refine sN 5 7 [(4, .int .i64 ((IntKind.wrap .i64 ((IntKind.wrap .i64 (((List.length (r46) : Nat) : Int) + x5)) + (8 : Int)))))] hE (fun a hE => ?_)
   refine at_end rfl ?_
   refine wpIn_ret ?_
   obtain rfl := Option.some.inj hf
   repeat (with_reducible first | refine then_ret ?_ | refine block_ret ?_ | refine qx_ret ?_)
   refine ret_gen ([.int .i64 ((IntKind.wrap .i64 ((IntKind.wrap .i64 (((List.length (r46) : Nat) : Int) + x5)) + (8 : Int))))]) hE (by rw [show Tryd.f29.results.toList = [.tmp 4] from rfl]; exact ⟨_, _, rfl, rfl, rfl⟩) ?_
   have hS := hS.pk (.c 1 rfl (.c 2 rfl (.c 3 rfl .n))) rfl
   exact ⟨_, rfl, D48, q10, rfl, hS, (h11.mono (le2 le45 le55))⟩
set_option maxRecDepth 100000 in
set_option maxHeartbeats 4000000 in
theorem log_Log_Chain.calls {K : Nat} {g w0 : World} {D0 : Snap} {x5 : T_log_at} {x6 : (List Int)} {x12 : Int} {x13 : Int} {b1 : Nat} {b2 : Nat} {A7 : Option Addr} {c8 : Nat} {q9 : Blk} {r : ((Vector Int 32))} (hf : log_Log_Chain.f K x5 x6 x12 x13 = some r) (hS0 : St g w0 D0 [bx b1 64 ([.pointer (some ⟨b2, 0, none⟩)] ++ ((c_T_log_at (x5)))), bx b2 72 (c_T_disk_Disk ((T_disk_Disk.mk (x6) (x12) (x13))) A7 c8), q9]) (h10 : OwnL (kdInt .u8) 5 D0 A7 c8 (x6) q9) :
  CallsIn (Fw none) 0 Tryd.prog 22 (List.toArray [.pointer (some ⟨b1, 0, none⟩)]) w0 (fun e w' => ∃ v, e = .returned v ∧ ∃ (D1 : Snap) (q16 : Blk), v = .agg (List.toArray (acells .u8 32 (r))) ∧ Stp g w0 D0 [bx b1 64 ([.pointer (some ⟨b2, 0, none⟩)] ++ ((c_T_log_at (x5)))), bx b2 72 (c_T_disk_Disk ((T_disk_Disk.mk (x6) (x12) (x13))) A7 c8), q9] w' D1 [bx b1 64 ([.pointer (some ⟨b2, 0, none⟩)] ++ ((c_T_log_at (x5)))), bx b2 72 (c_T_disk_Disk ((T_disk_Disk.mk (x6) (x12) (x13))) A7 c8), q16] ∧ OwnL (kdInt .u8) 5 D1 A7 c8 (x6) q16) := by
 unfold log_Log_Chain.f at hf
 have hS := Stp.refl hS0
 clear hS0
 refine calls_body (n := 19) Tryd.func22 rfl Tryd.ntmps22 rfl (fun a hE => ?_)
 have hE : Env a 19 [] [(0, .pointer (some ⟨b1, 0, none⟩))] := hE
 refine wpIn_seq ?_
 refine region_at ?_
 refine at_op (op_alloc (z := .agg (List.toArray (acells .u8 32 ((Vector.replicate 32 (0 : Int)))))) rfl rfl rfl rfl hE rfl hS (by kernel_rfl) (fun a b19 w _ hE hS => ?_)) rfl
 refine at_end rfl ?_
 refine wpIn_seq ?_
 refine wpIn_seq ?_
 refine region_at ?_
 refine sN 1 1 [(3, .pointer (some ⟨b1, 0, none⟩))] hE (fun a hE => ?_)
 refine at_op (op_tk hE (tk_bin (r := .bool false) rfl rfl rfl rfl hE rfl rfl rfl (eqptr_run (by kernel_rfl) _) (fun a hE => ?_))) rfl
 refine sN 3 5 [(5, .bool false), (7, .pointer (some ⟨b1, 0, none⟩))] hE (fun a hE => ?_)
 refine aF 1 62 1 hE (fun a hE => ?_)
 refine aL 1 (.agg (List.toArray (c_T_log_at (x5)))) hE hS (fun a hE => ?_)
 refine at_op (op_tk hE (tk_build (c_T_log_at ((T_log_at.mk ((0 : Int)) ((Vector.replicate 32 (0 : Int)))))) rfl rfl rfl rfl hE rfl rfl (by kernel_rfl) (fun a hE => ?_))) rfl
 refine at_op (op_tk hE (tk_bin (r := .bool (((decide (x5.fCount = (0 : Int))) && ((decide (x5.fChain = (Vector.replicate 32 (0 : Int)))) && true)))) rfl rfl rfl rfl hE rfl rfl rfl (eqagg_run (by kernel_rfl) (EqR_struct (fs := structFs Tryd.prog 62) (by kernel_rfl) ⟨.int .i64 (x5.fCount), .int .i64 ((0 : Int)), (decide (x5.fCount = (0 : Int))), _, by kernel_rfl, by kernel_rfl, by kernel_rfl, (EqR_int (by kernel_rfl)), ⟨.agg (List.toArray (acells .u8 32 (x5.fChain))), .agg (List.toArray (acells .u8 32 ((Vector.replicate 32 (0 : Int))))), (decide (x5.fChain = (Vector.replicate 32 (0 : Int)))), _, by kernel_rfl, by kernel_rfl, by kernel_rfl, (EqR_arr (k := .u8) (N := 32) (by kernel_rfl)), rfl, rfl⟩, rfl⟩)) (fun a hE => ?_))) rfl
 refine sN 1 10 [(12, .bool (((decide (x5.fCount = (0 : Int))) && ((decide (x5.fChain = (Vector.replicate 32 (0 : Int)))) && true))))] hE (fun a hE => ?_)
 refine at_end rfl ?_
 refine cond_split hE (b := ((decide (x5.fCount = (0 : Int))) && ((decide (x5.fChain = (Vector.replicate 32 (0 : Int)))) && true))) rfl (fun hb => ?_) (fun hb => ?_)
 ·replace hf := cond_t hb hf
  clear hb
  refine wpIn_seq ?_
  refine region_at ?_
  refine at_op (op_tk hE (tk_build (acells .u8 32 ((vofL 32 [(0 : Int), (0 : Int), (0 : Int), (0 : Int), (0 : Int), (0 : Int), (0 : Int), (0 : Int), (0 : Int), (0 : Int), (0 : Int), (0 : Int), (0 : Int), (0 : Int), (0 : Int), (0 : Int), (0 : Int), (0 : Int), (0 : Int), (0 : Int), (0 : Int), (0 : Int), (0 : Int), (0 : Int), (0 : Int), (0 : Int), (0 : Int), (0 : Int), (0 : Int), (0 : Int), (0 : Int), (0 : Int)]))) rfl rfl rfl rfl hE rfl rfl (by kernel_rfl) (fun a hE => ?_))) rfl
  refine at_op (op_store (v := .agg (List.toArray (acells .u8 32 ((vofL 32 [(0 : Int), (0 : Int), (0 : Int), (0 : Int), (0 : Int), (0 : Int), (0 : Int), (0 : Int), (0 : Int), (0 : Int), (0 : Int), (0 : Int), (0 : Int), (0 : Int), (0 : Int), (0 : Int), (0 : Int), (0 : Int), (0 : Int), (0 : Int), (0 : Int), (0 : Int), (0 : Int), (0 : Int), (0 : Int), (0 : Int), (0 : Int), (0 : Int), (0 : Int), (0 : Int), (0 : Int), (0 : Int)]))))) (acells .u8 32 ((vofL 32 [(0 : Int), (0 : Int), (0 : Int), (0 : Int), (0 : Int), (0 : Int), (0 : Int), (0 : Int), (0 : Int), (0 : Int), (0 : Int), (0 : Int), (0 : Int), (0 : Int), (0 : Int), (0 : Int), (0 : Int), (0 : Int), (0 : Int), (0 : Int), (0 : Int), (0 : Int), (0 : Int), (0 : Int), (0 : Int), (0 : Int), (0 : Int), (0 : Int), (0 : Int), (0 : Int), (0 : Int), (0 : Int)]))) rfl rfl rfl rfl hE hS rfl rfl (by kernel_rfl) (by kernel_rfl) (by kernel_rfl) (by kernel_rfl) (by kernel_rfl) (fun a w _ hE hS => ?_)) rfl
  refine at_end rfl ?_
  refine wpIn_ret ?_
  obtain rfl := Option.some.inj hf
  repeat (with_reducible first | refine then_ret ?_ | refine block_ret ?_ | refine qx_ret ?_)
  refine ret_gen ([.agg (List.toArray (acells .u8 32 ((vofL 32 [(0 : Int), (0 : Int), (0 : Int), (0 : Int), (0 : Int), (0 : Int), (0 : Int), (0 : Int), (0 : Int), (0 : Int), (0 : Int), (0 : Int), (0 : Int), (0 : Int), (0 : Int), (0 : Int), (0 : Int), (0 : Int), (0 : Int), (0 : Int), (0 : Int), (0 : Int), (0 : Int), (0 : Int), (0 : Int), (0 : Int), (0 : Int), (0 : Int), (0 : Int), (0 : Int), (0 : Int), (0 : Int)]))))]) hE (by rw [show Tryd.f22.results.toList = [.cell 2 48] from rfl]; exact ⟨_, _, _, 0, _, _, rfl, rfl, hS.heapAt (j := 0) rfl, by kernel_rfl, rfl⟩) ?_
  have hS := hS.pk (.c 1 rfl (.c 2 rfl (.c 3 rfl .n))) rfl
  exact ⟨_, rfl, D0, q9, rfl, hS, h10⟩
 ·replace hf := cond_f hb hf
  clear hb
  refine wpIn_skip ?_
  refine wpIn_seq ?_
  refine region_at ?_
  refine sN 2 2 [(15, .pointer (some ⟨b1, 0, none⟩))] hE (fun a hE => ?_)
  refine aF 1 62 1 hE (fun a hE => ?_)
  refine aF 1 48 2 hE (fun a hE => ?_)
  refine aL 1 (.agg (List.toArray (acells .u8 32 (x5.fChain)))) hE hS (fun a hE => ?_)
  refine at_op (op_store (v := .agg (List.toArray (acells .u8 32 (x5.fChain)))) (acells .u8 32 (x5.fChain)) rfl rfl rfl rfl hE hS rfl rfl (by kernel_rfl) (by kernel_rfl) (by kernel_rfl) (by kernel_rfl) (by kernel_rfl) (fun a w _ hE hS => ?_)) rfl
  refine at_end rfl ?_
  refine wpIn_ret ?_
  obtain rfl := Option.some.inj hf
  repeat (with_reducible first | refine then_ret ?_ | refine block_ret ?_ | refine qx_ret ?_)
  refine ret_gen ([.agg (List.toArray (acells .u8 32 (x5.fChain)))]) hE (by rw [show Tryd.f22.results.toList = [.cell 2 48] from rfl]; exact ⟨_, _, _, 0, _, _, rfl, rfl, hS.heapAt (j := 0) rfl, by kernel_rfl, rfl⟩) ?_
  have hS := hS.pk (.c 1 rfl (.c 2 rfl (.c 3 rfl .n))) rfl
  exact ⟨_, rfl, D0, q9, rfl, hS, h10⟩
set_option maxRecDepth 100000 in
set_option maxHeartbeats 4000000 in
theorem inspeximuslaw09_alive.calls {K : Nat} {g w0 : World} {D0 : Snap} {r : (Bool)} (hf : inspeximuslaw09_alive.f K = some r) (hS0 : St g w0 D0 []) (hG0 : Cell (kdArr .u32 8) D0 0 0 gl_First) (hG1 : Cell (kdArr .u32 64) D0 1 0 gl_K) :
  CallsIn (Fw none) 0 Tryd.prog 9 (List.toArray []) w0 (fun e w' => ∃ v, e = .returned v ∧ ∃ (D1 : Snap), v = .bool (r) ∧ Stp g w0 D0 [] w' D1 []) := by
 unfold inspeximuslaw09_alive.f at hf
 have hS := Stp.refl hS0
 clear hS0
 refine calls_body (n := 93) Tryd.func9 rfl Tryd.ntmps9 rfl (fun a hE => ?_)
 have hE : Env a 93 [] [] := hE
 refine wpIn_seq ?_
 refine region_at ?_
 refine sN 1 1 [(0, .bool false)] hE (fun a hE => ?_)
 refine at_end rfl ?_
 refine wpIn_seq ?_
 refine region_at ?_
 obtain ⟨r270, h271, hf⟩ := bind_some hf
 refine aC rfl rfl rfl rfl hE rfl rfl rfl rfl (disk_New.calls (g := g) h271 (hS.st.fore (L := [])) ) (fun a v w hR hE => ?_)
 obtain ⟨D272, b274, A276, c277, q278, rfl, hS1, h279⟩ := hR
 have le281 := hS1.dle
 have hS := hS.callR hS1 rfl (.c (.c .n))
 clear hS1
 refine sN 1 2 [(1, .pointer (some ⟨b274, 0, none⟩))] hE (fun a hE => ?_)
 refine at_end rfl ?_
 refine wpIn_seq ?_
 refine region_at ?_
 refine sN 1 1 [(13, .pointer (some ⟨b274, 0, none⟩))] hE (fun a hE => ?_)
 obtain ⟨r282, h283, hf⟩ := bind_some hf
 refine aC rfl rfl rfl rfl hE rfl rfl rfl rfl (log_Open.calls (g := g) h283 (hS.st.fore (L := [bx b274 72 (c_T_disk_Disk ((T_disk_Disk.mk (r270.1) (r270.2.1) (r270.2.2))) A276 c277), q278])) h279 (hG0.mono le281) (hG1.mono le281)) (fun a v w hR hE => ?_)
 obtain ⟨D284, b286, A288, c289, q290, A293, c294, q295, rfl, hS1, h291, h296⟩ := hR
 have le298 := hS1.dle
 have hS := hS.callR hS1 rfl (.c (.c (.c (.c .n))))
 clear hS1
 refine sN 7 9 [(2, .pointer (some ⟨b286, 0, none⟩)), (3, .slice A288 (List.length (r282.1)) c289), (4, .int .i64 (r282.2.1))] hE (fun a hE => ?_)
 refine at_end rfl ?_
 refine wpIn_seq ?_
 refine region_at ?_
 refine sN 1 1 [(18, .pointer (some ⟨b286, 0, none⟩))] hE (fun a hE => ?_)
 refine at_op (op_buildSlice (K := (kdInt .u8)) (e := 5) (cs := [.int .u8 ((97 : Int))] ++ []) ([(97 : Int)] : List Int) rfl rfl rfl rfl hE rfl hS rfl (by kernel_rfl) rfl rfl (by exact (show RL (kdInt .u8) D284 ([(97 : Int)] : List Int) ([.int .u8 ((97 : Int))] ++ []) from ⟨_, _, rfl, rfl, rfl⟩)) (fun a A299 q300 w _ hE h301 hS => ?_)) rfl
 refine at_op (op_lit (T := 5) (l := ([(97 : Int)] : List Int)) rfl rfl rfl rfl hE rfl hS rfl (by kernel_rfl) h301 (by kernel_rfl) (fun a D303 w _ le304 hE h305 hS => ?_)) rfl
 have hS := hS.pk (.c 1 rfl (.c 0 rfl (.c 3 rfl (.c 2 rfl .n)))) rfl
 obtain ⟨r306, h307, hf⟩ := bind_some hf
 refine aC rfl rfl rfl rfl hE rfl rfl rfl rfl (log_Log_Append.calls (g := g) h307 (hS.st.fore (L := [bx b286 64 ([.pointer (some ⟨b274, 0, none⟩)] ++ ((c_T_log_at (r282.2.2.2.2)))), bx b274 72 (c_T_disk_Disk ((T_disk_Disk.mk (r282.2.2.1) (r282.2.2.2.1) (r270.2.2))) A293 c294), q295])) h305 (h296.mono le304) (hG0.mono (le2 (le2 le281 le298) le304)) (hG1.mono (le2 (le2 le281 le298) le304))) (fun a v w hR hE => ?_)
 obtain ⟨D308, A310, c311, q312, rfl, hS1, h313⟩ := hR
 have le315 := hS1.dle
 have hS := hS.callR hS1 rfl (.c (.c (.c .n)))
 clear hS1
 refine sN 1 5 [(5, .int .i64 (r306.1))] hE (fun a hE => ?_)
 refine at_end rfl ?_
 refine wpIn_seq ?_
 refine region_at ?_
 refine sN 1 1 [(22, .pointer (some ⟨b286, 0, none⟩))] hE (fun a hE => ?_)
 refine at_op (op_buildSlice (K := (kdInt .u8)) (e := 5) (cs := [.int .u8 ((98 : Int))] ++ ([.int .u8 ((99 : Int))] ++ [])) ([(98 : Int), (99 : Int)] : List Int) rfl rfl rfl rfl hE rfl hS rfl (by kernel_rfl) rfl rfl (by exact (show RL (kdInt .u8) D308 ([(98 : Int), (99 : Int)] : List Int) ([.int .u8 ((98 : Int))] ++ ([.int .u8 ((99 : Int))] ++ [])) from ⟨_, _, rfl, rfl, ⟨_, _, rfl, rfl, rfl⟩⟩)) (fun a A316 q317 w _ hE h318 hS => ?_)) rfl
 refine at_op (op_lit (T := 5) (l := ([(98 : Int), (99 : Int)] : List Int)) rfl rfl rfl rfl hE rfl hS rfl (by kernel_rfl) h318 (by kernel_rfl) (fun a D320 w _ le321 hE h322 hS => ?_)) rfl
 obtain ⟨r323, h324, hf⟩ := bind_some hf
 refine aC rfl rfl rfl rfl hE rfl rfl rfl rfl (log_Log_Put.calls (g := g) h324 (hS.st.fore (L := [bx b286 64 ([.pointer (some ⟨b274, 0, none⟩)] ++ ((c_T_log_at (r306.2.1)))), bx b274 72 (c_T_disk_Disk ((T_disk_Disk.mk (r306.2.2.1) (r306.2.2.2) (r270.2.2))) A310 c311), q312])) h322 (h313.mono le321) (hG0.mono (le2 (le2 (le2 (le2 le281 le298) le304) le315) le321)) (hG1.mono (le2 (le2 (le2 (le2 le281 le298) le304) le315) le321))) (fun a v w hR hE => ?_)
 obtain ⟨D325, A327, c328, q329, rfl, hS1, h330⟩ := hR
 have le332 := hS1.dle
 have hS := hS.callR hS1 rfl (.c (.c (.c .n)))
 clear hS1
 refine sN 1 5 [(6, .int .i64 (r323.1))] hE (fun a hE => ?_)
 refine at_end rfl ?_
 refine wpIn_seq ?_
 refine region_at ?_
 refine sN 1 1 [(26, .pointer (some ⟨b286, 0, none⟩))] hE (fun a hE => ?_)
 obtain ⟨r333, h334, hf⟩ := bind_some hf
 refine aC rfl rfl rfl rfl hE rfl rfl rfl rfl (log_Log_Count.calls (g := g) h334 (hS.st.fore (L := [bx b286 64 ([.pointer (some ⟨b274, 0, none⟩)] ++ ((c_T_log_at (r323.2.1)))), bx b274 72 (c_T_disk_Disk ((T_disk_Disk.mk (r323.2.2) (r306.2.2.2) (r270.2.2))) A327 c328), q329])) h330) (fun a v w hR hE => ?_)
 obtain ⟨D335, q337, rfl, hS1, h338⟩ := hR
 have le340 := hS1.dle
 have hS := hS.callR hS1 rfl (.c (.c (.c .n)))
 clear hS1
 refine sN 1 3 [(7, .int .i64 (r333))] hE (fun a hE => ?_)
 refine at_end rfl ?_
 refine wpIn_seq ?_
 refine region_at ?_
 refine sN 1 1 [(28, .pointer (some ⟨b274, 0, none⟩))] hE (fun a hE => ?_)
 have hS := hS.pk (.c 1 rfl (.c 2 rfl (.c 0 rfl (.c 3 rfl .n)))) rfl
 obtain ⟨r341, h342, hf⟩ := bind_some hf
 refine aC rfl rfl rfl rfl hE rfl rfl rfl rfl (disk_Disk_Crash.calls (g := g) h342 (hS.st.fore (L := [bx b274 72 (c_T_disk_Disk ((T_disk_Disk.mk (r323.2.2) (r306.2.2.2) (r270.2.2))) A327 c328), q337])) h338) (fun a v w hR hE => ?_)
 obtain ⟨D343, A345, c346, q347, rfl, hS1, h348⟩ := hR
 have le350 := hS1.dle
 have hS := hS.callR hS1 rfl (.c (.c .n))
 clear hS1
 refine at_end rfl ?_
 refine wpIn_seq ?_
 refine region_at ?_
 refine sN 1 1 [(31, .pointer (some ⟨b274, 0, none⟩))] hE (fun a hE => ?_)
 obtain ⟨r351, h352, hf⟩ := bind_some hf
 refine aC rfl rfl rfl rfl hE rfl rfl rfl rfl (log_Open.calls (g := g) h352 (hS.st.fore (L := [bx b274 72 (c_T_disk_Disk ((T_disk_Disk.mk (r341.1) (r341.2) (r270.2.2))) A345 c346), q347])) h348 (hG0.mono (le2 (le2 (le2 (le2 (le2 (le2 (le2 le281 le298) le304) le315) le321) le332) le340) le350)) (hG1.mono (le2 (le2 (le2 (le2 (le2 (le2 (le2 le281 le298) le304) le315) le321) le332) le340) le350))) (fun a v w hR hE => ?_)
 obtain ⟨D353, b355, A357, c358, q359, A362, c363, q364, rfl, hS1, h360, h365⟩ := hR
 have le367 := hS1.dle
 have hS := hS.callR hS1 rfl (.c (.c (.c (.c .n))))
 clear hS1
 refine sN 7 9 [(8, .pointer (some ⟨b355, 0, none⟩)), (9, .slice A357 (List.length (r351.1)) c358), (10, .int .i64 (r351.2.1))] hE (fun a hE => ?_)
 refine at_end rfl ?_
 have hS := hS.pk (.c 2 rfl (.c 0 rfl (.c 1 rfl (.c 3 rfl (.c 4 rfl (.c 5 rfl .n)))))) rfl
 obtain ⟨D425, q428, le426, hS, h429, h427⟩ := hS.lent h360
 obtain ⟨j485, hj486, hf⟩ := jn_elim hf
 refine seq_join (fun a w => ∃ (y482 : Bool), ∃ (D483 : Snap), Env a 93 [] [(0, .bool (y482))] ∧ Stp g w0 D0 [] w D483 [] ∧ Snap.le D425 D483 ∧ j485 y482 = some r) ?_ ?_
 ·clear hj486
  refine region_at ?_
  refine sN 3 3 [(38, .bool ((decide (r282.2.1 = (0 : Int)))))] hE (fun a hE => ?_)
  refine Or.elim (Bool.eq_false_or_eq_true ((decide (r282.2.1 = (0 : Int))))).symm (fun hb => ?_) (fun hb => ?_)
  ·replace hf := cond_f hb hf
   have hE := hE.know (t := 38) (b := (decide (r282.2.1 = (0 : Int)))) (b' := false) rfl hb
   clear hb
   refine sN 55 58 [(0, .bool false)] hE (fun a hE => ?_)
   refine at_end rfl ?_
   have hS := hS.pk .n rfl
   exact ⟨false, D425, hE.weak (by kernel_rfl), hS, Snap.le.refl _, hf⟩
  ·replace hf := cond_t hb hf
   have hE := hE.know (t := 38) (b := (decide (r282.2.1 = (0 : Int)))) (b' := true) rfl hb
   clear hb
   refine sN 4 7 [(42, .bool ((decide (r306.1 = (0 : Int)))))] hE (fun a hE => ?_)
   refine Or.elim (Bool.eq_false_or_eq_true ((decide (r306.1 = (0 : Int))))).symm (fun hb => ?_) (fun hb => ?_)
   ·replace hf := cond_f hb hf
    have hE := hE.know (t := 42) (b := (decide (r306.1 = (0 : Int)))) (b' := false) rfl hb
    clear hb
    refine sN 51 58 [(0, .bool false)] hE (fun a hE => ?_)
    refine at_end rfl ?_
    have hS := hS.pk .n rfl
    exact ⟨false, D425, hE.weak (by kernel_rfl), hS, Snap.le.refl _, hf⟩
   ·replace hf := cond_t hb hf
    have hE := hE.know (t := 42) (b := (decide (r306.1 = (0 : Int)))) (b' := true) rfl hb
    clear hb
    refine sN 4 11 [(46, .bool ((decide (r323.1 = (0 : Int)))))] hE (fun a hE => ?_)
    refine Or.elim (Bool.eq_false_or_eq_true ((decide (r323.1 = (0 : Int))))).symm (fun hb => ?_) (fun hb => ?_)
    ·replace hf := cond_f hb hf
     have hE := hE.know (t := 46) (b := (decide (r323.1 = (0 : Int)))) (b' := false) rfl hb
     clear hb
     refine sN 47 58 [(0, .bool false)] hE (fun a hE => ?_)
     refine at_end rfl ?_
     have hS := hS.pk .n rfl
     exact ⟨false, D425, hE.weak (by kernel_rfl), hS, Snap.le.refl _, hf⟩
    ·replace hf := cond_t hb hf
     have hE := hE.know (t := 46) (b := (decide (r323.1 = (0 : Int)))) (b' := true) rfl hb
     clear hb
     refine sN 4 15 [(50, .bool ((decide (r351.2.1 = (0 : Int)))))] hE (fun a hE => ?_)
     refine Or.elim (Bool.eq_false_or_eq_true ((decide (r351.2.1 = (0 : Int))))).symm (fun hb => ?_) (fun hb => ?_)
     ·replace hf := cond_f hb hf
      have hE := hE.know (t := 50) (b := (decide (r351.2.1 = (0 : Int)))) (b' := false) rfl hb
      clear hb
      refine sN 43 58 [(0, .bool false)] hE (fun a hE => ?_)
      refine at_end rfl ?_
      have hS := hS.pk .n rfl
      exact ⟨false, D425, hE.weak (by kernel_rfl), hS, Snap.le.refl _, hf⟩
     ·replace hf := cond_t hb hf
      have hE := hE.know (t := 50) (b := (decide (r351.2.1 = (0 : Int)))) (b' := true) rfl hb
      clear hb
      refine sN 5 20 [(55, .bool ((decide (((List.length (r282.1) : Nat) : Int) = (0 : Int)))))] hE (fun a hE => ?_)
      refine Or.elim (Bool.eq_false_or_eq_true ((decide (((List.length (r282.1) : Nat) : Int) = (0 : Int))))).symm (fun hb => ?_) (fun hb => ?_)
      ·replace hf := cond_f hb hf
       have hE := hE.know (t := 55) (b := (decide (((List.length (r282.1) : Nat) : Int) = (0 : Int)))) (b' := false) rfl hb
       clear hb
       refine sN 38 58 [(0, .bool false)] hE (fun a hE => ?_)
       refine at_end rfl ?_
       have hS := hS.pk .n rfl
       exact ⟨false, D425, hE.weak (by kernel_rfl), hS, Snap.le.refl _, hf⟩
      ·replace hf := cond_t hb hf
       have hE := hE.know (t := 55) (b := (decide (((List.length (r282.1) : Nat) : Int) = (0 : Int)))) (b' := true) rfl hb
       clear hb
       refine sN 4 24 [(59, .bool ((decide (r333 = (2 : Int)))))] hE (fun a hE => ?_)
       refine Or.elim (Bool.eq_false_or_eq_true ((decide (r333 = (2 : Int))))).symm (fun hb => ?_) (fun hb => ?_)
       ·replace hf := cond_f hb hf
        have hE := hE.know (t := 59) (b := (decide (r333 = (2 : Int)))) (b' := false) rfl hb
        clear hb
        refine sN 34 58 [(0, .bool false)] hE (fun a hE => ?_)
        refine at_end rfl ?_
        have hS := hS.pk .n rfl
        exact ⟨false, D425, hE.weak (by kernel_rfl), hS, Snap.le.refl _, hf⟩
       ·replace hf := cond_t hb hf
        have hE := hE.know (t := 59) (b := (decide (r333 = (2 : Int)))) (b' := true) rfl hb
        clear hb
        refine sN 5 29 [(64, .bool ((decide (((List.length (r351.1) : Nat) : Int) = (1 : Int)))))] hE (fun a hE => ?_)
        refine Or.elim (Bool.eq_false_or_eq_true ((decide (((List.length (r351.1) : Nat) : Int) = (1 : Int))))).symm (fun hb => ?_) (fun hb => ?_)
        ·replace hf := cond_f hb hf
         have hE := hE.know (t := 64) (b := (decide (((List.length (r351.1) : Nat) : Int) = (1 : Int)))) (b' := false) rfl hb
         clear hb
         refine sN 29 58 [(0, .bool false)] hE (fun a hE => ?_)
         refine at_end rfl ?_
         have hS := hS.pk .n rfl
         exact ⟨false, D425, hE.weak (by kernel_rfl), hS, Snap.le.refl _, hf⟩
        ·replace hf := cond_t hb hf
         have hE := hE.know (t := 64) (b := (decide (((List.length (r351.1) : Nat) : Int) = (1 : Int)))) (b' := true) rfl hb
         clear hb
         refine sN 1 30 [(65, .slice A357 (List.length (r351.1)) c358)] hE (fun a hE => ?_)
         obtain ⟨x487, h488, hf⟩ := bind_some hf
         refine at_op (op_tk hE (g_index (K := (kdSlice (kdInt .u8))) (e := 33) (by_ := 24) (zl := 1) rfl rfl rfl rfl hE rfl rfl rfl (by kernel_rfl) rfl h427 h488 (fun a b489 o490 hE h491 => ?_))) rfl
         obtain ⟨cs492, C493, T494, fr495, hr496, hb497, hc498⟩ := h491
         obtain ⟨A499, c500, rfl, h501⟩ := hr496
         refine at_op (op_tk hE (tk_loadX (off0 := o490) (off := 0) (c := [.slice A499 (List.length (x487)) c500]) (.slice A499 (List.length (x487)) c500) rfl rfl rfl rfl hE rfl hS rfl hb497 hc498 (by kernel_rfl) (by kernel_rfl) (kD hS dn_nil) (fun a hE => ?_))) rfl
         refine at_op (op_tk hE (tk_b2s rfl rfl rfl rfl hE rfl hS rfl (by kernel_rfl) h501 (kD hS dn_nil) (fun a hE => ?_))) rfl
         refine at_op (op_tk hE (tk_bin (r := .bool ((ByteArray.toList (bofL (x487)) == ByteArray.toList (⟨#[97]⟩)))) rfl rfl rfl rfl hE rfl rfl rfl (fun w => bstr_run _ _ w _ rfl (by decide)) (fun a hE => ?_))) rfl
         refine sN 2 36 [(71, .bool ((ByteArray.toList (bofL (x487)) == ByteArray.toList (⟨#[97]⟩))))] hE (fun a hE => ?_)
         refine Or.elim (Bool.eq_false_or_eq_true ((ByteArray.toList (bofL (x487)) == ByteArray.toList (⟨#[97]⟩)))).symm (fun hb => ?_) (fun hb => ?_)
         ·replace hf := cond_f hb hf
          have hE := hE.know (t := 71) (b := (ByteArray.toList (bofL (x487)) == ByteArray.toList (⟨#[97]⟩))) (b' := false) rfl hb
          clear hb
          refine sN 22 58 [(0, .bool false)] hE (fun a hE => ?_)
          refine at_end rfl ?_
          have hS := hS.pk .n rfl
          exact ⟨false, D425, hE.weak (by kernel_rfl), hS, Snap.le.refl _, hf⟩
         ·replace hf := cond_t hb hf
          have hE := hE.know (t := 71) (b := (ByteArray.toList (bofL (x487)) == ByteArray.toList (⟨#[97]⟩))) (b' := true) rfl hb
          clear hb
          refine sN 1 37 [(72, .pointer (some ⟨b355, 0, none⟩))] hE (fun a hE => ?_)
          have hS := hS.pk (.c 2 rfl (.c 1 rfl (.c 3 rfl (.c 0 rfl (.c 4 rfl (.c 5 rfl .n)))))) rfl
          obtain ⟨r502, h503, hf⟩ := bind_some hf
          refine aC rfl rfl rfl rfl hE rfl rfl rfl rfl (log_Log_Count.calls (g := g) h503 (hS.st.fore (L := [bx b355 64 ([.pointer (some ⟨b274, 0, none⟩)] ++ ((c_T_log_at (r351.2.2.2.2)))), bx b274 72 (c_T_disk_Disk ((T_disk_Disk.mk (r351.2.2.1) (r351.2.2.2.1) (r270.2.2))) A362 c363), q364])) (h365.mono le426)) (fun a v w hR hE => ?_)
          obtain ⟨D504, q506, rfl, hS1, h507⟩ := hR
          have le509 := hS1.dle
          have hS := hS.callR hS1 rfl (.c (.c (.c .n)))
          clear hS1
          refine sN 3 41 [(76, .bool ((decide (r502 = (1 : Int)))))] hE (fun a hE => ?_)
          refine Or.elim (Bool.eq_false_or_eq_true ((decide (r502 = (1 : Int))))).symm (fun hb => ?_) (fun hb => ?_)
          ·replace hf := cond_f hb hf
           have hE := hE.know (t := 76) (b := (decide (r502 = (1 : Int)))) (b' := false) rfl hb
           clear hb
           refine sN 17 58 [(0, .bool false)] hE (fun a hE => ?_)
           refine at_end rfl ?_
           have hS := hS.pk .n rfl
           exact ⟨false, D504, hE.weak (by kernel_rfl), hS, le509, hf⟩
          ·replace hf := cond_t hb hf
           have hE := hE.know (t := 76) (b := (decide (r502 = (1 : Int)))) (b' := true) rfl hb
           clear hb
           refine sN 1 42 [(77, .pointer (some ⟨b274, 0, none⟩))] hE (fun a hE => ?_)
           have hS := hS.pk (.c 1 rfl (.c 2 rfl (.c 0 rfl (.c 3 rfl (.c 4 rfl (.c 5 rfl .n)))))) rfl
           obtain ⟨r510, h511, hf⟩ := bind_some hf
           refine aC rfl rfl rfl rfl hE rfl rfl rfl rfl (disk_Disk_Bytes.calls (g := g) h511 (hS.st.fore (L := [bx b274 72 (c_T_disk_Disk ((T_disk_Disk.mk (r351.2.2.1) (r351.2.2.2.1) (r270.2.2))) A362 c363), q506])) h507) (fun a v w hR hE => ?_)
           obtain ⟨D512, A514, c515, q516, q519, rfl, hS1, h517, h520⟩ := hR
           have le522 := hS1.dle
           have hS := hS.callR hS1 rfl (.c (.c (.c .n)))
           clear hS1
           refine sN 4 47 [(82, .bool ((decide (((List.length (r510) : Nat) : Int) = (10 : Int)))))] hE (fun a hE => ?_)
           refine Or.elim (Bool.eq_false_or_eq_true ((decide (((List.length (r510) : Nat) : Int) = (10 : Int))))).symm (fun hb => ?_) (fun hb => ?_)
           ·replace hf := cond_f hb hf
            have hE := hE.know (t := 82) (b := (decide (((List.length (r510) : Nat) : Int) = (10 : Int)))) (b' := false) rfl hb
            clear hb
            refine sN 11 58 [(0, .bool false)] hE (fun a hE => ?_)
            refine at_end rfl ?_
            have hS := hS.pk .n rfl
            exact ⟨false, D512, hE.weak (by kernel_rfl), hS, (le2 le509 le522), hf⟩
           ·replace hf := cond_t hb hf
            have hE := hE.know (t := 82) (b := (decide (((List.length (r510) : Nat) : Int) = (10 : Int)))) (b' := true) rfl hb
            clear hb
            refine sN 1 48 [(83, .pointer (some ⟨b355, 0, none⟩))] hE (fun a hE => ?_)
            have hS := hS.pk (.c 3 rfl (.c 0 rfl (.c 2 rfl (.c 4 rfl (.c 5 rfl (.c 6 rfl .n)))))) rfl
            obtain ⟨r523, h524, hf⟩ := bind_some hf
            refine aC rfl rfl rfl rfl hE rfl rfl rfl rfl (log_Log_Size.calls (g := g) h524 (hS.st.fore (L := [bx b355 64 ([.pointer (some ⟨b274, 0, none⟩)] ++ ((c_T_log_at (r351.2.2.2.2)))), bx b274 72 (c_T_disk_Disk ((T_disk_Disk.mk (r351.2.2.1) (r351.2.2.2.1) (r270.2.2))) A362 c363), q519])) h520) (fun a v w hR hE => ?_)
            obtain ⟨D525, q527, rfl, hS1, h528⟩ := hR
            have le530 := hS1.dle
            have hS := hS.callR hS1 rfl (.c (.c (.c .n)))
            clear hS1
            refine sN 3 52 [(87, .bool ((decide (r523 = (10 : Int)))))] hE (fun a hE => ?_)
            refine Or.elim (Bool.eq_false_or_eq_true ((decide (r523 = (10 : Int))))).symm (fun hb => ?_) (fun hb => ?_)
            ·replace hf := cond_f hb hf
             have hE := hE.know (t := 87) (b := (decide (r523 = (10 : Int)))) (b' := false) rfl hb
             clear hb
             refine sN 6 58 [(0, .bool false)] hE (fun a hE => ?_)
             refine at_end rfl ?_
             have hS := hS.pk .n rfl
             exact ⟨false, D525, hE.weak (by kernel_rfl), hS, (le2 (le2 le509 le522) le530), hf⟩
            ·replace hf := cond_t hb hf
             have hE := hE.know (t := 87) (b := (decide (r523 = (10 : Int)))) (b' := true) rfl hb
             clear hb
             refine sN 1 53 [(88, .pointer (some ⟨b355, 0, none⟩))] hE (fun a hE => ?_)
             obtain ⟨r531, h532, hf⟩ := bind_some hf
             refine aC rfl rfl rfl rfl hE rfl rfl rfl rfl (log_Log_Chain.calls (g := g) h532 (hS.st.fore (L := [bx b355 64 ([.pointer (some ⟨b274, 0, none⟩)] ++ ((c_T_log_at (r351.2.2.2.2)))), bx b274 72 (c_T_disk_Disk ((T_disk_Disk.mk (r351.2.2.1) (r351.2.2.2.1) (r270.2.2))) A362 c363), q527])) h528) (fun a v w hR hE => ?_)
             obtain ⟨D533, q535, rfl, hS1, h536⟩ := hR
             have le538 := hS1.dle
             have hS := hS.callR hS1 rfl (.c (.c (.c .n)))
             clear hS1
             refine at_op (op_tk hE (tk_build (acells .u8 32 ((vofL 32 [(0 : Int), (0 : Int), (0 : Int), (0 : Int), (0 : Int), (0 : Int), (0 : Int), (0 : Int), (0 : Int), (0 : Int), (0 : Int), (0 : Int), (0 : Int), (0 : Int), (0 : Int), (0 : Int), (0 : Int), (0 : Int), (0 : Int), (0 : Int), (0 : Int), (0 : Int), (0 : Int), (0 : Int), (0 : Int), (0 : Int), (0 : Int), (0 : Int), (0 : Int), (0 : Int), (0 : Int), (0 : Int)]))) rfl rfl rfl rfl hE rfl rfl (by kernel_rfl) (fun a hE => ?_))) rfl
             refine at_op (op_tk hE (tk_bin (r := .bool ((!(decide (r531 = (vofL 32 [(0 : Int), (0 : Int), (0 : Int), (0 : Int), (0 : Int), (0 : Int), (0 : Int), (0 : Int), (0 : Int), (0 : Int), (0 : Int), (0 : Int), (0 : Int), (0 : Int), (0 : Int), (0 : Int), (0 : Int), (0 : Int), (0 : Int), (0 : Int), (0 : Int), (0 : Int), (0 : Int), (0 : Int), (0 : Int), (0 : Int), (0 : Int), (0 : Int), (0 : Int), (0 : Int), (0 : Int), (0 : Int)])))))) rfl rfl rfl rfl hE rfl rfl rfl (neagg_run (by kernel_rfl) (EqR_arr (k := .u8) (N := 32) (by kernel_rfl))) (fun a hE => ?_))) rfl
             refine sN 2 58 [(0, .bool ((!(decide (r531 = (vofL 32 [(0 : Int), (0 : Int), (0 : Int), (0 : Int), (0 : Int), (0 : Int), (0 : Int), (0 : Int), (0 : Int), (0 : Int), (0 : Int), (0 : Int), (0 : Int), (0 : Int), (0 : Int), (0 : Int), (0 : Int), (0 : Int), (0 : Int), (0 : Int), (0 : Int), (0 : Int), (0 : Int), (0 : Int), (0 : Int), (0 : Int), (0 : Int), (0 : Int), (0 : Int), (0 : Int), (0 : Int), (0 : Int)]))))))] hE (fun a hE => ?_)
             refine at_end rfl ?_
             have hS := hS.pk .n rfl
             exact ⟨(!(decide (r531 = (vofL 32 [(0 : Int), (0 : Int), (0 : Int), (0 : Int), (0 : Int), (0 : Int), (0 : Int), (0 : Int), (0 : Int), (0 : Int), (0 : Int), (0 : Int), (0 : Int), (0 : Int), (0 : Int), (0 : Int), (0 : Int), (0 : Int), (0 : Int), (0 : Int), (0 : Int), (0 : Int), (0 : Int), (0 : Int), (0 : Int), (0 : Int), (0 : Int), (0 : Int), (0 : Int), (0 : Int), (0 : Int), (0 : Int)])))), D533, hE.weak (by kernel_rfl), hS, (le2 (le2 (le2 le509 le522) le530) le538), hf⟩
 ·clear hE hS
  rintro a w ⟨y482, D483, hE, hS, le484, hf⟩
  replace hf := hj486 _ hf
  clear hj486
  refine wpIn_ret ?_
  obtain rfl := Option.some.inj hf
  repeat (with_reducible first | refine then_ret ?_ | refine block_ret ?_ | refine qx_ret ?_)
  refine ret_gen ([.bool (y482)]) hE (by rw [show Tryd.f9.results.toList = [.tmp 0] from rfl]; exact ⟨_, _, rfl, rfl, rfl⟩) ?_
  exact ⟨_, rfl, D483, rfl, hS⟩
set_option maxRecDepth 100000 in
set_option maxHeartbeats 4000000 in
theorem inspeximuslaw09_few.calls {K : Nat} {g w0 : World} {D0 : Snap} {x1 : (List T_inspeximusref08_Act)} {A2 : Option Addr} {c3 : Nat} {r : (Bool)} (hf : inspeximuslaw09_few.f K x1 = some r) (hS0 : St g w0 D0 []) (h4 : Sl kd_T_inspeximusref08_Act D0 A2 c3 (x1)) :
  CallsIn (Fw none) 0 Tryd.prog 10 (List.toArray [.slice A2 (List.length (x1)) c3]) w0 (fun e w' => ∃ v, e = .returned v ∧ ∃ (D1 : Snap), v = .bool (r) ∧ Stp g w0 D0 [] w' D1 []) := by
 unfold inspeximuslaw09_few.f at hf
 have hS := Stp.refl hS0
 clear hS0
 refine calls_body (n := 20) Tryd.func10 rfl Tryd.ntmps10 rfl (fun a hE => ?_)
 have hE : Env a 20 [] [(0, .slice A2 (List.length (x1)) c3)] := hE
 refine wpIn_seq ?_
 refine region_at ?_
 refine sN 1 1 [(2, .bool false)] hE (fun a hE => ?_)
 refine at_end rfl ?_
 refine wpIn_seq ?_
 refine wpIn_seq ?_
 refine region_at ?_
 refine sN 3 3 [(6, .bool ((decide ((40 : Int) < ((List.length (x1) : Nat) : Int)))))] hE (fun a hE => ?_)
 refine at_end rfl ?_
 refine cond_split hE (b := (decide ((40 : Int) < ((List.length (x1) : Nat) : Int)))) rfl (fun hb => ?_) (fun hb => ?_)
 ·replace hf := cond_t hb hf
  clear hb
  refine wpIn_seq ?_
  refine region_at ?_
  refine sN 1 1 [(2, .bool false)] hE (fun a hE => ?_)
  refine at_end rfl ?_
  refine wpIn_ret ?_
  obtain rfl := Option.some.inj hf
  repeat (with_reducible first | refine then_ret ?_ | refine block_ret ?_ | refine qx_ret ?_)
  refine ret_gen ([.bool false]) hE (by rw [show Tryd.f10.results.toList = [.tmp 2] from rfl]; exact ⟨_, _, rfl, rfl, rfl⟩) ?_
  exact ⟨_, rfl, D0, rfl, hS⟩
 ·replace hf := cond_f hb hf
  clear hb
  refine wpIn_skip ?_
  refine wpIn_seq ?_
  refine wpIn_seq ?_
  refine region_at ?_
  refine sN 1 1 [(3, .int .i64 ((0 : Int)))] hE (fun a hE => ?_)
  refine at_end rfl ?_
  obtain ⟨s422, hf, hs423⟩ := bind_some hf
  refine block_loop (fun a w => ∃ (z419 : Unit), ∃ (D420 : Snap), Env a 20 [] [] ∧ Stp g w0 D0 [] w D420 [] ∧ Snap.le D0 D420 ∧ (Sum.inr z419) = s422) (fun k a w => ∃ (y383 : Int), ∃ (D384 : Snap), Env a 20 [] [(0, .slice A2 (List.length (x1)) c3), (3, .int .i64 (y383))] ∧ Stp g w0 D0 [] w D384 [] ∧ Snap.le D0 D384 ∧ inspeximuslaw09_few_l1.l K x1 k y383 = some s422) K ?_ ?_ ?_
  ·exact ⟨(0 : Int), D0, hE.weak (by kernel_rfl), hS, Snap.le.refl _, hf⟩
  ·clear hE hS hf
   rintro a w ⟨z419, D420, hE, hS, le421, rfl⟩
   have hf := hs423
   clear hs423
   refine wpIn_seq ?_
   refine region_at ?_
   refine sN 1 1 [(2, .bool true)] hE (fun a hE => ?_)
   refine at_end rfl ?_
   refine wpIn_ret ?_
   obtain rfl := Option.some.inj hf
   repeat (with_reducible first | refine then_ret ?_ | refine block_ret ?_ | refine qx_ret ?_)
   refine ret_gen ([.bool true]) hE (by rw [show Tryd.f10.results.toList = [.tmp 2] from rfl]; exact ⟨_, _, rfl, rfl, rfl⟩) ?_
   exact ⟨_, rfl, D420, rfl, hS⟩
  ·clear hE hS hf
   rintro k a w ⟨y383, D384, hE, hS, le385, hf⟩
   obtain ⟨k, rfl, hf⟩ := inspeximuslaw09_few_l1.some _ hf
   refine ⟨k, rfl, ?_⟩
   unfold inspeximuslaw09_few_l1.b at hf
   refine wpIn_seq ?_
   refine wpIn_seq ?_
   refine region_at ?_
   refine sN 4 4 [(10, .bool ((decide (y383 < ((List.length (x1) : Nat) : Int)))))] hE (fun a hE => ?_)
   refine at_end rfl ?_
   refine cond_split hE (b := (decide (y383 < ((List.length (x1) : Nat) : Int)))) rfl (fun hb => ?_) (fun hb => ?_)
   ·replace hf := cond_t hb hf
    clear hb
    refine wpIn_skip ?_
    refine wpIn_seq ?_
    refine wpIn_block ?_
    refine wpIn_seq ?_
    refine region_at ?_
    refine sN 2 2 [(13, .slice A2 (List.length (x1)) c3), (14, .int .i64 (y383))] hE (fun a hE => ?_)
    obtain ⟨x439, h440, hf⟩ := bind_some hf
    refine at_op (op_tk hE (g_index (K := kd_T_inspeximusref08_Act) (e := 39) (by_ := 40) (zl := 3) rfl rfl rfl rfl hE rfl rfl rfl (by kernel_rfl) rfl (h4.mono le385) h440 (fun a b441 o442 hE h443 => ?_))) rfl
    refine at_op (op_tk hE (g_fieldAddr (fo := 2) (ft := 33) (o442 + 2) rfl rfl rfl rfl hE rfl rfl (by kernel_rfl) rfl (fun a hE => ?_))) rfl
    obtain ⟨cs444, C445, T446, fr447, hr448, hb449, hc450⟩ := h443
    obtain ⟨A451, c452, rfl, h453⟩ := kd_T_inspeximusref08_Act_el hr448
    refine at_op (op_tk hE (tk_loadX (off0 := o442) (off := 2) (c := c_T_inspeximusref08_Act (x439) A451 c452) (.slice A451 (List.length (x439.fB)) c452) rfl rfl rfl rfl hE rfl hS rfl hb449 hc450 (by kernel_rfl) (by kernel_rfl) (kD hS dn_nil) (fun a hE => ?_))) rfl
    refine sN 2 7 [(19, .bool ((decide ((300 : Int) < ((List.length (x439.fB) : Nat) : Int)))))] hE (fun a hE => ?_)
    refine at_end rfl ?_
    refine cond_split hE (b := (decide ((300 : Int) < ((List.length (x439.fB) : Nat) : Int)))) rfl (fun hb => ?_) (fun hb => ?_)
    ·replace hf := cond_t hb hf
     clear hb
     refine wpIn_seq ?_
     refine region_at ?_
     refine sN 1 1 [(2, .bool false)] hE (fun a hE => ?_)
     refine at_end rfl ?_
     refine wpIn_ret ?_
     obtain rfl := Option.some.inj hf
     replace hf := hs423
     obtain rfl := Option.some.inj hf
     repeat (with_reducible first | refine then_ret ?_ | refine block_ret ?_ | refine qx_ret ?_)
     refine ret_gen ([.bool false]) hE (by rw [show Tryd.f10.results.toList = [.tmp 2] from rfl]; exact ⟨_, _, rfl, rfl, rfl⟩) ?_
     exact ⟨_, rfl, D384, rfl, hS⟩
    ·replace hf := cond_f hb hf
     clear hb
     refine wpIn_skip ?_
     refine region_at ?_
     refine sN 3 3 [(3, .int .i64 ((IntKind.wrap .i64 (y383 + (1 : Int)))))] hE (fun a hE => ?_)
     refine at_end rfl ?_
     exact ⟨(IntKind.wrap .i64 (y383 + (1 : Int))), D384, hE.weak (by kernel_rfl), hS, le385, hf⟩
   ·replace hf := cond_f hb hf
    clear hb
    refine wpIn_exit ?_
    obtain rfl := Option.some.inj hf
    exact ⟨(), D384, hE.weak (by kernel_rfl), hS, le385, rfl⟩
set_option maxRecDepth 100000 in
set_option maxHeartbeats 4000000 in
theorem log_Open_v2.calls {K : Nat} {g w0 : World} {D0 : Snap} {r : ((List (List Int)) × Int)} (hf : log_Open_v2.f K = some r) (hS0 : St g w0 D0 []) :
  CallsIn (Fw none) 0 Tryd.prog 11 (List.toArray [.pointer none]) w0 (fun e w' => ∃ v, e = .returned v ∧ ∃ (D1 : Snap) (A1 : Option Addr) (c2 : Nat), v = .tuple #[.pointer none, .slice A1 (List.length (r.1)) c2, .int .i64 (r.2)] ∧ Stp g w0 D0 [] w' D1 [] ∧ Sl (kdSlice (kdInt .u8)) D1 A1 c2 (r.1)) := by
 unfold log_Open_v2.f at hf
 have hS := Stp.refl hS0
 clear hS0
 refine calls_bodyM (n := 35) Tryd.func11 rfl Tryd.ntmps11 rfl (fun a hE => ?_)
 have hE : Env a 35 [] [(0, .pointer none)] := hE
 refine wpIn_seq ?_
 refine region_at ?_
 refine sN 3 3 [(2, .pointer none), (3, .slice none 0 0), (4, .int .i64 ((0 : Int)))] hE (fun a hE => ?_)
 refine at_end rfl ?_
 refine wpIn_seq ?_
 refine wpIn_seq ?_
 refine region_at ?_
 refine sN 1 1 [(9, .pointer none)] hE (fun a hE => ?_)
 refine at_op (op_tk hE (tk_bin (r := .bool true) rfl rfl rfl rfl hE rfl rfl rfl (eqptr_run (by kernel_rfl) _) (fun a hE => ?_))) rfl
 refine at_end rfl ?_
 refine wpIn_cond_true (hE.eval rfl) ?_
 refine wpIn_seq ?_
 refine region_at ?_
 refine sN 3 3 [(2, .pointer none), (3, .slice none 0 0), (4, .int .i64 ((1 : Int)))] hE (fun a hE => ?_)
 refine at_end rfl ?_
 refine wpIn_ret ?_
 obtain rfl := Option.some.inj hf
 repeat (with_reducible first | refine then_ret ?_ | refine block_ret ?_ | refine qx_ret ?_)
 refine ret_M0 ([.pointer none, .slice none (List.length (([] : List (List Int)))) 0, .int .i64 ((1 : Int))]) hE (by rw [show Tryd.f11.results.toList = [.tmp 2, .tmp 3, .tmp 4] from rfl]; exact ⟨_, _, rfl, rfl, ⟨_, _, rfl, rfl, ⟨_, _, rfl, rfl, rfl⟩⟩⟩) ?_
 exact ⟨_, rfl, D0, none, 0, rfl, hS, (Sl.nil (kdSlice (kdInt .u8)) D0)⟩
set_option maxRecDepth 100000 in
set_option maxHeartbeats 4000000 in
theorem inspeximusref08_Disk_Bytes.calls {K : Nat} {g w0 : World} {D0 : Snap} {x3 : T_inspeximusref08_Disk} {b1 : Nat} {A4 : Option Addr} {c5 : Nat} {A7 : Option Addr} {c8 : Nat} {r : ((List Int))} (hf : inspeximusref08_Disk_Bytes.f K x3 = some r) (hS0 : St g w0 D0 [bx b1 35 (c_T_inspeximusref08_Disk (x3) A4 c5 A7 c8)]) (h6 : Sl (kdInt .u8) D0 A4 c5 (x3.fDone)) (h9 : Sl (kdInt .u8) D0 A7 c8 (x3.fLate)) :
  CallsIn (Fw none) 0 Tryd.prog 26 (List.toArray [.pointer (some ⟨b1, 0, none⟩)]) w0 (fun e w' => ∃ v, e = .returned v ∧ ∃ (D1 : Snap) (A46 : Option Addr) (c47 : Nat) (q48 : Blk), v = .slice A46 (List.length (r)) c47 ∧ Stp g w0 D0 [bx b1 35 (c_T_inspeximusref08_Disk (x3) A4 c5 A7 c8)] w' D1 [bx b1 35 (c_T_inspeximusref08_Disk (x3) A4 c5 A7 c8), q48] ∧ OwnD (kdInt .u8) 5 D1 A46 c47 (r) q48) := by
 unfold inspeximusref08_Disk_Bytes.f at hf
 have hS := Stp.refl hS0
 clear hS0
 refine calls_body (n := 14) Tryd.func26 rfl Tryd.ntmps26 rfl (fun a hE => ?_)
 have hE : Env a 14 [] [(0, .pointer (some ⟨b1, 0, none⟩))] := hE
 refine wpIn_seq ?_
 refine region_at ?_
 refine sN 1 1 [(2, .slice none 0 0)] hE (fun a hE => ?_)
 refine at_end rfl ?_
 refine wpIn_seq ?_
 refine region_draw (fun j => RD D0 (plOf [] [b1] j)) (by kernel_rfl) ?_
 have hS := hS.drew
 first | generalize w.drew = w at hS ⊢ | generalize w0.drew = w at hS ⊢
 refine wP 1 2 11 (.pointer (some ⟨b1, 0, none⟩)) hE (fun a hE => ?_)
 refine wP 2 6 10 (.pointer (some ⟨b1, 0, none⟩)) hE (fun a hE => ?_)
 refine wP 6 70 9 (.pointer (some ⟨b1, 0, none⟩)) hE (fun a hE => ?_)
 refine wP 7 198 8 (.pointer (some ⟨b1, 0, none⟩)) hE (fun a hE => ?_)
 refine wF 3 206 7 0 33 0 hE (fun a hE => ?_)
 refine tD 4 222 (fuel := 6) (by kernel_rfl) hE (tk_load 0 (.slice A4 (List.length (x3.fDone)) c5) rfl rfl rfl rfl hE rfl hS rfl rfl (by kernel_rfl) (fun _ h => h.1.at_ (List.Mem.head _)) (fun a hE => ?_))
 refine wF 8 478 5 1 33 1 hE (fun a hE => ?_)
 refine tD 9 990 (fuel := 4) (by kernel_rfl) hE (tk_load 0 (.slice A7 (List.length (x3.fLate)) c8) rfl rfl rfl rfl hE rfl hS rfl rfl (by kernel_rfl) (fun _ h => h.1.at_ (List.Mem.head _)) (fun a hE => ?_))
 have hp_b1 := hS.heapAt (j := 0) rfl
 refine oG 0 991 (fuel := 3) (by kernel_rfl) (op_buildSlice (K := (kdInt .u8)) (e := 5) (cs := []) ([] : List Int) rfl rfl rfl rfl hE rfl hS rfl (by kernel_rfl) rfl rfl (by exact (show RL (kdInt .u8) D0 ([] : List Int) ([]) from rfl)) (fun a A69 q70 w _ hE h71 hS => ?_))
 refine ⟨⟨show RP [b1] _ _ from ⟨(hS.heapAt (j := 1) rfl).trans hp_b1.symm, trivial⟩, fun _ => hS.st.sees⟩, ?_⟩
 clear hp_b1
 have hp_b1 := hS.heapAt (j := 1) rfl
 obtain ⟨l73, h74, hf⟩ := bind_some hf
 refine oG 5 1023 (fuel := 2) (by kernel_rfl) (g_append (K := (kdInt .u8)) (e := 5) (bytes := 1) (l := ([] : List Int)) (m := x3.fDone) rfl rfl rfl rfl hE rfl hS rfl rfl (by kernel_rfl) rfl rfl h71 h6 h74 (fun a A75 c76 q77 w _ hE h78 hS => ?_))
 refine ⟨⟨show RP [b1] _ _ from ⟨(hS.heapAt (j := 1) rfl).trans hp_b1.symm, trivial⟩, fun _ => hS.st.sees⟩, ?_⟩
 clear hp_b1
 have hp_b1 := hS.heapAt (j := 1) rfl
 obtain ⟨l80, h81, hf⟩ := bind_some hf
 refine oG 10 2047 (fuel := 1) (by kernel_rfl) (g_append (K := (kdInt .u8)) (e := 5) (bytes := 1) (l := l73) (m := x3.fLate) rfl rfl rfl rfl hE rfl hS rfl rfl (by kernel_rfl) rfl rfl h78 h9 h81 (fun a A82 c83 q84 w _ hE h85 hS => ?_))
 refine ⟨⟨show RP [b1] _ _ from ⟨(hS.heapAt (j := 1) rfl).trans hp_b1.symm, trivial⟩, fun _ => hS.st.sees⟩, ?_⟩
 clear hp_b1
 refine wP 11 4095 0 (.slice A82 (List.length (l80)) c83) hE (fun a hE => ?_)
 refine doneG (by kernel_rfl) ?_
 refine wpIn_ret ?_
 obtain rfl := Option.some.inj hf
 repeat (with_reducible first | refine then_ret ?_ | refine block_ret ?_ | refine qx_ret ?_)
 refine ret_gen ([.slice A82 (List.length (l80)) c83]) hE (by rw [show Tryd.f26.results.toList = [.tmp 2] from rfl]; exact ⟨_, _, rfl, rfl, rfl⟩) ?_
 have hS := hS.pk (.c 1 rfl (.c 0 rfl .n)) rfl
 exact ⟨_, rfl, D0, A82, c83, q84, rfl, hS, h85⟩
set_option maxRecDepth 100000 in
set_option maxHeartbeats 4000000 in
theorem inspeximusref03_Reader_Num.calls {K : Nat} {g w0 : World} {D0 : Snap} {x3 : T_inspeximusref03_Reader} {b1 : Nat} {A4 : Option Addr} {c5 : Nat} {r : (Int × T_inspeximusref03_Reader)} (hf : inspeximusref03_Reader_Num.f K x3 = some r) (hS0 : St g w0 D0 [bx b1 75 (c_T_inspeximusref03_Reader (x3) A4 c5)]) (h6 : Sl (kdInt .u8) D0 A4 c5 (x3.fB)) :
  CallsIn (Fw none) 0 Tryd.prog 44 (List.toArray [.pointer (some ⟨b1, 0, none⟩)]) w0 (fun e w' => ∃ v, e = .returned v ∧ ∃ (D1 : Snap) (A500 : Option Addr) (c501 : Nat), v = .int .i64 (r.1) ∧ Stp g w0 D0 [bx b1 75 (c_T_inspeximusref03_Reader (x3) A4 c5)] w' D1 [bx b1 75 (c_T_inspeximusref03_Reader ((T_inspeximusref03_Reader.mk (r.2.fB) (r.2.fAt) (r.2.fBad))) A500 c501)] ∧ Sl (kdInt .u8) D1 A500 c501 (r.2.fB)) := by
 unfold inspeximusref03_Reader_Num.f at hf
 have hS := Stp.refl hS0
 clear hS0
 refine calls_body (n := 75) Tryd.func44 rfl Tryd.ntmps44 rfl (fun a hE => ?_)
 have hE : Env a 75 [] [(0, .pointer (some ⟨b1, 0, none⟩))] := hE
 refine wpIn_seq ?_
 refine region_at ?_
 refine sN 1 1 [(2, .int .i64 ((0 : Int)))] hE (fun a hE => ?_)
 refine at_end rfl ?_
 refine wpIn_seq ?_
 refine wpIn_seq ?_
 refine region_at ?_
 refine sN 2 2 [(7, .pointer (some ⟨b1, 0, none⟩))] hE (fun a hE => ?_)
 refine aF 2 3 2 hE (fun a hE => ?_)
 refine aL 0 (.int .i64 (x3.fBad)) hE hS (fun a hE => ?_)
 refine sN 1 5 [(10, .bool ((!decide (x3.fBad = (0 : Int)))))] hE (fun a hE => ?_)
 refine at_end rfl ?_
 refine cond_split hE (b := (!decide (x3.fBad = (0 : Int)))) rfl (fun hb => ?_) (fun hb => ?_)
 ·replace hf := cond_t hb hf
  clear hb
  refine wpIn_seq ?_
  refine region_at ?_
  refine sN 1 1 [(2, .int .i64 ((0 : Int)))] hE (fun a hE => ?_)
  refine at_end rfl ?_
  refine wpIn_ret ?_
  obtain rfl := Option.some.inj hf
  repeat (with_reducible first | refine then_ret ?_ | refine block_ret ?_ | refine qx_ret ?_)
  refine ret_gen ([.int .i64 ((0 : Int))]) hE (by rw [show Tryd.f44.results.toList = [.tmp 2] from rfl]; exact ⟨_, _, rfl, rfl, rfl⟩) ?_
  exact ⟨_, rfl, D0, A4, c5, rfl, hS, h6⟩
 ·replace hf := cond_f hb hf
  clear hb
  refine wpIn_skip ?_
  refine wpIn_seq ?_
  refine region_at ?_
  refine sN 1 1 [(3, .int .i64 ((0 : Int)))] hE (fun a hE => ?_)
  refine at_end rfl ?_
  refine wpIn_seq ?_
  refine wpIn_seq ?_
  refine region_at ?_
  refine sN 2 2 [(12, .pointer (some ⟨b1, 0, none⟩))] hE (fun a hE => ?_)
  refine aF 1 3 1 hE (fun a hE => ?_)
  refine aL 0 (.int .i64 (x3.fAt)) hE hS (fun a hE => ?_)
  refine sN 1 5 [(4, .int .i64 (x3.fAt))] hE (fun a hE => ?_)
  refine at_end rfl ?_
  obtain ⟨s914, hf, hs915⟩ := bind_some hf
  refine block_loop (fun a w => ∃ (z911 : Unit), ∃ (D912 : Snap), Env a 75 [] [(0, .pointer (some ⟨b1, 0, none⟩))] ∧ Stp g w0 D0 [bx b1 75 (c_T_inspeximusref03_Reader (x3) A4 c5)] w D912 [bx b1 75 (c_T_inspeximusref03_Reader (x3) A4 c5)] ∧ Snap.le D0 D912 ∧ (Sum.inr z911) = s914) (fun k a w => ∃ (y831 : Int × Int), ∃ (D832 : Snap), Env a 75 [] [(0, .pointer (some ⟨b1, 0, none⟩)), (3, .int .i64 (y831.1)), (4, .int .i64 (y831.2))] ∧ Stp g w0 D0 [bx b1 75 (c_T_inspeximusref03_Reader (x3) A4 c5)] w D832 [bx b1 75 (c_T_inspeximusref03_Reader (x3) A4 c5)] ∧ Snap.le D0 D832 ∧ inspeximusref03_Reader_Num_l1.l K x3 k y831 = some s914) K ?_ ?_ ?_
  ·exact ⟨((0 : Int), x3.fAt), D0, hE.weak (by kernel_rfl), hS, Snap.le.refl _, hf⟩
  ·clear hE hS hf
   rintro a w ⟨z911, D912, hE, hS, le913, rfl⟩
   have hf := hs915
   clear hs915
   refine wpIn_seq ?_
   refine region_at ?_
   refine sN 2 2 [(73, .pointer (some ⟨b1, 0, none⟩))] hE (fun a hE => ?_)
   refine aF 2 3 2 hE (fun a hE => ?_)
   obtain ⟨v990, hv991, hf⟩ := bind_some hf
   replace hv991 := Option.some.inj hv991
   refine at_op (op_store (v := .int .i64 ((3 : Int))) (c_T_inspeximusref03_Reader (v990) A4 c5) rfl rfl rfl rfl hE hS rfl rfl (by kernel_rfl) (by kernel_rfl) (by kernel_rfl) (by kernel_rfl) (by rw [← hv991]; kernel_rfl) (fun a w _ hE hS => ?_)) rfl
   have h992 : Sl (kdInt .u8) D0 A4 c5 (v990.fB) := by rw [← hv991]; exact h6
   refine at_end rfl ?_
   refine wpIn_seq ?_
   refine region_at ?_
   refine sN 1 1 [(2, .int .i64 ((0 : Int)))] hE (fun a hE => ?_)
   refine at_end rfl ?_
   refine wpIn_ret ?_
   obtain rfl := Option.some.inj hf
   repeat (with_reducible first | refine then_ret ?_ | refine block_ret ?_ | refine qx_ret ?_)
   refine ret_gen ([.int .i64 ((0 : Int))]) hE (by rw [show Tryd.f44.results.toList = [.tmp 2] from rfl]; exact ⟨_, _, rfl, rfl, rfl⟩) ?_
   exact ⟨_, rfl, D912, A4, c5, rfl, hS, (h992.mono le913)⟩
  ·clear hE hS hf
   rintro k a w ⟨y831, D832, hE, hS, le833, hf⟩
   obtain ⟨k, rfl, hf⟩ := inspeximusref03_Reader_Num_l1.some _ hf
   refine ⟨k, rfl, ?_⟩
   unfold inspeximusref03_Reader_Num_l1.b at hf
   refine wpIn_seq ?_
   refine wpIn_seq ?_
   refine region_at ?_
   refine sN 3 3 [(15, .int .i64 (y831.2)), (17, .pointer (some ⟨b1, 0, none⟩))] hE (fun a hE => ?_)
   refine aF 0 33 0 hE (fun a hE => ?_)
   refine aL 0 (.slice A4 (List.length (x3.fB)) c5) hE hS (fun a hE => ?_)
   refine sN 2 7 [(21, .bool ((decide (y831.2 < ((List.length (x3.fB) : Nat) : Int)))))] hE (fun a hE => ?_)
   refine at_end rfl ?_
   refine cond_split hE (b := (decide (y831.2 < ((List.length (x3.fB) : Nat) : Int)))) rfl (fun hb => ?_) (fun hb => ?_)
   ·replace hf := cond_t hb hf
    clear hb
    refine wpIn_skip ?_
    refine wpIn_seq ?_
    refine wpIn_block ?_
    refine wpIn_seq ?_
    refine region_at ?_
    refine sN 2 2 [(25, .pointer (some ⟨b1, 0, none⟩))] hE (fun a hE => ?_)
    refine aF 0 33 0 hE (fun a hE => ?_)
    refine aL 0 (.slice A4 (List.length (x3.fB)) c5) hE hS (fun a hE => ?_)
    refine sN 1 5 [(28, .int .i64 (y831.2))] hE (fun a hE => ?_)
    obtain ⟨x953, h954, hf⟩ := bind_some hf
    refine at_op (op_tk hE (g_index (K := (kdInt .u8)) (e := 5) (by_ := 1) (zl := 1) rfl rfl rfl rfl hE rfl rfl rfl (by kernel_rfl) rfl (h6.mono le833) h954 (fun a b955 o956 hE h957 => ?_))) rfl
    obtain ⟨cs958, C959, T960, fr961, hr962, hb963, hc964⟩ := h957
    obtain rfl := hr962
    refine at_op (op_tk hE (tk_loadX (off0 := o956) (off := 0) (c := [.int .u8 (x953)]) (.int .u8 (x953)) rfl rfl rfl rfl hE rfl hS rfl hb963 hc964 (by kernel_rfl) (by kernel_rfl) (kD hS dn_nil) (fun a hE => ?_))) rfl
    refine sN 2 9 [(5, .int .i64 ((IntKind.wrap .i64 x953)))] hE (fun a hE => ?_)
    refine at_end rfl ?_
    refine wpIn_seq ?_
    obtain ⟨j988, hj989, hf⟩ := jn_elim hf
    refine seq_join (fun a w => ∃ (y973 : Bool), ∃ (D974 : Snap), Env a 75 [] [(0, .pointer (some ⟨b1, 0, none⟩)), (3, .int .i64 (y831.1)), (4, .int .i64 (y831.2)), (5, .int .i64 ((IntKind.wrap .i64 x953))), (50, .bool (y973))] ∧ Stp g w0 D0 [bx b1 75 (c_T_inspeximusref03_Reader (x3) A4 c5)] w D974 [bx b1 75 (c_T_inspeximusref03_Reader (x3) A4 c5)] ∧ Snap.le D832 D974 ∧ j988 y973 = some s914) ?_ ?_
    ·clear hj989
     refine region_at ?_
     refine sN 3 3 [(32, .int .i64 (y831.2)), (34, .pointer (some ⟨b1, 0, none⟩))] hE (fun a hE => ?_)
     refine aF 1 3 1 hE (fun a hE => ?_)
     refine aL 0 (.int .i64 (x3.fAt)) hE hS (fun a hE => ?_)
     refine sN 2 7 [(38, .bool ((decide (y831.2 = x3.fAt))))] hE (fun a hE => ?_)
     refine Or.elim (Bool.eq_false_or_eq_true ((decide (y831.2 = x3.fAt)))).symm (fun hb => ?_) (fun hb => ?_)
     ·replace hf := cond_f hb hf
      have hE := hE.know (t := 38) (b := (decide (y831.2 = x3.fAt))) (b' := false) rfl hb
      clear hb
      refine sN 7 14 [(42, .bool false), (43, .int .i64 (y831.2)), (45, .pointer (some ⟨b1, 0, none⟩))] hE (fun a hE => ?_)
      refine aF 1 3 1 hE (fun a hE => ?_)
      refine aL 0 (.int .i64 (x3.fAt)) hE hS (fun a hE => ?_)
      refine sN 3 19 [(50, .bool ((decide ((4 : Int) < (IntKind.wrap .i64 (y831.2 - x3.fAt))))))] hE (fun a hE => ?_)
      refine at_end rfl ?_
      exact ⟨(decide ((4 : Int) < (IntKind.wrap .i64 (y831.2 - x3.fAt)))), D832, hE.weak (by kernel_rfl), hS, Snap.le.refl _, hf⟩
     ·replace hf := cond_t hb hf
      have hE := hE.know (t := 38) (b := (decide (y831.2 = x3.fAt))) (b' := true) rfl hb
      clear hb
      refine sN 4 11 [(42, .bool ((decide ((IntKind.wrap .i64 x953) = (128 : Int)))))] hE (fun a hE => ?_)
      refine Or.elim (Bool.eq_false_or_eq_true ((decide ((IntKind.wrap .i64 x953) = (128 : Int))))).symm (fun hb => ?_) (fun hb => ?_)
      ·replace hf := cond_f hb hf
       have hE := hE.know (t := 42) (b := (decide ((IntKind.wrap .i64 x953) = (128 : Int)))) (b' := false) rfl hb
       clear hb
       refine sN 3 14 [(43, .int .i64 (y831.2)), (45, .pointer (some ⟨b1, 0, none⟩))] hE (fun a hE => ?_)
       refine aF 1 3 1 hE (fun a hE => ?_)
       refine aL 0 (.int .i64 (x3.fAt)) hE hS (fun a hE => ?_)
       refine sN 3 19 [(50, .bool ((decide ((4 : Int) < (IntKind.wrap .i64 (y831.2 - x3.fAt))))))] hE (fun a hE => ?_)
       refine at_end rfl ?_
       exact ⟨(decide ((4 : Int) < (IntKind.wrap .i64 (y831.2 - x3.fAt)))), D832, hE.weak (by kernel_rfl), hS, Snap.le.refl _, hf⟩
      ·replace hf := cond_t hb hf
       have hE := hE.know (t := 42) (b := (decide ((IntKind.wrap .i64 x953) = (128 : Int)))) (b' := true) rfl hb
       clear hb
       refine sN 8 19 [(50, .bool true)] hE (fun a hE => ?_)
       refine at_end rfl ?_
       exact ⟨true, D832, hE.weak (by kernel_rfl), hS, Snap.le.refl _, hf⟩
    ·clear hE hS
     rintro a w ⟨y973, D974, hE, hS, le975, hf⟩
     replace hf := hj989 _ hf
     clear hj989
     refine cond_split hE (b := y973) rfl (fun hb => ?_) (fun hb => ?_)
     ·replace hf := cond_t hb hf
      clear hb
      refine wpIn_seq ?_
      refine region_at ?_
      refine sN 2 2 [(52, .pointer (some ⟨b1, 0, none⟩))] hE (fun a hE => ?_)
      refine aF 2 3 2 hE (fun a hE => ?_)
      obtain ⟨v976, hv977, hf⟩ := bind_some hf
      replace hv977 := Option.some.inj hv977
      refine at_op (op_store (v := .int .i64 ((2 : Int))) (c_T_inspeximusref03_Reader (v976) A4 c5) rfl rfl rfl rfl hE hS rfl rfl (by kernel_rfl) (by kernel_rfl) (by kernel_rfl) (by kernel_rfl) (by rw [← hv977]; kernel_rfl) (fun a w _ hE hS => ?_)) rfl
      have h978 : Sl (kdInt .u8) D0 A4 c5 (v976.fB) := by rw [← hv977]; exact h6
      refine at_end rfl ?_
      refine wpIn_seq ?_
      refine region_at ?_
      refine sN 1 1 [(2, .int .i64 ((0 : Int)))] hE (fun a hE => ?_)
      refine at_end rfl ?_
      refine wpIn_ret ?_
      obtain rfl := Option.some.inj hf
      replace hf := hs915
      obtain rfl := Option.some.inj hf
      repeat (with_reducible first | refine then_ret ?_ | refine block_ret ?_ | refine qx_ret ?_)
      refine ret_gen ([.int .i64 ((0 : Int))]) hE (by rw [show Tryd.f44.results.toList = [.tmp 2] from rfl]; exact ⟨_, _, rfl, rfl, rfl⟩) ?_
      exact ⟨_, rfl, D974, A4, c5, rfl, hS, (h978.mono (le2 le833 le975))⟩
     ·replace hf := cond_f hb hf
      clear hb
      refine wpIn_skip ?_
      refine wpIn_seq ?_
      refine region_at ?_
      refine sN 6 6 [(3, .int .i64 ((IntKind.wrap .i64 ((IntKind.wrap .i64 (y831.1 * (128 : Int))) + (Int.tmod (IntKind.wrap .i64 x953) 128)))))] hE (fun a hE => ?_)
      refine at_end rfl ?_
      refine wpIn_seq ?_
      refine region_at ?_
      refine sN 2 2 [(60, .bool ((decide ((IntKind.wrap .i64 x953) < (128 : Int)))))] hE (fun a hE => ?_)
      refine at_end rfl ?_
      refine cond_split hE (b := (decide ((IntKind.wrap .i64 x953) < (128 : Int)))) rfl (fun hb => ?_) (fun hb => ?_)
      ·replace hf := cond_t hb hf
       clear hb
       refine wpIn_seq ?_
       refine wpIn_seq ?_
       refine region_at ?_
       refine sN 2 2 [(62, .bool ((decide ((2147483647 : Int) < (IntKind.wrap .i64 ((IntKind.wrap .i64 (y831.1 * (128 : Int))) + (Int.tmod (IntKind.wrap .i64 x953) 128)))))))] hE (fun a hE => ?_)
       refine at_end rfl ?_
       refine cond_split hE (b := (decide ((2147483647 : Int) < (IntKind.wrap .i64 ((IntKind.wrap .i64 (y831.1 * (128 : Int))) + (Int.tmod (IntKind.wrap .i64 x953) 128)))))) rfl (fun hb => ?_) (fun hb => ?_)
       ·replace hf := cond_t hb hf
        clear hb
        refine wpIn_seq ?_
        refine region_at ?_
        refine sN 2 2 [(64, .pointer (some ⟨b1, 0, none⟩))] hE (fun a hE => ?_)
        refine aF 2 3 2 hE (fun a hE => ?_)
        obtain ⟨v982, hv983, hf⟩ := bind_some hf
        replace hv983 := Option.some.inj hv983
        refine at_op (op_store (v := .int .i64 ((2 : Int))) (c_T_inspeximusref03_Reader (v982) A4 c5) rfl rfl rfl rfl hE hS rfl rfl (by kernel_rfl) (by kernel_rfl) (by kernel_rfl) (by kernel_rfl) (by rw [← hv983]; kernel_rfl) (fun a w _ hE hS => ?_)) rfl
        have h984 : Sl (kdInt .u8) D0 A4 c5 (v982.fB) := by rw [← hv983]; exact h6
        refine at_end rfl ?_
        refine wpIn_seq ?_
        refine region_at ?_
        refine sN 1 1 [(2, .int .i64 ((0 : Int)))] hE (fun a hE => ?_)
        refine at_end rfl ?_
        refine wpIn_ret ?_
        obtain rfl := Option.some.inj hf
        replace hf := hs915
        obtain rfl := Option.some.inj hf
        repeat (with_reducible first | refine then_ret ?_ | refine block_ret ?_ | refine qx_ret ?_)
        refine ret_gen ([.int .i64 ((0 : Int))]) hE (by rw [show Tryd.f44.results.toList = [.tmp 2] from rfl]; exact ⟨_, _, rfl, rfl, rfl⟩) ?_
        exact ⟨_, rfl, D974, A4, c5, rfl, hS, (h984.mono (le2 le833 le975))⟩
       ·replace hf := cond_f hb hf
        clear hb
        refine wpIn_skip ?_
        refine wpIn_seq ?_
        refine region_at ?_
        refine sN 4 4 [(68, .int .i64 ((IntKind.wrap .i64 (y831.2 + (1 : Int))))), (69, .pointer (some ⟨b1, 0, none⟩))] hE (fun a hE => ?_)
        refine aF 1 3 1 hE (fun a hE => ?_)
        obtain ⟨v985, hv986, hf⟩ := bind_some hf
        replace hv986 := Option.some.inj hv986
        refine at_op (op_store (v := .int .i64 ((IntKind.wrap .i64 (y831.2 + (1 : Int))))) (c_T_inspeximusref03_Reader (v985) A4 c5) rfl rfl rfl rfl hE hS rfl rfl (by kernel_rfl) (by kernel_rfl) (by kernel_rfl) (by kernel_rfl) (by rw [← hv986]; kernel_rfl) (fun a w _ hE hS => ?_)) rfl
        have h987 : Sl (kdInt .u8) D0 A4 c5 (v985.fB) := by rw [← hv986]; exact h6
        refine at_end rfl ?_
        refine wpIn_seq ?_
        refine region_at ?_
        refine sN 2 2 [(2, .int .i64 ((IntKind.wrap .i64 ((IntKind.wrap .i64 (y831.1 * (128 : Int))) + (Int.tmod (IntKind.wrap .i64 x953) 128)))))] hE (fun a hE => ?_)
        refine at_end rfl ?_
        refine wpIn_ret ?_
        obtain rfl := Option.some.inj hf
        replace hf := hs915
        obtain rfl := Option.some.inj hf
        repeat (with_reducible first | refine then_ret ?_ | refine block_ret ?_ | refine qx_ret ?_)
        refine ret_gen ([.int .i64 ((IntKind.wrap .i64 ((IntKind.wrap .i64 (y831.1 * (128 : Int))) + (Int.tmod (IntKind.wrap .i64 x953) 128))))]) hE (by rw [show Tryd.f44.results.toList = [.tmp 2] from rfl]; exact ⟨_, _, rfl, rfl, rfl⟩) ?_
        exact ⟨_, rfl, D974, A4, c5, rfl, hS, (h987.mono (le2 le833 le975))⟩
      ·replace hf := cond_f hb hf
       clear hb
       refine wpIn_skip ?_
       refine region_at ?_
       refine sN 3 3 [(4, .int .i64 ((IntKind.wrap .i64 (y831.2 + (1 : Int)))))] hE (fun a hE => ?_)
       refine at_end rfl ?_
       exact ⟨((IntKind.wrap .i64 ((IntKind.wrap .i64 (y831.1 * (128 : Int))) + (Int.tmod (IntKind.wrap .i64 x953) 128))), (IntKind.wrap .i64 (y831.2 + (1 : Int)))), D974, hE.weak (by kernel_rfl), hS, (le2 le833 le975), hf⟩
   ·replace hf := cond_f hb hf
    clear hb
    refine wpIn_exit ?_
    obtain rfl := Option.some.inj hf
    exact ⟨(), D832, hE.weak (by kernel_rfl), hS, le833, rfl⟩
set_option maxRecDepth 100000 in
set_option maxHeartbeats 4000000 in
theorem inspeximusref03_Reader_Bytes.calls {K : Nat} {g w0 : World} {D0 : Snap} {x3 : Int} {x4 : T_inspeximusref03_Reader} {b1 : Nat} {A5 : Option Addr} {c6 : Nat} {r : ((List Int) × T_inspeximusref03_Reader)} (hf : inspeximusref03_Reader_Bytes.f K x3 x4 = some r) (hS0 : St g w0 D0 [bx b1 75 (c_T_inspeximusref03_Reader (x4) A5 c6)]) (h7 : Sl (kdInt .u8) D0 A5 c6 (x4.fB)) :
  CallsIn (Fw none) 0 Tryd.prog 33 (List.toArray [.pointer (some ⟨b1, 0, none⟩), .int .i64 (x3)]) w0 (fun e w' => ∃ v, e = .returned v ∧ ∃ (D1 : Snap) (A63 : Option Addr) (c64 : Nat) (q65 : Blk) (A68 : Option Addr) (c69 : Nat), v = .slice A63 (List.length (r.1)) c64 ∧ Stp g w0 D0 [bx b1 75 (c_T_inspeximusref03_Reader (x4) A5 c6)] w' D1 [bx b1 75 (c_T_inspeximusref03_Reader ((T_inspeximusref03_Reader.mk (r.2.fB) (r.2.fAt) (r.2.fBad))) A68 c69), q65] ∧ OwnD (kdInt .u8) 5 D1 A63 c64 (r.1) q65 ∧ Sl (kdInt .u8) D1 A68 c69 (r.2.fB)) := by
 unfold inspeximusref03_Reader_Bytes.f at hf
 have hS := Stp.refl hS0
 clear hS0
 refine calls_body (n := 60) Tryd.func33 rfl Tryd.ntmps33 rfl (fun a hE => ?_)
 have hE : Env a 60 [] [(0, .pointer (some ⟨b1, 0, none⟩)), (1, .int .i64 (x3))] := hE
 refine wpIn_seq ?_
 refine region_at ?_
 refine sN 1 1 [(4, .slice none 0 0)] hE (fun a hE => ?_)
 refine at_end rfl ?_
 refine wpIn_seq ?_
 refine region_at ?_
 refine sN 1 1 [(6, .pointer (some ⟨b1, 0, none⟩))] hE (fun a hE => ?_)
 obtain ⟨r71, h72, hf⟩ := bind_some hf
 refine aC rfl rfl rfl rfl hE rfl rfl rfl rfl (inspeximusref03_Reader_Num.calls (g := g) h72 (hS.st.fore (L := [bx b1 75 (c_T_inspeximusref03_Reader (x4) A5 c6)])) h7) (fun a v w hR hE => ?_)
 obtain ⟨D73, A75, c76, rfl, hS1, h77⟩ := hR
 have le78 := hS1.dle
 have hS := hS.callR hS1 rfl (.c .n)
 clear hS1
 refine sN 1 3 [(5, .int .i64 (r71.1))] hE (fun a hE => ?_)
 refine at_end rfl ?_
 refine wpIn_seq ?_
 refine wpIn_seq ?_
 refine region_at ?_
 refine sN 2 2 [(9, .pointer (some ⟨b1, 0, none⟩))] hE (fun a hE => ?_)
 refine aF 2 3 2 hE (fun a hE => ?_)
 refine aL 0 (.int .i64 (r71.2.fBad)) hE hS (fun a hE => ?_)
 refine sN 1 5 [(12, .bool ((!decide (r71.2.fBad = (0 : Int)))))] hE (fun a hE => ?_)
 refine at_end rfl ?_
 refine cond_split hE (b := (!decide (r71.2.fBad = (0 : Int)))) rfl (fun hb => ?_) (fun hb => ?_)
 ·replace hf := cond_t hb hf
  clear hb
  refine wpIn_seq ?_
  refine region_at ?_
  refine sN 1 1 [(4, .slice none 0 0)] hE (fun a hE => ?_)
  refine at_end rfl ?_
  refine wpIn_ret ?_
  have hS := hS.nils
  obtain rfl := Option.some.inj hf
  repeat (with_reducible first | refine then_ret ?_ | refine block_ret ?_ | refine qx_ret ?_)
  refine ret_gen ([.slice none 0 0]) hE (by rw [show Tryd.f33.results.toList = [.tmp 4] from rfl]; exact ⟨_, _, rfl, rfl, rfl⟩) ?_
  have hS := hS.pk (.c 1 rfl (.c 0 rfl .n)) rfl
  exact ⟨_, rfl, D73, none, 0, none, A75, c76, rfl, hS, (OwnD.nil (kdInt .u8) 5 D73), h77⟩
 ·replace hf := cond_f hb hf
  clear hb
  refine wpIn_skip ?_
  refine wpIn_seq ?_
  refine wpIn_seq ?_
  refine region_at ?_
  refine sN 3 3 [(15, .bool ((decide (x3 < r71.1))))] hE (fun a hE => ?_)
  refine at_end rfl ?_
  refine cond_split hE (b := (decide (x3 < r71.1))) rfl (fun hb => ?_) (fun hb => ?_)
  ·replace hf := cond_t hb hf
   clear hb
   refine wpIn_seq ?_
   refine region_at ?_
   refine sN 2 2 [(17, .pointer (some ⟨b1, 0, none⟩))] hE (fun a hE => ?_)
   refine aF 2 3 2 hE (fun a hE => ?_)
   obtain ⟨v83, hv84, hf⟩ := bind_some hf
   replace hv84 := Option.some.inj hv84
   refine at_op (op_store (v := .int .i64 ((4 : Int))) (c_T_inspeximusref03_Reader (v83) A75 c76) rfl rfl rfl rfl hE hS rfl rfl (by kernel_rfl) (by kernel_rfl) (by kernel_rfl) (by kernel_rfl) (by rw [← hv84]; kernel_rfl) (fun a w _ hE hS => ?_)) rfl
   have h85 : Sl (kdInt .u8) D73 A75 c76 (v83.fB) := by rw [← hv84]; exact h77
   refine at_end rfl ?_
   refine wpIn_seq ?_
   refine region_at ?_
   refine sN 1 1 [(4, .slice none 0 0)] hE (fun a hE => ?_)
   refine at_end rfl ?_
   refine wpIn_ret ?_
   have hS := hS.nils
   obtain rfl := Option.some.inj hf
   repeat (with_reducible first | refine then_ret ?_ | refine block_ret ?_ | refine qx_ret ?_)
   refine ret_gen ([.slice none 0 0]) hE (by rw [show Tryd.f33.results.toList = [.tmp 4] from rfl]; exact ⟨_, _, rfl, rfl, rfl⟩) ?_
   have hS := hS.pk (.c 1 rfl (.c 0 rfl .n)) rfl
   exact ⟨_, rfl, D73, none, 0, none, A75, c76, rfl, hS, (OwnD.nil (kdInt .u8) 5 D73), h85⟩
  ·replace hf := cond_f hb hf
   clear hb
   refine wpIn_skip ?_
   refine wpIn_seq ?_
   refine wpIn_seq ?_
   refine region_draw (fun j => Keeps (mfOf [] j)) (by kernel_rfl) ?_
   have hS := hS.drew
   first | generalize w.drew = w at hS ⊢ | generalize w0.drew = w at hS ⊢
   refine wP 0 1 11 (.int .i64 (r71.1)) hE (fun a hE => ?_)
   refine wP 1 3 10 (.pointer (some ⟨b1, 0, none⟩)) hE (fun a hE => ?_)
   refine wP 2 7 9 (.pointer (some ⟨b1, 0, none⟩)) hE (fun a hE => ?_)
   refine wP 6 71 8 (.pointer (some ⟨b1, 0, none⟩)) hE (fun a hE => ?_)
   refine wP 7 199 7 (.pointer (some ⟨b1, 0, none⟩)) hE (fun a hE => ?_)
   refine wF 3 207 6 0 33 0 hE (fun a hE => ?_)
   refine tT 4 223 (fuel := 5) (by kernel_rfl) hE (tk_load 0 (.slice A75 (List.length (r71.2.fB)) c76) rfl rfl rfl rfl hE rfl hS rfl rfl (by kernel_rfl) (kL (j := 0) hS rfl List.not_mem_nil) (fun a hE => ?_))
   refine wP 5 255 4 (.int .i64 (((List.length (r71.2.fB) : Nat) : Int))) hE (fun a hE => ?_)
   refine wF 8 511 3 1 3 1 hE (fun a hE => ?_)
   refine tT 9 1023 (fuel := 2) (by kernel_rfl) hE (tk_load 0 (.int .i64 (r71.2.fAt)) rfl rfl rfl rfl hE rfl hS rfl rfl (by kernel_rfl) (kL (j := 0) hS rfl List.not_mem_nil) (fun a hE => ?_))
   refine wP 10 2047 1 (.int .i64 ((IntKind.wrap .i64 (((List.length (r71.2.fB) : Nat) : Int) - r71.2.fAt)))) hE (fun a hE => ?_)
   refine wP 11 4095 0 (.bool ((decide ((IntKind.wrap .i64 (((List.length (r71.2.fB) : Nat) : Int) - r71.2.fAt)) < r71.1)))) hE (fun a hE => ?_)
   refine doneG (by kernel_rfl) ?_
   refine cond_split hE (b := (decide ((IntKind.wrap .i64 (((List.length (r71.2.fB) : Nat) : Int) - r71.2.fAt)) < r71.1))) rfl (fun hb => ?_) (fun hb => ?_)
   ·replace hf := cond_t hb hf
    clear hb
    refine wpIn_seq ?_
    refine region_at ?_
    refine sN 2 2 [(32, .pointer (some ⟨b1, 0, none⟩))] hE (fun a hE => ?_)
    refine aF 2 3 2 hE (fun a hE => ?_)
    obtain ⟨v90, hv91, hf⟩ := bind_some hf
    replace hv91 := Option.some.inj hv91
    refine at_op (op_store (v := .int .i64 ((3 : Int))) (c_T_inspeximusref03_Reader (v90) A75 c76) rfl rfl rfl rfl hE hS rfl rfl (by kernel_rfl) (by kernel_rfl) (by kernel_rfl) (by kernel_rfl) (by rw [← hv91]; kernel_rfl) (fun a w _ hE hS => ?_)) rfl
    have h92 : Sl (kdInt .u8) D73 A75 c76 (v90.fB) := by rw [← hv91]; exact h77
    refine at_end rfl ?_
    refine wpIn_seq ?_
    refine region_at ?_
    refine sN 1 1 [(4, .slice none 0 0)] hE (fun a hE => ?_)
    refine at_end rfl ?_
    refine wpIn_ret ?_
    have hS := hS.nils
    obtain rfl := Option.some.inj hf
    repeat (with_reducible first | refine then_ret ?_ | refine block_ret ?_ | refine qx_ret ?_)
    refine ret_gen ([.slice none 0 0]) hE (by rw [show Tryd.f33.results.toList = [.tmp 4] from rfl]; exact ⟨_, _, rfl, rfl, rfl⟩) ?_
    have hS := hS.pk (.c 1 rfl (.c 0 rfl .n)) rfl
    exact ⟨_, rfl, D73, none, 0, none, A75, c76, rfl, hS, (OwnD.nil (kdInt .u8) 5 D73), h92⟩
   ·replace hf := cond_f hb hf
    clear hb
    refine wpIn_skip ?_
    refine wpIn_seq ?_
    refine region_at ?_
    refine sN 3 3 [(34, .pointer (some ⟨b1, 0, none⟩)), (36, .pointer (some ⟨b1, 0, none⟩))] hE (fun a hE => ?_)
    refine aF 1 3 1 hE (fun a hE => ?_)
    refine aL 0 (.int .i64 (r71.2.fAt)) hE hS (fun a hE => ?_)
    refine sN 3 8 [(40, .int .i64 ((IntKind.wrap .i64 (r71.2.fAt + r71.1)))), (41, .pointer (some ⟨b1, 0, none⟩))] hE (fun a hE => ?_)
    refine aF 1 3 1 hE (fun a hE => ?_)
    obtain ⟨v94, hv95, hf⟩ := bind_some hf
    replace hv95 := Option.some.inj hv95
    refine at_op (op_store (v := .int .i64 ((IntKind.wrap .i64 (r71.2.fAt + r71.1)))) (c_T_inspeximusref03_Reader (v94) A75 c76) rfl rfl rfl rfl hE hS rfl rfl (by kernel_rfl) (by kernel_rfl) (by kernel_rfl) (by kernel_rfl) (by rw [← hv95]; kernel_rfl) (fun a w _ hE hS => ?_)) rfl
    have h96 : Sl (kdInt .u8) D73 A75 c76 (v94.fB) := by rw [← hv95]; exact h77
    refine at_end rfl ?_
    refine wpIn_seq ?_
    refine region_draw (fun j => RD D73 (plOf [] [b1] j)) (by kernel_rfl) ?_
    have hS := hS.drew
    first | generalize w.drew = w at hS ⊢ | generalize w0.drew = w at hS ⊢
    refine wP 1 2 17 (.pointer (some ⟨b1, 0, none⟩)) hE (fun a hE => ?_)
    refine wP 2 6 16 (.pointer (some ⟨b1, 0, none⟩)) hE (fun a hE => ?_)
    refine wP 5 38 15 (.pointer (some ⟨b1, 0, none⟩)) hE (fun a hE => ?_)
    refine wP 6 102 14 (.pointer (some ⟨b1, 0, none⟩)) hE (fun a hE => ?_)
    refine wP 9 614 13 (.int .i64 (r71.1)) hE (fun a hE => ?_)
    refine wP 11 2662 12 (.pointer (some ⟨b1, 0, none⟩)) hE (fun a hE => ?_)
    refine wP 12 6758 11 (.pointer (some ⟨b1, 0, none⟩)) hE (fun a hE => ?_)
    refine wF 3 6766 10 0 33 0 hE (fun a hE => ?_)
    refine tD 4 6782 (fuel := 9) (by kernel_rfl) hE (tk_load 0 (.slice A75 (List.length (v94.fB)) c76) rfl rfl rfl rfl hE rfl hS rfl rfl (by kernel_rfl) (fun _ h => h.1.at_ (List.Mem.head _)) (fun a hE => ?_))
    refine wF 7 6910 8 1 3 1 hE (fun a hE => ?_)
    refine tD 8 7166 (fuel := 7) (by kernel_rfl) hE (tk_load 0 (.int .i64 (v94.fAt)) rfl rfl rfl rfl hE rfl hS rfl rfl (by kernel_rfl) (fun _ h => h.1.at_ (List.Mem.head _)) (fun a hE => ?_))
    refine wP 10 8190 6 (.int .i64 ((IntKind.wrap .i64 (v94.fAt - r71.1)))) hE (fun a hE => ?_)
    refine wF 13 16382 5 1 3 1 hE (fun a hE => ?_)
    refine tD 14 32766 (fuel := 4) (by kernel_rfl) hE (tk_load 0 (.int .i64 (v94.fAt)) rfl rfl rfl rfl hE rfl hS rfl rfl (by kernel_rfl) (fun _ h => h.1.at_ (List.Mem.head _)) (fun a hE => ?_))
    obtain ⟨l113, h114, hf⟩ := bind_some hf
    refine tW 15 65534 (fuel := 3) (by kernel_rfl) hE (fun M => g_slice (K := (kdInt .u8)) (e := 5) (by_ := 1) (zl := 1) rfl rfl rfl rfl hE rfl rfl (by kernel_rfl) ⟨_, rfl⟩ ⟨_, rfl⟩ h96 h114 (fun a A115 c116 hE h117 => ?_))
    have hp_b1 := hS.heapAt (j := 0) rfl
    refine oG 0 65535 (fuel := 2) (by kernel_rfl) (op_buildSlice (K := (kdInt .u8)) (e := 5) (cs := []) ([] : List Int) rfl rfl rfl rfl hE rfl hS rfl (by kernel_rfl) rfl rfl (by exact (show RL (kdInt .u8) D73 ([] : List Int) ([]) from rfl)) (fun a A118 q119 w _ hE h120 hS => ?_))
    refine ⟨⟨show RP [b1] _ _ from ⟨(hS.heapAt (j := 1) rfl).trans hp_b1.symm, trivial⟩, fun _ => hS.st.sees⟩, ?_⟩
    clear hp_b1
    have hp_b1 := hS.heapAt (j := 1) rfl
    obtain ⟨l122, h123, hf⟩ := bind_some hf
    refine oG 16 131071 (fuel := 1) (by kernel_rfl) (g_append (K := (kdInt .u8)) (e := 5) (bytes := 1) (l := ([] : List Int)) (m := l113) rfl rfl rfl rfl hE rfl hS rfl rfl (by kernel_rfl) rfl rfl h120 h117 h123 (fun a A124 c125 q126 w _ hE h127 hS => ?_))
    refine ⟨⟨show RP [b1] _ _ from ⟨(hS.heapAt (j := 1) rfl).trans hp_b1.symm, trivial⟩, fun _ => hS.st.sees⟩, ?_⟩
    clear hp_b1
    refine wP 17 262143 0 (.slice A124 (List.length (l122)) c125) hE (fun a hE => ?_)
    refine doneG (by kernel_rfl) ?_
    refine wpIn_ret ?_
    obtain rfl := Option.some.inj hf
    repeat (with_reducible first | refine then_ret ?_ | refine block_ret ?_ | refine qx_ret ?_)
    refine ret_gen ([.slice A124 (List.length (l122)) c125]) hE (by rw [show Tryd.f33.results.toList = [.tmp 4] from rfl]; exact ⟨_, _, rfl, rfl, rfl⟩) ?_
    have hS := hS.pk (.c 1 rfl (.c 0 rfl .n)) rfl
    exact ⟨_, rfl, D73, A124, c125, q126, A75, c76, rfl, hS, h127, h96⟩
set_option maxRecDepth 100000 in
set_option maxHeartbeats 4000000 in
theorem inspeximusref02_Number.calls {K : Nat} {g w0 : World} {D0 : Snap} {x1 : Int} {x2 : Int} {r : ((List Int))} (hf : inspeximusref02_Number.f K x1 x2 = some r) (hS0 : St g w0 D0 []) :
  CallsIn (Fw none) 0 Tryd.prog 64 (List.toArray [.int .i64 (x1), .int .i64 (x2)]) w0 (fun e w' => ∃ v, e = .returned v ∧ ∃ (D1 : Snap) (A184 : Option Addr) (c185 : Nat) (q186 : Blk), v = .slice A184 (List.length (r)) c185 ∧ Stp g w0 D0 [] w' D1 [q186] ∧ OwnD (kdInt .u8) 5 D1 A184 c185 (r) q186) := by
 unfold inspeximusref02_Number.f at hf
 have hS := Stp.refl hS0
 clear hS0
 refine calls_body (n := 27) Tryd.func64 rfl Tryd.ntmps64 rfl (fun a hE => ?_)
 have hE : Env a 27 [] [(0, .int .i64 (x1)), (1, .int .i64 (x2))] := hE
 refine wpIn_seq ?_
 refine region_at ?_
 refine sN 1 1 [(4, .slice none 0 0)] hE (fun a hE => ?_)
 refine at_end rfl ?_
 refine wpIn_seq ?_
 refine region_at ?_
 refine sN 1 1 [(8, .int .i64 (x2))] hE (fun a hE => ?_)
 obtain ⟨l189, h190, hf⟩ := bind_some hf
 refine at_op (op_makeSlice (K := (kdInt .u8)) (e := 5) (bytes := 1) (z := (0 : Int)) (cz := [.int .u8 ((0 : Int))]) rfl rfl rfl rfl hE rfl hS rfl rfl (by kernel_rfl) (by kernel_rfl) rfl rfl rfl h190 (fun a A191 c192 q193 w _ hE h194 hS => ?_)) rfl
 refine sN 1 3 [(5, .slice A191 (List.length (l189)) c192)] hE (fun a hE => ?_)
 refine at_end rfl ?_
 refine wpIn_seq ?_
 refine region_at ?_
 refine sN 3 3 [(6, .int .u64 ((IntKind.wrap .u64 x1)))] hE (fun a hE => ?_)
 refine at_end rfl ?_
 refine wpIn_seq ?_
 refine wpIn_seq ?_
 refine region_at ?_
 refine sN 3 3 [(7, .int .i64 ((IntKind.wrap .i64 (x2 - (1 : Int)))))] hE (fun a hE => ?_)
 refine at_end rfl ?_
 obtain ⟨s354, hf, hs355⟩ := bind_some hf
 refine block_loop (fun a w => ∃ (z346 : (List Int)), ∃ (q351 : Blk), ∃ (D347 : Snap), Env a 27 [] [(5, .slice A191 (List.length (z346)) c192)] ∧ Stp g w0 D0 [] w D347 [q351] ∧ Snap.le D0 D347 ∧ OwnD (kdInt .u8) 5 D347 A191 c192 (z346) q351 ∧ z346 = s354) (fun k a w => ∃ (y316 : (List Int) × Int × Int), ∃ (q321 : Blk), ∃ (D317 : Snap), Env a 27 [] [(5, .slice A191 (List.length (y316.1)) c192), (6, .int .u64 (y316.2.1)), (7, .int .i64 (y316.2.2))] ∧ Stp g w0 D0 [] w D317 [q321] ∧ Snap.le D0 D317 ∧ OwnD (kdInt .u8) 5 D317 A191 c192 (y316.1) q321 ∧ inspeximusref02_Number_l1.l K k y316 = some s354) K ?_ ?_ ?_
 ·exact ⟨(l189, (IntKind.wrap .u64 x1), (IntKind.wrap .i64 (x2 - (1 : Int)))), q193, D0, hE.weak (by kernel_rfl), hS, Snap.le.refl _, h194, hf⟩
 ·clear hE hS hf
  rintro a w ⟨z346, q351, D347, hE, hS, le348, h352, rfl⟩
  have hf := hs355
  clear hs355
  refine wpIn_seq ?_
  refine region_at ?_
  refine sN 2 2 [(4, .slice A191 (List.length (z346)) c192)] hE (fun a hE => ?_)
  refine at_end rfl ?_
  refine wpIn_ret ?_
  obtain rfl := Option.some.inj hf
  repeat (with_reducible first | refine then_ret ?_ | refine block_ret ?_ | refine qx_ret ?_)
  refine ret_gen ([.slice A191 (List.length (z346)) c192]) hE (by rw [show Tryd.f64.results.toList = [.tmp 4] from rfl]; exact ⟨_, _, rfl, rfl, rfl⟩) ?_
  exact ⟨_, rfl, D347, A191, c192, q351, rfl, hS, h352⟩
 ·clear hE hS hf
  rintro k a w ⟨y316, q321, D317, hE, hS, le318, h322, hf⟩
  obtain ⟨k, rfl, hf⟩ := inspeximusref02_Number_l1.some hf
  refine ⟨k, rfl, ?_⟩
  unfold inspeximusref02_Number_l1.b at hf
  refine wpIn_seq ?_
  refine wpIn_seq ?_
  refine region_at ?_
  refine sN 2 2 [(15, .bool ((decide ((0 : Int) ≤ y316.2.2))))] hE (fun a hE => ?_)
  refine at_end rfl ?_
  refine cond_split hE (b := (decide ((0 : Int) ≤ y316.2.2))) rfl (fun hb => ?_) (fun hb => ?_)
  ·replace hf := cond_t hb hf
   clear hb
   refine wpIn_skip ?_
   refine wpIn_seq ?_
   refine wpIn_block ?_
   refine wpIn_seq ?_
   refine region_at ?_
   refine sN 5 5 [(18, .slice A191 (List.length (y316.1)) c192), (19, .int .i64 (y316.2.2)), (22, .int .u8 ((IntKind.wrap .u8 (Int.tmod y316.2.1 256))))] hE (fun a hE => ?_)
   obtain ⟨x363, h364, hf⟩ := bind_some hf
   refine at_op (op_tk hE (tk_indexO (K := (kdInt .u8)) (T := 5) (by_ := 1) (zl := 1) rfl rfl rfl rfl hE rfl rfl rfl (by kernel_rfl) h322 h364 (fun a b365 u366 hq hE => ?_))) rfl
   subst hq
   refine at_op (op_storeO (K := (kdInt .u8)) (T := 5) (l := y316.1) ((IntKind.wrap .u8 (Int.tmod y316.2.1 256))) rfl rfl rfl rfl hE hS h322 rfl rfl (inI_of h364) (rfl) (by kernel_rfl) (by kernel_rfl) (fun a u367 w _ hE h368 hS => ?_)) rfl
   have hE : Env a 27 [] [(5, .slice A191 (List.length ((List.set (y316.1) (Int.toNat (y316.2.2)) ((IntKind.wrap .u8 (Int.tmod y316.2.1 256)))))) c192), (6, .int .u64 (y316.2.1)), (7, .int .i64 (y316.2.2)), (15, .bool ((decide ((0 : Int) ≤ y316.2.2)))), (18, .slice A191 (List.length ((List.set (y316.1) (Int.toNat (y316.2.2)) ((IntKind.wrap .u8 (Int.tmod y316.2.1 256)))))) c192), (19, .int .i64 (y316.2.2)), (22, .int .u8 ((IntKind.wrap .u8 (Int.tmod y316.2.1 256)))), (23, .pointer (some ⟨b365, Int.toNat (y316.2.2) * 1, none⟩))] := by have h := hE.weak (E' := [(5, .slice A191 (List.length (y316.1)) c192), (6, .int .u64 (y316.2.1)), (7, .int .i64 (y316.2.2)), (15, .bool ((decide ((0 : Int) ≤ y316.2.2)))), (18, .slice A191 (List.length (y316.1)) c192), (19, .int .i64 (y316.2.2)), (22, .int .u8 ((IntKind.wrap .u8 (Int.tmod y316.2.1 256)))), (23, .pointer (some ⟨b365, Int.toNat (y316.2.2) * 1, none⟩))]) (by kernel_rfl); simpa only [List.length_set] using h
   refine at_end rfl ?_
   refine region_at ?_
   refine sN 3 3 [(6, .int .u64 ((IntKind.wrap .u64 (Int.tdiv y316.2.1 256))))] hE (fun a hE => ?_)
   refine at_end rfl ?_
   refine region_at ?_
   refine sN 3 3 [(7, .int .i64 ((IntKind.wrap .i64 (y316.2.2 - (1 : Int)))))] hE (fun a hE => ?_)
   refine at_end rfl ?_
   exact ⟨((List.set (y316.1) (Int.toNat (y316.2.2)) ((IntKind.wrap .u8 (Int.tmod y316.2.1 256)))), (IntKind.wrap .u64 (Int.tdiv y316.2.1 256)), (IntKind.wrap .i64 (y316.2.2 - (1 : Int)))), (some (b365, u367)), D317, hE.weak (by kernel_rfl), hS, le318, h368, hf⟩
  ·replace hf := cond_f hb hf
   clear hb
   refine wpIn_exit ?_
   obtain rfl := Option.some.inj hf
   exact ⟨y316.1, q321, D317, hE.weak (by kernel_rfl), hS, le318, h322, rfl⟩
set_option maxRecDepth 100000 in
set_option maxHeartbeats 4000000 in
theorem inspeximusref02_Text.calls {K : Nat} {g w0 : World} {D0 : Snap} {x1 : Int} {x2 : (List (List Int))} {A3 : Option Addr} {c4 : Nat} {r : ((List Int))} (hf : inspeximusref02_Text.f K x1 x2 = some r) (hS0 : St g w0 D0 []) (h5 : Sl (kdSlice (kdInt .u8)) D0 A3 c4 (x2)) :
  CallsIn (Fw none) 0 Tryd.prog 50 (List.toArray [.int .i64 (x1), .slice A3 (List.length (x2)) c4]) w0 (fun e w' => ∃ v, e = .returned v ∧ ∃ (D1 : Snap) (A808 : Option Addr) (c809 : Nat) (q810 : Blk), v = .slice A808 (List.length (r)) c809 ∧ Stp g w0 D0 [] w' D1 [q810] ∧ OwnD (kdInt .u8) 5 D1 A808 c809 (r) q810) := by
 unfold inspeximusref02_Text.f at hf
 have hS := Stp.refl hS0
 clear hS0
 refine calls_body (n := 31) Tryd.func50 rfl Tryd.ntmps50 rfl (fun a hE => ?_)
 have hE : Env a 31 [] [(0, .int .i64 (x1)), (1, .slice A3 (List.length (x2)) c4)] := hE
 refine wpIn_seq ?_
 refine region_at ?_
 refine sN 1 1 [(4, .slice none 0 0)] hE (fun a hE => ?_)
 refine at_end rfl ?_
 refine wpIn_seq ?_
 refine region_at ?_
 refine sN 2 2 [(8, .int .u8 ((IntKind.wrap .u8 x1)))] hE (fun a hE => ?_)
 refine at_op (op_buildSlice (K := (kdInt .u8)) (e := 5) (cs := [.int .u8 ((IntKind.wrap .u8 x1))] ++ []) ([(IntKind.wrap .u8 x1)] : List Int) rfl rfl rfl rfl hE rfl hS rfl (by kernel_rfl) rfl rfl (by exact (show RL (kdInt .u8) D0 ([(IntKind.wrap .u8 x1)] : List Int) ([.int .u8 ((IntKind.wrap .u8 x1))] ++ []) from ⟨_, _, rfl, rfl, rfl⟩)) (fun a A813 q814 w _ hE h815 hS => ?_)) rfl
 refine sN 1 4 [(5, .slice A813 (List.length (([(IntKind.wrap .u8 x1)] : List Int))) 1)] hE (fun a hE => ?_)
 refine at_end rfl ?_
 refine wpIn_seq ?_
 refine wpIn_seq ?_
 refine region_at ?_
 refine sN 1 1 [(6, .int .i64 ((0 : Int)))] hE (fun a hE => ?_)
 refine at_end rfl ?_
 obtain ⟨s1495, hf, hs1496⟩ := bind_some hf
 refine block_loop (fun a w => ∃ (z1487 : (List Int)), ∃ (A1490 : Option Addr), ∃ (c1491 : Nat), ∃ (q1492 : Blk), ∃ (D1488 : Snap), Env a 31 [] [(5, .slice A1490 (List.length (z1487)) c1491)] ∧ Stp g w0 D0 [] w D1488 [q1492] ∧ Snap.le D0 D1488 ∧ OwnD (kdInt .u8) 5 D1488 A1490 c1491 (z1487) q1492 ∧ z1487 = s1495) (fun k a w => ∃ (y1353 : (List Int) × Int), ∃ (A1356 : Option Addr), ∃ (c1357 : Nat), ∃ (q1358 : Blk), ∃ (D1354 : Snap), Env a 31 [] [(1, .slice A3 (List.length (x2)) c4), (5, .slice A1356 (List.length (y1353.1)) c1357), (6, .int .i64 (y1353.2))] ∧ Stp g w0 D0 [] w D1354 [q1358] ∧ Snap.le D0 D1354 ∧ OwnD (kdInt .u8) 5 D1354 A1356 c1357 (y1353.1) q1358 ∧ inspeximusref02_Text_l1.l K x2 k y1353 = some s1495) K ?_ ?_ ?_
 ·exact ⟨(([(IntKind.wrap .u8 x1)] : List Int), (0 : Int)), A813, 1, q814, D0, hE.weak (by kernel_rfl), hS, Snap.le.refl _, h815, hf⟩
 ·clear hE hS hf
  rintro a w ⟨z1487, A1490, c1491, q1492, D1488, hE, hS, le1489, h1493, rfl⟩
  have hf := hs1496
  clear hs1496
  refine wpIn_seq ?_
  refine region_at ?_
  refine sN 2 2 [(4, .slice A1490 (List.length (z1487)) c1491)] hE (fun a hE => ?_)
  refine at_end rfl ?_
  refine wpIn_ret ?_
  obtain rfl := Option.some.inj hf
  repeat (with_reducible first | refine then_ret ?_ | refine block_ret ?_ | refine qx_ret ?_)
  refine ret_gen ([.slice A1490 (List.length (z1487)) c1491]) hE (by rw [show Tryd.f50.results.toList = [.tmp 4] from rfl]; exact ⟨_, _, rfl, rfl, rfl⟩) ?_
  exact ⟨_, rfl, D1488, A1490, c1491, q1492, rfl, hS, h1493⟩
 ·clear hE hS hf
  rintro k a w ⟨y1353, A1356, c1357, q1358, D1354, hE, hS, le1355, h1359, hf⟩
  obtain ⟨k, rfl, hf⟩ := inspeximusref02_Text_l1.some _ hf
  refine ⟨k, rfl, ?_⟩
  unfold inspeximusref02_Text_l1.b at hf
  refine wpIn_seq ?_
  refine wpIn_seq ?_
  refine region_at ?_
  refine sN 4 4 [(13, .bool ((decide (y1353.2 < ((List.length (x2) : Nat) : Int)))))] hE (fun a hE => ?_)
  refine at_end rfl ?_
  refine cond_split hE (b := (decide (y1353.2 < ((List.length (x2) : Nat) : Int)))) rfl (fun hb => ?_) (fun hb => ?_)
  ·replace hf := cond_t hb hf
   clear hb
   refine wpIn_skip ?_
   refine wpIn_seq ?_
   refine wpIn_block ?_
   refine wpIn_seq ?_
   refine region_at ?_
   refine sN 3 3 [(16, .slice A1356 (List.length (y1353.1)) c1357), (17, .slice A3 (List.length (x2)) c4), (18, .int .i64 (y1353.2))] hE (fun a hE => ?_)
   obtain ⟨x1556, h1557, hf⟩ := bind_some hf
   refine at_op (op_tk hE (g_index (K := (kdSlice (kdInt .u8))) (e := 33) (by_ := 24) (zl := 1) rfl rfl rfl rfl hE rfl rfl rfl (by kernel_rfl) rfl (h5.mono le1355) h1557 (fun a b1558 o1559 hE h1560 => ?_))) rfl
   obtain ⟨cs1561, C1562, T1563, fr1564, hr1565, hb1566, hc1567⟩ := h1560
   obtain ⟨A1568, c1569, rfl, h1570⟩ := hr1565
   refine at_op (op_tk hE (tk_loadX (off0 := o1559) (off := 0) (c := [.slice A1568 (List.length (x1556)) c1569]) (.slice A1568 (List.length (x1556)) c1569) rfl rfl rfl rfl hE rfl hS rfl hb1566 hc1567 (by kernel_rfl) (by kernel_rfl) (kD hS dn_nil) (fun a hE => ?_))) rfl
   refine sN 1 6 [(21, .int .i64 (((List.length (x1556) : Nat) : Int)))] hE (fun a hE => ?_)
   obtain ⟨r1571, h1572, hf⟩ := bind_some hf
   refine aC rfl rfl rfl rfl hE rfl rfl rfl rfl (inspeximusref02_Number.calls (g := g) h1572 (hS.st.fore (L := [])) ) (fun a v w hR hE => ?_)
   obtain ⟨D1573, A1575, c1576, q1577, rfl, hS1, h1578⟩ := hR
   have le1580 := hS1.dle
   have hS := hS.callR hS1 rfl (.c .n)
   clear hS1
   obtain ⟨D1581, q1584, le1582, hS, h1585, h1583⟩ := hS.lent h1578
   have hS := hS.pk (.c 1 rfl (.c 0 rfl .n)) rfl
   obtain ⟨l1586, h1587, hf⟩ := bind_some hf
   refine at_op (g_append (K := (kdInt .u8)) (e := 5) (bytes := 1) (l := y1353.1) (m := r1571) rfl rfl rfl rfl hE rfl hS rfl rfl (by kernel_rfl) rfl rfl (h1359.mono (le2 le1580 le1582)) h1583 h1587 (fun a A1588 c1589 q1590 w _ hE h1591 hS => ?_)) rfl
   refine sN 1 9 [(5, .slice A1588 (List.length (l1586)) c1589)] hE (fun a hE => ?_)
   refine at_end rfl ?_
   refine region_at ?_
   refine sN 3 3 [(24, .slice A1588 (List.length (l1586)) c1589), (25, .slice A3 (List.length (x2)) c4), (26, .int .i64 (y1353.2))] hE (fun a hE => ?_)
   obtain ⟨x1593, h1594, hf⟩ := bind_some hf
   refine at_op (op_tk hE (g_index (K := (kdSlice (kdInt .u8))) (e := 33) (by_ := 24) (zl := 1) rfl rfl rfl rfl hE rfl rfl rfl (by kernel_rfl) rfl (h5.mono (le2 (le2 le1355 le1580) le1582)) h1594 (fun a b1595 o1596 hE h1597 => ?_))) rfl
   obtain ⟨cs1598, C1599, T1600, fr1601, hr1602, hb1603, hc1604⟩ := h1597
   obtain ⟨A1605, c1606, rfl, h1607⟩ := hr1602
   refine at_op (op_tk hE (tk_loadX (off0 := o1596) (off := 0) (c := [.slice A1605 (List.length (x1593)) c1606]) (.slice A1605 (List.length (x1593)) c1606) rfl rfl rfl rfl hE rfl hS rfl hb1603 hc1604 (by kernel_rfl) (by kernel_rfl) (kD hS dn_nil) (fun a hE => ?_))) rfl
   obtain ⟨l1608, h1609, hf⟩ := bind_some hf
   refine at_op (g_append (K := (kdInt .u8)) (e := 5) (bytes := 1) (l := l1586) (m := x1593) rfl rfl rfl rfl hE rfl hS rfl rfl (by kernel_rfl) rfl rfl h1591 h1607 h1609 (fun a A1610 c1611 q1612 w _ hE h1613 hS => ?_)) rfl
   refine sN 1 7 [(5, .slice A1610 (List.length (l1608)) c1611)] hE (fun a hE => ?_)
   refine at_end rfl ?_
   refine region_at ?_
   refine sN 3 3 [(6, .int .i64 ((IntKind.wrap .i64 (y1353.2 + (1 : Int)))))] hE (fun a hE => ?_)
   refine at_end rfl ?_
   have hS := hS.pk (.c 0 rfl .n) rfl
   exact ⟨(l1608, (IntKind.wrap .i64 (y1353.2 + (1 : Int)))), A1610, c1611, q1612, D1581, hE.weak (by kernel_rfl), hS, (le2 (le2 le1355 le1580) le1582), h1613, hf⟩
  ·replace hf := cond_f hb hf
   clear hb
   refine wpIn_exit ?_
   obtain rfl := Option.some.inj hf
   exact ⟨y1353.1, A1356, c1357, q1358, D1354, hE.weak (by kernel_rfl), hS, le1355, h1359, rfl⟩
set_option maxRecDepth 100000 in
set_option maxHeartbeats 4000000 in
theorem inspeximusref01_Fill.calls {K : Nat} {g w0 : World} {D0 : Snap} {x1 : Int} {r : ((List Int))} (hf : inspeximusref01_Fill.f K x1 = some r) (hS0 : St g w0 D0 []) :
  CallsIn (Fw none) 0 Tryd.prog 62 (List.toArray [.int .i64 (x1)]) w0 (fun e w' => ∃ v, e = .returned v ∧ ∃ (D1 : Snap) (A482 : Option Addr) (c483 : Nat) (q484 : Blk), v = .slice A482 (List.length (r)) c483 ∧ Stp g w0 D0 [] w' D1 [q484] ∧ OwnD (kdInt .u8) 5 D1 A482 c483 (r) q484) := by
 unfold inspeximusref01_Fill.f at hf
 have hS := Stp.refl hS0
 clear hS0
 refine calls_body (n := 37) Tryd.func62 rfl Tryd.ntmps62 rfl (fun a hE => ?_)
 have hE : Env a 37 [] [(0, .int .i64 (x1))] := hE
 refine wpIn_seq ?_
 refine region_at ?_
 refine sN 1 1 [(2, .slice none 0 0)] hE (fun a hE => ?_)
 refine at_end rfl ?_
 refine wpIn_seq ?_
 refine wpIn_seq ?_
 refine region_at ?_
 refine sN 2 2 [(8, .bool ((decide (x1 < (0 : Int)))))] hE (fun a hE => ?_)
 refine at_end rfl ?_
 refine cond_split hE (b := (decide (x1 < (0 : Int)))) rfl (fun hb => ?_) (fun hb => ?_)
 ·replace hf := cond_t hb hf
  clear hb
  refine wpIn_seq ?_
  refine region_at ?_
  refine sN 1 1 [(2, .slice none 0 0)] hE (fun a hE => ?_)
  refine at_end rfl ?_
  refine wpIn_ret ?_
  have hS := hS.nils
  obtain rfl := Option.some.inj hf
  repeat (with_reducible first | refine then_ret ?_ | refine block_ret ?_ | refine qx_ret ?_)
  refine ret_gen ([.slice none 0 0]) hE (by rw [show Tryd.f62.results.toList = [.tmp 2] from rfl]; exact ⟨_, _, rfl, rfl, rfl⟩) ?_
  exact ⟨_, rfl, D0, none, 0, none, rfl, hS, (OwnD.nil (kdInt .u8) 5 D0)⟩
 ·replace hf := cond_f hb hf
  clear hb
  refine wpIn_skip ?_
  refine wpIn_seq ?_
  refine region_at ?_
  refine at_op (op_buildSlice (K := (kdInt .u8)) (e := 5) (cs := [.int .u8 ((128 : Int))] ++ []) ([(128 : Int)] : List Int) rfl rfl rfl rfl hE rfl hS rfl (by kernel_rfl) rfl rfl (by exact (show RL (kdInt .u8) D0 ([(128 : Int)] : List Int) ([.int .u8 ((128 : Int))] ++ []) from ⟨_, _, rfl, rfl, rfl⟩)) (fun a A488 q489 w _ hE h490 hS => ?_)) rfl
  refine sN 1 2 [(3, .slice A488 (List.length (([(128 : Int)] : List Int))) 1)] hE (fun a hE => ?_)
  refine at_end rfl ?_
  refine wpIn_seq ?_
  obtain ⟨s660, hf, hs661⟩ := bind_some hf
  refine block_loop (fun a w => ∃ (z652 : (List Int)), ∃ (A655 : Option Addr), ∃ (c656 : Nat), ∃ (q657 : Blk), ∃ (D653 : Snap), Env a 37 [] [(0, .int .i64 (x1)), (3, .slice A655 (List.length (z652)) c656)] ∧ Stp g w0 D0 [] w D653 [q657] ∧ Snap.le D0 D653 ∧ OwnD (kdInt .u8) 5 D653 A655 c656 (z652) q657 ∧ z652 = s660) (fun k a w => ∃ (y620 : (List Int)), ∃ (A623 : Option Addr), ∃ (c624 : Nat), ∃ (q625 : Blk), ∃ (D621 : Snap), Env a 37 [] [(0, .int .i64 (x1)), (3, .slice A623 (List.length (y620)) c624)] ∧ Stp g w0 D0 [] w D621 [q625] ∧ Snap.le D0 D621 ∧ OwnD (kdInt .u8) 5 D621 A623 c624 (y620) q625 ∧ inspeximusref01_Fill_l1.l K x1 k y620 = some s660) K ?_ ?_ ?_
  ·exact ⟨([(128 : Int)] : List Int), A488, 1, q489, D0, hE.weak (by kernel_rfl), hS, Snap.le.refl _, h490, hf⟩
  ·clear hE hS hf
   rintro a w ⟨z652, A655, c656, q657, D653, hE, hS, le654, h658, rfl⟩
   have hf := hs661
   clear hs661
   refine wpIn_seq ?_
   refine region_at ?_
   refine sN 4 4 [(4, .int .u64 ((IntKind.wrap .u64 ((IntKind.wrap .u64 x1) * (8 : Int)))))] hE (fun a hE => ?_)
   refine at_end rfl ?_
   refine wpIn_seq ?_
   refine region_at ?_
   refine sN 1 1 [(5, .int .u64 ((72057594037927936 : Int)))] hE (fun a hE => ?_)
   refine at_end rfl ?_
   refine wpIn_seq ?_
   refine wpIn_seq ?_
   refine region_at ?_
   refine sN 1 1 [(6, .int .i64 ((0 : Int)))] hE (fun a hE => ?_)
   refine at_end rfl ?_
   obtain ⟨s932, hf, hs933⟩ := bind_some hf
   refine block_loop (fun a w => ∃ (z924 : (List Int)), ∃ (A927 : Option Addr), ∃ (c928 : Nat), ∃ (q929 : Blk), ∃ (D925 : Snap), Env a 37 [] [(3, .slice A927 (List.length (z924)) c928)] ∧ Stp g w0 D0 [] w D925 [q929] ∧ Snap.le D653 D925 ∧ OwnD (kdInt .u8) 5 D925 A927 c928 (z924) q929 ∧ z924 = s932) (fun k a w => ∃ (y874 : (List Int) × Int × Int), ∃ (A877 : Option Addr), ∃ (c878 : Nat), ∃ (q879 : Blk), ∃ (D875 : Snap), Env a 37 [] [(3, .slice A877 (List.length (y874.1)) c878), (4, .int .u64 ((IntKind.wrap .u64 ((IntKind.wrap .u64 x1) * (8 : Int))))), (5, .int .u64 (y874.2.1)), (6, .int .i64 (y874.2.2))] ∧ Stp g w0 D0 [] w D875 [q879] ∧ Snap.le D653 D875 ∧ OwnD (kdInt .u8) 5 D875 A877 c878 (y874.1) q879 ∧ inspeximusref01_Fill_l2.l K x1 k y874 = some s932) K ?_ ?_ ?_
   ·exact ⟨(z652, (72057594037927936 : Int), (0 : Int)), A655, c656, q657, D653, hE.weak (by kernel_rfl), hS, Snap.le.refl _, h658, hf⟩
   ·clear hE hS hf
    rintro a w ⟨z924, A927, c928, q929, D925, hE, hS, le926, h930, rfl⟩
    have hf := hs933
    clear hs933
    refine wpIn_seq ?_
    refine region_at ?_
    refine sN 2 2 [(2, .slice A927 (List.length (z924)) c928)] hE (fun a hE => ?_)
    refine at_end rfl ?_
    refine wpIn_ret ?_
    obtain rfl := Option.some.inj hf
    repeat (with_reducible first | refine then_ret ?_ | refine block_ret ?_ | refine qx_ret ?_)
    refine ret_gen ([.slice A927 (List.length (z924)) c928]) hE (by rw [show Tryd.f62.results.toList = [.tmp 2] from rfl]; exact ⟨_, _, rfl, rfl, rfl⟩) ?_
    exact ⟨_, rfl, D925, A927, c928, q929, rfl, hS, h930⟩
   ·clear hE hS hf
    rintro k a w ⟨y874, A877, c878, q879, D875, hE, hS, le876, h880, hf⟩
    obtain ⟨k, rfl, hf⟩ := inspeximusref01_Fill_l2.some _ hf
    refine ⟨k, rfl, ?_⟩
    unfold inspeximusref01_Fill_l2.b at hf
    refine wpIn_seq ?_
    refine wpIn_seq ?_
    refine region_at ?_
    refine sN 2 2 [(23, .bool ((decide (y874.2.2 < (8 : Int)))))] hE (fun a hE => ?_)
    refine at_end rfl ?_
    refine cond_split hE (b := (decide (y874.2.2 < (8 : Int)))) rfl (fun hb => ?_) (fun hb => ?_)
    ·replace hf := cond_t hb hf
     clear hb
     refine wpIn_skip ?_
     refine wpIn_seq ?_
     refine wpIn_block ?_
     refine wpIn_seq ?_
     refine region_at ?_
     refine sN 3 3 [(26, .slice A877 (List.length (y874.1)) c878), (27, .int .u64 ((IntKind.wrap .u64 ((IntKind.wrap .u64 x1) * (8 : Int))))), (28, .int .u64 (y874.2.1))] hE (fun a hE => ?_)
     obtain ⟨hq951, hf⟩ := chk_not hf
     refine at_op (op_tk hE (tk_bin (r := .int .u64 ((IntKind.wrap .u64 (Int.tdiv (IntKind.wrap .u64 ((IntKind.wrap .u64 x1) * (8 : Int))) y874.2.1)))) rfl rfl rfl rfl hE rfl rfl rfl (quo_run hq951) (fun a hE => ?_))) rfl
     refine sN 2 6 [(31, .int .u8 ((IntKind.wrap .u8 (Int.tmod (IntKind.wrap .u64 (Int.tdiv (IntKind.wrap .u64 ((IntKind.wrap .u64 x1) * (8 : Int))) y874.2.1)) 256))))] hE (fun a hE => ?_)
     refine at_op (op_buildSlice (K := (kdInt .u8)) (e := 5) (cs := [.int .u8 ((IntKind.wrap .u8 (Int.tmod (IntKind.wrap .u64 (Int.tdiv (IntKind.wrap .u64 ((IntKind.wrap .u64 x1) * (8 : Int))) y874.2.1)) 256)))] ++ []) ([(IntKind.wrap .u8 (Int.tmod (IntKind.wrap .u64 (Int.tdiv (IntKind.wrap .u64 ((IntKind.wrap .u64 x1) * (8 : Int))) y874.2.1)) 256))] : List Int) rfl rfl rfl rfl hE rfl hS rfl (by kernel_rfl) rfl rfl (by exact (show RL (kdInt .u8) D875 ([(IntKind.wrap .u8 (Int.tmod (IntKind.wrap .u64 (Int.tdiv (IntKind.wrap .u64 ((IntKind.wrap .u64 x1) * (8 : Int))) y874.2.1)) 256))] : List Int) ([.int .u8 ((IntKind.wrap .u8 (Int.tmod (IntKind.wrap .u64 (Int.tdiv (IntKind.wrap .u64 ((IntKind.wrap .u64 x1) * (8 : Int))) y874.2.1)) 256)))] ++ []) from ⟨_, _, rfl, rfl, rfl⟩)) (fun a A952 q953 w _ hE h954 hS => ?_)) rfl
     obtain ⟨D956, q959, le957, hS, h960, h958⟩ := hS.lent h954
     have hS := hS.pk (.c 1 rfl (.c 0 rfl .n)) rfl
     obtain ⟨l961, h962, hf⟩ := bind_some hf
     refine at_op (g_append (K := (kdInt .u8)) (e := 5) (bytes := 1) (l := y874.1) (m := ([(IntKind.wrap .u8 (Int.tmod (IntKind.wrap .u64 (Int.tdiv (IntKind.wrap .u64 ((IntKind.wrap .u64 x1) * (8 : Int))) y874.2.1)) 256))] : List Int)) rfl rfl rfl rfl hE rfl hS rfl rfl (by kernel_rfl) rfl rfl (h880.mono le957) h958 h962 (fun a A963 c964 q965 w _ hE h966 hS => ?_)) rfl
     refine sN 1 9 [(3, .slice A963 (List.length (l961)) c964)] hE (fun a hE => ?_)
     refine at_end rfl ?_
     refine region_at ?_
     refine sN 3 3 [(5, .int .u64 ((IntKind.wrap .u64 (Int.tdiv y874.2.1 256))))] hE (fun a hE => ?_)
     refine at_end rfl ?_
     refine region_at ?_
     refine sN 3 3 [(6, .int .i64 ((IntKind.wrap .i64 (y874.2.2 + (1 : Int)))))] hE (fun a hE => ?_)
     refine at_end rfl ?_
     have hS := hS.pk (.c 0 rfl .n) rfl
     exact ⟨(l961, (IntKind.wrap .u64 (Int.tdiv y874.2.1 256)), (IntKind.wrap .i64 (y874.2.2 + (1 : Int)))), A963, c964, q965, D956, hE.weak (by kernel_rfl), hS, (le2 le876 le957), h966, hf⟩
    ·replace hf := cond_f hb hf
     clear hb
     refine wpIn_exit ?_
     obtain rfl := Option.some.inj hf
     exact ⟨y874.1, A877, c878, q879, D875, hE.weak (by kernel_rfl), hS, le876, h880, rfl⟩
  ·clear hE hS hf
   rintro k a w ⟨y620, A623, c624, q625, D621, hE, hS, le622, h626, hf⟩
   obtain ⟨k, rfl, hf⟩ := inspeximusref01_Fill_l1.some _ hf
   refine ⟨k, rfl, ?_⟩
   unfold inspeximusref01_Fill_l1.b at hf
   refine wpIn_seq ?_
   refine wpIn_seq ?_
   refine region_at ?_
   refine sN 6 6 [(15, .bool ((!decide ((Int.tmod (IntKind.wrap .i64 (x1 + ((List.length (y620) : Nat) : Int))) 64) = (56 : Int)))))] hE (fun a hE => ?_)
   refine at_end rfl ?_
   refine cond_split hE (b := (!decide ((Int.tmod (IntKind.wrap .i64 (x1 + ((List.length (y620) : Nat) : Int))) 64) = (56 : Int)))) rfl (fun hb => ?_) (fun hb => ?_)
   ·replace hf := cond_t hb hf
    clear hb
    refine wpIn_skip ?_
    refine wpIn_block ?_
    refine region_at ?_
    refine sN 1 1 [(16, .slice A623 (List.length (y620)) c624)] hE (fun a hE => ?_)
    refine at_op (op_buildSlice (K := (kdInt .u8)) (e := 5) (cs := [.int .u8 ((0 : Int))] ++ []) ([(0 : Int)] : List Int) rfl rfl rfl rfl hE rfl hS rfl (by kernel_rfl) rfl rfl (by exact (show RL (kdInt .u8) D621 ([(0 : Int)] : List Int) ([.int .u8 ((0 : Int))] ++ []) from ⟨_, _, rfl, rfl, rfl⟩)) (fun a A662 q663 w _ hE h664 hS => ?_)) rfl
    obtain ⟨D666, q669, le667, hS, h670, h668⟩ := hS.lent h664
    have hS := hS.pk (.c 1 rfl (.c 0 rfl .n)) rfl
    obtain ⟨l671, h672, hf⟩ := bind_some hf
    refine at_op (g_append (K := (kdInt .u8)) (e := 5) (bytes := 1) (l := y620) (m := ([(0 : Int)] : List Int)) rfl rfl rfl rfl hE rfl hS rfl rfl (by kernel_rfl) rfl rfl (h626.mono le667) h668 h672 (fun a A673 c674 q675 w _ hE h676 hS => ?_)) rfl
    refine sN 1 4 [(3, .slice A673 (List.length (l671)) c674)] hE (fun a hE => ?_)
    refine at_end rfl ?_
    have hS := hS.pk (.c 0 rfl .n) rfl
    exact ⟨l671, A673, c674, q675, D666, hE.weak (by kernel_rfl), hS, (le2 le622 le667), h676, hf⟩
   ·replace hf := cond_f hb hf
    clear hb
    refine wpIn_exit ?_
    obtain rfl := Option.some.inj hf
    exact ⟨y620, A623, c624, q625, D621, hE.weak (by kernel_rfl), hS, le622, h626, rfl⟩
set_option maxRecDepth 100000 in
set_option maxHeartbeats 4000000 in
theorem inspeximusref01_right.calls {K : Nat} {g w0 : World} {D0 : Snap} {x1 : Int} {x2 : Int} {r : (Int)} (hf : inspeximusref01_right.f K x1 x2 = some r) (hS0 : St g w0 D0 []) :
  CallsIn (Fw none) 0 Tryd.prog 74 (List.toArray [.int .u64 (x1), .int .i64 (x2)]) w0 (fun e w' => ∃ v, e = .returned v ∧ ∃ (D1 : Snap), v = .int .u64 (r) ∧ Stp g w0 D0 [] w' D1 []) := by
 unfold inspeximusref01_right.f at hf
 have hS := Stp.refl hS0
 clear hS0
 refine calls_body (n := 16) Tryd.func74 rfl Tryd.ntmps74 rfl (fun a hE => ?_)
 have hE : Env a 16 [] [(0, .int .u64 (x1)), (1, .int .i64 (x2))] := hE
 refine wpIn_seq ?_
 refine region_at ?_
 refine sN 1 1 [(4, .int .u64 ((0 : Int)))] hE (fun a hE => ?_)
 refine at_end rfl ?_
 refine wpIn_seq ?_
 refine region_at ?_
 refine sN 3 3 [(5, .int .u64 (x1)), (7, .int .u64 ((IntKind.wrap .u64 x2)))] hE (fun a hE => ?_)
 obtain ⟨hq5, hf⟩ := chk_not hf
 refine at_op (op_tk hE (tk_bin (r := .int .u64 ((Int.fdiv x1 (2 ^ (min (Int.toNat (IntKind.wrap .u64 x2)) 64))))) rfl rfl rfl rfl hE rfl rfl rfl (shr_run hq5) (fun a hE => ?_))) rfl
 refine sN 4 8 [(9, .int .u64 (x1)), (12, .int .u64 ((IntKind.wrap .u64 (IntKind.wrap .i64 ((32 : Int) - x2)))))] hE (fun a hE => ?_)
 obtain ⟨hq6, hf⟩ := chk_not hf
 refine at_op (op_tk hE (tk_bin (r := .int .u64 ((IntKind.wrap .u64 (x1 * 2 ^ (min (Int.toNat (IntKind.wrap .u64 (IntKind.wrap .i64 ((32 : Int) - x2)))) 64))))) rfl rfl rfl rfl hE rfl rfl rfl (shl_run hq6) (fun a hE => ?_))) rfl
 refine sN 3 12 [(4, .int .u64 ((Int.tmod (bor .u64 (Int.fdiv x1 (2 ^ (min (Int.toNat (IntKind.wrap .u64 x2)) 64))) (IntKind.wrap .u64 (x1 * 2 ^ (min (Int.toNat (IntKind.wrap .u64 (IntKind.wrap .i64 ((32 : Int) - x2)))) 64)))) 4294967296)))] hE (fun a hE => ?_)
 refine at_end rfl ?_
 refine wpIn_ret ?_
 obtain rfl := Option.some.inj hf
 repeat (with_reducible first | refine then_ret ?_ | refine block_ret ?_ | refine qx_ret ?_)
 refine ret_gen ([.int .u64 ((Int.tmod (bor .u64 (Int.fdiv x1 (2 ^ (min (Int.toNat (IntKind.wrap .u64 x2)) 64))) (IntKind.wrap .u64 (x1 * 2 ^ (min (Int.toNat (IntKind.wrap .u64 (IntKind.wrap .i64 ((32 : Int) - x2)))) 64)))) 4294967296))]) hE (by rw [show Tryd.f74.results.toList = [.tmp 4] from rfl]; exact ⟨_, _, rfl, rfl, rfl⟩) ?_
 exact ⟨_, rfl, D0, rfl, hS⟩
set_option maxRecDepth 100000 in
set_option maxHeartbeats 4000000 in
theorem inspeximusref01_shift.calls {K : Nat} {g w0 : World} {D0 : Snap} {x1 : Int} {x2 : Int} {r : (Int)} (hf : inspeximusref01_shift.f K x1 x2 = some r) (hS0 : St g w0 D0 []) :
  CallsIn (Fw none) 0 Tryd.prog 75 (List.toArray [.int .u64 (x1), .int .i64 (x2)]) w0 (fun e w' => ∃ v, e = .returned v ∧ ∃ (D1 : Snap), v = .int .u64 (r) ∧ Stp g w0 D0 [] w' D1 []) := by
 unfold inspeximusref01_shift.f at hf
 have hS := Stp.refl hS0
 clear hS0
 refine calls_body (n := 9) Tryd.func75 rfl Tryd.ntmps75 rfl (fun a hE => ?_)
 have hE : Env a 9 [] [(0, .int .u64 (x1)), (1, .int .i64 (x2))] := hE
 refine wpIn_seq ?_
 refine region_at ?_
 refine sN 1 1 [(4, .int .u64 ((0 : Int)))] hE (fun a hE => ?_)
 refine at_end rfl ?_
 refine wpIn_seq ?_
 refine region_at ?_
 refine sN 3 3 [(5, .int .u64 (x1)), (7, .int .u64 ((IntKind.wrap .u64 x2)))] hE (fun a hE => ?_)
 obtain ⟨hq4, hf⟩ := chk_not hf
 refine at_op (op_tk hE (tk_bin (r := .int .u64 ((Int.fdiv x1 (2 ^ (min (Int.toNat (IntKind.wrap .u64 x2)) 64))))) rfl rfl rfl rfl hE rfl rfl rfl (shr_run hq4) (fun a hE => ?_))) rfl
 refine sN 1 5 [(4, .int .u64 ((Int.fdiv x1 (2 ^ (min (Int.toNat (IntKind.wrap .u64 x2)) 64)))))] hE (fun a hE => ?_)
 refine at_end rfl ?_
 refine wpIn_ret ?_
 obtain rfl := Option.some.inj hf
 repeat (with_reducible first | refine then_ret ?_ | refine block_ret ?_ | refine qx_ret ?_)
 refine ret_gen ([.int .u64 ((Int.fdiv x1 (2 ^ (min (Int.toNat (IntKind.wrap .u64 x2)) 64))))]) hE (by rw [show Tryd.f75.results.toList = [.tmp 4] from rfl]; exact ⟨_, _, rfl, rfl, rfl⟩) ?_
 exact ⟨_, rfl, D0, rfl, hS⟩
set_option maxRecDepth 100000 in
set_option maxHeartbeats 4000000 in
theorem inspeximusref01_Turn.calls {K : Nat} {g w0 : World} {D0 : Snap} {x1 : (Vector Int 8)} {x2 : (List Int)} {A3 : Option Addr} {c4 : Nat} {r : ((Vector Int 8))} (hf : inspeximusref01_Turn.f K x1 x2 = some r) (hS0 : St g w0 D0 []) (h5 : Sl (kdInt .u8) D0 A3 c4 (x2)) (hG1 : Cell (kdArr .u32 64) D0 1 0 gl_K) :
  CallsIn (Fw none) 0 Tryd.prog 63 (List.toArray [.agg (List.toArray (acells .u32 8 (x1))), .slice A3 (List.length (x2)) c4]) w0 (fun e w' => ∃ v, e = .returned v ∧ ∃ (D1 : Snap), v = .agg (List.toArray (acells .u32 8 (r))) ∧ Stp g w0 D0 [] w' D1 []) := by
 unfold inspeximusref01_Turn.f at hf
 have hS := Stp.refl hS0
 clear hS0
 refine calls_body (n := 218) Tryd.func63 rfl Tryd.ntmps63 rfl (fun a hE => ?_)
 have hE : Env a 218 [] [(0, .agg (List.toArray (acells .u32 8 (x1)))), (1, .slice A3 (List.length (x2)) c4)] := hE
 refine wpIn_seq ?_
 refine region_at ?_
 refine at_op (op_box rfl rfl rfl rfl hE rfl hS rfl (fun a b4392 w _ hE hS => ?_)) rfl
 refine at_op (op_alloc (z := .agg (List.toArray (acells .u32 8 ((Vector.replicate 8 (0 : Int)))))) rfl rfl rfl rfl hE rfl hS (by kernel_rfl) (fun a b4394 w _ hE hS => ?_)) rfl
 refine at_end rfl ?_
 refine wpIn_seq ?_
 refine wpIn_seq ?_
 refine region_at ?_
 refine sN 3 3 [(21, .bool ((!decide (((List.length (x2) : Nat) : Int) = (64 : Int)))))] hE (fun a hE => ?_)
 refine at_end rfl ?_
 refine cond_split hE (b := (!decide (((List.length (x2) : Nat) : Int) = (64 : Int)))) rfl (fun hb => ?_) (fun hb => ?_)
 ·replace hf := cond_t hb hf
  clear hb
  refine wpIn_seq ?_
  refine region_at ?_
  refine aL 1 (.agg (List.toArray (acells .u32 8 (x1)))) hE hS (fun a hE => ?_)
  refine at_op (op_store (v := .agg (List.toArray (acells .u32 8 (x1)))) (acells .u32 8 (x1)) rfl rfl rfl rfl hE hS rfl rfl (by kernel_rfl) (by kernel_rfl) (by kernel_rfl) (by kernel_rfl) (by kernel_rfl) (fun a w _ hE hS => ?_)) rfl
  refine at_end rfl ?_
  refine wpIn_ret ?_
  obtain rfl := Option.some.inj hf
  repeat (with_reducible first | refine then_ret ?_ | refine block_ret ?_ | refine qx_ret ?_)
  refine ret_gen ([.agg (List.toArray (acells .u32 8 (x1)))]) hE (by rw [show Tryd.f63.results.toList = [.cell 4 98] from rfl]; exact ⟨_, _, _, 0, _, _, rfl, rfl, hS.heapAt (j := 0) rfl, by kernel_rfl, rfl⟩) ?_
  have hS := hS.pk .n rfl
  exact ⟨_, rfl, D0, rfl, hS⟩
 ·replace hf := cond_f hb hf
  clear hb
  refine wpIn_skip ?_
  refine wpIn_seq ?_
  refine region_at ?_
  refine at_op (op_alloc (z := .agg (List.toArray (acells .u64 64 ((Vector.replicate 64 (0 : Int)))))) rfl rfl rfl rfl hE rfl hS (by kernel_rfl) (fun a b4396 w _ hE hS => ?_)) rfl
  refine at_end rfl ?_
  refine wpIn_seq ?_
  refine wpIn_seq ?_
  refine region_at ?_
  refine sN 1 1 [(6, .int .i64 ((0 : Int)))] hE (fun a hE => ?_)
  refine at_end rfl ?_
  obtain ⟨s7217, hf, hs7218⟩ := bind_some hf
  have hS := hS.pk (.c 2 rfl (.c 1 rfl (.c 0 rfl .n))) rfl
  refine block_loop (fun a w => ∃ (z7214 : (Vector Int 64)), ∃ (D7215 : Snap), Env a 218 [] [(2, .pointer (some ⟨b4392, 0, none⟩)), (4, .pointer (some ⟨b4394, 0, none⟩)), (5, .pointer (some ⟨b4396, 0, none⟩))] ∧ Stp g w0 D0 [] w D7215 [bx b4392 98 (acells .u32 8 (x1)), bx b4394 98 (acells .u32 8 ((Vector.replicate 8 (0 : Int)))), bx b4396 111 (acells .u64 64 (z7214))] ∧ Snap.le D0 D7215 ∧ z7214 = s7217) (fun k a w => ∃ (y6647 : Int × (Vector Int 64)), ∃ (D6648 : Snap), Env a 218 [] [(1, .slice A3 (List.length (x2)) c4), (2, .pointer (some ⟨b4392, 0, none⟩)), (4, .pointer (some ⟨b4394, 0, none⟩)), (5, .pointer (some ⟨b4396, 0, none⟩)), (6, .int .i64 (y6647.1))] ∧ Stp g w0 D0 [] w D6648 [bx b4392 98 (acells .u32 8 (x1)), bx b4394 98 (acells .u32 8 ((Vector.replicate 8 (0 : Int)))), bx b4396 111 (acells .u64 64 (y6647.2))] ∧ Snap.le D0 D6648 ∧ inspeximusref01_Turn_l1.l K x2 k y6647 = some s7217) K ?_ ?_ ?_
  ·exact ⟨((0 : Int), (Vector.replicate 64 (0 : Int))), D0, hE.weak (by kernel_rfl), hS, Snap.le.refl _, hf⟩
  ·clear hE hS hf
   rintro a w ⟨z7214, D7215, hE, hS, le7216, rfl⟩
   have hf := hs7218
   clear hs7218
   refine wpIn_seq ?_
   refine region_at ?_
   refine at_op (op_alloc (z := .agg (List.toArray (acells .u64 8 ((Vector.replicate 8 (0 : Int)))))) rfl rfl rfl rfl hE rfl hS (by kernel_rfl) (fun a b7780 w _ hE hS => ?_)) rfl
   refine at_end rfl ?_
   refine wpIn_seq ?_
   refine wpIn_seq ?_
   refine region_at ?_
   refine sN 1 1 [(10, .int .i64 ((0 : Int)))] hE (fun a hE => ?_)
   refine at_end rfl ?_
   obtain ⟨s7852, hf, hs7853⟩ := bind_some hf
   have hS := hS.pk (.c 1 rfl (.c 2 rfl (.c 3 rfl (.c 0 rfl .n)))) rfl
   refine block_loop (fun a w => ∃ (z7849 : (Vector Int 8)), ∃ (D7850 : Snap), Env a 218 [] [(2, .pointer (some ⟨b4392, 0, none⟩)), (4, .pointer (some ⟨b4394, 0, none⟩)), (5, .pointer (some ⟨b4396, 0, none⟩)), (9, .pointer (some ⟨b7780, 0, none⟩))] ∧ Stp g w0 D0 [] w D7850 [bx b4392 98 (acells .u32 8 (x1)), bx b4394 98 (acells .u32 8 ((Vector.replicate 8 (0 : Int)))), bx b4396 111 (acells .u64 64 (z7214)), bx b7780 113 (acells .u64 8 (z7849))] ∧ Snap.le D7215 D7850 ∧ z7849 = s7852) (fun k a w => ∃ (y7835 : Int × (Vector Int 8)), ∃ (D7836 : Snap), Env a 218 [] [(2, .pointer (some ⟨b4392, 0, none⟩)), (4, .pointer (some ⟨b4394, 0, none⟩)), (5, .pointer (some ⟨b4396, 0, none⟩)), (9, .pointer (some ⟨b7780, 0, none⟩)), (10, .int .i64 (y7835.1))] ∧ Stp g w0 D0 [] w D7836 [bx b4392 98 (acells .u32 8 (x1)), bx b4394 98 (acells .u32 8 ((Vector.replicate 8 (0 : Int)))), bx b4396 111 (acells .u64 64 (z7214)), bx b7780 113 (acells .u64 8 (y7835.2))] ∧ Snap.le D7215 D7836 ∧ inspeximusref01_Turn_l2.l K x1 k y7835 = some s7852) K ?_ ?_ ?_
   ·exact ⟨((0 : Int), (Vector.replicate 8 (0 : Int))), D7215, hE.weak (by kernel_rfl), hS, Snap.le.refl _, hf⟩
   ·clear hE hS hf
    rintro a w ⟨z7849, D7850, hE, hS, le7851, rfl⟩
    have hf := hs7853
    clear hs7853
    refine wpIn_seq ?_
    refine wpIn_seq ?_
    refine region_at ?_
    refine sN 1 1 [(11, .int .i64 ((0 : Int)))] hE (fun a hE => ?_)
    refine at_end rfl ?_
    obtain ⟨s8514, hf, hs8515⟩ := bind_some hf
    refine block_loop (fun a w => ∃ (z8511 : (Vector Int 8)), ∃ (D8512 : Snap), Env a 218 [] [(2, .pointer (some ⟨b4392, 0, none⟩)), (4, .pointer (some ⟨b4394, 0, none⟩)), (9, .pointer (some ⟨b7780, 0, none⟩))] ∧ Stp g w0 D0 [] w D8512 [bx b4392 98 (acells .u32 8 (x1)), bx b4394 98 (acells .u32 8 ((Vector.replicate 8 (0 : Int)))), bx b7780 113 (acells .u64 8 (z8511))] ∧ Snap.le D7850 D8512 ∧ z8511 = s8514) (fun k a w => ∃ (y8379 : Int × (Vector Int 8)), ∃ (D8380 : Snap), Env a 218 [] [(2, .pointer (some ⟨b4392, 0, none⟩)), (4, .pointer (some ⟨b4394, 0, none⟩)), (5, .pointer (some ⟨b4396, 0, none⟩)), (9, .pointer (some ⟨b7780, 0, none⟩)), (11, .int .i64 (y8379.1))] ∧ Stp g w0 D0 [] w D8380 [bx b4392 98 (acells .u32 8 (x1)), bx b4394 98 (acells .u32 8 ((Vector.replicate 8 (0 : Int)))), bx b4396 111 (acells .u64 64 (z7214)), bx b7780 113 (acells .u64 8 (y8379.2))] ∧ Snap.le D7850 D8380 ∧ inspeximusref01_Turn_l3.l K z7214 k y8379 = some s8514) K ?_ ?_ ?_
    ·exact ⟨((0 : Int), z7849), D7850, hE.weak (by kernel_rfl), hS, Snap.le.refl _, hf⟩
    ·clear hE hS hf
     rintro a w ⟨z8511, D8512, hE, hS, le8513, rfl⟩
     have hf := hs8515
     clear hs8515
     refine wpIn_seq ?_
     refine wpIn_seq ?_
     refine region_at ?_
     refine sN 1 1 [(18, .int .i64 ((0 : Int)))] hE (fun a hE => ?_)
     refine at_end rfl ?_
     obtain ⟨s8756, hf, hs8757⟩ := bind_some hf
     refine block_loop (fun a w => ∃ (z8753 : (Vector Int 8)), ∃ (D8754 : Snap), Env a 218 [] [(2, .pointer (some ⟨b4392, 0, none⟩)), (4, .pointer (some ⟨b4394, 0, none⟩))] ∧ Stp g w0 D0 [] w D8754 [bx b4392 98 (acells .u32 8 (z8753)), bx b4394 98 (acells .u32 8 ((Vector.replicate 8 (0 : Int))))] ∧ Snap.le D8512 D8754 ∧ z8753 = s8756) (fun k a w => ∃ (y8727 : Int × (Vector Int 8)), ∃ (D8728 : Snap), Env a 218 [] [(2, .pointer (some ⟨b4392, 0, none⟩)), (4, .pointer (some ⟨b4394, 0, none⟩)), (9, .pointer (some ⟨b7780, 0, none⟩)), (18, .int .i64 (y8727.1))] ∧ Stp g w0 D0 [] w D8728 [bx b4392 98 (acells .u32 8 (y8727.2)), bx b4394 98 (acells .u32 8 ((Vector.replicate 8 (0 : Int)))), bx b7780 113 (acells .u64 8 (z8511))] ∧ Snap.le D8512 D8728 ∧ inspeximusref01_Turn_l4.l K z8511 k y8727 = some s8756) K ?_ ?_ ?_
     ·exact ⟨((0 : Int), x1), D8512, hE.weak (by kernel_rfl), hS, Snap.le.refl _, hf⟩
     ·clear hE hS hf
      rintro a w ⟨z8753, D8754, hE, hS, le8755, rfl⟩
      have hf := hs8757
      clear hs8757
      refine wpIn_seq ?_
      refine region_at ?_
      refine aL 0 (.agg (List.toArray (acells .u32 8 (z8753)))) hE hS (fun a hE => ?_)
      have hS := hS.pk (.c 1 rfl (.c 0 rfl .n)) rfl
      refine at_op (op_store (v := .agg (List.toArray (acells .u32 8 (z8753)))) (acells .u32 8 (z8753)) rfl rfl rfl rfl hE hS rfl rfl (by kernel_rfl) (by kernel_rfl) (by kernel_rfl) (by kernel_rfl) (by kernel_rfl) (fun a w _ hE hS => ?_)) rfl
      refine at_end rfl ?_
      refine wpIn_ret ?_
      obtain rfl := Option.some.inj hf
      repeat (with_reducible first | refine then_ret ?_ | refine block_ret ?_ | refine qx_ret ?_)
      refine ret_gen ([.agg (List.toArray (acells .u32 8 (z8753)))]) hE (by rw [show Tryd.f63.results.toList = [.cell 4 98] from rfl]; exact ⟨_, _, _, 0, _, _, rfl, rfl, hS.heapAt (j := 0) rfl, by kernel_rfl, rfl⟩) ?_
      have hS := hS.pk .n rfl
      exact ⟨_, rfl, D8754, rfl, hS⟩
     ·clear hE hS hf
      rintro k a w ⟨y8727, D8728, hE, hS, le8729, hf⟩
      obtain ⟨k, rfl, hf⟩ := inspeximusref01_Turn_l4.some _ hf
      refine ⟨k, rfl, ?_⟩
      unfold inspeximusref01_Turn_l4.b at hf
      refine wpIn_seq ?_
      refine wpIn_seq ?_
      refine region_at ?_
      refine sN 2 2 [(202, .bool ((decide (y8727.1 < (8 : Int)))))] hE (fun a hE => ?_)
      refine at_end rfl ?_
      refine cond_split hE (b := (decide (y8727.1 < (8 : Int)))) rfl (fun hb => ?_) (fun hb => ?_)
      ·replace hf := cond_t hb hf
       clear hb
       refine wpIn_skip ?_
       refine wpIn_seq ?_
       refine wpIn_block ?_
       refine region_draw (fun j => Keeps (mfOf [(12, [b4392])] j)) (by kernel_rfl) ?_
       have hS := hS.drew
       first | generalize w.drew = w at hS ⊢ | generalize w0.drew = w at hS ⊢
       refine wP 0 1 12 (.int .i64 (y8727.1)) hE (fun a hE => ?_)
       refine wP 1 3 11 (.int .i64 (y8727.1)) hE (fun a hE => ?_)
       refine wP 5 35 10 (.int .i64 (y8727.1)) hE (fun a hE => ?_)
       obtain ⟨hm8773, hf⟩ := chk_some hf
       refine tW 2 39 (fuel := 9) (by kernel_rfl) hE (fun M => tk_indexPA (N := 8) (k := .u32) (m := y8727.1) rfl rfl rfl rfl hE rfl rfl rfl (by kernel_rfl) hm8773 (fun a hE => ?_))
       refine tT 3 47 (fuel := 8) (by kernel_rfl) hE (tk_loadPA 0 (N := 8) (k := .u32) (v := y8727.2) (m := y8727.1) rfl rfl rfl rfl hE rfl hS rfl rfl (by kernel_rfl) hm8773 (kL (j := 0) hS rfl List.not_mem_nil) (fun a hE => ?_))
       refine tW 4 63 (fuel := 7) (by kernel_rfl) hE (fun M => tk_pure (.int .u64 ((IntKind.wrap .u64 (vget (y8727.2) (Int.toNat (y8727.1)))))) hE rfl rfl rfl rfl (fun _ _ _ e => by cases e; rfl) (by kernel_rfl) (fun a hE => ?_))
       obtain ⟨hm8774, hf⟩ := chk_some hf
       refine tW 6 127 (fuel := 6) (by kernel_rfl) hE (fun M => tk_indexPA (N := 8) (k := .u64) (m := y8727.1) rfl rfl rfl rfl hE rfl rfl rfl (by kernel_rfl) hm8774 (fun a hE => ?_))
       refine tT 7 255 (fuel := 5) (by kernel_rfl) hE (tk_loadPA 2 (N := 8) (k := .u64) (v := z8511) (m := y8727.1) rfl rfl rfl rfl hE rfl hS rfl rfl (by kernel_rfl) hm8774 (kL (j := 2) hS rfl List.not_mem_nil) (fun a hE => ?_))
       refine wP 8 511 4 (.int .u64 ((IntKind.wrap .u64 ((IntKind.wrap .u64 (vget (y8727.2) (Int.toNat (y8727.1)))) + (vget (z8511) (Int.toNat (y8727.1))))))) hE (fun a hE => ?_)
       refine wP 9 1023 3 (.int .u64 ((Int.tmod (IntKind.wrap .u64 ((IntKind.wrap .u64 (vget (y8727.2) (Int.toNat (y8727.1)))) + (vget (z8511) (Int.toNat (y8727.1))))) 4294967296))) hE (fun a hE => ?_)
       refine tW 10 2047 (fuel := 2) (by kernel_rfl) hE (fun M => tk_pure (.int .u32 ((IntKind.wrap .u32 (Int.tmod (IntKind.wrap .u64 ((IntKind.wrap .u64 (vget (y8727.2) (Int.toNat (y8727.1)))) + (vget (z8511) (Int.toNat (y8727.1))))) 4294967296)))) hE rfl rfl rfl rfl (fun _ _ _ e => by cases e; rfl) (by kernel_rfl) (fun a hE => ?_))
       obtain ⟨hm8775, hf⟩ := chk_some hf
       refine tW 11 4095 (fuel := 1) (by kernel_rfl) hE (fun M => tk_indexPA (N := 8) (k := .u32) (m := y8727.1) rfl rfl rfl rfl hE rfl rfl rfl (by kernel_rfl) hm8775 (fun a hE => ?_))
       obtain ⟨v8776, hv8777, hf⟩ := bind_some hf
       replace hv8777 := Option.some.inj hv8777
       refine oG 12 8191 (fuel := 0) (by kernel_rfl) (op_storePA (N := 8) (k := .u32) (v := y8727.2) (m := y8727.1) (z := (IntKind.wrap .u32 (Int.tmod (IntKind.wrap .u64 ((IntKind.wrap .u64 (vget (y8727.2) (Int.toNat (y8727.1)))) + (vget (z8511) (Int.toNat (y8727.1))))) 4294967296))) rfl rfl rfl rfl hE hS rfl rfl (by kernel_rfl) hm8775 (fun a w hkp hE hS => ⟨hkp.mono (fun _ h => h), ?_⟩))
       clear hkp
       rw [hv8777] at hS
       refine doneG (by kernel_rfl) ?_
       refine region_at ?_
       refine sN 3 3 [(18, .int .i64 ((IntKind.wrap .i64 (y8727.1 + (1 : Int)))))] hE (fun a hE => ?_)
       refine at_end rfl ?_
       exact ⟨((IntKind.wrap .i64 (y8727.1 + (1 : Int))), v8776), D8728, hE.weak (by kernel_rfl), hS, le8729, hf⟩
      ·replace hf := cond_f hb hf
       clear hb
       refine wpIn_exit ?_
       obtain rfl := Option.some.inj hf
       have hS := hS.pk (.c 0 rfl (.c 1 rfl .n)) rfl
       exact ⟨y8727.2, D8728, hE.weak (by kernel_rfl), hS, le8729, rfl⟩
    ·clear hE hS hf
     rintro k a w ⟨y8379, D8380, hE, hS, le8381, hf⟩
     obtain ⟨k, rfl, hf⟩ := inspeximusref01_Turn_l3.some _ hf
     refine ⟨k, rfl, ?_⟩
     unfold inspeximusref01_Turn_l3.b at hf
     refine wpIn_seq ?_
     refine wpIn_seq ?_
     refine region_at ?_
     refine sN 2 2 [(113, .bool ((decide (y8379.1 < (64 : Int)))))] hE (fun a hE => ?_)
     refine at_end rfl ?_
     refine cond_split hE (b := (decide (y8379.1 < (64 : Int)))) rfl (fun hb => ?_) (fun hb => ?_)
     ·replace hf := cond_t hb hf
      clear hb
      refine wpIn_skip ?_
      refine wpIn_seq ?_
      refine wpIn_block ?_
      refine wpIn_seq ?_
      refine region_draw (fun j => Keeps (mfOf [] j)) (by kernel_rfl) ?_
      have hS := hS.drew
      first | generalize w.drew = w at hS ⊢ | generalize w0.drew = w at hS ⊢
      refine tW 0 1 (fuel := 5) (by kernel_rfl) hE (fun M => tk_indexPA (N := 8) (k := .u64) (m := (4 : Int)) rfl rfl rfl rfl hE rfl rfl rfl (by kernel_rfl) (by kernel_rfl) (fun a hE => ?_))
      refine tT 1 3 (fuel := 4) (by kernel_rfl) hE (tk_loadPA 3 (N := 8) (k := .u64) (v := y8379.2) (m := (4 : Int)) rfl rfl rfl rfl hE rfl hS rfl rfl (by kernel_rfl) (by kernel_rfl) (kL (j := 3) hS rfl List.not_mem_nil) (fun a hE => ?_))
      refine wP 4 19 3 (.int .u64 ((vget (y8379.2) (Int.toNat ((4 : Int)))))) hE (fun a hE => ?_)
      refine tW 2 23 (fuel := 2) (by kernel_rfl) hE (fun M => tk_indexPA (N := 8) (k := .u64) (m := (0 : Int)) rfl rfl rfl rfl hE rfl rfl rfl (by kernel_rfl) (by kernel_rfl) (fun a hE => ?_))
      refine tT 3 31 (fuel := 1) (by kernel_rfl) hE (tk_loadPA 3 (N := 8) (k := .u64) (v := y8379.2) (m := (0 : Int)) rfl rfl rfl rfl hE rfl hS rfl rfl (by kernel_rfl) (by kernel_rfl) (kL (j := 3) hS rfl List.not_mem_nil) (fun a hE => ?_))
      refine wP 5 63 0 (.int .u64 ((vget (y8379.2) (Int.toNat ((0 : Int)))))) hE (fun a hE => ?_)
      refine doneG (by kernel_rfl) ?_
      refine wpIn_seq ?_
      refine region_at ?_
      refine sN 1 1 [(120, .int .u64 ((vget (y8379.2) (Int.toNat ((4 : Int))))))] hE (fun a hE => ?_)
      refine at_op (op_tk hE (tk_indexPA (N := 8) (k := .u64) (m := (5 : Int)) rfl rfl rfl rfl hE rfl rfl rfl (by kernel_rfl) (by kernel_rfl) (fun a hE => ?_))) rfl
      refine at_op (op_tk hE (tk_loadPA 3 (N := 8) (k := .u64) (v := y8379.2) (m := (5 : Int)) rfl rfl rfl rfl hE rfl hS rfl rfl (by kernel_rfl) (by kernel_rfl) (kL (j := 3) hS rfl List.not_mem_nil) (fun a hE => ?_))) rfl
      refine sN 3 6 [(123, .int .u64 ((band .u64 (vget (y8379.2) (Int.toNat ((4 : Int)))) (vget (y8379.2) (Int.toNat ((5 : Int))))))), (125, .int .u64 ((IntKind.wrap .u64 ((4294967295 : Int) - (vget (y8379.2) (Int.toNat ((4 : Int))))))))] hE (fun a hE => ?_)
      refine at_op (op_tk hE (tk_indexPA (N := 8) (k := .u64) (m := (6 : Int)) rfl rfl rfl rfl hE rfl rfl rfl (by kernel_rfl) (by kernel_rfl) (fun a hE => ?_))) rfl
      refine at_op (op_tk hE (tk_loadPA 3 (N := 8) (k := .u64) (v := y8379.2) (m := (6 : Int)) rfl rfl rfl rfl hE rfl hS rfl rfl (by kernel_rfl) (by kernel_rfl) (kL (j := 3) hS rfl List.not_mem_nil) (fun a hE => ?_))) rfl
      refine sN 3 11 [(14, .int .u64 ((bxor .u64 (band .u64 (vget (y8379.2) (Int.toNat ((4 : Int)))) (vget (y8379.2) (Int.toNat ((5 : Int))))) (band .u64 (IntKind.wrap .u64 ((4294967295 : Int) - (vget (y8379.2) (Int.toNat ((4 : Int)))))) (vget (y8379.2) (Int.toNat ((6 : Int))))))))] hE (fun a hE => ?_)
      refine at_end rfl ?_
      refine wpIn_seq ?_
      refine region_at ?_
      refine sN 1 1 [(130, .int .u64 ((vget (y8379.2) (Int.toNat ((0 : Int))))))] hE (fun a hE => ?_)
      refine at_op (op_tk hE (tk_indexPA (N := 8) (k := .u64) (m := (1 : Int)) rfl rfl rfl rfl hE rfl rfl rfl (by kernel_rfl) (by kernel_rfl) (fun a hE => ?_))) rfl
      refine at_op (op_tk hE (tk_loadPA 3 (N := 8) (k := .u64) (v := y8379.2) (m := (1 : Int)) rfl rfl rfl rfl hE rfl hS rfl rfl (by kernel_rfl) (by kernel_rfl) (kL (j := 3) hS rfl List.not_mem_nil) (fun a hE => ?_))) rfl
      refine sN 2 5 [(133, .int .u64 ((band .u64 (vget (y8379.2) (Int.toNat ((0 : Int)))) (vget (y8379.2) (Int.toNat ((1 : Int))))))), (134, .int .u64 ((vget (y8379.2) (Int.toNat ((0 : Int))))))] hE (fun a hE => ?_)
      refine at_op (op_tk hE (tk_indexPA (N := 8) (k := .u64) (m := (2 : Int)) rfl rfl rfl rfl hE rfl rfl rfl (by kernel_rfl) (by kernel_rfl) (fun a hE => ?_))) rfl
      refine at_op (op_tk hE (tk_loadPA 3 (N := 8) (k := .u64) (v := y8379.2) (m := (2 : Int)) rfl rfl rfl rfl hE rfl hS rfl rfl (by kernel_rfl) (by kernel_rfl) (kL (j := 3) hS rfl List.not_mem_nil) (fun a hE => ?_))) rfl
      refine sN 2 9 [(138, .int .u64 ((bxor .u64 (band .u64 (vget (y8379.2) (Int.toNat ((0 : Int)))) (vget (y8379.2) (Int.toNat ((1 : Int))))) (band .u64 (vget (y8379.2) (Int.toNat ((0 : Int)))) (vget (y8379.2) (Int.toNat ((2 : Int))))))))] hE (fun a hE => ?_)
      refine at_op (op_tk hE (tk_indexPA (N := 8) (k := .u64) (m := (1 : Int)) rfl rfl rfl rfl hE rfl rfl rfl (by kernel_rfl) (by kernel_rfl) (fun a hE => ?_))) rfl
      refine at_op (op_tk hE (tk_loadPA 3 (N := 8) (k := .u64) (v := y8379.2) (m := (1 : Int)) rfl rfl rfl rfl hE rfl hS rfl rfl (by kernel_rfl) (by kernel_rfl) (kL (j := 3) hS rfl List.not_mem_nil) (fun a hE => ?_))) rfl
      refine at_op (op_tk hE (tk_indexPA (N := 8) (k := .u64) (m := (2 : Int)) rfl rfl rfl rfl hE rfl rfl rfl (by kernel_rfl) (by kernel_rfl) (fun a hE => ?_))) rfl
      refine at_op (op_tk hE (tk_loadPA 3 (N := 8) (k := .u64) (v := y8379.2) (m := (2 : Int)) rfl rfl rfl rfl hE rfl hS rfl rfl (by kernel_rfl) (by kernel_rfl) (kL (j := 3) hS rfl List.not_mem_nil) (fun a hE => ?_))) rfl
      refine sN 3 16 [(15, .int .u64 ((bxor .u64 (bxor .u64 (band .u64 (vget (y8379.2) (Int.toNat ((0 : Int)))) (vget (y8379.2) (Int.toNat ((1 : Int))))) (band .u64 (vget (y8379.2) (Int.toNat ((0 : Int)))) (vget (y8379.2) (Int.toNat ((2 : Int)))))) (band .u64 (vget (y8379.2) (Int.toNat ((1 : Int)))) (vget (y8379.2) (Int.toNat ((2 : Int))))))))] hE (fun a hE => ?_)
      refine at_end rfl ?_
      refine wpIn_seq ?_
      refine region_draw (fun j => Keeps (mfOf [] j)) (by kernel_rfl) ?_
      have hS := hS.drew
      first | generalize w.drew = w at hS ⊢ | generalize w0.drew = w at hS ⊢
      refine wP 2 4 23 (.int .u64 ((vget (y8379.2) (Int.toNat ((4 : Int)))))) hE (fun a hE => ?_)
      refine wP 4 20 22 (.int .u64 ((vget (y8379.2) (Int.toNat ((4 : Int)))))) hE (fun a hE => ?_)
      refine wP 7 148 21 (.int .u64 ((vget (y8379.2) (Int.toNat ((4 : Int)))))) hE (fun a hE => ?_)
      refine wP 11 2196 20 (.int .u64 ((bxor .u64 (band .u64 (vget (y8379.2) (Int.toNat ((4 : Int)))) (vget (y8379.2) (Int.toNat ((5 : Int))))) (band .u64 (IntKind.wrap .u64 ((4294967295 : Int) - (vget (y8379.2) (Int.toNat ((4 : Int)))))) (vget (y8379.2) (Int.toNat ((6 : Int)))))))) hE (fun a hE => ?_)
      refine wP 13 10388 19 (.int .i64 (y8379.1)) hE (fun a hE => ?_)
      refine wP 18 272532 18 (.int .i64 (y8379.1)) hE (fun a hE => ?_)
      refine tW 0 272533 (fuel := 17) (by kernel_rfl) hE (fun M => tk_indexPA (N := 8) (k := .u64) (m := (7 : Int)) rfl rfl rfl rfl hE rfl rfl rfl (by kernel_rfl) (by kernel_rfl) (fun a hE => ?_))
      refine tT 1 272535 (fuel := 16) (by kernel_rfl) hE (tk_loadPA 3 (N := 8) (k := .u64) (v := y8379.2) (m := (7 : Int)) rfl rfl rfl rfl hE rfl hS rfl rfl (by kernel_rfl) (by kernel_rfl) (kL (j := 3) hS rfl List.not_mem_nil) (fun a hE => ?_))
      obtain ⟨hm8603, hf⟩ := chk_some hf
      refine tW 14 288919 (fuel := 15) (by kernel_rfl) hE (fun M => tk_indexPA (N := 64) (k := .u32) (m := y8379.1) rfl rfl rfl rfl hE rfl rfl rfl (by kernel_rfl) hm8603 (fun a hE => ?_))
      obtain ⟨cs8604, C8605, T8606, fr8607, hr8608, hb8609, hc8610⟩ := (Cell.elemA (N := 64) (m := y8379.1) (hG1.mono (le2 (le2 le7216 le7851) le8381)) hm8603)
      obtain rfl := hr8608
      refine tT 15 321687 (fuel := 14) (by kernel_rfl) hE (tk_loadX (off0 := (0 + Int.toNat (y8379.1))) (off := 0) (c := [.int .u32 ((vget (gl_K) (Int.toNat (y8379.1))))]) (.int .u32 ((vget (gl_K) (Int.toNat (y8379.1))))) rfl rfl rfl rfl hE rfl hS rfl hb8609 hc8610 (by kernel_rfl) (by kernel_rfl) (kD hS dn_nil) (fun a hE => ?_))
      refine tW 16 387223 (fuel := 13) (by kernel_rfl) hE (fun M => tk_pure (.int .u64 ((IntKind.wrap .u64 (vget (gl_K) (Int.toNat (y8379.1)))))) hE rfl rfl rfl rfl (fun _ _ _ e => by cases e; rfl) (by kernel_rfl) (fun a hE => ?_))
      obtain ⟨hm8611, hf⟩ := chk_some hf
      refine tW 19 911511 (fuel := 12) (by kernel_rfl) hE (fun M => tk_indexPA (N := 64) (k := .u64) (m := y8379.1) rfl rfl rfl rfl hE rfl rfl rfl (by kernel_rfl) hm8611 (fun a hE => ?_))
      refine tT 20 1960087 (fuel := 11) (by kernel_rfl) hE (tk_loadPA 2 (N := 64) (k := .u64) (v := z7214) (m := y8379.1) rfl rfl rfl rfl hE rfl hS rfl rfl (by kernel_rfl) hm8611 (kL (j := 2) hS rfl List.not_mem_nil) (fun a hE => ?_))
      obtain ⟨r8612, h8613, hf⟩ := bind_some hf
      refine oG 3 1960095 (fuel := 10) (by kernel_rfl) (op_call rfl rfl rfl rfl hE rfl rfl rfl rfl (by kernel_rfl) (inspeximusref01_right.calls (g := g) h8613 (hS.st.fore (L := [])) ) (fun a v w hR hE => ?_))
      obtain ⟨D8614, rfl, hS1⟩ := hR
      refine ⟨(hS1.keeps.sub (M' := []) trivial).mono (fun _ h => h), ?_⟩
      have le8616 := hS1.dle
      have hS := hS.callR hS1 rfl .n
      clear hS1
      obtain ⟨r8617, h8618, hf⟩ := bind_some hf
      refine oG 5 1960127 (fuel := 9) (by kernel_rfl) (op_call rfl rfl rfl rfl hE rfl rfl rfl rfl (by kernel_rfl) (inspeximusref01_right.calls (g := g) h8618 (hS.st.fore (L := [])) ) (fun a v w hR hE => ?_))
      obtain ⟨D8619, rfl, hS1⟩ := hR
      refine ⟨(hS1.keeps.sub (M' := []) trivial).mono (fun _ h => h), ?_⟩
      have le8621 := hS1.dle
      have hS := hS.callR hS1 rfl .n
      clear hS1
      refine wP 6 1960191 8 (.int .u64 ((bxor .u64 r8612 r8617))) hE (fun a hE => ?_)
      obtain ⟨r8622, h8623, hf⟩ := bind_some hf
      refine oG 8 1960447 (fuel := 7) (by kernel_rfl) (op_call rfl rfl rfl rfl hE rfl rfl rfl rfl (by kernel_rfl) (inspeximusref01_right.calls (g := g) h8623 (hS.st.fore (L := [])) ) (fun a v w hR hE => ?_))
      obtain ⟨D8624, rfl, hS1⟩ := hR
      refine ⟨(hS1.keeps.sub (M' := []) trivial).mono (fun _ h => h), ?_⟩
      have le8626 := hS1.dle
      have hS := hS.callR hS1 rfl .n
      clear hS1
      refine wP 9 1960959 6 (.int .u64 ((bxor .u64 (bxor .u64 r8612 r8617) r8622))) hE (fun a hE => ?_)
      refine wP 10 1961983 5 (.int .u64 ((IntKind.wrap .u64 ((vget (y8379.2) (Int.toNat ((7 : Int)))) + (bxor .u64 (bxor .u64 r8612 r8617) r8622))))) hE (fun a hE => ?_)
      refine wP 12 1966079 4 (.int .u64 ((IntKind.wrap .u64 ((IntKind.wrap .u64 ((vget (y8379.2) (Int.toNat ((7 : Int)))) + (bxor .u64 (bxor .u64 r8612 r8617) r8622))) + (bxor .u64 (band .u64 (vget (y8379.2) (Int.toNat ((4 : Int)))) (vget (y8379.2) (Int.toNat ((5 : Int))))) (band .u64 (IntKind.wrap .u64 ((4294967295 : Int) - (vget (y8379.2) (Int.toNat ((4 : Int)))))) (vget (y8379.2) (Int.toNat ((6 : Int)))))))))) hE (fun a hE => ?_)
      refine wP 17 2097151 3 (.int .u64 ((IntKind.wrap .u64 ((IntKind.wrap .u64 ((IntKind.wrap .u64 ((vget (y8379.2) (Int.toNat ((7 : Int)))) + (bxor .u64 (bxor .u64 r8612 r8617) r8622))) + (bxor .u64 (band .u64 (vget (y8379.2) (Int.toNat ((4 : Int)))) (vget (y8379.2) (Int.toNat ((5 : Int))))) (band .u64 (IntKind.wrap .u64 ((4294967295 : Int) - (vget (y8379.2) (Int.toNat ((4 : Int)))))) (vget (y8379.2) (Int.toNat ((6 : Int)))))))) + (IntKind.wrap .u64 (vget (gl_K) (Int.toNat (y8379.1)))))))) hE (fun a hE => ?_)
      refine wP 21 4194303 2 (.int .u64 ((IntKind.wrap .u64 ((IntKind.wrap .u64 ((IntKind.wrap .u64 ((IntKind.wrap .u64 ((vget (y8379.2) (Int.toNat ((7 : Int)))) + (bxor .u64 (bxor .u64 r8612 r8617) r8622))) + (bxor .u64 (band .u64 (vget (y8379.2) (Int.toNat ((4 : Int)))) (vget (y8379.2) (Int.toNat ((5 : Int))))) (band .u64 (IntKind.wrap .u64 ((4294967295 : Int) - (vget (y8379.2) (Int.toNat ((4 : Int)))))) (vget (y8379.2) (Int.toNat ((6 : Int)))))))) + (IntKind.wrap .u64 (vget (gl_K) (Int.toNat (y8379.1)))))) + (vget (z7214) (Int.toNat (y8379.1))))))) hE (fun a hE => ?_)
      refine wP 22 8388607 1 (.int .u64 ((Int.tmod (IntKind.wrap .u64 ((IntKind.wrap .u64 ((IntKind.wrap .u64 ((IntKind.wrap .u64 ((vget (y8379.2) (Int.toNat ((7 : Int)))) + (bxor .u64 (bxor .u64 r8612 r8617) r8622))) + (bxor .u64 (band .u64 (vget (y8379.2) (Int.toNat ((4 : Int)))) (vget (y8379.2) (Int.toNat ((5 : Int))))) (band .u64 (IntKind.wrap .u64 ((4294967295 : Int) - (vget (y8379.2) (Int.toNat ((4 : Int)))))) (vget (y8379.2) (Int.toNat ((6 : Int)))))))) + (IntKind.wrap .u64 (vget (gl_K) (Int.toNat (y8379.1)))))) + (vget (z7214) (Int.toNat (y8379.1))))) 4294967296))) hE (fun a hE => ?_)
      refine wP 23 16777215 0 (.int .u64 ((Int.tmod (IntKind.wrap .u64 ((IntKind.wrap .u64 ((IntKind.wrap .u64 ((IntKind.wrap .u64 ((vget (y8379.2) (Int.toNat ((7 : Int)))) + (bxor .u64 (bxor .u64 r8612 r8617) r8622))) + (bxor .u64 (band .u64 (vget (y8379.2) (Int.toNat ((4 : Int)))) (vget (y8379.2) (Int.toNat ((5 : Int))))) (band .u64 (IntKind.wrap .u64 ((4294967295 : Int) - (vget (y8379.2) (Int.toNat ((4 : Int)))))) (vget (y8379.2) (Int.toNat ((6 : Int)))))))) + (IntKind.wrap .u64 (vget (gl_K) (Int.toNat (y8379.1)))))) + (vget (z7214) (Int.toNat (y8379.1))))) 4294967296))) hE (fun a hE => ?_)
      refine doneG (by kernel_rfl) ?_
      refine wpIn_seq ?_
      refine region_at ?_
      refine sN 1 1 [(168, .int .u64 ((vget (y8379.2) (Int.toNat ((0 : Int))))))] hE (fun a hE => ?_)
      obtain ⟨r8627, h8628, hf⟩ := bind_some hf
      refine aC rfl rfl rfl rfl hE rfl rfl rfl rfl (inspeximusref01_right.calls (g := g) h8628 (hS.st.fore (L := [])) ) (fun a v w hR hE => ?_)
      obtain ⟨D8629, rfl, hS1⟩ := hR
      have le8631 := hS1.dle
      have hS := hS.callR hS1 rfl .n
      clear hS1
      refine sN 1 3 [(170, .int .u64 ((vget (y8379.2) (Int.toNat ((0 : Int))))))] hE (fun a hE => ?_)
      obtain ⟨r8632, h8633, hf⟩ := bind_some hf
      refine aC rfl rfl rfl rfl hE rfl rfl rfl rfl (inspeximusref01_right.calls (g := g) h8633 (hS.st.fore (L := [])) ) (fun a v w hR hE => ?_)
      obtain ⟨D8634, rfl, hS1⟩ := hR
      have le8636 := hS1.dle
      have hS := hS.callR hS1 rfl .n
      clear hS1
      refine sN 2 6 [(172, .int .u64 ((bxor .u64 r8627 r8632))), (173, .int .u64 ((vget (y8379.2) (Int.toNat ((0 : Int))))))] hE (fun a hE => ?_)
      obtain ⟨r8637, h8638, hf⟩ := bind_some hf
      refine aC rfl rfl rfl rfl hE rfl rfl rfl rfl (inspeximusref01_right.calls (g := g) h8638 (hS.st.fore (L := [])) ) (fun a v w hR hE => ?_)
      obtain ⟨D8639, rfl, hS1⟩ := hR
      have le8641 := hS1.dle
      have hS := hS.callR hS1 rfl .n
      clear hS1
      refine sN 5 12 [(17, .int .u64 ((Int.tmod (IntKind.wrap .u64 ((bxor .u64 (bxor .u64 r8627 r8632) r8637) + (bxor .u64 (bxor .u64 (band .u64 (vget (y8379.2) (Int.toNat ((0 : Int)))) (vget (y8379.2) (Int.toNat ((1 : Int))))) (band .u64 (vget (y8379.2) (Int.toNat ((0 : Int)))) (vget (y8379.2) (Int.toNat ((2 : Int)))))) (band .u64 (vget (y8379.2) (Int.toNat ((1 : Int)))) (vget (y8379.2) (Int.toNat ((2 : Int)))))))) 4294967296)))] hE (fun a hE => ?_)
      refine at_end rfl ?_
      refine region_at ?_
      refine sN 4 4 [(182, .int .u64 ((Int.tmod (IntKind.wrap .u64 ((Int.tmod (IntKind.wrap .u64 ((IntKind.wrap .u64 ((IntKind.wrap .u64 ((IntKind.wrap .u64 ((vget (y8379.2) (Int.toNat ((7 : Int)))) + (bxor .u64 (bxor .u64 r8612 r8617) r8622))) + (bxor .u64 (band .u64 (vget (y8379.2) (Int.toNat ((4 : Int)))) (vget (y8379.2) (Int.toNat ((5 : Int))))) (band .u64 (IntKind.wrap .u64 ((4294967295 : Int) - (vget (y8379.2) (Int.toNat ((4 : Int)))))) (vget (y8379.2) (Int.toNat ((6 : Int)))))))) + (IntKind.wrap .u64 (vget (gl_K) (Int.toNat (y8379.1)))))) + (vget (z7214) (Int.toNat (y8379.1))))) 4294967296) + (Int.tmod (IntKind.wrap .u64 ((bxor .u64 (bxor .u64 r8627 r8632) r8637) + (bxor .u64 (bxor .u64 (band .u64 (vget (y8379.2) (Int.toNat ((0 : Int)))) (vget (y8379.2) (Int.toNat ((1 : Int))))) (band .u64 (vget (y8379.2) (Int.toNat ((0 : Int)))) (vget (y8379.2) (Int.toNat ((2 : Int)))))) (band .u64 (vget (y8379.2) (Int.toNat ((1 : Int)))) (vget (y8379.2) (Int.toNat ((2 : Int)))))))) 4294967296))) 4294967296)))] hE (fun a hE => ?_)
      refine at_op (op_tk hE (tk_indexPA (N := 8) (k := .u64) (m := (0 : Int)) rfl rfl rfl rfl hE rfl rfl rfl (by kernel_rfl) (by kernel_rfl) (fun a hE => ?_))) rfl
      refine at_op (op_tk hE (tk_loadPA 3 (N := 8) (k := .u64) (v := y8379.2) (m := (0 : Int)) rfl rfl rfl rfl hE rfl hS rfl rfl (by kernel_rfl) (by kernel_rfl) (kL (j := 3) hS rfl List.not_mem_nil) (fun a hE => ?_))) rfl
      refine at_op (op_tk hE (tk_indexPA (N := 8) (k := .u64) (m := (1 : Int)) rfl rfl rfl rfl hE rfl rfl rfl (by kernel_rfl) (by kernel_rfl) (fun a hE => ?_))) rfl
      refine at_op (op_tk hE (tk_loadPA 3 (N := 8) (k := .u64) (v := y8379.2) (m := (1 : Int)) rfl rfl rfl rfl hE rfl hS rfl rfl (by kernel_rfl) (by kernel_rfl) (kL (j := 3) hS rfl List.not_mem_nil) (fun a hE => ?_))) rfl
      refine at_op (op_tk hE (tk_indexPA (N := 8) (k := .u64) (m := (2 : Int)) rfl rfl rfl rfl hE rfl rfl rfl (by kernel_rfl) (by kernel_rfl) (fun a hE => ?_))) rfl
      refine at_op (op_tk hE (tk_loadPA 3 (N := 8) (k := .u64) (v := y8379.2) (m := (2 : Int)) rfl rfl rfl rfl hE rfl hS rfl rfl (by kernel_rfl) (by kernel_rfl) (kL (j := 3) hS rfl List.not_mem_nil) (fun a hE => ?_))) rfl
      refine at_op (op_tk hE (tk_indexPA (N := 8) (k := .u64) (m := (3 : Int)) rfl rfl rfl rfl hE rfl rfl rfl (by kernel_rfl) (by kernel_rfl) (fun a hE => ?_))) rfl
      refine at_op (op_tk hE (tk_loadPA 3 (N := 8) (k := .u64) (v := y8379.2) (m := (3 : Int)) rfl rfl rfl rfl hE rfl hS rfl rfl (by kernel_rfl) (by kernel_rfl) (kL (j := 3) hS rfl List.not_mem_nil) (fun a hE => ?_))) rfl
      refine sN 3 15 [(193, .int .u64 ((Int.tmod (IntKind.wrap .u64 ((vget (y8379.2) (Int.toNat ((3 : Int)))) + (Int.tmod (IntKind.wrap .u64 ((IntKind.wrap .u64 ((IntKind.wrap .u64 ((IntKind.wrap .u64 ((vget (y8379.2) (Int.toNat ((7 : Int)))) + (bxor .u64 (bxor .u64 r8612 r8617) r8622))) + (bxor .u64 (band .u64 (vget (y8379.2) (Int.toNat ((4 : Int)))) (vget (y8379.2) (Int.toNat ((5 : Int))))) (band .u64 (IntKind.wrap .u64 ((4294967295 : Int) - (vget (y8379.2) (Int.toNat ((4 : Int)))))) (vget (y8379.2) (Int.toNat ((6 : Int)))))))) + (IntKind.wrap .u64 (vget (gl_K) (Int.toNat (y8379.1)))))) + (vget (z7214) (Int.toNat (y8379.1))))) 4294967296))) 4294967296)))] hE (fun a hE => ?_)
      refine at_op (op_tk hE (tk_indexPA (N := 8) (k := .u64) (m := (4 : Int)) rfl rfl rfl rfl hE rfl rfl rfl (by kernel_rfl) (by kernel_rfl) (fun a hE => ?_))) rfl
      refine at_op (op_tk hE (tk_loadPA 3 (N := 8) (k := .u64) (v := y8379.2) (m := (4 : Int)) rfl rfl rfl rfl hE rfl hS rfl rfl (by kernel_rfl) (by kernel_rfl) (kL (j := 3) hS rfl List.not_mem_nil) (fun a hE => ?_))) rfl
      refine at_op (op_tk hE (tk_indexPA (N := 8) (k := .u64) (m := (5 : Int)) rfl rfl rfl rfl hE rfl rfl rfl (by kernel_rfl) (by kernel_rfl) (fun a hE => ?_))) rfl
      refine at_op (op_tk hE (tk_loadPA 3 (N := 8) (k := .u64) (v := y8379.2) (m := (5 : Int)) rfl rfl rfl rfl hE rfl hS rfl rfl (by kernel_rfl) (by kernel_rfl) (kL (j := 3) hS rfl List.not_mem_nil) (fun a hE => ?_))) rfl
      refine at_op (op_tk hE (tk_indexPA (N := 8) (k := .u64) (m := (6 : Int)) rfl rfl rfl rfl hE rfl rfl rfl (by kernel_rfl) (by kernel_rfl) (fun a hE => ?_))) rfl
      refine at_op (op_tk hE (tk_loadPA 3 (N := 8) (k := .u64) (v := y8379.2) (m := (6 : Int)) rfl rfl rfl rfl hE rfl hS rfl rfl (by kernel_rfl) (by kernel_rfl) (kL (j := 3) hS rfl List.not_mem_nil) (fun a hE => ?_))) rfl
      refine at_op (op_tk hE (tk_build (acells .u64 8 ((vofL 8 [(Int.tmod (IntKind.wrap .u64 ((Int.tmod (IntKind.wrap .u64 ((IntKind.wrap .u64 ((IntKind.wrap .u64 ((IntKind.wrap .u64 ((vget (y8379.2) (Int.toNat ((7 : Int)))) + (bxor .u64 (bxor .u64 r8612 r8617) r8622))) + (bxor .u64 (band .u64 (vget (y8379.2) (Int.toNat ((4 : Int)))) (vget (y8379.2) (Int.toNat ((5 : Int))))) (band .u64 (IntKind.wrap .u64 ((4294967295 : Int) - (vget (y8379.2) (Int.toNat ((4 : Int)))))) (vget (y8379.2) (Int.toNat ((6 : Int)))))))) + (IntKind.wrap .u64 (vget (gl_K) (Int.toNat (y8379.1)))))) + (vget (z7214) (Int.toNat (y8379.1))))) 4294967296) + (Int.tmod (IntKind.wrap .u64 ((bxor .u64 (bxor .u64 r8627 r8632) r8637) + (bxor .u64 (bxor .u64 (band .u64 (vget (y8379.2) (Int.toNat ((0 : Int)))) (vget (y8379.2) (Int.toNat ((1 : Int))))) (band .u64 (vget (y8379.2) (Int.toNat ((0 : Int)))) (vget (y8379.2) (Int.toNat ((2 : Int)))))) (band .u64 (vget (y8379.2) (Int.toNat ((1 : Int)))) (vget (y8379.2) (Int.toNat ((2 : Int)))))))) 4294967296))) 4294967296), (vget (y8379.2) (Int.toNat ((0 : Int)))), (vget (y8379.2) (Int.toNat ((1 : Int)))), (vget (y8379.2) (Int.toNat ((2 : Int)))), (Int.tmod (IntKind.wrap .u64 ((vget (y8379.2) (Int.toNat ((3 : Int)))) + (Int.tmod (IntKind.wrap .u64 ((IntKind.wrap .u64 ((IntKind.wrap .u64 ((IntKind.wrap .u64 ((vget (y8379.2) (Int.toNat ((7 : Int)))) + (bxor .u64 (bxor .u64 r8612 r8617) r8622))) + (bxor .u64 (band .u64 (vget (y8379.2) (Int.toNat ((4 : Int)))) (vget (y8379.2) (Int.toNat ((5 : Int))))) (band .u64 (IntKind.wrap .u64 ((4294967295 : Int) - (vget (y8379.2) (Int.toNat ((4 : Int)))))) (vget (y8379.2) (Int.toNat ((6 : Int)))))))) + (IntKind.wrap .u64 (vget (gl_K) (Int.toNat (y8379.1)))))) + (vget (z7214) (Int.toNat (y8379.1))))) 4294967296))) 4294967296), (vget (y8379.2) (Int.toNat ((4 : Int)))), (vget (y8379.2) (Int.toNat ((5 : Int)))), (vget (y8379.2) (Int.toNat ((6 : Int))))]))) rfl rfl rfl rfl hE rfl rfl (by kernel_rfl) (fun a hE => ?_))) rfl
      have hS := hS.pk (.c 3 rfl (.c 0 rfl (.c 1 rfl (.c 2 rfl .n)))) rfl
      refine at_op (op_store (v := .agg (List.toArray (acells .u64 8 ((vofL 8 [(Int.tmod (IntKind.wrap .u64 ((Int.tmod (IntKind.wrap .u64 ((IntKind.wrap .u64 ((IntKind.wrap .u64 ((IntKind.wrap .u64 ((vget (y8379.2) (Int.toNat ((7 : Int)))) + (bxor .u64 (bxor .u64 r8612 r8617) r8622))) + (bxor .u64 (band .u64 (vget (y8379.2) (Int.toNat ((4 : Int)))) (vget (y8379.2) (Int.toNat ((5 : Int))))) (band .u64 (IntKind.wrap .u64 ((4294967295 : Int) - (vget (y8379.2) (Int.toNat ((4 : Int)))))) (vget (y8379.2) (Int.toNat ((6 : Int)))))))) + (IntKind.wrap .u64 (vget (gl_K) (Int.toNat (y8379.1)))))) + (vget (z7214) (Int.toNat (y8379.1))))) 4294967296) + (Int.tmod (IntKind.wrap .u64 ((bxor .u64 (bxor .u64 r8627 r8632) r8637) + (bxor .u64 (bxor .u64 (band .u64 (vget (y8379.2) (Int.toNat ((0 : Int)))) (vget (y8379.2) (Int.toNat ((1 : Int))))) (band .u64 (vget (y8379.2) (Int.toNat ((0 : Int)))) (vget (y8379.2) (Int.toNat ((2 : Int)))))) (band .u64 (vget (y8379.2) (Int.toNat ((1 : Int)))) (vget (y8379.2) (Int.toNat ((2 : Int)))))))) 4294967296))) 4294967296), (vget (y8379.2) (Int.toNat ((0 : Int)))), (vget (y8379.2) (Int.toNat ((1 : Int)))), (vget (y8379.2) (Int.toNat ((2 : Int)))), (Int.tmod (IntKind.wrap .u64 ((vget (y8379.2) (Int.toNat ((3 : Int)))) + (Int.tmod (IntKind.wrap .u64 ((IntKind.wrap .u64 ((IntKind.wrap .u64 ((IntKind.wrap .u64 ((vget (y8379.2) (Int.toNat ((7 : Int)))) + (bxor .u64 (bxor .u64 r8612 r8617) r8622))) + (bxor .u64 (band .u64 (vget (y8379.2) (Int.toNat ((4 : Int)))) (vget (y8379.2) (Int.toNat ((5 : Int))))) (band .u64 (IntKind.wrap .u64 ((4294967295 : Int) - (vget (y8379.2) (Int.toNat ((4 : Int)))))) (vget (y8379.2) (Int.toNat ((6 : Int)))))))) + (IntKind.wrap .u64 (vget (gl_K) (Int.toNat (y8379.1)))))) + (vget (z7214) (Int.toNat (y8379.1))))) 4294967296))) 4294967296), (vget (y8379.2) (Int.toNat ((4 : Int)))), (vget (y8379.2) (Int.toNat ((5 : Int)))), (vget (y8379.2) (Int.toNat ((6 : Int))))]))))) (acells .u64 8 ((vofL 8 [(Int.tmod (IntKind.wrap .u64 ((Int.tmod (IntKind.wrap .u64 ((IntKind.wrap .u64 ((IntKind.wrap .u64 ((IntKind.wrap .u64 ((vget (y8379.2) (Int.toNat ((7 : Int)))) + (bxor .u64 (bxor .u64 r8612 r8617) r8622))) + (bxor .u64 (band .u64 (vget (y8379.2) (Int.toNat ((4 : Int)))) (vget (y8379.2) (Int.toNat ((5 : Int))))) (band .u64 (IntKind.wrap .u64 ((4294967295 : Int) - (vget (y8379.2) (Int.toNat ((4 : Int)))))) (vget (y8379.2) (Int.toNat ((6 : Int)))))))) + (IntKind.wrap .u64 (vget (gl_K) (Int.toNat (y8379.1)))))) + (vget (z7214) (Int.toNat (y8379.1))))) 4294967296) + (Int.tmod (IntKind.wrap .u64 ((bxor .u64 (bxor .u64 r8627 r8632) r8637) + (bxor .u64 (bxor .u64 (band .u64 (vget (y8379.2) (Int.toNat ((0 : Int)))) (vget (y8379.2) (Int.toNat ((1 : Int))))) (band .u64 (vget (y8379.2) (Int.toNat ((0 : Int)))) (vget (y8379.2) (Int.toNat ((2 : Int)))))) (band .u64 (vget (y8379.2) (Int.toNat ((1 : Int)))) (vget (y8379.2) (Int.toNat ((2 : Int)))))))) 4294967296))) 4294967296), (vget (y8379.2) (Int.toNat ((0 : Int)))), (vget (y8379.2) (Int.toNat ((1 : Int)))), (vget (y8379.2) (Int.toNat ((2 : Int)))), (Int.tmod (IntKind.wrap .u64 ((vget (y8379.2) (Int.toNat ((3 : Int)))) + (Int.tmod (IntKind.wrap .u64 ((IntKind.wrap .u64 ((IntKind.wrap .u64 ((IntKind.wrap .u64 ((vget (y8379.2) (Int.toNat ((7 : Int)))) + (bxor .u64 (bxor .u64 r8612 r8617) r8622))) + (bxor .u64 (band .u64 (vget (y8379.2) (Int.toNat ((4 : Int)))) (vget (y8379.2) (Int.toNat ((5 : Int))))) (band .u64 (IntKind.wrap .u64 ((4294967295 : Int) - (vget (y8379.2) (Int.toNat ((4 : Int)))))) (vget (y8379.2) (Int.toNat ((6 : Int)))))))) + (IntKind.wrap .u64 (vget (gl_K) (Int.toNat (y8379.1)))))) + (vget (z7214) (Int.toNat (y8379.1))))) 4294967296))) 4294967296), (vget (y8379.2) (Int.toNat ((4 : Int)))), (vget (y8379.2) (Int.toNat ((5 : Int)))), (vget (y8379.2) (Int.toNat ((6 : Int))))]))) rfl rfl rfl rfl hE hS rfl rfl (by kernel_rfl) (by kernel_rfl) (by kernel_rfl) (by kernel_rfl) (by kernel_rfl) (fun a w _ hE hS => ?_)) rfl
      refine at_end rfl ?_
      refine region_at ?_
      refine sN 3 3 [(11, .int .i64 ((IntKind.wrap .i64 (y8379.1 + (1 : Int)))))] hE (fun a hE => ?_)
      refine at_end rfl ?_
      have hS := hS.pk (.c 1 rfl (.c 2 rfl (.c 3 rfl (.c 0 rfl .n)))) rfl
      exact ⟨((IntKind.wrap .i64 (y8379.1 + (1 : Int))), (vofL 8 [(Int.tmod (IntKind.wrap .u64 ((Int.tmod (IntKind.wrap .u64 ((IntKind.wrap .u64 ((IntKind.wrap .u64 ((IntKind.wrap .u64 ((vget (y8379.2) (Int.toNat ((7 : Int)))) + (bxor .u64 (bxor .u64 r8612 r8617) r8622))) + (bxor .u64 (band .u64 (vget (y8379.2) (Int.toNat ((4 : Int)))) (vget (y8379.2) (Int.toNat ((5 : Int))))) (band .u64 (IntKind.wrap .u64 ((4294967295 : Int) - (vget (y8379.2) (Int.toNat ((4 : Int)))))) (vget (y8379.2) (Int.toNat ((6 : Int)))))))) + (IntKind.wrap .u64 (vget (gl_K) (Int.toNat (y8379.1)))))) + (vget (z7214) (Int.toNat (y8379.1))))) 4294967296) + (Int.tmod (IntKind.wrap .u64 ((bxor .u64 (bxor .u64 r8627 r8632) r8637) + (bxor .u64 (bxor .u64 (band .u64 (vget (y8379.2) (Int.toNat ((0 : Int)))) (vget (y8379.2) (Int.toNat ((1 : Int))))) (band .u64 (vget (y8379.2) (Int.toNat ((0 : Int)))) (vget (y8379.2) (Int.toNat ((2 : Int)))))) (band .u64 (vget (y8379.2) (Int.toNat ((1 : Int)))) (vget (y8379.2) (Int.toNat ((2 : Int)))))))) 4294967296))) 4294967296), (vget (y8379.2) (Int.toNat ((0 : Int)))), (vget (y8379.2) (Int.toNat ((1 : Int)))), (vget (y8379.2) (Int.toNat ((2 : Int)))), (Int.tmod (IntKind.wrap .u64 ((vget (y8379.2) (Int.toNat ((3 : Int)))) + (Int.tmod (IntKind.wrap .u64 ((IntKind.wrap .u64 ((IntKind.wrap .u64 ((IntKind.wrap .u64 ((vget (y8379.2) (Int.toNat ((7 : Int)))) + (bxor .u64 (bxor .u64 r8612 r8617) r8622))) + (bxor .u64 (band .u64 (vget (y8379.2) (Int.toNat ((4 : Int)))) (vget (y8379.2) (Int.toNat ((5 : Int))))) (band .u64 (IntKind.wrap .u64 ((4294967295 : Int) - (vget (y8379.2) (Int.toNat ((4 : Int)))))) (vget (y8379.2) (Int.toNat ((6 : Int)))))))) + (IntKind.wrap .u64 (vget (gl_K) (Int.toNat (y8379.1)))))) + (vget (z7214) (Int.toNat (y8379.1))))) 4294967296))) 4294967296), (vget (y8379.2) (Int.toNat ((4 : Int)))), (vget (y8379.2) (Int.toNat ((5 : Int)))), (vget (y8379.2) (Int.toNat ((6 : Int))))])), D8639, hE.weak (by kernel_rfl), hS, (le2 (le2 (le2 (le2 (le2 (le2 le8381 le8616) le8621) le8626) le8631) le8636) le8641), hf⟩
     ·replace hf := cond_f hb hf
      clear hb
      refine wpIn_exit ?_
      obtain rfl := Option.some.inj hf
      have hS := hS.pk (.c 0 rfl (.c 1 rfl (.c 3 rfl .n))) rfl
      exact ⟨y8379.2, D8380, hE.weak (by kernel_rfl), hS, le8381, rfl⟩
   ·clear hE hS hf
    rintro k a w ⟨y7835, D7836, hE, hS, le7837, hf⟩
    obtain ⟨k, rfl, hf⟩ := inspeximusref01_Turn_l2.some _ hf
    refine ⟨k, rfl, ?_⟩
    unfold inspeximusref01_Turn_l2.b at hf
    refine wpIn_seq ?_
    refine wpIn_seq ?_
    refine region_at ?_
    refine sN 2 2 [(103, .bool ((decide (y7835.1 < (8 : Int)))))] hE (fun a hE => ?_)
    refine at_end rfl ?_
    refine cond_split hE (b := (decide (y7835.1 < (8 : Int)))) rfl (fun hb => ?_) (fun hb => ?_)
    ·replace hf := cond_t hb hf
     clear hb
     refine wpIn_skip ?_
     refine wpIn_seq ?_
     refine wpIn_block ?_
     refine region_at ?_
     refine sN 2 2 [(106, .int .i64 (y7835.1)), (107, .int .i64 (y7835.1))] hE (fun a hE => ?_)
     obtain ⟨hm7858, hf⟩ := chk_some hf
     refine at_op (op_tk hE (tk_indexPA (N := 8) (k := .u32) (m := y7835.1) rfl rfl rfl rfl hE rfl rfl rfl (by kernel_rfl) hm7858 (fun a hE => ?_))) rfl
     refine at_op (op_tk hE (tk_loadPA 0 (N := 8) (k := .u32) (v := x1) (m := y7835.1) rfl rfl rfl rfl hE rfl hS rfl rfl (by kernel_rfl) hm7858 (kL (j := 0) hS rfl List.not_mem_nil) (fun a hE => ?_))) rfl
     refine sN 1 5 [(110, .int .u64 ((IntKind.wrap .u64 (vget (x1) (Int.toNat (y7835.1))))))] hE (fun a hE => ?_)
     obtain ⟨hm7859, hf⟩ := chk_some hf
     refine at_op (op_tk hE (tk_indexPA (N := 8) (k := .u64) (m := y7835.1) rfl rfl rfl rfl hE rfl rfl rfl (by kernel_rfl) hm7859 (fun a hE => ?_))) rfl
     have hS := hS.pk (.c 3 rfl (.c 0 rfl (.c 1 rfl (.c 2 rfl .n)))) rfl
     obtain ⟨v7860, hv7861, hf⟩ := bind_some hf
     replace hv7861 := Option.some.inj hv7861
     refine at_op (op_storePA (N := 8) (k := .u64) (v := y7835.2) (m := y7835.1) (z := (IntKind.wrap .u64 (vget (x1) (Int.toNat (y7835.1))))) rfl rfl rfl rfl hE hS rfl rfl (by kernel_rfl) hm7859 (fun a w _ hE hS => ?_)) rfl
     rw [hv7861] at hS
     refine at_end rfl ?_
     refine region_at ?_
     refine sN 3 3 [(10, .int .i64 ((IntKind.wrap .i64 (y7835.1 + (1 : Int)))))] hE (fun a hE => ?_)
     refine at_end rfl ?_
     have hS := hS.pk (.c 1 rfl (.c 2 rfl (.c 3 rfl (.c 0 rfl .n)))) rfl
     exact ⟨((IntKind.wrap .i64 (y7835.1 + (1 : Int))), v7860), D7836, hE.weak (by kernel_rfl), hS, le7837, hf⟩
    ·replace hf := cond_f hb hf
     clear hb
     refine wpIn_exit ?_
     obtain rfl := Option.some.inj hf
     exact ⟨y7835.2, D7836, hE.weak (by kernel_rfl), hS, le7837, rfl⟩
  ·clear hE hS hf
   rintro k a w ⟨y6647, D6648, hE, hS, le6649, hf⟩
   obtain ⟨k, rfl, hf⟩ := inspeximusref01_Turn_l1.some _ hf
   refine ⟨k, rfl, ?_⟩
   unfold inspeximusref01_Turn_l1.b at hf
   refine wpIn_seq ?_
   refine wpIn_seq ?_
   refine region_at ?_
   refine sN 2 2 [(24, .bool ((decide (y6647.1 < (64 : Int)))))] hE (fun a hE => ?_)
   refine at_end rfl ?_
   refine cond_split hE (b := (decide (y6647.1 < (64 : Int)))) rfl (fun hb => ?_) (fun hb => ?_)
   ·replace hf := cond_t hb hf
    clear hb
    refine wpIn_skip ?_
    obtain ⟨j7500, hj7501, hf⟩ := jn_elim hf
    refine seq_join (fun a w => ∃ (y7497 : (Vector Int 64)), ∃ (D7498 : Snap), Env a 218 [] [(1, .slice A3 (List.length (x2)) c4), (2, .pointer (some ⟨b4392, 0, none⟩)), (4, .pointer (some ⟨b4394, 0, none⟩)), (5, .pointer (some ⟨b4396, 0, none⟩)), (6, .int .i64 (y6647.1))] ∧ Stp g w0 D0 [] w D7498 [bx b4392 98 (acells .u32 8 (x1)), bx b4394 98 (acells .u32 8 ((Vector.replicate 8 (0 : Int)))), bx b4396 111 (acells .u64 64 (y7497))] ∧ Snap.le D6648 D7498 ∧ j7500 y7497 = some s7217) ?_ ?_
    ·clear hj7501
     refine wpIn_block ?_
     refine wpIn_seq ?_
     refine wpIn_seq ?_
     refine region_at ?_
     refine sN 2 2 [(28, .bool ((decide (y6647.1 < (16 : Int)))))] hE (fun a hE => ?_)
     refine at_end rfl ?_
     refine cond_split hE (b := (decide (y6647.1 < (16 : Int)))) rfl (fun hb => ?_) (fun hb => ?_)
     ·replace hf := cond_t hb hf
      clear hb
      refine wpIn_seq ?_
      refine region_draw (fun j => Keeps (mfOf [(35, [b4396])] j)) (by kernel_rfl) ?_
      have hS := hS.drew
      first | generalize w.drew = w at hS ⊢ | generalize w0.drew = w at hS ⊢
      refine wP 0 1 35 (.int .i64 (y6647.1)) hE (fun a hE => ?_)
      refine wP 1 3 34 (.slice A3 (List.length (x2)) c4) hE (fun a hE => ?_)
      refine wP 2 7 33 (.int .i64 (y6647.1)) hE (fun a hE => ?_)
      refine wP 3 15 32 (.int .i64 ((IntKind.wrap .i64 ((4 : Int) * y6647.1)))) hE (fun a hE => ?_)
      refine wP 8 271 31 (.slice A3 (List.length (x2)) c4) hE (fun a hE => ?_)
      refine wP 9 783 30 (.int .i64 (y6647.1)) hE (fun a hE => ?_)
      refine wP 10 1807 29 (.int .i64 ((IntKind.wrap .i64 ((4 : Int) * y6647.1)))) hE (fun a hE => ?_)
      refine wP 11 3855 28 (.int .i64 ((IntKind.wrap .i64 ((IntKind.wrap .i64 ((4 : Int) * y6647.1)) + (1 : Int))))) hE (fun a hE => ?_)
      refine wP 17 134927 27 (.slice A3 (List.length (x2)) c4) hE (fun a hE => ?_)
      refine wP 18 397071 26 (.int .i64 (y6647.1)) hE (fun a hE => ?_)
      refine wP 19 921359 25 (.int .i64 ((IntKind.wrap .i64 ((4 : Int) * y6647.1)))) hE (fun a hE => ?_)
      refine wP 20 1969935 24 (.int .i64 ((IntKind.wrap .i64 ((IntKind.wrap .i64 ((4 : Int) * y6647.1)) + (2 : Int))))) hE (fun a hE => ?_)
      refine wP 26 69078799 23 (.slice A3 (List.length (x2)) c4) hE (fun a hE => ?_)
      refine wP 27 203296527 22 (.int .i64 (y6647.1)) hE (fun a hE => ?_)
      refine wP 28 471731983 21 (.int .i64 ((IntKind.wrap .i64 ((4 : Int) * y6647.1)))) hE (fun a hE => ?_)
      refine wP 29 1008602895 20 (.int .i64 ((IntKind.wrap .i64 ((IntKind.wrap .i64 ((4 : Int) * y6647.1)) + (3 : Int))))) hE (fun a hE => ?_)
      obtain ⟨x7655, h7656, hf⟩ := bind_some hf
      refine tW 4 1008602911 (fuel := 19) (by kernel_rfl) hE (fun M => g_index (K := (kdInt .u8)) (e := 5) (by_ := 1) (zl := 1) rfl rfl rfl rfl hE rfl rfl rfl (by kernel_rfl) rfl (h5.mono le6649) h7656 (fun a b7657 o7658 hE h7659 => ?_))
      obtain ⟨cs7660, C7661, T7662, fr7663, hr7664, hb7665, hc7666⟩ := h7659
      obtain rfl := hr7664
      refine tT 5 1008602943 (fuel := 18) (by kernel_rfl) hE (tk_loadX (off0 := o7658) (off := 0) (c := [.int .u8 (x7655)]) (.int .u8 (x7655)) rfl rfl rfl rfl hE rfl hS rfl hb7665 hc7666 (by kernel_rfl) (by kernel_rfl) (kD hS dn_nil) (fun a hE => ?_))
      refine tW 6 1008603007 (fuel := 17) (by kernel_rfl) hE (fun M => tk_pure (.int .u64 ((IntKind.wrap .u64 x7655))) hE rfl rfl rfl rfl (fun _ _ _ e => by cases e; rfl) (by kernel_rfl) (fun a hE => ?_))
      refine wP 7 1008603135 16 (.int .u64 ((IntKind.wrap .u64 ((IntKind.wrap .u64 x7655) * (256 : Int))))) hE (fun a hE => ?_)
      obtain ⟨x7667, h7668, hf⟩ := bind_some hf
      refine tW 12 1008607231 (fuel := 15) (by kernel_rfl) hE (fun M => g_index (K := (kdInt .u8)) (e := 5) (by_ := 1) (zl := 1) rfl rfl rfl rfl hE rfl rfl rfl (by kernel_rfl) rfl (h5.mono le6649) h7668 (fun a b7669 o7670 hE h7671 => ?_))
      obtain ⟨cs7672, C7673, T7674, fr7675, hr7676, hb7677, hc7678⟩ := h7671
      obtain rfl := hr7676
      refine tT 13 1008615423 (fuel := 14) (by kernel_rfl) hE (tk_loadX (off0 := o7670) (off := 0) (c := [.int .u8 (x7667)]) (.int .u8 (x7667)) rfl rfl rfl rfl hE rfl hS rfl hb7677 hc7678 (by kernel_rfl) (by kernel_rfl) (kD hS dn_nil) (fun a hE => ?_))
      refine tW 14 1008631807 (fuel := 13) (by kernel_rfl) hE (fun M => tk_pure (.int .u64 ((IntKind.wrap .u64 x7667))) hE rfl rfl rfl rfl (fun _ _ _ e => by cases e; rfl) (by kernel_rfl) (fun a hE => ?_))
      refine wP 15 1008664575 12 (.int .u64 ((IntKind.wrap .u64 ((IntKind.wrap .u64 ((IntKind.wrap .u64 x7655) * (256 : Int))) + (IntKind.wrap .u64 x7667))))) hE (fun a hE => ?_)
      refine wP 16 1008730111 11 (.int .u64 ((IntKind.wrap .u64 ((IntKind.wrap .u64 ((IntKind.wrap .u64 ((IntKind.wrap .u64 x7655) * (256 : Int))) + (IntKind.wrap .u64 x7667))) * (256 : Int))))) hE (fun a hE => ?_)
      obtain ⟨x7679, h7680, hf⟩ := bind_some hf
      refine tW 21 1010827263 (fuel := 10) (by kernel_rfl) hE (fun M => g_index (K := (kdInt .u8)) (e := 5) (by_ := 1) (zl := 1) rfl rfl rfl rfl hE rfl rfl rfl (by kernel_rfl) rfl (h5.mono le6649) h7680 (fun a b7681 o7682 hE h7683 => ?_))
      obtain ⟨cs7684, C7685, T7686, fr7687, hr7688, hb7689, hc7690⟩ := h7683
      obtain rfl := hr7688
      refine tT 22 1015021567 (fuel := 9) (by kernel_rfl) hE (tk_loadX (off0 := o7682) (off := 0) (c := [.int .u8 (x7679)]) (.int .u8 (x7679)) rfl rfl rfl rfl hE rfl hS rfl hb7689 hc7690 (by kernel_rfl) (by kernel_rfl) (kD hS dn_nil) (fun a hE => ?_))
      refine tW 23 1023410175 (fuel := 8) (by kernel_rfl) hE (fun M => tk_pure (.int .u64 ((IntKind.wrap .u64 x7679))) hE rfl rfl rfl rfl (fun _ _ _ e => by cases e; rfl) (by kernel_rfl) (fun a hE => ?_))
      refine wP 24 1040187391 7 (.int .u64 ((IntKind.wrap .u64 ((IntKind.wrap .u64 ((IntKind.wrap .u64 ((IntKind.wrap .u64 ((IntKind.wrap .u64 x7655) * (256 : Int))) + (IntKind.wrap .u64 x7667))) * (256 : Int))) + (IntKind.wrap .u64 x7679))))) hE (fun a hE => ?_)
      refine wP 25 1073741823 6 (.int .u64 ((IntKind.wrap .u64 ((IntKind.wrap .u64 ((IntKind.wrap .u64 ((IntKind.wrap .u64 ((IntKind.wrap .u64 ((IntKind.wrap .u64 x7655) * (256 : Int))) + (IntKind.wrap .u64 x7667))) * (256 : Int))) + (IntKind.wrap .u64 x7679))) * (256 : Int))))) hE (fun a hE => ?_)
      obtain ⟨x7691, h7692, hf⟩ := bind_some hf
      refine tW 30 2147483647 (fuel := 5) (by kernel_rfl) hE (fun M => g_index (K := (kdInt .u8)) (e := 5) (by_ := 1) (zl := 1) rfl rfl rfl rfl hE rfl rfl rfl (by kernel_rfl) rfl (h5.mono le6649) h7692 (fun a b7693 o7694 hE h7695 => ?_))
      obtain ⟨cs7696, C7697, T7698, fr7699, hr7700, hb7701, hc7702⟩ := h7695
      obtain rfl := hr7700
      refine tT 31 4294967295 (fuel := 4) (by kernel_rfl) hE (tk_loadX (off0 := o7694) (off := 0) (c := [.int .u8 (x7691)]) (.int .u8 (x7691)) rfl rfl rfl rfl hE rfl hS rfl hb7701 hc7702 (by kernel_rfl) (by kernel_rfl) (kD hS dn_nil) (fun a hE => ?_))
      refine tW 32 8589934591 (fuel := 3) (by kernel_rfl) hE (fun M => tk_pure (.int .u64 ((IntKind.wrap .u64 x7691))) hE rfl rfl rfl rfl (fun _ _ _ e => by cases e; rfl) (by kernel_rfl) (fun a hE => ?_))
      refine wP 33 17179869183 2 (.int .u64 ((IntKind.wrap .u64 ((IntKind.wrap .u64 ((IntKind.wrap .u64 ((IntKind.wrap .u64 ((IntKind.wrap .u64 ((IntKind.wrap .u64 ((IntKind.wrap .u64 x7655) * (256 : Int))) + (IntKind.wrap .u64 x7667))) * (256 : Int))) + (IntKind.wrap .u64 x7679))) * (256 : Int))) + (IntKind.wrap .u64 x7691))))) hE (fun a hE => ?_)
      obtain ⟨hm7703, hf⟩ := chk_some hf
      refine tW 34 34359738367 (fuel := 1) (by kernel_rfl) hE (fun M => tk_indexPA (N := 64) (k := .u64) (m := y6647.1) rfl rfl rfl rfl hE rfl rfl rfl (by kernel_rfl) hm7703 (fun a hE => ?_))
      have hS := hS.pk (.c 2 rfl (.c 0 rfl (.c 1 rfl .n))) rfl
      obtain ⟨v7704, hv7705, hf⟩ := bind_some hf
      replace hv7705 := Option.some.inj hv7705
      refine oG 35 68719476735 (fuel := 0) (by kernel_rfl) (op_storePA (N := 64) (k := .u64) (v := y6647.2) (m := y6647.1) (z := (IntKind.wrap .u64 ((IntKind.wrap .u64 ((IntKind.wrap .u64 ((IntKind.wrap .u64 ((IntKind.wrap .u64 ((IntKind.wrap .u64 ((IntKind.wrap .u64 x7655) * (256 : Int))) + (IntKind.wrap .u64 x7667))) * (256 : Int))) + (IntKind.wrap .u64 x7679))) * (256 : Int))) + (IntKind.wrap .u64 x7691)))) rfl rfl rfl rfl hE hS rfl rfl (by kernel_rfl) hm7703 (fun a w hkp hE hS => ⟨hkp.mono (fun _ h => h), ?_⟩))
      clear hkp
      rw [hv7705] at hS
      refine doneG (by kernel_rfl) ?_
      refine wpIn_exit ?_
      have hS := hS.pk (.c 1 rfl (.c 2 rfl (.c 0 rfl .n))) rfl
      exact ⟨v7704, D6648, hE.weak (by kernel_rfl), hS, Snap.le.refl _, hf⟩
     ·replace hf := cond_f hb hf
      clear hb
      refine wpIn_skip ?_
      refine wpIn_seq ?_
      refine region_draw (fun j => Keeps (mfOf [] j)) (by kernel_rfl) ?_
      have hS := hS.drew
      first | generalize w.drew = w at hS ⊢ | generalize w0.drew = w at hS ⊢
      refine wP 0 1 9 (.int .i64 (y6647.1)) hE (fun a hE => ?_)
      refine wP 1 3 8 (.int .i64 ((IntKind.wrap .i64 (y6647.1 - (15 : Int))))) hE (fun a hE => ?_)
      refine wP 4 19 7 (.int .i64 (y6647.1)) hE (fun a hE => ?_)
      refine wP 5 51 6 (.int .i64 ((IntKind.wrap .i64 (y6647.1 - (2 : Int))))) hE (fun a hE => ?_)
      obtain ⟨hm7708, hf⟩ := chk_some hf
      refine tW 2 55 (fuel := 5) (by kernel_rfl) hE (fun M => tk_indexPA (N := 64) (k := .u64) (m := (IntKind.wrap .i64 (y6647.1 - (15 : Int)))) rfl rfl rfl rfl hE rfl rfl rfl (by kernel_rfl) hm7708 (fun a hE => ?_))
      refine tT 3 63 (fuel := 4) (by kernel_rfl) hE (tk_loadPA 2 (N := 64) (k := .u64) (v := y6647.2) (m := (IntKind.wrap .i64 (y6647.1 - (15 : Int)))) rfl rfl rfl rfl hE rfl hS rfl rfl (by kernel_rfl) hm7708 (kL (j := 2) hS rfl List.not_mem_nil) (fun a hE => ?_))
      refine wP 8 319 3 (.int .u64 ((vget (y6647.2) (Int.toNat ((IntKind.wrap .i64 (y6647.1 - (15 : Int)))))))) hE (fun a hE => ?_)
      obtain ⟨hm7709, hf⟩ := chk_some hf
      refine tW 6 383 (fuel := 2) (by kernel_rfl) hE (fun M => tk_indexPA (N := 64) (k := .u64) (m := (IntKind.wrap .i64 (y6647.1 - (2 : Int)))) rfl rfl rfl rfl hE rfl rfl rfl (by kernel_rfl) hm7709 (fun a hE => ?_))
      refine tT 7 511 (fuel := 1) (by kernel_rfl) hE (tk_loadPA 2 (N := 64) (k := .u64) (v := y6647.2) (m := (IntKind.wrap .i64 (y6647.1 - (2 : Int)))) rfl rfl rfl rfl hE rfl hS rfl rfl (by kernel_rfl) hm7709 (kL (j := 2) hS rfl List.not_mem_nil) (fun a hE => ?_))
      refine wP 9 1023 0 (.int .u64 ((vget (y6647.2) (Int.toNat ((IntKind.wrap .i64 (y6647.1 - (2 : Int)))))))) hE (fun a hE => ?_)
      refine doneG (by kernel_rfl) ?_
      refine region_draw (fun j => Keeps (mfOf [(30, [b4396])] j)) (by kernel_rfl) ?_
      have hS := hS.drew
      first | generalize w.drew = w at hS ⊢ | generalize w0.drew = w at hS ⊢
      refine wP 0 1 30 (.int .i64 (y6647.1)) hE (fun a hE => ?_)
      refine wP 1 3 29 (.int .u64 ((vget (y6647.2) (Int.toNat ((IntKind.wrap .i64 (y6647.1 - (2 : Int)))))))) hE (fun a hE => ?_)
      refine wP 3 11 28 (.int .u64 ((vget (y6647.2) (Int.toNat ((IntKind.wrap .i64 (y6647.1 - (2 : Int)))))))) hE (fun a hE => ?_)
      refine wP 6 75 27 (.int .u64 ((vget (y6647.2) (Int.toNat ((IntKind.wrap .i64 (y6647.1 - (2 : Int)))))))) hE (fun a hE => ?_)
      refine wP 9 587 26 (.int .i64 (y6647.1)) hE (fun a hE => ?_)
      refine wP 10 1611 25 (.int .i64 ((IntKind.wrap .i64 (y6647.1 - (7 : Int))))) hE (fun a hE => ?_)
      refine wP 14 17995 24 (.int .u64 ((vget (y6647.2) (Int.toNat ((IntKind.wrap .i64 (y6647.1 - (15 : Int)))))))) hE (fun a hE => ?_)
      refine wP 16 83531 23 (.int .u64 ((vget (y6647.2) (Int.toNat ((IntKind.wrap .i64 (y6647.1 - (15 : Int)))))))) hE (fun a hE => ?_)
      refine wP 19 607819 22 (.int .u64 ((vget (y6647.2) (Int.toNat ((IntKind.wrap .i64 (y6647.1 - (15 : Int)))))))) hE (fun a hE => ?_)
      refine wP 23 8996427 21 (.int .i64 (y6647.1)) hE (fun a hE => ?_)
      refine wP 24 25773643 20 (.int .i64 ((IntKind.wrap .i64 (y6647.1 - (16 : Int))))) hE (fun a hE => ?_)
      obtain ⟨hm7745, hf⟩ := chk_some hf
      refine tW 11 25775691 (fuel := 19) (by kernel_rfl) hE (fun M => tk_indexPA (N := 64) (k := .u64) (m := (IntKind.wrap .i64 (y6647.1 - (7 : Int)))) rfl rfl rfl rfl hE rfl rfl rfl (by kernel_rfl) hm7745 (fun a hE => ?_))
      refine tT 12 25779787 (fuel := 18) (by kernel_rfl) hE (tk_loadPA 2 (N := 64) (k := .u64) (v := y6647.2) (m := (IntKind.wrap .i64 (y6647.1 - (7 : Int)))) rfl rfl rfl rfl hE rfl hS rfl rfl (by kernel_rfl) hm7745 (kL (j := 2) hS rfl List.not_mem_nil) (fun a hE => ?_))
      obtain ⟨hm7746, hf⟩ := chk_some hf
      refine tW 25 59334219 (fuel := 17) (by kernel_rfl) hE (fun M => tk_indexPA (N := 64) (k := .u64) (m := (IntKind.wrap .i64 (y6647.1 - (16 : Int)))) rfl rfl rfl rfl hE rfl rfl rfl (by kernel_rfl) hm7746 (fun a hE => ?_))
      refine tT 26 126443083 (fuel := 16) (by kernel_rfl) hE (tk_loadPA 2 (N := 64) (k := .u64) (v := y6647.2) (m := (IntKind.wrap .i64 (y6647.1 - (16 : Int)))) rfl rfl rfl rfl hE rfl hS rfl rfl (by kernel_rfl) hm7746 (kL (j := 2) hS rfl List.not_mem_nil) (fun a hE => ?_))
      obtain ⟨r7747, h7748, hf⟩ := bind_some hf
      refine oG 2 126443087 (fuel := 15) (by kernel_rfl) (op_call rfl rfl rfl rfl hE rfl rfl rfl rfl (by kernel_rfl) (inspeximusref01_right.calls (g := g) h7748 (hS.st.fore (L := [])) ) (fun a v w hR hE => ?_))
      obtain ⟨D7749, rfl, hS1⟩ := hR
      refine ⟨(hS1.keeps.sub (M' := []) trivial).mono (fun _ h => h), ?_⟩
      have le7751 := hS1.dle
      have hS := hS.callR hS1 rfl .n
      clear hS1
      obtain ⟨r7752, h7753, hf⟩ := bind_some hf
      refine oG 4 126443103 (fuel := 14) (by kernel_rfl) (op_call rfl rfl rfl rfl hE rfl rfl rfl rfl (by kernel_rfl) (inspeximusref01_right.calls (g := g) h7753 (hS.st.fore (L := [])) ) (fun a v w hR hE => ?_))
      obtain ⟨D7754, rfl, hS1⟩ := hR
      refine ⟨(hS1.keeps.sub (M' := []) trivial).mono (fun _ h => h), ?_⟩
      have le7756 := hS1.dle
      have hS := hS.callR hS1 rfl .n
      clear hS1
      refine wP 5 126443135 13 (.int .u64 ((bxor .u64 r7747 r7752))) hE (fun a hE => ?_)
      obtain ⟨r7757, h7758, hf⟩ := bind_some hf
      refine oG 7 126443263 (fuel := 12) (by kernel_rfl) (op_call rfl rfl rfl rfl hE rfl rfl rfl rfl (by kernel_rfl) (inspeximusref01_shift.calls (g := g) h7758 (hS.st.fore (L := [])) ) (fun a v w hR hE => ?_))
      obtain ⟨D7759, rfl, hS1⟩ := hR
      refine ⟨(hS1.keeps.sub (M' := []) trivial).mono (fun _ h => h), ?_⟩
      have le7761 := hS1.dle
      have hS := hS.callR hS1 rfl .n
      clear hS1
      refine wP 8 126443519 11 (.int .u64 ((bxor .u64 (bxor .u64 r7747 r7752) r7757))) hE (fun a hE => ?_)
      refine wP 13 126451711 10 (.int .u64 ((IntKind.wrap .u64 ((bxor .u64 (bxor .u64 r7747 r7752) r7757) + (vget (y6647.2) (Int.toNat ((IntKind.wrap .i64 (y6647.1 - (7 : Int)))))))))) hE (fun a hE => ?_)
      obtain ⟨r7762, h7763, hf⟩ := bind_some hf
      refine oG 15 126484479 (fuel := 9) (by kernel_rfl) (op_call rfl rfl rfl rfl hE rfl rfl rfl rfl (by kernel_rfl) (inspeximusref01_right.calls (g := g) h7763 (hS.st.fore (L := [])) ) (fun a v w hR hE => ?_))
      obtain ⟨D7764, rfl, hS1⟩ := hR
      refine ⟨(hS1.keeps.sub (M' := []) trivial).mono (fun _ h => h), ?_⟩
      have le7766 := hS1.dle
      have hS := hS.callR hS1 rfl .n
      clear hS1
      obtain ⟨r7767, h7768, hf⟩ := bind_some hf
      refine oG 17 126615551 (fuel := 8) (by kernel_rfl) (op_call rfl rfl rfl rfl hE rfl rfl rfl rfl (by kernel_rfl) (inspeximusref01_right.calls (g := g) h7768 (hS.st.fore (L := [])) ) (fun a v w hR hE => ?_))
      obtain ⟨D7769, rfl, hS1⟩ := hR
      refine ⟨(hS1.keeps.sub (M' := []) trivial).mono (fun _ h => h), ?_⟩
      have le7771 := hS1.dle
      have hS := hS.callR hS1 rfl .n
      clear hS1
      refine wP 18 126877695 7 (.int .u64 ((bxor .u64 r7762 r7767))) hE (fun a hE => ?_)
      obtain ⟨r7772, h7773, hf⟩ := bind_some hf
      refine oG 20 127926271 (fuel := 6) (by kernel_rfl) (op_call rfl rfl rfl rfl hE rfl rfl rfl rfl (by kernel_rfl) (inspeximusref01_shift.calls (g := g) h7773 (hS.st.fore (L := [])) ) (fun a v w hR hE => ?_))
      obtain ⟨D7774, rfl, hS1⟩ := hR
      refine ⟨(hS1.keeps.sub (M' := []) trivial).mono (fun _ h => h), ?_⟩
      have le7776 := hS1.dle
      have hS := hS.callR hS1 rfl .n
      clear hS1
      refine wP 21 130023423 5 (.int .u64 ((bxor .u64 (bxor .u64 r7762 r7767) r7772))) hE (fun a hE => ?_)
      refine wP 22 134217727 4 (.int .u64 ((IntKind.wrap .u64 ((IntKind.wrap .u64 ((bxor .u64 (bxor .u64 r7747 r7752) r7757) + (vget (y6647.2) (Int.toNat ((IntKind.wrap .i64 (y6647.1 - (7 : Int)))))))) + (bxor .u64 (bxor .u64 r7762 r7767) r7772))))) hE (fun a hE => ?_)
      refine wP 27 268435455 3 (.int .u64 ((IntKind.wrap .u64 ((IntKind.wrap .u64 ((IntKind.wrap .u64 ((bxor .u64 (bxor .u64 r7747 r7752) r7757) + (vget (y6647.2) (Int.toNat ((IntKind.wrap .i64 (y6647.1 - (7 : Int)))))))) + (bxor .u64 (bxor .u64 r7762 r7767) r7772))) + (vget (y6647.2) (Int.toNat ((IntKind.wrap .i64 (y6647.1 - (16 : Int)))))))))) hE (fun a hE => ?_)
      refine wP 28 536870911 2 (.int .u64 ((Int.tmod (IntKind.wrap .u64 ((IntKind.wrap .u64 ((IntKind.wrap .u64 ((bxor .u64 (bxor .u64 r7747 r7752) r7757) + (vget (y6647.2) (Int.toNat ((IntKind.wrap .i64 (y6647.1 - (7 : Int)))))))) + (bxor .u64 (bxor .u64 r7762 r7767) r7772))) + (vget (y6647.2) (Int.toNat ((IntKind.wrap .i64 (y6647.1 - (16 : Int)))))))) 4294967296))) hE (fun a hE => ?_)
      obtain ⟨hm7777, hf⟩ := chk_some hf
      refine tW 29 1073741823 (fuel := 1) (by kernel_rfl) hE (fun M => tk_indexPA (N := 64) (k := .u64) (m := y6647.1) rfl rfl rfl rfl hE rfl rfl rfl (by kernel_rfl) hm7777 (fun a hE => ?_))
      have hS := hS.pk (.c 2 rfl (.c 0 rfl (.c 1 rfl .n))) rfl
      obtain ⟨v7778, hv7779, hf⟩ := bind_some hf
      replace hv7779 := Option.some.inj hv7779
      refine oG 30 2147483647 (fuel := 0) (by kernel_rfl) (op_storePA (N := 64) (k := .u64) (v := y6647.2) (m := y6647.1) (z := (Int.tmod (IntKind.wrap .u64 ((IntKind.wrap .u64 ((IntKind.wrap .u64 ((bxor .u64 (bxor .u64 r7747 r7752) r7757) + (vget (y6647.2) (Int.toNat ((IntKind.wrap .i64 (y6647.1 - (7 : Int)))))))) + (bxor .u64 (bxor .u64 r7762 r7767) r7772))) + (vget (y6647.2) (Int.toNat ((IntKind.wrap .i64 (y6647.1 - (16 : Int)))))))) 4294967296)) rfl rfl rfl rfl hE hS rfl rfl (by kernel_rfl) hm7777 (fun a w hkp hE hS => ⟨hkp.mono (fun _ h => h), ?_⟩))
      clear hkp
      rw [hv7779] at hS
      refine doneG (by kernel_rfl) ?_
      have hS := hS.pk (.c 1 rfl (.c 2 rfl (.c 0 rfl .n))) rfl
      exact ⟨v7778, D7774, hE.weak (by kernel_rfl), hS, (le2 (le2 (le2 (le2 (le2 le7751 le7756) le7761) le7766) le7771) le7776), hf⟩
    ·clear hE hS
     rintro a w ⟨y7497, D7498, hE, hS, le7499, hf⟩
     replace hf := hj7501 _ hf
     clear hj7501
     refine region_at ?_
     refine sN 3 3 [(6, .int .i64 ((IntKind.wrap .i64 (y6647.1 + (1 : Int)))))] hE (fun a hE => ?_)
     refine at_end rfl ?_
     exact ⟨((IntKind.wrap .i64 (y6647.1 + (1 : Int))), y7497), D7498, hE.weak (by kernel_rfl), hS, (le2 le6649 le7499), hf⟩
   ·replace hf := cond_f hb hf
    clear hb
    refine wpIn_exit ?_
    obtain rfl := Option.some.inj hf
    exact ⟨y6647.2, D6648, hE.weak (by kernel_rfl), hS, le6649, rfl⟩
set_option maxRecDepth 100000 in
set_option maxHeartbeats 4000000 in
theorem inspeximusref01_Sum.calls {K : Nat} {g w0 : World} {D0 : Snap} {x1 : (List Int)} {A2 : Option Addr} {c3 : Nat} {r : ((Vector Int 32))} (hf : inspeximusref01_Sum.f K x1 = some r) (hS0 : St g w0 D0 []) (h4 : Sl (kdInt .u8) D0 A2 c3 (x1)) (hG0 : Cell (kdArr .u32 8) D0 0 0 gl_First) (hG1 : Cell (kdArr .u32 64) D0 1 0 gl_K) :
  CallsIn (Fw none) 0 Tryd.prog 49 (List.toArray [.slice A2 (List.length (x1)) c3]) w0 (fun e w' => ∃ v, e = .returned v ∧ ∃ (D1 : Snap), v = .agg (List.toArray (acells .u8 32 (r))) ∧ Stp g w0 D0 [] w' D1 []) := by
 unfold inspeximusref01_Sum.f at hf
 have hS := Stp.refl hS0
 clear hS0
 refine calls_body (n := 54) Tryd.func49 rfl Tryd.ntmps49 rfl (fun a hE => ?_)
 have hE : Env a 54 [] [(0, .slice A2 (List.length (x1)) c3)] := hE
 refine wpIn_seq ?_
 refine region_at ?_
 refine at_op (op_alloc (z := .agg (List.toArray (acells .u8 32 ((Vector.replicate 32 (0 : Int)))))) rfl rfl rfl rfl hE rfl hS (by kernel_rfl) (fun a b971 w _ hE hS => ?_)) rfl
 refine at_end rfl ?_
 refine wpIn_seq ?_
 refine region_at ?_
 refine at_op (op_buildSlice (K := (kdInt .u8)) (e := 5) (cs := []) ([] : List Int) rfl rfl rfl rfl hE rfl hS rfl (by kernel_rfl) rfl rfl (by exact (show RL (kdInt .u8) D0 ([] : List Int) ([]) from rfl)) (fun a A973 q974 w _ hE h975 hS => ?_)) rfl
 refine sN 1 2 [(11, .slice A2 (List.length (x1)) c3)] hE (fun a hE => ?_)
 obtain ⟨l977, h978, hf⟩ := bind_some hf
 refine at_op (g_append (K := (kdInt .u8)) (e := 5) (bytes := 1) (l := ([] : List Int)) (m := x1) rfl rfl rfl rfl hE rfl hS rfl rfl (by kernel_rfl) rfl rfl h975 h4 h978 (fun a A979 c980 q981 w _ hE h982 hS => ?_)) rfl
 refine sN 2 5 [(14, .int .i64 (((List.length (x1) : Nat) : Int)))] hE (fun a hE => ?_)
 obtain ⟨r984, h985, hf⟩ := bind_some hf
 refine aC rfl rfl rfl rfl hE rfl rfl rfl rfl (inspeximusref01_Fill.calls (g := g) h985 (hS.st.fore (L := [])) ) (fun a v w hR hE => ?_)
 obtain ⟨D986, A988, c989, q990, rfl, hS1, h991⟩ := hR
 have le993 := hS1.dle
 have hS := hS.callR hS1 rfl (.c .n)
 clear hS1
 obtain ⟨D994, q997, le995, hS, h998, h996⟩ := hS.lent h991
 have hS := hS.pk (.c 1 rfl (.c 0 rfl (.c 2 rfl .n))) rfl
 obtain ⟨l999, h1000, hf⟩ := bind_some hf
 refine at_op (g_append (K := (kdInt .u8)) (e := 5) (bytes := 1) (l := l977) (m := r984) rfl rfl rfl rfl hE rfl hS rfl rfl (by kernel_rfl) rfl rfl (h982.mono (le2 le993 le995)) h996 h1000 (fun a A1001 c1002 q1003 w _ hE h1004 hS => ?_)) rfl
 refine sN 1 8 [(3, .slice A1001 (List.length (l999)) c1002)] hE (fun a hE => ?_)
 refine at_end rfl ?_
 refine wpIn_seq ?_
 refine region_at ?_
 obtain ⟨cs1006, C1007, T1008, fr1009, hr1010, hb1011, hc1012⟩ := (hG0.mono (le2 le993 le995))
 obtain rfl := hr1010
 refine at_op (op_tk hE (tk_loadX (off0 := 0) (off := 0) (c := acells .u32 8 (gl_First)) (.agg (List.toArray (acells .u32 8 (gl_First)))) rfl rfl rfl rfl hE rfl hS rfl hb1011 hc1012 (by kernel_rfl) (by kernel_rfl) (kD hS dn_nil) (fun a hE => ?_))) rfl
 refine at_op (op_alloc (z := .agg (List.toArray (acells .u32 8 ((Vector.replicate 8 (0 : Int)))))) rfl rfl rfl rfl hE rfl hS (by kernel_rfl) (fun a b1013 w _ hE hS => ?_)) rfl
 refine at_op (op_store (v := .agg (List.toArray (acells .u32 8 (gl_First)))) (acells .u32 8 (gl_First)) rfl rfl rfl rfl hE hS rfl rfl (by kernel_rfl) (by kernel_rfl) (by kernel_rfl) (by kernel_rfl) (by kernel_rfl) (fun a w _ hE hS => ?_)) rfl
 refine at_end rfl ?_
 refine wpIn_seq ?_
 refine wpIn_seq ?_
 refine region_at ?_
 refine sN 1 1 [(5, .int .i64 ((0 : Int)))] hE (fun a hE => ?_)
 refine at_end rfl ?_
 have hS := hS.pk (.c 1 rfl (.c 0 rfl (.c 2 rfl (.c 3 rfl .n)))) rfl
 obtain ⟨D1286, q1289, le1287, hS, h1290, h1288⟩ := hS.lent h1004
 obtain ⟨s1389, hf, hs1390⟩ := bind_some hf
 have hS := hS.pk (.c 3 rfl (.c 1 rfl (.c 0 rfl .n))) rfl
 refine block_loop (fun a w => ∃ (z1386 : (Vector Int 8)), ∃ (D1387 : Snap), Env a 54 [] [(2, .pointer (some ⟨b971, 0, none⟩)), (4, .pointer (some ⟨b1013, 0, none⟩))] ∧ Stp g w0 D0 [] w D1387 [bx b971 48 (acells .u8 32 ((Vector.replicate 32 (0 : Int)))), bx b1013 98 (acells .u32 8 (z1386))] ∧ Snap.le D1286 D1387 ∧ z1386 = s1389) (fun k a w => ∃ (y1340 : Int × (Vector Int 8)), ∃ (D1341 : Snap), Env a 54 [] [(2, .pointer (some ⟨b971, 0, none⟩)), (3, .slice A1001 (List.length (l999)) c1002), (4, .pointer (some ⟨b1013, 0, none⟩)), (5, .int .i64 (y1340.1))] ∧ Stp g w0 D0 [] w D1341 [bx b971 48 (acells .u8 32 ((Vector.replicate 32 (0 : Int)))), bx b1013 98 (acells .u32 8 (y1340.2)), q1289] ∧ Snap.le D1286 D1341 ∧ inspeximusref01_Sum_l1.l K l999 k y1340 = some s1389) K ?_ ?_ ?_
 ·exact ⟨((0 : Int), gl_First), D1286, hE.weak (by kernel_rfl), hS, Snap.le.refl _, hf⟩
 ·clear hE hS hf
  rintro a w ⟨z1386, D1387, hE, hS, le1388, rfl⟩
  have hf := hs1390
  clear hs1390
  refine wpIn_seq ?_
  refine region_at ?_
  refine at_op (op_alloc (z := .agg (List.toArray (acells .u8 32 ((Vector.replicate 32 (0 : Int)))))) rfl rfl rfl rfl hE rfl hS (by kernel_rfl) (fun a b1431 w _ hE hS => ?_)) rfl
  refine at_end rfl ?_
  refine wpIn_seq ?_
  refine wpIn_seq ?_
  refine region_at ?_
  refine sN 1 1 [(7, .int .i64 ((0 : Int)))] hE (fun a hE => ?_)
  refine at_end rfl ?_
  obtain ⟨s1857, hf, hs1858⟩ := bind_some hf
  have hS := hS.pk (.c 1 rfl (.c 2 rfl (.c 0 rfl .n))) rfl
  refine block_loop (fun a w => ∃ (z1854 : (Vector Int 32)), ∃ (D1855 : Snap), Env a 54 [] [(2, .pointer (some ⟨b971, 0, none⟩)), (6, .pointer (some ⟨b1431, 0, none⟩))] ∧ Stp g w0 D0 [] w D1855 [bx b971 48 (acells .u8 32 ((Vector.replicate 32 (0 : Int)))), bx b1431 48 (acells .u8 32 (z1854))] ∧ Snap.le D1387 D1855 ∧ z1854 = s1857) (fun k a w => ∃ (y1770 : Int × (Vector Int 32)), ∃ (D1771 : Snap), Env a 54 [] [(2, .pointer (some ⟨b971, 0, none⟩)), (4, .pointer (some ⟨b1013, 0, none⟩)), (6, .pointer (some ⟨b1431, 0, none⟩)), (7, .int .i64 (y1770.1))] ∧ Stp g w0 D0 [] w D1771 [bx b971 48 (acells .u8 32 ((Vector.replicate 32 (0 : Int)))), bx b1013 98 (acells .u32 8 (z1386)), bx b1431 48 (acells .u8 32 (y1770.2))] ∧ Snap.le D1387 D1771 ∧ inspeximusref01_Sum_l2.l K z1386 k y1770 = some s1857) K ?_ ?_ ?_
  ·exact ⟨((0 : Int), (Vector.replicate 32 (0 : Int))), D1387, hE.weak (by kernel_rfl), hS, Snap.le.refl _, hf⟩
  ·clear hE hS hf
   rintro a w ⟨z1854, D1855, hE, hS, le1856, rfl⟩
   have hf := hs1858
   clear hs1858
   refine wpIn_seq ?_
   refine region_at ?_
   refine aL 1 (.agg (List.toArray (acells .u8 32 (z1854)))) hE hS (fun a hE => ?_)
   refine at_op (op_store (v := .agg (List.toArray (acells .u8 32 (z1854)))) (acells .u8 32 (z1854)) rfl rfl rfl rfl hE hS rfl rfl (by kernel_rfl) (by kernel_rfl) (by kernel_rfl) (by kernel_rfl) (by kernel_rfl) (fun a w _ hE hS => ?_)) rfl
   refine at_end rfl ?_
   refine wpIn_ret ?_
   obtain rfl := Option.some.inj hf
   repeat (with_reducible first | refine then_ret ?_ | refine block_ret ?_ | refine qx_ret ?_)
   refine ret_gen ([.agg (List.toArray (acells .u8 32 (z1854)))]) hE (by rw [show Tryd.f49.results.toList = [.cell 2 48] from rfl]; exact ⟨_, _, _, 0, _, _, rfl, rfl, hS.heapAt (j := 0) rfl, by kernel_rfl, rfl⟩) ?_
   have hS := hS.pk .n rfl
   exact ⟨_, rfl, D1855, rfl, hS⟩
  ·clear hE hS hf
   rintro k a w ⟨y1770, D1771, hE, hS, le1772, hf⟩
   obtain ⟨k, rfl, hf⟩ := inspeximusref01_Sum_l2.some _ hf
   refine ⟨k, rfl, ?_⟩
   unfold inspeximusref01_Sum_l2.b at hf
   refine wpIn_seq ?_
   refine wpIn_seq ?_
   refine region_at ?_
   refine sN 2 2 [(33, .bool ((decide (y1770.1 < (8 : Int)))))] hE (fun a hE => ?_)
   refine at_end rfl ?_
   refine cond_split hE (b := (decide (y1770.1 < (8 : Int)))) rfl (fun hb => ?_) (fun hb => ?_)
   ·replace hf := cond_t hb hf
    clear hb
    refine wpIn_skip ?_
    refine wpIn_seq ?_
    refine wpIn_block ?_
    refine wpIn_seq ?_
    refine region_at ?_
    refine sN 1 1 [(36, .int .i64 (y1770.1))] hE (fun a hE => ?_)
    obtain ⟨hm1898, hf⟩ := chk_some hf
    refine at_op (op_tk hE (tk_indexPA (N := 8) (k := .u32) (m := y1770.1) rfl rfl rfl rfl hE rfl rfl rfl (by kernel_rfl) hm1898 (fun a hE => ?_))) rfl
    refine at_op (op_tk hE (tk_loadPA 1 (N := 8) (k := .u32) (v := z1386) (m := y1770.1) rfl rfl rfl rfl hE rfl hS rfl rfl (by kernel_rfl) hm1898 (kL (j := 1) hS rfl List.not_mem_nil) (fun a hE => ?_))) rfl
    refine sN 1 4 [(8, .int .u32 ((vget (z1386) (Int.toNat (y1770.1)))))] hE (fun a hE => ?_)
    refine at_end rfl ?_
    refine wpIn_seq ?_
    refine region_at ?_
    refine sN 1 1 [(9, .int .i64 ((3 : Int)))] hE (fun a hE => ?_)
    refine at_end rfl ?_
    obtain ⟨s1929, hf, hs1930⟩ := bind_some hf
    refine block_loop (fun a w => ∃ (z1926 : (Vector Int 32)), ∃ (D1927 : Snap), Env a 54 [] [(2, .pointer (some ⟨b971, 0, none⟩)), (4, .pointer (some ⟨b1013, 0, none⟩)), (6, .pointer (some ⟨b1431, 0, none⟩)), (7, .int .i64 (y1770.1))] ∧ Stp g w0 D0 [] w D1927 [bx b971 48 (acells .u8 32 ((Vector.replicate 32 (0 : Int)))), bx b1013 98 (acells .u32 8 (z1386)), bx b1431 48 (acells .u8 32 (z1926))] ∧ Snap.le D1771 D1927 ∧ z1926 = s1929) (fun k a w => ∃ (y1914 : Int × Int × (Vector Int 32)), ∃ (D1915 : Snap), Env a 54 [] [(2, .pointer (some ⟨b971, 0, none⟩)), (4, .pointer (some ⟨b1013, 0, none⟩)), (6, .pointer (some ⟨b1431, 0, none⟩)), (7, .int .i64 (y1770.1)), (8, .int .u32 (y1914.1)), (9, .int .i64 (y1914.2.1))] ∧ Stp g w0 D0 [] w D1915 [bx b971 48 (acells .u8 32 ((Vector.replicate 32 (0 : Int)))), bx b1013 98 (acells .u32 8 (z1386)), bx b1431 48 (acells .u8 32 (y1914.2.2))] ∧ Snap.le D1771 D1915 ∧ inspeximusref01_Sum_l3.l K y1770 k y1914 = some s1929) K ?_ ?_ ?_
    ·exact ⟨((vget (z1386) (Int.toNat (y1770.1))), (3 : Int), y1770.2), D1771, hE.weak (by kernel_rfl), hS, Snap.le.refl _, hf⟩
    ·clear hE hS hf
     rintro a w ⟨z1926, D1927, hE, hS, le1928, rfl⟩
     have hf := hs1930
     clear hs1930
     refine region_at ?_
     refine sN 3 3 [(7, .int .i64 ((IntKind.wrap .i64 (y1770.1 + (1 : Int)))))] hE (fun a hE => ?_)
     refine at_end rfl ?_
     exact ⟨((IntKind.wrap .i64 (y1770.1 + (1 : Int))), z1926), D1927, hE.weak (by kernel_rfl), hS, (le2 le1772 le1928), hf⟩
    ·clear hE hS hf
     rintro k a w ⟨y1914, D1915, hE, hS, le1916, hf⟩
     obtain ⟨k, rfl, hf⟩ := inspeximusref01_Sum_l3.some _ hf
     refine ⟨k, rfl, ?_⟩
     unfold inspeximusref01_Sum_l3.b at hf
     refine wpIn_seq ?_
     refine wpIn_seq ?_
     refine region_at ?_
     refine sN 2 2 [(40, .bool ((decide ((0 : Int) ≤ y1914.2.1))))] hE (fun a hE => ?_)
     refine at_end rfl ?_
     refine cond_split hE (b := (decide ((0 : Int) ≤ y1914.2.1))) rfl (fun hb => ?_) (fun hb => ?_)
     ·replace hf := cond_t hb hf
      clear hb
      refine wpIn_skip ?_
      refine wpIn_seq ?_
      refine wpIn_block ?_
      refine wpIn_seq ?_
      refine region_at ?_
      refine sN 7 7 [(46, .int .i64 ((IntKind.wrap .i64 ((IntKind.wrap .i64 ((4 : Int) * y1770.1)) + y1914.2.1)))), (49, .int .u8 ((IntKind.wrap .u8 (Int.tmod y1914.1 256))))] hE (fun a hE => ?_)
      obtain ⟨hm1934, hf⟩ := chk_some hf
      refine at_op (op_tk hE (tk_indexPA (N := 32) (k := .u8) (m := (IntKind.wrap .i64 ((IntKind.wrap .i64 ((4 : Int) * y1770.1)) + y1914.2.1))) rfl rfl rfl rfl hE rfl rfl rfl (by kernel_rfl) hm1934 (fun a hE => ?_))) rfl
      have hS := hS.pk (.c 2 rfl (.c 0 rfl (.c 1 rfl .n))) rfl
      obtain ⟨v1935, hv1936, hf⟩ := bind_some hf
      replace hv1936 := Option.some.inj hv1936
      refine at_op (op_storePA (N := 32) (k := .u8) (v := y1914.2.2) (m := (IntKind.wrap .i64 ((IntKind.wrap .i64 ((4 : Int) * y1770.1)) + y1914.2.1))) (z := (IntKind.wrap .u8 (Int.tmod y1914.1 256))) rfl rfl rfl rfl hE hS rfl rfl (by kernel_rfl) hm1934 (fun a w _ hE hS => ?_)) rfl
      rw [hv1936] at hS
      refine at_end rfl ?_
      refine region_at ?_
      refine sN 3 3 [(8, .int .u32 ((IntKind.wrap .u32 (Int.tdiv y1914.1 256))))] hE (fun a hE => ?_)
      refine at_end rfl ?_
      refine region_at ?_
      refine sN 3 3 [(9, .int .i64 ((IntKind.wrap .i64 (y1914.2.1 - (1 : Int)))))] hE (fun a hE => ?_)
      refine at_end rfl ?_
      have hS := hS.pk (.c 1 rfl (.c 2 rfl (.c 0 rfl .n))) rfl
      exact ⟨((IntKind.wrap .u32 (Int.tdiv y1914.1 256)), (IntKind.wrap .i64 (y1914.2.1 - (1 : Int))), v1935), D1915, hE.weak (by kernel_rfl), hS, le1916, hf⟩
     ·replace hf := cond_f hb hf
      clear hb
      refine wpIn_exit ?_
      obtain rfl := Option.some.inj hf
      exact ⟨y1914.2.2, D1915, hE.weak (by kernel_rfl), hS, le1916, rfl⟩
   ·replace hf := cond_f hb hf
    clear hb
    refine wpIn_exit ?_
    obtain rfl := Option.some.inj hf
    have hS := hS.pk (.c 0 rfl (.c 2 rfl .n)) rfl
    exact ⟨y1770.2, D1771, hE.weak (by kernel_rfl), hS, le1772, rfl⟩
 ·clear hE hS hf
  rintro k a w ⟨y1340, D1341, hE, hS, le1342, hf⟩
  obtain ⟨k, rfl, hf⟩ := inspeximusref01_Sum_l1.some _ hf
  refine ⟨k, rfl, ?_⟩
  unfold inspeximusref01_Sum_l1.b at hf
  refine wpIn_seq ?_
  refine wpIn_seq ?_
  refine region_at ?_
  refine sN 5 5 [(22, .bool ((decide ((IntKind.wrap .i64 (y1340.1 + (64 : Int))) ≤ ((List.length (l999) : Nat) : Int)))))] hE (fun a hE => ?_)
  refine at_end rfl ?_
  refine cond_split hE (b := (decide ((IntKind.wrap .i64 (y1340.1 + (64 : Int))) ≤ ((List.length (l999) : Nat) : Int)))) rfl (fun hb => ?_) (fun hb => ?_)
  ·replace hf := cond_t hb hf
   clear hb
   refine wpIn_skip ?_
   refine wpIn_seq ?_
   refine wpIn_block ?_
   refine region_draw (fun j => Keeps (mfOf [(7, [b1013])] j)) (by kernel_rfl) ?_
   have hS := hS.drew
   first | generalize w.drew = w at hS ⊢ | generalize w0.drew = w at hS ⊢
   refine wP 1 2 7 (.slice A1001 (List.length (l999)) c1002) hE (fun a hE => ?_)
   refine wP 2 6 6 (.int .i64 (y1340.1)) hE (fun a hE => ?_)
   refine wP 3 14 5 (.int .i64 (y1340.1)) hE (fun a hE => ?_)
   refine wP 4 30 4 (.int .i64 ((IntKind.wrap .i64 (y1340.1 + (64 : Int))))) hE (fun a hE => ?_)
   refine tT 0 31 (fuel := 3) (by kernel_rfl) hE (tk_load 1 (.agg (List.toArray (acells .u32 8 (y1340.2)))) rfl rfl rfl rfl hE rfl hS rfl rfl (by kernel_rfl) (kL (j := 1) hS rfl List.not_mem_nil) (fun a hE => ?_))
   obtain ⟨l1421, h1422, hf⟩ := bind_some hf
   refine tW 5 63 (fuel := 2) (by kernel_rfl) hE (fun M => g_slice (K := (kdInt .u8)) (e := 5) (by_ := 1) (zl := 1) rfl rfl rfl rfl hE rfl rfl (by kernel_rfl) ⟨_, rfl⟩ ⟨_, rfl⟩ (h1288.mono le1342) h1422 (fun a A1423 c1424 hE h1425 => ?_))
   obtain ⟨r1426, h1427, hf⟩ := bind_some hf
   refine oG 6 127 (fuel := 1) (by kernel_rfl) (op_call rfl rfl rfl rfl hE rfl rfl rfl rfl (by kernel_rfl) (inspeximusref01_Turn.calls (g := g) h1427 (hS.st.fore (L := [])) h1425 (hG1.mono (le2 (le2 (le2 le993 le995) le1287) le1342))) (fun a v w hR hE => ?_))
   obtain ⟨D1428, rfl, hS1⟩ := hR
   refine ⟨(hS1.keeps.sub (M' := []) trivial).mono (fun _ h => h), ?_⟩
   have le1430 := hS1.dle
   have hS := hS.callR hS1 rfl .n
   clear hS1
   have hS := hS.pk (.c 1 rfl (.c 0 rfl (.c 2 rfl .n))) rfl
   refine oG 7 255 (fuel := 0) (by kernel_rfl) (op_store (v := .agg (List.toArray (acells .u32 8 (r1426)))) (acells .u32 8 (r1426)) rfl rfl rfl rfl hE hS rfl rfl (by kernel_rfl) (by kernel_rfl) (by kernel_rfl) (by kernel_rfl) (by kernel_rfl) (fun a w hkp hE hS => ⟨hkp.mono (fun _ h => h), ?_⟩))
   clear hkp
   refine doneG (by kernel_rfl) ?_
   refine region_at ?_
   refine sN 3 3 [(5, .int .i64 ((IntKind.wrap .i64 (y1340.1 + (64 : Int)))))] hE (fun a hE => ?_)
   refine at_end rfl ?_
   have hS := hS.pk (.c 1 rfl (.c 0 rfl (.c 2 rfl .n))) rfl
   exact ⟨((IntKind.wrap .i64 (y1340.1 + (64 : Int))), r1426), D1428, hE.weak (by kernel_rfl), hS, (le2 le1342 le1430), hf⟩
  ·replace hf := cond_f hb hf
   clear hb
   refine wpIn_exit ?_
   obtain rfl := Option.some.inj hf
   have hS := hS.pk (.c 0 rfl (.c 1 rfl .n)) rfl
   exact ⟨y1340.2, D1341, hE.weak (by kernel_rfl), hS, le1342, rfl⟩
set_option maxRecDepth 100000 in
set_option maxHeartbeats 4000000 in
theorem inspeximusref02_Of.calls {K : Nat} {g w0 : World} {D0 : Snap} {x1 : Int} {x2 : (List (List Int))} {A3 : Option Addr} {c4 : Nat} {r : ((Vector Int 32))} (hf : inspeximusref02_Of.f K x1 x2 = some r) (hS0 : St g w0 D0 []) (h5 : Sl (kdSlice (kdInt .u8)) D0 A3 c4 (x2)) (hG0 : Cell (kdArr .u32 8) D0 0 0 gl_First) (hG1 : Cell (kdArr .u32 64) D0 1 0 gl_K) :
  CallsIn (Fw none) 0 Tryd.prog 40 (List.toArray [.int .i64 (x1), .slice A3 (List.length (x2)) c4]) w0 (fun e w' => ∃ v, e = .returned v ∧ ∃ (D1 : Snap), v = .agg (List.toArray (acells .u8 32 (r))) ∧ Stp g w0 D0 [] w' D1 []) := by
 unfold inspeximusref02_Of.f at hf
 have hS := Stp.refl hS0
 clear hS0
 refine calls_body (n := 9) Tryd.func40 rfl Tryd.ntmps40 rfl (fun a hE => ?_)
 have hE : Env a 9 [] [(0, .int .i64 (x1)), (1, .slice A3 (List.length (x2)) c4)] := hE
 refine wpIn_seq ?_
 refine region_at ?_
 refine at_op (op_alloc (z := .agg (List.toArray (acells .u8 32 ((Vector.replicate 32 (0 : Int)))))) rfl rfl rfl rfl hE rfl hS (by kernel_rfl) (fun a b28 w _ hE hS => ?_)) rfl
 refine at_end rfl ?_
 refine wpIn_seq ?_
 refine region_at ?_
 refine sN 2 2 [(5, .int .i64 (x1)), (6, .slice A3 (List.length (x2)) c4)] hE (fun a hE => ?_)
 obtain ⟨r30, h31, hf⟩ := bind_some hf
 refine aC rfl rfl rfl rfl hE rfl rfl rfl rfl (inspeximusref02_Text.calls (g := g) h31 (hS.st.fore (L := [])) h5) (fun a v w hR hE => ?_)
 obtain ⟨D32, A34, c35, q36, rfl, hS1, h37⟩ := hR
 have le39 := hS1.dle
 have hS := hS.callR hS1 rfl (.c .n)
 clear hS1
 obtain ⟨D40, q43, le41, hS, h44, h42⟩ := hS.lent h37
 obtain ⟨r45, h46, hf⟩ := bind_some hf
 refine aC rfl rfl rfl rfl hE rfl rfl rfl rfl (inspeximusref01_Sum.calls (g := g) h46 (hS.st.fore (L := [])) h42 (hG0.mono (le2 le39 le41)) (hG1.mono (le2 le39 le41))) (fun a v w hR hE => ?_)
 obtain ⟨D47, rfl, hS1⟩ := hR
 have le49 := hS1.dle
 have hS := hS.callR hS1 rfl .n
 clear hS1
 have hS := hS.pk (.c 1 rfl (.c 0 rfl .n)) rfl
 refine at_op (op_store (v := .agg (List.toArray (acells .u8 32 (r45)))) (acells .u8 32 (r45)) rfl rfl rfl rfl hE hS rfl rfl (by kernel_rfl) (by kernel_rfl) (by kernel_rfl) (by kernel_rfl) (by kernel_rfl) (fun a w _ hE hS => ?_)) rfl
 refine at_end rfl ?_
 refine wpIn_ret ?_
 obtain rfl := Option.some.inj hf
 repeat (with_reducible first | refine then_ret ?_ | refine block_ret ?_ | refine qx_ret ?_)
 refine ret_gen ([.agg (List.toArray (acells .u8 32 (r45)))]) hE (by rw [show Tryd.f40.results.toList = [.cell 4 48] from rfl]; exact ⟨_, _, _, 0, _, _, rfl, rfl, hS.heapAt (j := 0) rfl, by kernel_rfl, rfl⟩) ?_
 have hS := hS.pk .n rfl
 exact ⟨_, rfl, D47, rfl, hS⟩
set_option maxRecDepth 100000 in
set_option maxHeartbeats 4000000 in
theorem inspeximusref09_Chain.calls {K : Nat} {g w0 : World} {D0 : Snap} {x1 : (List (List Int))} {A2 : Option Addr} {c3 : Nat} {r : ((Vector Int 32))} (hf : inspeximusref09_Chain.f K x1 = some r) (hS0 : St g w0 D0 []) (h4 : Sl (kdSlice (kdInt .u8)) D0 A2 c3 (x1)) (hG0 : Cell (kdArr .u32 8) D0 0 0 gl_First) (hG1 : Cell (kdArr .u32 64) D0 1 0 gl_K) :
  CallsIn (Fw none) 0 Tryd.prog 23 (List.toArray [.slice A2 (List.length (x1)) c3]) w0 (fun e w' => ∃ v, e = .returned v ∧ ∃ (D1 : Snap), v = .agg (List.toArray (acells .u8 32 (r))) ∧ Stp g w0 D0 [] w' D1 []) := by
 unfold inspeximusref09_Chain.f at hf
 have hS := Stp.refl hS0
 clear hS0
 refine calls_body (n := 19) Tryd.func23 rfl Tryd.ntmps23 rfl (fun a hE => ?_)
 have hE : Env a 19 [] [(0, .slice A2 (List.length (x1)) c3)] := hE
 refine wpIn_seq ?_
 refine region_at ?_
 refine at_op (op_alloc (z := .agg (List.toArray (acells .u8 32 ((Vector.replicate 32 (0 : Int)))))) rfl rfl rfl rfl hE rfl hS (by kernel_rfl) (fun a b961 w _ hE hS => ?_)) rfl
 refine at_end rfl ?_
 refine wpIn_seq ?_
 refine region_at ?_
 refine at_op (op_alloc (z := .agg (List.toArray (acells .u8 32 ((Vector.replicate 32 (0 : Int)))))) rfl rfl rfl rfl hE rfl hS (by kernel_rfl) (fun a b963 w _ hE hS => ?_)) rfl
 refine at_end rfl ?_
 refine wpIn_seq ?_
 refine wpIn_seq ?_
 refine region_at ?_
 refine sN 1 1 [(4, .int .i64 ((0 : Int)))] hE (fun a hE => ?_)
 refine at_end rfl ?_
 obtain ⟨s1763, hf, hs1764⟩ := bind_some hf
 have hS := hS.pk (.c 1 rfl (.c 0 rfl .n)) rfl
 refine block_loop (fun a w => ∃ (z1760 : (Vector Int 32)), ∃ (D1761 : Snap), Env a 19 [] [(2, .pointer (some ⟨b961, 0, none⟩)), (3, .pointer (some ⟨b963, 0, none⟩))] ∧ Stp g w0 D0 [] w D1761 [bx b961 48 (acells .u8 32 ((Vector.replicate 32 (0 : Int)))), bx b963 48 (acells .u8 32 (z1760))] ∧ Snap.le D0 D1761 ∧ z1760 = s1763) (fun k a w => ∃ (y1602 : Int × (Vector Int 32)), ∃ (D1603 : Snap), Env a 19 [] [(0, .slice A2 (List.length (x1)) c3), (2, .pointer (some ⟨b961, 0, none⟩)), (3, .pointer (some ⟨b963, 0, none⟩)), (4, .int .i64 (y1602.1))] ∧ Stp g w0 D0 [] w D1603 [bx b961 48 (acells .u8 32 ((Vector.replicate 32 (0 : Int)))), bx b963 48 (acells .u8 32 (y1602.2))] ∧ Snap.le D0 D1603 ∧ inspeximusref09_Chain_l1.l K x1 k y1602 = some s1763) K ?_ ?_ ?_
 ·exact ⟨((0 : Int), (Vector.replicate 32 (0 : Int))), D0, hE.weak (by kernel_rfl), hS, Snap.le.refl _, hf⟩
 ·clear hE hS hf
  rintro a w ⟨z1760, D1761, hE, hS, le1762, rfl⟩
  have hf := hs1764
  clear hs1764
  refine wpIn_seq ?_
  refine region_at ?_
  refine aL 1 (.agg (List.toArray (acells .u8 32 (z1760)))) hE hS (fun a hE => ?_)
  refine at_op (op_store (v := .agg (List.toArray (acells .u8 32 (z1760)))) (acells .u8 32 (z1760)) rfl rfl rfl rfl hE hS rfl rfl (by kernel_rfl) (by kernel_rfl) (by kernel_rfl) (by kernel_rfl) (by kernel_rfl) (fun a w _ hE hS => ?_)) rfl
  refine at_end rfl ?_
  refine wpIn_ret ?_
  obtain rfl := Option.some.inj hf
  repeat (with_reducible first | refine then_ret ?_ | refine block_ret ?_ | refine qx_ret ?_)
  refine ret_gen ([.agg (List.toArray (acells .u8 32 (z1760)))]) hE (by rw [show Tryd.f23.results.toList = [.cell 2 48] from rfl]; exact ⟨_, _, _, 0, _, _, rfl, rfl, hS.heapAt (j := 0) rfl, by kernel_rfl, rfl⟩) ?_
  have hS := hS.pk .n rfl
  exact ⟨_, rfl, D1761, rfl, hS⟩
 ·clear hE hS hf
  rintro k a w ⟨y1602, D1603, hE, hS, le1604, hf⟩
  obtain ⟨k, rfl, hf⟩ := inspeximusref09_Chain_l1.some _ hf
  refine ⟨k, rfl, ?_⟩
  unfold inspeximusref09_Chain_l1.b at hf
  refine wpIn_seq ?_
  refine wpIn_seq ?_
  refine region_at ?_
  refine sN 4 4 [(8, .bool ((decide (y1602.1 < ((List.length (x1) : Nat) : Int)))))] hE (fun a hE => ?_)
  refine at_end rfl ?_
  refine cond_split hE (b := (decide (y1602.1 < ((List.length (x1) : Nat) : Int)))) rfl (fun hb => ?_) (fun hb => ?_)
  ·replace hf := cond_t hb hf
   clear hb
   refine wpIn_skip ?_
   refine wpIn_seq ?_
   refine wpIn_block ?_
   refine region_draw (fun j => Keeps (mfOf [(7, [b963])] j)) (by kernel_rfl) ?_
   have hS := hS.drew
   first | generalize w.drew = w at hS ⊢ | generalize w0.drew = w at hS ⊢
   refine wP 1 2 7 (.slice A2 (List.length (x1)) c3) hE (fun a hE => ?_)
   refine wP 2 6 6 (.int .i64 (y1602.1)) hE (fun a hE => ?_)
   have hS := hS.pk (.c 1 rfl (.c 0 rfl .n)) rfl
   have hK1882 := hS
   obtain ⟨D1879, le1880, e1881, hS⟩ := hS.lendB
   obtain ⟨l1883, h1884, hf⟩ := bind_some hf
   refine tW 0 7 (fuel := 5) (by kernel_rfl) hE (fun M => g_sliceArr (kk := .u8) (e := 5) (v := y1602.2) rfl rfl rfl rfl hE rfl rfl (by kernel_rfl) rfl rfl e1881 rfl h1884 (fun a A1885 c1886 hE h1887 => ?_))
   obtain ⟨x1888, h1889, hf⟩ := bind_some hf
   refine tW 3 15 (fuel := 4) (by kernel_rfl) hE (fun M => g_index (K := (kdSlice (kdInt .u8))) (e := 33) (by_ := 24) (zl := 1) rfl rfl rfl rfl hE rfl rfl rfl (by kernel_rfl) rfl (h4.mono (le2 le1604 le1880)) h1889 (fun a b1890 o1891 hE h1892 => ?_))
   obtain ⟨cs1893, C1894, T1895, fr1896, hr1897, hb1898, hc1899⟩ := h1892
   obtain ⟨A1900, c1901, rfl, h1902⟩ := hr1897
   refine tT 4 31 (fuel := 3) (by kernel_rfl) hE (tk_loadX (off0 := o1891) (off := 0) (c := [.slice A1900 (List.length (x1888)) c1901]) (.slice A1900 (List.length (x1888)) c1901) rfl rfl rfl rfl hE rfl hS rfl hb1898 hc1899 (by kernel_rfl) (by kernel_rfl) (kD hS dn_nil) (fun a hE => ?_))
   refine oG 5 63 (fuel := 2) (by kernel_rfl) (op_buildSlice (K := (kdSlice (kdInt .u8))) (e := 33) (cs := [.slice A1885 (List.length (l1883)) c1886] ++ ([.slice A1900 (List.length (x1888)) c1901] ++ [])) ([l1883, x1888] : List (List Int)) rfl rfl rfl rfl hE rfl hS rfl (by kernel_rfl) rfl rfl (by exact (show RL (kdSlice (kdInt .u8)) D1879 ([l1883, x1888] : List (List Int)) ([.slice A1885 (List.length (l1883)) c1886] ++ ([.slice A1900 (List.length (x1888)) c1901] ++ [])) from ⟨_, _, rfl, (kslice h1887), ⟨_, _, rfl, (kslice h1902), rfl⟩⟩)) (fun a A1903 q1904 w hkp hE h1905 hS => ⟨hkp.mono (fun _ h => absurd h List.not_mem_nil), ?_⟩))
   clear hkp
   obtain ⟨D1907, q1910, le1908, hS, h1911, h1909⟩ := hS.lent h1905
   obtain ⟨r1912, h1913, hf⟩ := bind_some hf
   refine oG 6 127 (fuel := 1) (by kernel_rfl) (op_call rfl rfl rfl rfl hE rfl rfl rfl rfl (by kernel_rfl) (inspeximusref02_Of.calls (g := g) h1913 (hS.st.fore (L := [])) h1909 (hG0.mono (le2 (le2 le1604 le1880) le1908)) (hG1.mono (le2 (le2 le1604 le1880) le1908))) (fun a v w hR hE => ?_))
   obtain ⟨D1914, rfl, hS1⟩ := hR
   refine ⟨(hS1.keeps.sub (M' := []) trivial).mono (fun _ h => h), ?_⟩
   have le1916 := hS1.dle
   have hS := hS.callR hS1 rfl .n
   clear hS1
   have hS := hS.pk (.c 1 rfl (.c 2 rfl .n)) rfl
   have hS := hK1882.back hS (le2 (le2 le1880 le1908) le1916)
   refine oG 7 255 (fuel := 0) (by kernel_rfl) (op_store (v := .agg (List.toArray (acells .u8 32 (r1912)))) (acells .u8 32 (r1912)) rfl rfl rfl rfl hE hS rfl rfl (by kernel_rfl) (by kernel_rfl) (by kernel_rfl) (by kernel_rfl) (by kernel_rfl) (fun a w hkp hE hS => ⟨hkp.mono (fun _ h => h), ?_⟩))
   clear hkp
   refine doneG (by kernel_rfl) ?_
   refine region_at ?_
   refine sN 3 3 [(4, .int .i64 ((IntKind.wrap .i64 (y1602.1 + (1 : Int)))))] hE (fun a hE => ?_)
   refine at_end rfl ?_
   have hS := hS.pk (.c 1 rfl (.c 0 rfl .n)) rfl
   exact ⟨((IntKind.wrap .i64 (y1602.1 + (1 : Int))), r1912), D1603, hE.weak (by kernel_rfl), hS, le1604, hf⟩
  ·replace hf := cond_f hb hf
   clear hb
   refine wpIn_exit ?_
   obtain rfl := Option.some.inj hf
   exact ⟨y1602.2, D1603, hE.weak (by kernel_rfl), hS, le1604, rfl⟩
set_option maxRecDepth 100000 in
set_option maxHeartbeats 4000000 in
theorem inspeximusref03_Num.step {K : Nat} {self : Int → Option ((List Int))} (ih : ∀ {g w0 : World} {D0 : Snap} {x1 : Int} {r : ((List Int))} (hf : self x1 = some r) (hS0 : St g w0 D0 []), CallsIn (Fw none) 0 Tryd.prog 56 (List.toArray [.int .i64 (x1)]) w0 (fun e w' => ∃ v, e = .returned v ∧ ∃ (D1 : Snap) (A80 : Option Addr) (c81 : Nat) (q82 : Blk), v = .slice A80 (List.length (r)) c81 ∧ Stp g w0 D0 [] w' D1 [q82] ∧ OwnD (kdInt .u8) 5 D1 A80 c81 (r) q82)) {g w0 : World} {D0 : Snap} {x1 : Int} {r : ((List Int))} (hf : inspeximusref03_Num.b K self x1 = some r) (hS0 : St g w0 D0 []) :
  CallsIn (Fw none) 0 Tryd.prog 56 (List.toArray [.int .i64 (x1)]) w0 (fun e w' => ∃ v, e = .returned v ∧ ∃ (D1 : Snap) (A80 : Option Addr) (c81 : Nat) (q82 : Blk), v = .slice A80 (List.length (r)) c81 ∧ Stp g w0 D0 [] w' D1 [q82] ∧ OwnD (kdInt .u8) 5 D1 A80 c81 (r) q82) := by
 unfold inspeximusref03_Num.b at hf
 have hS := Stp.refl hS0
 clear hS0
 refine calls_body (n := 36) Tryd.func56 rfl Tryd.ntmps56 rfl (fun a hE => ?_)
 have hE : Env a 36 [] [(0, .int .i64 (x1))] := hE
 refine wpIn_seq ?_
 refine region_at ?_
 refine sN 1 1 [(2, .slice none 0 0)] hE (fun a hE => ?_)
 refine at_end rfl ?_
 refine wpIn_seq ?_
 obtain ⟨j144, hj145, hf⟩ := jn_elim hf
 refine seq_join (fun a w => ∃ (y90 : Bool), ∃ (D91 : Snap), Env a 36 [] [(0, .int .i64 (x1)), (9, .bool (y90))] ∧ Stp g w0 D0 [] w D91 [] ∧ Snap.le D0 D91 ∧ j144 y90 = some r) ?_ ?_
 ·clear hj145
  refine region_at ?_
  refine sN 3 3 [(6, .bool ((decide (x1 < (0 : Int)))))] hE (fun a hE => ?_)
  refine Or.elim (Bool.eq_false_or_eq_true ((decide (x1 < (0 : Int))))).symm (fun hb => ?_) (fun hb => ?_)
  ·replace hf := cond_f hb hf
   have hE := hE.know (t := 6) (b := (decide (x1 < (0 : Int)))) (b' := false) rfl hb
   clear hb
   refine sN 3 6 [(9, .bool ((decide ((2147483647 : Int) < x1))))] hE (fun a hE => ?_)
   refine at_end rfl ?_
   exact ⟨(decide ((2147483647 : Int) < x1)), D0, hE.weak (by kernel_rfl), hS, Snap.le.refl _, hf⟩
  ·replace hf := cond_t hb hf
   have hE := hE.know (t := 6) (b := (decide (x1 < (0 : Int)))) (b' := true) rfl hb
   clear hb
   refine sN 3 6 [(9, .bool true)] hE (fun a hE => ?_)
   refine at_end rfl ?_
   exact ⟨true, D0, hE.weak (by kernel_rfl), hS, Snap.le.refl _, hf⟩
 ·clear hE hS
  rintro a w ⟨y90, D91, hE, hS, le92, hf⟩
  replace hf := hj145 _ hf
  clear hj145
  refine cond_split hE (b := y90) rfl (fun hb => ?_) (fun hb => ?_)
  ·replace hf := cond_t hb hf
   clear hb
   refine wpIn_seq ?_
   refine region_at ?_
   refine sN 1 1 [(2, .slice none 0 0)] hE (fun a hE => ?_)
   refine at_end rfl ?_
   refine wpIn_ret ?_
   have hS := hS.nils
   obtain rfl := Option.some.inj hf
   repeat (with_reducible first | refine then_ret ?_ | refine block_ret ?_ | refine qx_ret ?_)
   refine ret_gen ([.slice none 0 0]) hE (by rw [show Tryd.f56.results.toList = [.tmp 2] from rfl]; exact ⟨_, _, rfl, rfl, rfl⟩) ?_
   exact ⟨_, rfl, D91, none, 0, none, rfl, hS, (OwnD.nil (kdInt .u8) 5 D91)⟩
  ·replace hf := cond_f hb hf
   clear hb
   refine wpIn_skip ?_
   refine wpIn_seq ?_
   refine wpIn_seq ?_
   refine region_at ?_
   refine sN 2 2 [(11, .bool ((decide (x1 < (128 : Int)))))] hE (fun a hE => ?_)
   refine at_end rfl ?_
   refine cond_split hE (b := (decide (x1 < (128 : Int)))) rfl (fun hb => ?_) (fun hb => ?_)
   ·replace hf := cond_t hb hf
    clear hb
    refine wpIn_seq ?_
    refine region_at ?_
    refine sN 2 2 [(13, .int .u8 ((IntKind.wrap .u8 x1)))] hE (fun a hE => ?_)
    refine at_op (op_buildSlice (K := (kdInt .u8)) (e := 5) (cs := [.int .u8 ((IntKind.wrap .u8 x1))] ++ []) ([(IntKind.wrap .u8 x1)] : List Int) rfl rfl rfl rfl hE rfl hS rfl (by kernel_rfl) rfl rfl (by exact (show RL (kdInt .u8) D91 ([(IntKind.wrap .u8 x1)] : List Int) ([.int .u8 ((IntKind.wrap .u8 x1))] ++ []) from ⟨_, _, rfl, rfl, rfl⟩)) (fun a A98 q99 w _ hE h100 hS => ?_)) rfl
    refine sN 1 4 [(2, .slice A98 (List.length (([(IntKind.wrap .u8 x1)] : List Int))) 1)] hE (fun a hE => ?_)
    refine at_end rfl ?_
    refine wpIn_ret ?_
    obtain rfl := Option.some.inj hf
    repeat (with_reducible first | refine then_ret ?_ | refine block_ret ?_ | refine qx_ret ?_)
    refine ret_gen ([.slice A98 (List.length (([(IntKind.wrap .u8 x1)] : List Int))) 1]) hE (by rw [show Tryd.f56.results.toList = [.tmp 2] from rfl]; exact ⟨_, _, rfl, rfl, rfl⟩) ?_
    exact ⟨_, rfl, D91, A98, 1, q99, rfl, hS, h100⟩
   ·replace hf := cond_f hb hf
    clear hb
    refine wpIn_skip ?_
    refine wpIn_seq ?_
    refine region_at ?_
    refine sN 2 2 [(16, .int .i64 ((IntKind.wrap .i64 (Int.tdiv x1 128))))] hE (fun a hE => ?_)
    obtain ⟨r102, h103, hf⟩ := bind_some hf
    refine aC rfl rfl rfl rfl hE rfl rfl rfl rfl (ih (g := g) h103 (hS.st.fore (L := [])) ) (fun a v w hR hE => ?_)
    obtain ⟨D104, A106, c107, q108, rfl, hS1, h109⟩ := hR
    have le111 := hS1.dle
    have hS := hS.callR hS1 rfl (.c .n)
    clear hS1
    refine sN 1 4 [(3, .slice A106 (List.length (r102)) c107)] hE (fun a hE => ?_)
    refine at_end rfl ?_
    refine wpIn_seq ?_
    refine region_at ?_
    refine sN 8 8 [(18, .slice A106 (List.length (r102)) c107), (21, .int .i64 ((IntKind.wrap .i64 (((List.length (r102) : Nat) : Int) - (1 : Int))))), (22, .slice A106 (List.length (r102)) c107), (25, .int .i64 ((IntKind.wrap .i64 (((List.length (r102) : Nat) : Int) - (1 : Int)))))] hE (fun a hE => ?_)
    obtain ⟨x112, h113, hf⟩ := bind_some hf
    refine at_op (op_tk hE (tk_indexO (K := (kdInt .u8)) (T := 5) (by_ := 1) (zl := 1) rfl rfl rfl rfl hE rfl rfl rfl (by kernel_rfl) h109 h113 (fun a b114 u115 hq hE => ?_))) rfl
    subst hq
    obtain ⟨cs116, C117, hr118, hb119, hc120⟩ := OwnD.cell h109 h113
    obtain rfl := hr118
    refine at_op (op_tk hE (tk_loadO 0 (off0 := Int.toNat ((IntKind.wrap .i64 (((List.length (r102) : Nat) : Int) - (1 : Int)))) * 1) (off := 0) (c := [.int .u8 (x112)]) (Cl := C117) (T := 5) (fr := (0, 0)) (.int .u8 (x112)) rfl rfl rfl rfl hE rfl hS rfl (by rw [hb119]; rfl) hc120 (by kernel_rfl) (kL (j := 0) hS rfl List.not_mem_nil) (fun a hE => ?_))) rfl
    refine sN 1 11 [(28, .int .u8 ((IntKind.wrap .u8 (x112 + (128 : Int)))))] hE (fun a hE => ?_)
    obtain ⟨x121, h122, hf⟩ := bind_some hf
    refine at_op (op_tk hE (tk_indexO (K := (kdInt .u8)) (T := 5) (by_ := 1) (zl := 1) rfl rfl rfl rfl hE rfl rfl rfl (by kernel_rfl) h109 h122 (fun a b123 u124 hq hE => ?_))) rfl
    obtain ⟨rfl, rfl⟩ := some_pair hq
    refine at_op (op_storeO (K := (kdInt .u8)) (T := 5) (l := r102) ((IntKind.wrap .u8 (x112 + (128 : Int)))) rfl rfl rfl rfl hE hS h109 rfl rfl (inI_of h122) (rfl) (by kernel_rfl) (by kernel_rfl) (fun a u125 w _ hE h126 hS => ?_)) rfl
    have hE : Env a 36 [] [(0, .int .i64 (x1)), (3, .slice A106 (List.length ((List.set (r102) (Int.toNat ((IntKind.wrap .i64 (((List.length (r102) : Nat) : Int) - (1 : Int))))) ((IntKind.wrap .u8 (x112 + (128 : Int))))))) c107), (9, .bool (y90)), (11, .bool ((decide (x1 < (128 : Int))))), (18, .slice A106 (List.length ((List.set (r102) (Int.toNat ((IntKind.wrap .i64 (((List.length (r102) : Nat) : Int) - (1 : Int))))) ((IntKind.wrap .u8 (x112 + (128 : Int))))))) c107), (21, .int .i64 ((IntKind.wrap .i64 (((List.length (r102) : Nat) : Int) - (1 : Int))))), (28, .int .u8 ((IntKind.wrap .u8 (x112 + (128 : Int))))), (29, .pointer (some ⟨b114, Int.toNat ((IntKind.wrap .i64 (((List.length (r102) : Nat) : Int) - (1 : Int)))) * 1, none⟩))] := by have h := hE.weak (E' := [(0, .int .i64 (x1)), (3, .slice A106 (List.length (r102)) c107), (9, .bool (y90)), (11, .bool ((decide (x1 < (128 : Int))))), (18, .slice A106 (List.length (r102)) c107), (21, .int .i64 ((IntKind.wrap .i64 (((List.length (r102) : Nat) : Int) - (1 : Int))))), (28, .int .u8 ((IntKind.wrap .u8 (x112 + (128 : Int))))), (29, .pointer (some ⟨b114, Int.toNat ((IntKind.wrap .i64 (((List.length (r102) : Nat) : Int) - (1 : Int)))) * 1, none⟩))]) (by kernel_rfl); simpa only [List.length_set] using h
    refine at_end rfl ?_
    refine wpIn_seq ?_
    refine region_at ?_
    refine sN 4 4 [(30, .slice A106 (List.length ((List.set (r102) (Int.toNat ((IntKind.wrap .i64 (((List.length (r102) : Nat) : Int) - (1 : Int))))) ((IntKind.wrap .u8 (x112 + (128 : Int))))))) c107), (33, .int .u8 ((IntKind.wrap .u8 (Int.tmod x1 128))))] hE (fun a hE => ?_)
    refine at_op (op_buildSlice (K := (kdInt .u8)) (e := 5) (cs := [.int .u8 ((IntKind.wrap .u8 (Int.tmod x1 128)))] ++ []) ([(IntKind.wrap .u8 (Int.tmod x1 128))] : List Int) rfl rfl rfl rfl hE rfl hS rfl (by kernel_rfl) rfl rfl (by exact (show RL (kdInt .u8) D104 ([(IntKind.wrap .u8 (Int.tmod x1 128))] : List Int) ([.int .u8 ((IntKind.wrap .u8 (Int.tmod x1 128)))] ++ []) from ⟨_, _, rfl, rfl, rfl⟩)) (fun a A128 q129 w _ hE h130 hS => ?_)) rfl
    obtain ⟨D132, q135, le133, hS, h136, h134⟩ := hS.lent h130
    have hS := hS.pk (.c 1 rfl (.c 0 rfl .n)) rfl
    obtain ⟨l137, h138, hf⟩ := bind_some hf
    refine at_op (g_append (K := (kdInt .u8)) (e := 5) (bytes := 1) (l := (List.set (r102) (Int.toNat ((IntKind.wrap .i64 (((List.length (r102) : Nat) : Int) - (1 : Int))))) ((IntKind.wrap .u8 (x112 + (128 : Int)))))) (m := ([(IntKind.wrap .u8 (Int.tmod x1 128))] : List Int)) rfl rfl rfl rfl hE rfl hS rfl rfl (by kernel_rfl) rfl rfl (h126.mono le133) h134 h138 (fun a A139 c140 q141 w _ hE h142 hS => ?_)) rfl
    refine sN 1 7 [(2, .slice A139 (List.length (l137)) c140)] hE (fun a hE => ?_)
    refine at_end rfl ?_
    refine wpIn_ret ?_
    obtain rfl := Option.some.inj hf
    repeat (with_reducible first | refine then_ret ?_ | refine block_ret ?_ | refine qx_ret ?_)
    refine ret_gen ([.slice A139 (List.length (l137)) c140]) hE (by rw [show Tryd.f56.results.toList = [.tmp 2] from rfl]; exact ⟨_, _, rfl, rfl, rfl⟩) ?_
    have hS := hS.pk (.c 0 rfl .n) rfl
    exact ⟨_, rfl, D132, A139, c140, q141, rfl, hS, h142⟩
set_option maxRecDepth 100000 in
set_option maxHeartbeats 4000000 in
theorem inspeximusref03_Num.rcalls {K : Nat} : ∀ (k : Nat) {g w0 : World} {D0 : Snap} {x1 : Int} {r : ((List Int))} (hf : inspeximusref03_Num.r K k x1 = some r) (hS0 : St g w0 D0 []),
  CallsIn (Fw none) 0 Tryd.prog 56 (List.toArray [.int .i64 (x1)]) w0 (fun e w' => ∃ v, e = .returned v ∧ ∃ (D1 : Snap) (A80 : Option Addr) (c81 : Nat) (q82 : Blk), v = .slice A80 (List.length (r)) c81 ∧ Stp g w0 D0 [] w' D1 [q82] ∧ OwnD (kdInt .u8) 5 D1 A80 c81 (r) q82) := by
 intro k
 induction k with
 | zero => intro g w0 D0 x1 r hf; cases hf
 | succ k ih => intro g w0 D0 x1 r hf hS0; exact inspeximusref03_Num.step ih hf hS0
theorem inspeximusref03_Num.calls {K : Nat} {g w0 : World} {D0 : Snap} {x1 : Int} {r : ((List Int))} (hf : inspeximusref03_Num.f K x1 = some r) (hS0 : St g w0 D0 []) :
  CallsIn (Fw none) 0 Tryd.prog 56 (List.toArray [.int .i64 (x1)]) w0 (fun e w' => ∃ v, e = .returned v ∧ ∃ (D1 : Snap) (A80 : Option Addr) (c81 : Nat) (q82 : Blk), v = .slice A80 (List.length (r)) c81 ∧ Stp g w0 D0 [] w' D1 [q82] ∧ OwnD (kdInt .u8) 5 D1 A80 c81 (r) q82) := inspeximusref03_Num.rcalls K hf hS0
set_option maxRecDepth 100000 in
set_option maxHeartbeats 4000000 in
theorem inspeximusref03_Bytes.calls {K : Nat} {g w0 : World} {D0 : Snap} {x1 : (List Int)} {A2 : Option Addr} {c3 : Nat} {r : ((List Int))} (hf : inspeximusref03_Bytes.f K x1 = some r) (hS0 : St g w0 D0 []) (h4 : Sl (kdInt .u8) D0 A2 c3 (x1)) :
  CallsIn (Fw none) 0 Tryd.prog 45 (List.toArray [.slice A2 (List.length (x1)) c3]) w0 (fun e w' => ∃ v, e = .returned v ∧ ∃ (D1 : Snap) (A22 : Option Addr) (c23 : Nat) (q24 : Blk), v = .slice A22 (List.length (r)) c23 ∧ Stp g w0 D0 [] w' D1 [q24] ∧ OwnD (kdInt .u8) 5 D1 A22 c23 (r) q24) := by
 unfold inspeximusref03_Bytes.f at hf
 have hS := Stp.refl hS0
 clear hS0
 refine calls_body (n := 8) Tryd.func45 rfl Tryd.ntmps45 rfl (fun a hE => ?_)
 have hE : Env a 8 [] [(0, .slice A2 (List.length (x1)) c3)] := hE
 refine wpIn_seq ?_
 refine region_at ?_
 refine sN 1 1 [(2, .slice none 0 0)] hE (fun a hE => ?_)
 refine at_end rfl ?_
 refine wpIn_seq ?_
 refine region_at ?_
 refine sN 2 2 [(4, .int .i64 (((List.length (x1) : Nat) : Int)))] hE (fun a hE => ?_)
 obtain ⟨r27, h28, hf⟩ := bind_some hf
 refine aC rfl rfl rfl rfl hE rfl rfl rfl rfl (inspeximusref03_Num.calls (g := g) h28 (hS.st.fore (L := [])) ) (fun a v w hR hE => ?_)
 obtain ⟨D29, A31, c32, q33, rfl, hS1, h34⟩ := hR
 have le36 := hS1.dle
 have hS := hS.callR hS1 rfl (.c .n)
 clear hS1
 refine sN 1 4 [(6, .slice A2 (List.length (x1)) c3)] hE (fun a hE => ?_)
 obtain ⟨l37, h38, hf⟩ := bind_some hf
 refine at_op (g_append (K := (kdInt .u8)) (e := 5) (bytes := 1) (l := r27) (m := x1) rfl rfl rfl rfl hE rfl hS rfl rfl (by kernel_rfl) rfl rfl h34 (h4.mono le36) h38 (fun a A39 c40 q41 w _ hE h42 hS => ?_)) rfl
 refine sN 1 6 [(2, .slice A39 (List.length (l37)) c40)] hE (fun a hE => ?_)
 refine at_end rfl ?_
 refine wpIn_ret ?_
 obtain rfl := Option.some.inj hf
 repeat (with_reducible first | refine then_ret ?_ | refine block_ret ?_ | refine qx_ret ?_)
 refine ret_gen ([.slice A39 (List.length (l37)) c40]) hE (by rw [show Tryd.f45.results.toList = [.tmp 2] from rfl]; exact ⟨_, _, rfl, rfl, rfl⟩) ?_
 exact ⟨_, rfl, D29, A39, c40, q41, rfl, hS, h42⟩
set_option maxRecDepth 100000 in
set_option maxHeartbeats 4000000 in
theorem inspeximusref09_Laid.calls {K : Nat} {g w0 : World} {D0 : Snap} {x1 : (List (List Int))} {A2 : Option Addr} {c3 : Nat} {r : ((List Int))} (hf : inspeximusref09_Laid.f K x1 = some r) (hS0 : St g w0 D0 []) (h4 : Sl (kdSlice (kdInt .u8)) D0 A2 c3 (x1)) (hG0 : Cell (kdArr .u32 8) D0 0 0 gl_First) (hG1 : Cell (kdArr .u32 64) D0 1 0 gl_K) :
  CallsIn (Fw none) 0 Tryd.prog 34 (List.toArray [.slice A2 (List.length (x1)) c3]) w0 (fun e w' => ∃ v, e = .returned v ∧ ∃ (D1 : Snap) (A92 : Option Addr) (c93 : Nat) (q94 : Blk), v = .slice A92 (List.length (r)) c93 ∧ Stp g w0 D0 [] w' D1 [q94] ∧ OwnD (kdInt .u8) 5 D1 A92 c93 (r) q94) := by
 unfold inspeximusref09_Laid.f at hf
 have hS := Stp.refl hS0
 clear hS0
 refine calls_body (n := 15) Tryd.func34 rfl Tryd.ntmps34 rfl (fun a hE => ?_)
 have hE : Env a 15 [] [(0, .slice A2 (List.length (x1)) c3)] := hE
 refine wpIn_seq ?_
 refine region_at ?_
 refine sN 1 1 [(2, .slice none 0 0)] hE (fun a hE => ?_)
 refine at_end rfl ?_
 refine wpIn_seq ?_
 refine region_at ?_
 refine sN 1 1 [(4, .slice A2 (List.length (x1)) c3)] hE (fun a hE => ?_)
 obtain ⟨r97, h98, hf⟩ := bind_some hf
 refine aC rfl rfl rfl rfl hE rfl rfl rfl rfl (inspeximusref09_Chain.calls (g := g) h98 (hS.st.fore (L := [])) h4 hG0 hG1) (fun a v w hR hE => ?_)
 obtain ⟨D99, rfl, hS1⟩ := hR
 have le101 := hS1.dle
 have hS := hS.callR hS1 rfl .n
 clear hS1
 refine at_op (op_alloc (z := .agg (List.toArray (acells .u8 32 ((Vector.replicate 32 (0 : Int)))))) rfl rfl rfl rfl hE rfl hS (by kernel_rfl) (fun a b102 w _ hE hS => ?_)) rfl
 refine at_op (op_store (v := .agg (List.toArray (acells .u8 32 (r97)))) (acells .u8 32 (r97)) rfl rfl rfl rfl hE hS rfl rfl (by kernel_rfl) (by kernel_rfl) (by kernel_rfl) (by kernel_rfl) (by kernel_rfl) (fun a w _ hE hS => ?_)) rfl
 refine at_end rfl ?_
 refine wpIn_seq ?_
 refine region_draw (fun j => RD D99 (plOf [] [] j)) (by kernel_rfl) ?_
 have hS := hS.drew
 first | generalize w.drew = w at hS ⊢ | generalize w0.drew = w at hS ⊢
 refine wP 0 1 9 (.slice A2 (List.length (x1)) c3) hE (fun a hE => ?_)
 refine wP 1 3 8 (.slice A2 (List.length (x1)) c3) hE (fun a hE => ?_)
 refine wP 2 7 7 (.int .i64 (((List.length (x1) : Nat) : Int))) hE (fun a hE => ?_)
 refine wP 3 15 6 (.int .i64 ((IntKind.wrap .i64 (((List.length (x1) : Nat) : Int) - (1 : Int))))) hE (fun a hE => ?_)
 obtain ⟨x144, h145, hf⟩ := bind_some hf
 refine tW 4 31 (fuel := 5) (by kernel_rfl) hE (fun M => g_index (K := (kdSlice (kdInt .u8))) (e := 33) (by_ := 24) (zl := 1) rfl rfl rfl rfl hE rfl rfl rfl (by kernel_rfl) rfl (h4.mono le101) h145 (fun a b146 o147 hE h148 => ?_))
 obtain ⟨cs149, C150, T151, fr152, hr153, hb154, hc155⟩ := h148
 obtain ⟨A156, c157, rfl, h158⟩ := hr153
 refine tD 5 63 (fuel := 4) (by kernel_rfl) hE (tk_loadX (off0 := o147) (off := 0) (c := [.slice A156 (List.length (x144)) c157]) (.slice A156 (List.length (x144)) c157) rfl rfl rfl rfl hE rfl hS rfl hb154 hc155 (by kernel_rfl) (by kernel_rfl) (fun _ h => h.2 hS.st.sees) (fun a hE => ?_))
 obtain ⟨D159, le160, e161, hS⟩ := hS.freezeB
 obtain ⟨l162, h163, hf⟩ := bind_some hf
 refine tW 7 191 (fuel := 3) (by kernel_rfl) hE (fun M => g_sliceArr (kk := .u8) (e := 5) (v := r97) rfl rfl rfl rfl hE rfl rfl (by kernel_rfl) rfl ⟨_, rfl⟩ e161 rfl h163 (fun a A164 c165 hE h166 => ?_))
 obtain ⟨r167, h168, hf⟩ := bind_some hf
 refine oG 6 255 (fuel := 2) (by kernel_rfl) (op_call rfl rfl rfl rfl hE rfl rfl rfl rfl (by kernel_rfl) (inspeximusref03_Bytes.calls (g := g) h168 (hS.st.fore (L := [])) (h158.mono le160)) (fun a v w hR hE => ?_))
 obtain ⟨D169, A171, c172, q173, rfl, hS1, h174⟩ := hR
 have le176 := hS1.dle
 have hS := hS.callR hS1 rfl (.c .n)
 clear hS1
 refine ⟨⟨show RP [] _ _ from trivial, fun _ => hS.st.sees.mono (le2 le160 le176)⟩, ?_⟩
 obtain ⟨l177, h178, hf⟩ := bind_some hf
 refine oG 8 511 (fuel := 1) (by kernel_rfl) (g_append (K := (kdInt .u8)) (e := 5) (bytes := 1) (l := r167) (m := l162) rfl rfl rfl rfl hE rfl hS rfl rfl (by kernel_rfl) rfl rfl h174 (h166.mono le176) h178 (fun a A179 c180 q181 w _ hE h182 hS => ?_))
 refine ⟨⟨show RP [] _ _ from trivial, fun _ => hS.st.sees.mono (le2 le160 le176)⟩, ?_⟩
 refine wP 9 1023 0 (.slice A179 (List.length (l177)) c180) hE (fun a hE => ?_)
 refine doneG (by kernel_rfl) ?_
 refine wpIn_ret ?_
 obtain rfl := Option.some.inj hf
 repeat (with_reducible first | refine then_ret ?_ | refine block_ret ?_ | refine qx_ret ?_)
 refine ret_gen ([.slice A179 (List.length (l177)) c180]) hE (by rw [show Tryd.f34.results.toList = [.tmp 2] from rfl]; exact ⟨_, _, rfl, rfl, rfl⟩) ?_
 exact ⟨_, rfl, D169, A179, c180, q181, rfl, hS, h182⟩
set_option maxRecDepth 100000 in
set_option maxHeartbeats 4000000 in
theorem inspeximusref01_Bytes.calls {K : Nat} {g w0 : World} {D0 : Snap} {x1 : (List Int)} {x5 : (List Int)} {A2 : Option Addr} {c3 : Nat} {A6 : Option Addr} {c7 : Nat} {r : (Bool)} (hf : inspeximusref01_Bytes.f K x1 x5 = some r) (hS0 : St g w0 D0 []) (h4 : Sl (kdInt .u8) D0 A2 c3 (x1)) (h8 : Sl (kdInt .u8) D0 A6 c7 (x5)) :
  CallsIn (Fw none) 0 Tryd.prog 24 (List.toArray [.slice A2 (List.length (x1)) c3, .slice A6 (List.length (x5)) c7]) w0 (fun e w' => ∃ v, e = .returned v ∧ ∃ (D1 : Snap), v = .bool (r) ∧ Stp g w0 D0 [] w' D1 []) := by
 unfold inspeximusref01_Bytes.f at hf
 have hS := Stp.refl hS0
 clear hS0
 refine calls_body (n := 26) Tryd.func24 rfl Tryd.ntmps24 rfl (fun a hE => ?_)
 have hE : Env a 26 [] [(0, .slice A2 (List.length (x1)) c3), (1, .slice A6 (List.length (x5)) c7)] := hE
 refine wpIn_seq ?_
 refine region_at ?_
 refine sN 1 1 [(4, .bool false)] hE (fun a hE => ?_)
 refine at_end rfl ?_
 refine wpIn_seq ?_
 refine wpIn_seq ?_
 refine region_at ?_
 refine sN 5 5 [(10, .bool ((!decide (((List.length (x1) : Nat) : Int) = ((List.length (x5) : Nat) : Int)))))] hE (fun a hE => ?_)
 refine at_end rfl ?_
 refine cond_split hE (b := (!decide (((List.length (x1) : Nat) : Int) = ((List.length (x5) : Nat) : Int)))) rfl (fun hb => ?_) (fun hb => ?_)
 ·replace hf := cond_t hb hf
  clear hb
  refine wpIn_seq ?_
  refine region_at ?_
  refine sN 1 1 [(4, .bool false)] hE (fun a hE => ?_)
  refine at_end rfl ?_
  refine wpIn_ret ?_
  obtain rfl := Option.some.inj hf
  repeat (with_reducible first | refine then_ret ?_ | refine block_ret ?_ | refine qx_ret ?_)
  refine ret_gen ([.bool false]) hE (by rw [show Tryd.f24.results.toList = [.tmp 4] from rfl]; exact ⟨_, _, rfl, rfl, rfl⟩) ?_
  exact ⟨_, rfl, D0, rfl, hS⟩
 ·replace hf := cond_f hb hf
  clear hb
  refine wpIn_skip ?_
  refine wpIn_seq ?_
  refine wpIn_seq ?_
  refine region_at ?_
  refine sN 1 1 [(5, .int .i64 ((0 : Int)))] hE (fun a hE => ?_)
  refine at_end rfl ?_
  obtain ⟨s1152, hf, hs1153⟩ := bind_some hf
  refine block_loop (fun a w => ∃ (z1149 : Unit), ∃ (D1150 : Snap), Env a 26 [] [] ∧ Stp g w0 D0 [] w D1150 [] ∧ Snap.le D0 D1150 ∧ (Sum.inr z1149) = s1152) (fun k a w => ∃ (y1047 : Int), ∃ (D1048 : Snap), Env a 26 [] [(0, .slice A2 (List.length (x1)) c3), (1, .slice A6 (List.length (x5)) c7), (5, .int .i64 (y1047))] ∧ Stp g w0 D0 [] w D1048 [] ∧ Snap.le D0 D1048 ∧ inspeximusref01_Bytes_l1.l K x1 x5 k y1047 = some s1152) K ?_ ?_ ?_
  ·exact ⟨(0 : Int), D0, hE.weak (by kernel_rfl), hS, Snap.le.refl _, hf⟩
  ·clear hE hS hf
   rintro a w ⟨z1149, D1150, hE, hS, le1151, rfl⟩
   have hf := hs1153
   clear hs1153
   refine wpIn_seq ?_
   refine region_at ?_
   refine sN 1 1 [(4, .bool true)] hE (fun a hE => ?_)
   refine at_end rfl ?_
   refine wpIn_ret ?_
   obtain rfl := Option.some.inj hf
   repeat (with_reducible first | refine then_ret ?_ | refine block_ret ?_ | refine qx_ret ?_)
   refine ret_gen ([.bool true]) hE (by rw [show Tryd.f24.results.toList = [.tmp 4] from rfl]; exact ⟨_, _, rfl, rfl, rfl⟩) ?_
   exact ⟨_, rfl, D1150, rfl, hS⟩
  ·clear hE hS hf
   rintro k a w ⟨y1047, D1048, hE, hS, le1049, hf⟩
   obtain ⟨k, rfl, hf⟩ := inspeximusref01_Bytes_l1.some _ _ hf
   refine ⟨k, rfl, ?_⟩
   unfold inspeximusref01_Bytes_l1.b at hf
   refine wpIn_seq ?_
   refine wpIn_seq ?_
   refine region_at ?_
   refine sN 4 4 [(14, .bool ((decide (y1047 < ((List.length (x1) : Nat) : Int)))))] hE (fun a hE => ?_)
   refine at_end rfl ?_
   refine cond_split hE (b := (decide (y1047 < ((List.length (x1) : Nat) : Int)))) rfl (fun hb => ?_) (fun hb => ?_)
   ·replace hf := cond_t hb hf
    clear hb
    refine wpIn_skip ?_
    refine wpIn_seq ?_
    refine wpIn_block ?_
    refine wpIn_seq ?_
    refine region_draw (fun j => Keeps (mfOf [] j)) (by kernel_rfl) ?_
    have hS := hS.drew
    first | generalize w.drew = w at hS ⊢ | generalize w0.drew = w at hS ⊢
    refine wP 0 1 8 (.slice A2 (List.length (x1)) c3) hE (fun a hE => ?_)
    refine wP 1 3 7 (.int .i64 (y1047)) hE (fun a hE => ?_)
    refine wP 4 19 6 (.slice A6 (List.length (x5)) c7) hE (fun a hE => ?_)
    refine wP 5 51 5 (.int .i64 (y1047)) hE (fun a hE => ?_)
    obtain ⟨x1226, h1227, hf⟩ := bind_some hf
    refine tW 2 55 (fuel := 4) (by kernel_rfl) hE (fun M => g_index (K := (kdInt .u8)) (e := 5) (by_ := 1) (zl := 1) rfl rfl rfl rfl hE rfl rfl rfl (by kernel_rfl) rfl (h4.mono le1049) h1227 (fun a b1228 o1229 hE h1230 => ?_))
    obtain ⟨cs1231, C1232, T1233, fr1234, hr1235, hb1236, hc1237⟩ := h1230
    obtain rfl := hr1235
    refine tT 3 63 (fuel := 3) (by kernel_rfl) hE (tk_loadX (off0 := o1229) (off := 0) (c := [.int .u8 (x1226)]) (.int .u8 (x1226)) rfl rfl rfl rfl hE rfl hS rfl hb1236 hc1237 (by kernel_rfl) (by kernel_rfl) (kD hS dn_nil) (fun a hE => ?_))
    obtain ⟨x1238, h1239, hf⟩ := bind_some hf
    refine tW 6 127 (fuel := 2) (by kernel_rfl) hE (fun M => g_index (K := (kdInt .u8)) (e := 5) (by_ := 1) (zl := 1) rfl rfl rfl rfl hE rfl rfl rfl (by kernel_rfl) rfl (h8.mono le1049) h1239 (fun a b1240 o1241 hE h1242 => ?_))
    obtain ⟨cs1243, C1244, T1245, fr1246, hr1247, hb1248, hc1249⟩ := h1242
    obtain rfl := hr1247
    refine tT 7 255 (fuel := 1) (by kernel_rfl) hE (tk_loadX (off0 := o1241) (off := 0) (c := [.int .u8 (x1238)]) (.int .u8 (x1238)) rfl rfl rfl rfl hE rfl hS rfl hb1248 hc1249 (by kernel_rfl) (by kernel_rfl) (kD hS dn_nil) (fun a hE => ?_))
    refine wP 8 511 0 (.bool ((!decide (x1226 = x1238)))) hE (fun a hE => ?_)
    refine doneG (by kernel_rfl) ?_
    refine cond_split hE (b := (!decide (x1226 = x1238))) rfl (fun hb => ?_) (fun hb => ?_)
    ·replace hf := cond_t hb hf
     clear hb
     refine wpIn_seq ?_
     refine region_at ?_
     refine sN 1 1 [(4, .bool false)] hE (fun a hE => ?_)
     refine at_end rfl ?_
     refine wpIn_ret ?_
     obtain rfl := Option.some.inj hf
     replace hf := hs1153
     obtain rfl := Option.some.inj hf
     repeat (with_reducible first | refine then_ret ?_ | refine block_ret ?_ | refine qx_ret ?_)
     refine ret_gen ([.bool false]) hE (by rw [show Tryd.f24.results.toList = [.tmp 4] from rfl]; exact ⟨_, _, rfl, rfl, rfl⟩) ?_
     exact ⟨_, rfl, D1048, rfl, hS⟩
    ·replace hf := cond_f hb hf
     clear hb
     refine wpIn_skip ?_
     refine region_at ?_
     refine sN 3 3 [(5, .int .i64 ((IntKind.wrap .i64 (y1047 + (1 : Int)))))] hE (fun a hE => ?_)
     refine at_end rfl ?_
     exact ⟨(IntKind.wrap .i64 (y1047 + (1 : Int))), D1048, hE.weak (by kernel_rfl), hS, le1049, hf⟩
   ·replace hf := cond_f hb hf
    clear hb
    refine wpIn_exit ?_
    obtain rfl := Option.some.inj hf
    exact ⟨(), D1048, hE.weak (by kernel_rfl), hS, le1049, rfl⟩
set_option maxRecDepth 100000 in
set_option maxHeartbeats 4000000 in
theorem inspeximusref08_Disk_Cut.calls {K : Nat} {g w0 : World} {D0 : Snap} {x3 : Int} {x4 : T_inspeximusref08_Disk} {b1 : Nat} {A5 : Option Addr} {c6 : Nat} {A8 : Option Addr} {c9 : Nat} {r : (Int × T_inspeximusref08_Disk)} (hf : inspeximusref08_Disk_Cut.f K x3 x4 = some r) (hS0 : St g w0 D0 [bx b1 35 (c_T_inspeximusref08_Disk (x4) A5 c6 A8 c9)]) (h7 : Sl (kdInt .u8) D0 A5 c6 (x4.fDone)) (h10 : Sl (kdInt .u8) D0 A8 c9 (x4.fLate)) :
  CallsIn (Fw none) 0 Tryd.prog 35 (List.toArray [.pointer (some ⟨b1, 0, none⟩), .int .i64 (x3)]) w0 (fun e w' => ∃ v, e = .returned v ∧ ∃ (D1 : Snap) (A34 : Option Addr) (c35 : Nat) (A37 : Option Addr) (c38 : Nat), v = .int .i64 (r.1) ∧ Stp g w0 D0 [bx b1 35 (c_T_inspeximusref08_Disk (x4) A5 c6 A8 c9)] w' D1 [bx b1 35 (c_T_inspeximusref08_Disk ((T_inspeximusref08_Disk.mk (r.2.fDone) (r.2.fLate) (r.2.fSize))) A34 c35 A37 c38)] ∧ Sl (kdInt .u8) D1 A34 c35 (r.2.fDone) ∧ Sl (kdInt .u8) D1 A37 c38 (r.2.fLate)) := by
 unfold inspeximusref08_Disk_Cut.f at hf
 have hS := Stp.refl hS0
 clear hS0
 refine calls_body (n := 25) Tryd.func35 rfl Tryd.ntmps35 rfl (fun a hE => ?_)
 have hE : Env a 25 [] [(0, .pointer (some ⟨b1, 0, none⟩)), (1, .int .i64 (x3))] := hE
 refine wpIn_seq ?_
 refine region_at ?_
 refine sN 1 1 [(4, .int .i64 ((0 : Int)))] hE (fun a hE => ?_)
 refine at_end rfl ?_
 refine wpIn_seq ?_
 refine region_at ?_
 refine sN 1 1 [(6, .pointer (some ⟨b1, 0, none⟩))] hE (fun a hE => ?_)
 obtain ⟨r40, h41, hf⟩ := bind_some hf
 refine aC rfl rfl rfl rfl hE rfl rfl rfl rfl (inspeximusref08_Disk_Bytes.calls (g := g) h41 (hS.st.fore (L := [bx b1 35 (c_T_inspeximusref08_Disk (x4) A5 c6 A8 c9)])) h7 h10) (fun a v w hR hE => ?_)
 obtain ⟨D42, A44, c45, q46, rfl, hS1, h47⟩ := hR
 have le49 := hS1.dle
 have hS := hS.callR hS1 rfl (.c (.c .n))
 clear hS1
 refine sN 1 3 [(5, .slice A44 (List.length (r40)) c45)] hE (fun a hE => ?_)
 refine at_end rfl ?_
 refine wpIn_seq ?_
 obtain ⟨j66, hj67, hf⟩ := jn_elim hf
 refine seq_join (fun a w => ∃ (y55 : Bool), ∃ (D56 : Snap), Env a 25 [] [(0, .pointer (some ⟨b1, 0, none⟩)), (1, .int .i64 (x3)), (5, .slice A44 (List.length (r40)) c45), (15, .bool (y55))] ∧ Stp g w0 D0 [bx b1 35 (c_T_inspeximusref08_Disk (x4) A5 c6 A8 c9)] w D56 [bx b1 35 (c_T_inspeximusref08_Disk (x4) A5 c6 A8 c9), q46] ∧ Snap.le D42 D56 ∧ j66 y55 = some r) ?_ ?_
 ·clear hj67
  refine region_at ?_
  refine sN 3 3 [(10, .bool ((decide (x3 < (0 : Int)))))] hE (fun a hE => ?_)
  refine Or.elim (Bool.eq_false_or_eq_true ((decide (x3 < (0 : Int))))).symm (fun hb => ?_) (fun hb => ?_)
  ·replace hf := cond_f hb hf
   have hE := hE.know (t := 10) (b := (decide (x3 < (0 : Int)))) (b' := false) rfl hb
   clear hb
   refine sN 5 8 [(15, .bool ((decide (((List.length (r40) : Nat) : Int) < x3))))] hE (fun a hE => ?_)
   refine at_end rfl ?_
   exact ⟨(decide (((List.length (r40) : Nat) : Int) < x3)), D42, hE.weak (by kernel_rfl), hS, Snap.le.refl _, hf⟩
  ·replace hf := cond_t hb hf
   have hE := hE.know (t := 10) (b := (decide (x3 < (0 : Int)))) (b' := true) rfl hb
   clear hb
   refine sN 5 8 [(15, .bool true)] hE (fun a hE => ?_)
   refine at_end rfl ?_
   exact ⟨true, D42, hE.weak (by kernel_rfl), hS, Snap.le.refl _, hf⟩
 ·clear hE hS
  rintro a w ⟨y55, D56, hE, hS, le57, hf⟩
  replace hf := hj67 _ hf
  clear hj67
  refine cond_split hE (b := y55) rfl (fun hb => ?_) (fun hb => ?_)
  ·replace hf := cond_t hb hf
   clear hb
   refine wpIn_seq ?_
   refine region_at ?_
   refine sN 1 1 [(4, .int .i64 ((1 : Int)))] hE (fun a hE => ?_)
   refine at_end rfl ?_
   refine wpIn_ret ?_
   obtain rfl := Option.some.inj hf
   repeat (with_reducible first | refine then_ret ?_ | refine block_ret ?_ | refine qx_ret ?_)
   refine ret_gen ([.int .i64 ((1 : Int))]) hE (by rw [show Tryd.f35.results.toList = [.tmp 4] from rfl]; exact ⟨_, _, rfl, rfl, rfl⟩) ?_
   have hS := hS.pk (.c 0 rfl .n) rfl
   exact ⟨_, rfl, D56, A5, c6, A8, c9, rfl, hS, (h7.mono (le2 le49 le57)), (h10.mono (le2 le49 le57))⟩
  ·replace hf := cond_f hb hf
   clear hb
   refine wpIn_skip ?_
   refine wpIn_seq ?_
   refine region_at ?_
   refine sN 3 3 [(16, .pointer (some ⟨b1, 0, none⟩)), (17, .slice A44 (List.length (r40)) c45), (18, .int .i64 (x3))] hE (fun a hE => ?_)
   obtain ⟨l58, h59, hf⟩ := bind_some hf
   refine at_op (op_tk hE (op_prefixO (K := (kdInt .u8)) (T := 5) (by_ := 1) (zl := 1) rfl rfl rfl rfl hE rfl rfl (by kernel_rfl) ⟨_, rfl⟩ (h47.mono le57) h59 (fun a hE h60 => ?_))) rfl
   refine sN 1 5 [(20, .pointer (some ⟨b1, 0, none⟩))] hE (fun a hE => ?_)
   refine aF 0 33 0 hE (fun a hE => ?_)
   refine at_op (op_store (v := .slice A44 (List.length (l58)) c45) (c_T_inspeximusref08_Disk ({ x4 with fDone := l58 }) A44 c45 A8 c9) rfl rfl rfl rfl hE hS rfl rfl (by kernel_rfl) (by kernel_rfl) (by kernel_rfl) (by kernel_rfl) (by kernel_rfl) (fun a w _ hE hS => ?_)) rfl
   refine at_end rfl ?_
   refine wpIn_seq ?_
   refine region_at ?_
   refine sN 2 2 [(23, .pointer (some ⟨b1, 0, none⟩))] hE (fun a hE => ?_)
   refine aF 1 33 1 hE (fun a hE => ?_)
   refine at_op (op_store (v := .slice none 0 0) (c_T_inspeximusref08_Disk ((T_inspeximusref08_Disk.mk (l58) (([] : List Int)) (x4.fSize))) A44 c45 none 0) rfl rfl rfl rfl hE hS rfl rfl (by kernel_rfl) (by kernel_rfl) (by kernel_rfl) (by kernel_rfl) (by kernel_rfl) (fun a w _ hE hS => ?_)) rfl
   refine at_end rfl ?_
   refine wpIn_seq ?_
   refine region_at ?_
   refine sN 1 1 [(4, .int .i64 ((0 : Int)))] hE (fun a hE => ?_)
   refine at_end rfl ?_
   refine wpIn_ret ?_
   have hS := hS.pk (.c 1 rfl (.c 0 rfl .n)) rfl
   obtain ⟨D61, q64, le62, hS, h65, h63⟩ := hS.lent h60
   obtain rfl := Option.some.inj hf
   repeat (with_reducible first | refine then_ret ?_ | refine block_ret ?_ | refine qx_ret ?_)
   refine ret_gen ([.int .i64 ((0 : Int))]) hE (by rw [show Tryd.f35.results.toList = [.tmp 4] from rfl]; exact ⟨_, _, rfl, rfl, rfl⟩) ?_
   have hS := hS.pk (.c 1 rfl .n) rfl
   exact ⟨_, rfl, D61, A44, c45, none, 0, rfl, hS, h63, (Sl.nil (kdInt .u8) D61)⟩
set_option maxRecDepth 100000 in
set_option maxHeartbeats 4000000 in
theorem inspeximusref09_Open.calls {K : Nat} {g w0 : World} {D0 : Snap} {x3 : T_inspeximusref08_Disk} {b1 : Nat} {A4 : Option Addr} {c5 : Nat} {A7 : Option Addr} {c8 : Nat} {r : (T_inspeximusref08_Disk × (List (List Int)))} (hf : inspeximusref09_Open.f K x3 = some r) (hS0 : St g w0 D0 [bx b1 35 (c_T_inspeximusref08_Disk (x3) A4 c5 A7 c8)]) (h6 : Sl (kdInt .u8) D0 A4 c5 (x3.fDone)) (h9 : Sl (kdInt .u8) D0 A7 c8 (x3.fLate)) (hG0 : Cell (kdArr .u32 8) D0 0 0 gl_First) (hG1 : Cell (kdArr .u32 64) D0 1 0 gl_K) :
  CallsIn (Fw none) 0 Tryd.prog 13 (List.toArray [.pointer (some ⟨b1, 0, none⟩)]) w0 (fun e w' => ∃ v, e = .returned v ∧ ∃ (D1 : Snap) (b1472 : Nat) (A1474 : Option Addr) (c1475 : Nat) (A1477 : Option Addr) (c1478 : Nat) (A1480 : Option Addr) (c1481 : Nat), v = .pointer (some ⟨b1472, 0, none⟩) ∧ Stp g w0 D0 [bx b1 35 (c_T_inspeximusref08_Disk (x3) A4 c5 A7 c8)] w' D1 [bx b1 35 (c_T_inspeximusref08_Disk ((T_inspeximusref08_Disk.mk (r.1.fDone) (r.1.fLate) (r.1.fSize))) A1474 c1475 A1477 c1478), bx b1472 45 ([.pointer (some ⟨b1, 0, none⟩)] ++ ([.slice A1480 (List.length (r.2)) c1481]))] ∧ Sl (kdInt .u8) D1 A1474 c1475 (r.1.fDone) ∧ Sl (kdInt .u8) D1 A1477 c1478 (r.1.fLate) ∧ Sl (kdSlice (kdInt .u8)) D1 A1480 c1481 (r.2)) := by
 unfold inspeximusref09_Open.f at hf
 have hS := Stp.refl hS0
 clear hS0
 refine calls_body (n := 67) Tryd.func13 rfl Tryd.ntmps13 rfl (fun a hE => ?_)
 have hE : Env a 67 [] [(0, .pointer (some ⟨b1, 0, none⟩))] := hE
 refine wpIn_seq ?_
 refine region_at ?_
 refine sN 1 1 [(2, .pointer none)] hE (fun a hE => ?_)
 refine at_end rfl ?_
 refine wpIn_seq ?_
 refine region_at ?_
 refine sN 1 1 [(10, .pointer (some ⟨b1, 0, none⟩))] hE (fun a hE => ?_)
 obtain ⟨r1483, h1484, hf⟩ := bind_some hf
 refine aC rfl rfl rfl rfl hE rfl rfl rfl rfl (inspeximusref08_Disk_Bytes.calls (g := g) h1484 (hS.st.fore (L := [bx b1 35 (c_T_inspeximusref08_Disk (x3) A4 c5 A7 c8)])) h6 h9) (fun a v w hR hE => ?_)
 obtain ⟨D1485, A1487, c1488, q1489, rfl, hS1, h1490⟩ := hR
 have le1492 := hS1.dle
 have hS := hS.callR hS1 rfl (.c (.c .n))
 clear hS1
 refine sN 1 3 [(3, .slice A1487 (List.length (r1483)) c1488)] hE (fun a hE => ?_)
 refine at_end rfl ?_
 refine wpIn_seq ?_
 refine region_at ?_
 refine sN 1 1 [(4, .slice none 0 0)] hE (fun a hE => ?_)
 refine at_end rfl ?_
 refine wpIn_seq ?_
 refine region_at ?_
 refine sN 1 1 [(5, .int .i64 ((0 : Int)))] hE (fun a hE => ?_)
 refine at_end rfl ?_
 refine wpIn_seq ?_
 have hS := hS.pk (.c 1 rfl (.c 0 rfl .n)) rfl
 obtain ⟨D2380, q2383, le2381, hS, h2384, h2382⟩ := hS.lent h1490
 obtain ⟨s2757, hf, hs2758⟩ := bind_some hf
 have hS := hS.nils
 have hS := hS.pk (.c 2 rfl (.c 1 rfl (.c 0 rfl .n))) rfl
 refine block_loop (fun a w => ∃ (z2749 : (List (List Int)) × Int), ∃ (A2752 : Option Addr), ∃ (c2753 : Nat), ∃ (q2754 : Blk), ∃ (D2750 : Snap), Env a 67 [] [(0, .pointer (some ⟨b1, 0, none⟩)), (4, .slice A2752 (List.length (z2749.1)) c2753), (5, .int .i64 (z2749.2))] ∧ Stp g w0 D0 [bx b1 35 (c_T_inspeximusref08_Disk (x3) A4 c5 A7 c8)] w D2750 [bx b1 35 (c_T_inspeximusref08_Disk (x3) A4 c5 A7 c8), q2754] ∧ Snap.le D2380 D2750 ∧ OwnL (kdSlice (kdInt .u8)) 33 D2750 A2752 c2753 (z2749.1) q2754 ∧ z2749 = s2757) (fun k a w => ∃ (y2566 : (List (List Int)) × Int), ∃ (A2569 : Option Addr), ∃ (c2570 : Nat), ∃ (q2571 : Blk), ∃ (D2567 : Snap), Env a 67 [] [(0, .pointer (some ⟨b1, 0, none⟩)), (3, .slice A1487 (List.length (r1483)) c1488), (4, .slice A2569 (List.length (y2566.1)) c2570), (5, .int .i64 (y2566.2))] ∧ Stp g w0 D0 [bx b1 35 (c_T_inspeximusref08_Disk (x3) A4 c5 A7 c8)] w D2567 [bx b1 35 (c_T_inspeximusref08_Disk (x3) A4 c5 A7 c8), q2383, q2571] ∧ Snap.le D2380 D2567 ∧ OwnL (kdSlice (kdInt .u8)) 33 D2567 A2569 c2570 (y2566.1) q2571 ∧ inspeximusref09_Open_l1.l K r1483 k y2566 = some s2757) K ?_ ?_ ?_
 ·exact ⟨(([] : List (List Int)), (0 : Int)), none, 0, none, D2380, hE.weak (by kernel_rfl), hS, Snap.le.refl _, (OwnD.nil (kdSlice (kdInt .u8)) 33 D2380), hf⟩
 ·clear hE hS hf
  rintro a w ⟨z2749, A2752, c2753, q2754, D2750, hE, hS, le2751, h2755, rfl⟩
  have hf := hs2758
  clear hs2758
  refine wpIn_seq ?_
  refine region_at ?_
  refine sN 2 2 [(60, .pointer (some ⟨b1, 0, none⟩)), (61, .int .i64 (z2749.2))] hE (fun a hE => ?_)
  obtain ⟨r2927, h2928, hf⟩ := bind_some hf
  refine aC rfl rfl rfl rfl hE rfl rfl rfl rfl (inspeximusref08_Disk_Cut.calls (g := g) h2928 (hS.st.fore (L := [bx b1 35 (c_T_inspeximusref08_Disk (x3) A4 c5 A7 c8)])) (h6.mono (le2 (le2 le1492 le2381) le2751)) (h9.mono (le2 (le2 le1492 le2381) le2751))) (fun a v w hR hE => ?_)
  obtain ⟨D2929, A2931, c2932, A2934, c2935, rfl, hS1, h2933, h2936⟩ := hR
  have le2937 := hS1.dle
  have hS := hS.callR hS1 rfl (.c .n)
  clear hS1
  refine at_end rfl ?_
  refine wpIn_seq ?_
  refine region_at ?_
  refine sN 2 2 [(63, .pointer (some ⟨b1, 0, none⟩)), (64, .slice A2752 (List.length (z2749.1)) c2753)] hE (fun a hE => ?_)
  have hS := hS.pk (.c 1 rfl (.c 0 rfl .n)) rfl
  obtain ⟨D2938, q2941, le2939, hS, h2942, h2940⟩ := hS.lent (h2755.mono le2937)
  refine at_op (op_tk hE (tk_build ([.pointer (some ⟨b1, 0, none⟩)] ++ ([.slice A2752 (List.length (z2749.1)) c2753])) rfl rfl rfl rfl hE rfl rfl (by kernel_rfl) (fun a hE => ?_))) rfl
  refine at_op (op_box rfl rfl rfl rfl hE rfl hS rfl (fun a b2943 w _ hE hS => ?_)) rfl
  refine sN 1 5 [(2, .pointer (some ⟨b2943, 0, none⟩))] hE (fun a hE => ?_)
  refine at_end rfl ?_
  refine wpIn_ret ?_
  obtain rfl := Option.some.inj hf
  repeat (with_reducible first | refine then_ret ?_ | refine block_ret ?_ | refine qx_ret ?_)
  refine ret_gen ([.pointer (some ⟨b2943, 0, none⟩)]) hE (by rw [show Tryd.f13.results.toList = [.tmp 2] from rfl]; exact ⟨_, _, rfl, rfl, rfl⟩) ?_
  have hS := hS.pk (.c 2 rfl (.c 0 rfl .n)) rfl
  exact ⟨_, rfl, D2938, b2943, A2931, c2932, A2934, c2935, A2752, c2753, rfl, hS, (h2933.mono le2939), (h2936.mono le2939), h2940⟩
 ·clear hE hS hf
  rintro k a w ⟨y2566, A2569, c2570, q2571, D2567, hE, hS, le2568, h2572, hf⟩
  obtain ⟨k, rfl, hf⟩ := inspeximusref09_Open_l1.some _ hf
  refine ⟨k, rfl, ?_⟩
  unfold inspeximusref09_Open_l1.b at hf
  refine wpIn_block ?_
  refine wpIn_seq ?_
  refine region_at ?_
  refine sN 2 2 [(12, .slice A1487 (List.length (r1483)) c1488), (13, .int .i64 (y2566.2))] hE (fun a hE => ?_)
  refine at_op (op_tk hE (tk_build (c_T_inspeximusref03_Reader ((T_inspeximusref03_Reader.mk (r1483) (y2566.2) ((0 : Int)))) A1487 c1488) rfl rfl rfl rfl hE rfl rfl (by kernel_rfl) (fun a hE => ?_))) rfl
  refine at_op (op_box rfl rfl rfl rfl hE rfl hS rfl (fun a b2759 w _ hE hS => ?_)) rfl
  refine sN 1 5 [(6, .pointer (some ⟨b2759, 0, none⟩))] hE (fun a hE => ?_)
  refine at_end rfl ?_
  refine wpIn_seq ?_
  refine region_at ?_
  refine sN 1 1 [(16, .pointer (some ⟨b2759, 0, none⟩))] hE (fun a hE => ?_)
  obtain ⟨r2761, h2762, hf⟩ := bind_some hf
  refine aC rfl rfl rfl rfl hE rfl rfl rfl rfl (inspeximusref03_Reader_Bytes.calls (g := g) h2762 (hS.st.fore (L := [bx b2759 75 (c_T_inspeximusref03_Reader ((T_inspeximusref03_Reader.mk (r1483) (y2566.2) ((0 : Int)))) A1487 c1488)])) (h2382.mono le2568)) (fun a v w hR hE => ?_)
  obtain ⟨D2763, A2765, c2766, q2767, A2770, c2771, rfl, hS1, h2768, h2772⟩ := hR
  have le2773 := hS1.dle
  have hS := hS.callR hS1 rfl (.c (.c .n))
  clear hS1
  refine sN 1 3 [(7, .slice A2765 (List.length (r2761.1)) c2766)] hE (fun a hE => ?_)
  refine at_end rfl ?_
  refine wpIn_seq ?_
  obtain ⟨j2924, hj2925, hf⟩ := jn_elim hf
  refine seq_join (fun a w => ∃ (y2779 : Bool), ∃ (D2780 : Snap), Env a 67 [] [(0, .pointer (some ⟨b1, 0, none⟩)), (3, .slice A1487 (List.length (r1483)) c1488), (4, .slice A2569 (List.length (y2566.1)) c2570), (5, .int .i64 (y2566.2)), (7, .slice A2765 (List.length (r2761.1)) c2766), (27, .bool (y2779))] ∧ Stp g w0 D0 [bx b1 35 (c_T_inspeximusref08_Disk (x3) A4 c5 A7 c8)] w D2780 [bx b1 35 (c_T_inspeximusref08_Disk (x3) A4 c5 A7 c8), q2383, q2571, q2767] ∧ Snap.le D2763 D2780 ∧ j2924 y2779 = some s2757) ?_ ?_
  ·clear hj2925
   refine region_at ?_
   refine sN 2 2 [(19, .pointer (some ⟨b2759, 0, none⟩))] hE (fun a hE => ?_)
   refine aF 2 3 2 hE (fun a hE => ?_)
   refine aL 0 (.int .i64 (r2761.2.fBad)) hE hS (fun a hE => ?_)
   refine sN 2 6 [(23, .bool ((!decide (r2761.2.fBad = (0 : Int)))))] hE (fun a hE => ?_)
   refine Or.elim (Bool.eq_false_or_eq_true ((!decide (r2761.2.fBad = (0 : Int))))).symm (fun hb => ?_) (fun hb => ?_)
   ·replace hf := cond_f hb hf
    have hE := hE.know (t := 23) (b := (!decide (r2761.2.fBad = (0 : Int)))) (b' := false) rfl hb
    clear hb
    refine sN 4 10 [(27, .bool ((decide (((List.length (r2761.1) : Nat) : Int) = (0 : Int)))))] hE (fun a hE => ?_)
    refine at_end rfl ?_
    have hS := hS.pk (.c 2 rfl (.c 3 rfl (.c 4 rfl (.c 1 rfl .n)))) rfl
    exact ⟨(decide (((List.length (r2761.1) : Nat) : Int) = (0 : Int))), D2763, hE.weak (by kernel_rfl), hS, Snap.le.refl _, hf⟩
   ·replace hf := cond_t hb hf
    have hE := hE.know (t := 23) (b := (!decide (r2761.2.fBad = (0 : Int)))) (b' := true) rfl hb
    clear hb
    refine sN 4 10 [(27, .bool true)] hE (fun a hE => ?_)
    refine at_end rfl ?_
    have hS := hS.pk (.c 2 rfl (.c 3 rfl (.c 4 rfl (.c 1 rfl .n)))) rfl
    exact ⟨true, D2763, hE.weak (by kernel_rfl), hS, Snap.le.refl _, hf⟩
  ·clear hE hS
   rintro a w ⟨y2779, D2780, hE, hS, le2781, hf⟩
   replace hf := hj2925 _ hf
   clear hj2925
   refine cond_split hE (b := y2779) rfl (fun hb => ?_) (fun hb => ?_)
   ·replace hf := cond_t hb hf
    clear hb
    refine wpIn_exit ?_
    obtain rfl := Option.some.inj hf
    have hS := hS.pk (.c 0 rfl (.c 2 rfl .n)) rfl
    exact ⟨(y2566.1, y2566.2), A2569, c2570, q2571, D2780, hE.weak (by kernel_rfl), hS, (le2 (le2 le2568 le2773) le2781), (h2572.mono (le2 le2773 le2781)), rfl⟩
   ·replace hf := cond_f hb hf
    clear hb
    refine wpIn_skip ?_
    refine wpIn_seq ?_
    refine region_at ?_
    refine at_op (op_buildSlice (K := (kdSlice (kdInt .u8))) (e := 33) (cs := []) ([] : List (List Int)) rfl rfl rfl rfl hE rfl hS rfl (by kernel_rfl) rfl rfl (by exact (show RL (kdSlice (kdInt .u8)) D2780 ([] : List (List Int)) ([]) from rfl)) (fun a A2782 q2783 w _ hE h2784 hS => ?_)) rfl
    refine sN 1 2 [(29, .slice A2569 (List.length (y2566.1)) c2570)] hE (fun a hE => ?_)
    have hS := hS.pk (.c 3 rfl (.c 0 rfl (.c 1 rfl (.c 2 rfl (.c 4 rfl .n))))) rfl
    obtain ⟨D2786, q2789, le2787, hS, h2790, h2788⟩ := hS.lent (h2572.mono (le2 le2773 le2781))
    have hS := hS.pk (.c 1 rfl (.c 0 rfl (.c 2 rfl (.c 3 rfl (.c 4 rfl .n))))) rfl
    obtain ⟨l2791, h2792, hf⟩ := bind_some hf
    refine at_op (g_append (K := (kdSlice (kdInt .u8))) (e := 33) (bytes := 24) (l := ([] : List (List Int))) (m := y2566.1) rfl rfl rfl rfl hE rfl hS rfl rfl (by kernel_rfl) rfl rfl (h2784.mono le2787) h2788 h2792 (fun a A2793 c2794 q2795 w _ hE h2796 hS => ?_)) rfl
    refine sN 1 4 [(31, .slice A2765 (List.length (r2761.1)) c2766)] hE (fun a hE => ?_)
    have hS := hS.pk (.c 4 rfl (.c 0 rfl (.c 1 rfl (.c 2 rfl (.c 3 rfl .n))))) rfl
    obtain ⟨D2798, q2801, le2799, hS, h2802, h2800⟩ := hS.lent (h2768.mono (le2 le2781 le2787))
    refine at_op (op_buildSlice (K := (kdSlice (kdInt .u8))) (e := 33) (cs := [.slice A2765 (List.length (r2761.1)) c2766] ++ []) ([r2761.1] : List (List Int)) rfl rfl rfl rfl hE rfl hS rfl (by kernel_rfl) rfl rfl (by exact (show RL (kdSlice (kdInt .u8)) D2798 ([r2761.1] : List (List Int)) ([.slice A2765 (List.length (r2761.1)) c2766] ++ []) from ⟨_, _, rfl, (kslice h2800), rfl⟩)) (fun a A2803 q2804 w _ hE h2805 hS => ?_)) rfl
    obtain ⟨D2807, q2810, le2808, hS, h2811, h2809⟩ := hS.lent h2805
    have hS := hS.pk (.c 2 rfl (.c 0 rfl (.c 1 rfl (.c 3 rfl (.c 4 rfl (.c 5 rfl .n)))))) rfl
    obtain ⟨l2812, h2813, hf⟩ := bind_some hf
    refine at_op (g_append (K := (kdSlice (kdInt .u8))) (e := 33) (bytes := 24) (l := l2791) (m := ([r2761.1] : List (List Int))) rfl rfl rfl rfl hE rfl hS rfl rfl (by kernel_rfl) rfl rfl (h2796.mono (le2 le2799 le2808)) h2809 h2813 (fun a A2814 c2815 q2816 w _ hE h2817 hS => ?_)) rfl
    refine sN 1 7 [(8, .slice A2814 (List.length (l2812)) c2815)] hE (fun a hE => ?_)
    refine at_end rfl ?_
    refine wpIn_seq ?_
    refine region_at ?_
    refine sN 1 1 [(34, .slice A2814 (List.length (l2812)) c2815)] hE (fun a hE => ?_)
    obtain ⟨D2819, q2822, le2820, hS, h2823, h2821⟩ := hS.lent h2817
    have hS := hS.pk (.c 0 rfl (.c 2 rfl (.c 3 rfl (.c 4 rfl (.c 5 rfl .n))))) rfl
    obtain ⟨r2824, h2825, hf⟩ := bind_some hf
    refine aC rfl rfl rfl rfl hE rfl rfl rfl rfl (inspeximusref09_Laid.calls (g := g) h2825 (hS.st.fore (L := [])) h2821 (hG0.mono (le2 (le2 (le2 (le2 (le2 (le2 (le2 (le2 le1492 le2381) le2568) le2773) le2781) le2787) le2799) le2808) le2820)) (hG1.mono (le2 (le2 (le2 (le2 (le2 (le2 (le2 (le2 le1492 le2381) le2568) le2773) le2781) le2787) le2799) le2808) le2820))) (fun a v w hR hE => ?_)
    obtain ⟨D2826, A2828, c2829, q2830, rfl, hS1, h2831⟩ := hR
    have le2833 := hS1.dle
    have hS := hS.callR hS1 rfl (.c .n)
    clear hS1
    refine sN 1 3 [(9, .slice A2828 (List.length (r2824)) c2829)] hE (fun a hE => ?_)
    refine at_end rfl ?_
    refine wpIn_seq ?_
    obtain ⟨D2894, q2897, le2895, hS, h2898, h2896⟩ := hS.lent h2831
    obtain ⟨j2912, hj2913, hf⟩ := jn_elim hf
    refine seq_join (fun a w => ∃ (y2909 : Bool), ∃ (D2910 : Snap), Env a 67 [] [(0, .pointer (some ⟨b1, 0, none⟩)), (3, .slice A1487 (List.length (r1483)) c1488), (4, .slice A2569 (List.length (y2566.1)) c2570), (5, .int .i64 (y2566.2)), (8, .slice A2814 (List.length (l2812)) c2815), (9, .slice A2828 (List.length (r2824)) c2829), (54, .bool (y2909))] ∧ Stp g w0 D0 [bx b1 35 (c_T_inspeximusref08_Disk (x3) A4 c5 A7 c8)] w D2910 [bx b1 35 (c_T_inspeximusref08_Disk (x3) A4 c5 A7 c8), q2383, q2789, q2822, q2897] ∧ Snap.le D2894 D2910 ∧ j2912 y2909 = some s2757) ?_ ?_
    ·clear hj2913
     refine region_at ?_
     refine sN 8 8 [(43, .bool ((decide ((IntKind.wrap .i64 (((List.length (r1483) : Nat) : Int) - y2566.2)) < ((List.length (r2824) : Nat) : Int)))))] hE (fun a hE => ?_)
     refine Or.elim (Bool.eq_false_or_eq_true ((decide ((IntKind.wrap .i64 (((List.length (r1483) : Nat) : Int) - y2566.2)) < ((List.length (r2824) : Nat) : Int))))).symm (fun hb => ?_) (fun hb => ?_)
     ·replace hf := cond_f hb hf
      have hE := hE.know (t := 43) (b := (decide ((IntKind.wrap .i64 (((List.length (r1483) : Nat) : Int) - y2566.2)) < ((List.length (r2824) : Nat) : Int)))) (b' := false) rfl hb
      clear hb
      refine sN 6 14 [(44, .slice A1487 (List.length (r1483)) c1488), (45, .int .i64 (y2566.2)), (49, .int .i64 ((IntKind.wrap .i64 (y2566.2 + ((List.length (r2824) : Nat) : Int)))))] hE (fun a hE => ?_)
      obtain ⟨l2914, h2915, hf⟩ := bind_some hf
      refine at_op (op_tk hE (g_slice (K := (kdInt .u8)) (e := 5) (by_ := 1) (zl := 1) rfl rfl rfl rfl hE rfl rfl (by kernel_rfl) ⟨_, rfl⟩ ⟨_, rfl⟩ (h2382.mono (le2 (le2 (le2 (le2 (le2 (le2 (le2 (le2 le2568 le2773) le2781) le2787) le2799) le2808) le2820) le2833) le2895)) h2915 (fun a A2916 c2917 hE h2918 => ?_))) rfl
      refine sN 1 16 [(51, .slice A2828 (List.length (r2824)) c2829)] hE (fun a hE => ?_)
      obtain ⟨r2919, h2920, hf⟩ := bind_some hf
      refine aC rfl rfl rfl rfl hE rfl rfl rfl rfl (inspeximusref01_Bytes.calls (g := g) h2920 (hS.st.fore (L := [])) h2918 h2896) (fun a v w hR hE => ?_)
      obtain ⟨D2921, rfl, hS1⟩ := hR
      have le2923 := hS1.dle
      have hS := hS.callR hS1 rfl .n
      clear hS1
      refine sN 2 19 [(54, .bool ((!r2919)))] hE (fun a hE => ?_)
      refine at_end rfl ?_
      have hS := hS.pk (.c 4 rfl (.c 5 rfl (.c 3 rfl (.c 1 rfl (.c 0 rfl .n))))) rfl
      exact ⟨(!r2919), D2921, hE.weak (by kernel_rfl), hS, le2923, hf⟩
     ·replace hf := cond_t hb hf
      have hE := hE.know (t := 43) (b := (decide ((IntKind.wrap .i64 (((List.length (r1483) : Nat) : Int) - y2566.2)) < ((List.length (r2824) : Nat) : Int)))) (b' := true) rfl hb
      clear hb
      refine sN 11 19 [(54, .bool true)] hE (fun a hE => ?_)
      refine at_end rfl ?_
      have hS := hS.pk (.c 4 rfl (.c 5 rfl (.c 3 rfl (.c 1 rfl (.c 0 rfl .n))))) rfl
      exact ⟨true, D2894, hE.weak (by kernel_rfl), hS, Snap.le.refl _, hf⟩
    ·clear hE hS
     rintro a w ⟨y2909, D2910, hE, hS, le2911, hf⟩
     replace hf := hj2913 _ hf
     clear hj2913
     refine cond_split hE (b := y2909) rfl (fun hb => ?_) (fun hb => ?_)
     ·replace hf := cond_t hb hf
      clear hb
      refine wpIn_exit ?_
      obtain rfl := Option.some.inj hf
      have hS := hS.pk (.c 0 rfl (.c 2 rfl .n)) rfl
      exact ⟨(y2566.1, y2566.2), A2569, c2570, q2789, D2910, hE.weak (by kernel_rfl), hS, (le2 (le2 (le2 (le2 (le2 (le2 (le2 (le2 (le2 le2568 le2773) le2781) le2787) le2799) le2808) le2820) le2833) le2895) le2911), (h2790.mono (le2 (le2 (le2 (le2 (le2 le2799 le2808) le2820) le2833) le2895) le2911)), rfl⟩
     ·replace hf := cond_f hb hf
      clear hb
      refine wpIn_skip ?_
      refine wpIn_seq ?_
      refine region_at ?_
      refine sN 2 2 [(4, .slice A2814 (List.length (l2812)) c2815)] hE (fun a hE => ?_)
      refine at_end rfl ?_
      refine region_at ?_
      refine sN 5 5 [(5, .int .i64 ((IntKind.wrap .i64 (y2566.2 + ((List.length (r2824) : Nat) : Int)))))] hE (fun a hE => ?_)
      refine at_end rfl ?_
      have hS := hS.pk (.c 0 rfl (.c 1 rfl (.c 3 rfl .n))) rfl
      exact ⟨(l2812, (IntKind.wrap .i64 (y2566.2 + ((List.length (r2824) : Nat) : Int)))), A2814, c2815, q2822, D2910, hE.weak (by kernel_rfl), hS, (le2 (le2 (le2 (le2 (le2 (le2 (le2 (le2 (le2 le2568 le2773) le2781) le2787) le2799) le2808) le2820) le2833) le2895) le2911), (h2823.mono (le2 (le2 le2833 le2895) le2911)), hf⟩
end Go.Proofs.YthnfokfankaenaaDoor
