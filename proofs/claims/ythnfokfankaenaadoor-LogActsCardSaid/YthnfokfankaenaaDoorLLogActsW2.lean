/-
  Proved, text by text: a call of a function of the cut comes to what its plain function computes.
  Conditions: those that each theorem names.
-/
import Derived.Test.YthnfokfankaenaaDoorProg
import Derived.Test.YthnfokfankaenaaDoorSepN
import Derived.Test.YthnfokfankaenaaDoorLLogActsW1
set_option linter.unusedVariables false
namespace Go.Proofs.YthnfokfankaenaaDoor
open Go Go.Sep
set_option maxRecDepth 100000 in
set_option maxHeartbeats 4000000 in
theorem inspeximusref08_Disk_Write.calls {K : Nat} {g w0 : World} {D0 : Snap} {x3 : (List Int)} {x7 : T_inspeximusref08_Disk} {b1 : Nat} {A4 : Option Addr} {c5 : Nat} {A8 : Option Addr} {c9 : Nat} {A11 : Option Addr} {c12 : Nat} {r : (Int × T_inspeximusref08_Disk)} (hf : inspeximusref08_Disk_Write.f K x3 x7 = some r) (hS0 : St g w0 D0 [bx b1 35 (c_T_inspeximusref08_Disk (x7) A8 c9 A11 c12)]) (h6 : Sl (kdInt .u8) D0 A4 c5 (x3)) (h10 : Sl (kdInt .u8) D0 A8 c9 (x7.fDone)) (h13 : Sl (kdInt .u8) D0 A11 c12 (x7.fLate)) :
  CallsIn (Fw none) 0 Tryd.prog 38 (List.toArray [.pointer (some ⟨b1, 0, none⟩), .slice A4 (List.length (x3)) c5]) w0 (fun e w' => ∃ v, e = .returned v ∧ ∃ (D1 : Snap) (A32 : Option Addr) (c33 : Nat) (A35 : Option Addr) (c36 : Nat), v = .int .i64 (r.1) ∧ Stp g w0 D0 [bx b1 35 (c_T_inspeximusref08_Disk (x7) A8 c9 A11 c12)] w' D1 [bx b1 35 (c_T_inspeximusref08_Disk ((T_inspeximusref08_Disk.mk (r.2.fDone) (r.2.fLate) (r.2.fSize))) A32 c33 A35 c36)] ∧ Sl (kdInt .u8) D1 A32 c33 (r.2.fDone) ∧ Sl (kdInt .u8) D1 A35 c36 (r.2.fLate)) := by
 unfold inspeximusref08_Disk_Write.f at hf
 have hS := Stp.refl hS0
 clear hS0
 refine calls_body (n := 35) Tryd.func38 rfl Tryd.ntmps38 rfl (fun a hE => ?_)
 have hE : Env a 35 [] [(0, .pointer (some ⟨b1, 0, none⟩)), (1, .slice A4 (List.length (x3)) c5)] := hE
 refine wpIn_seq ?_
 refine region_at ?_
 refine sN 1 1 [(4, .int .i64 ((0 : Int)))] hE (fun a hE => ?_)
 refine at_end rfl ?_
 refine wpIn_seq ?_
 refine wpIn_seq ?_
 refine region_draw (fun j => Keeps (mfOf [] j)) (by kernel_rfl) ?_
 have hS := hS.drew
 first | generalize w.drew = w at hS ⊢ | generalize w0.drew = w at hS ⊢
 refine wP 0 1 18 (.pointer (some ⟨b1, 0, none⟩)) hE (fun a hE => ?_)
 refine wP 1 3 17 (.pointer (some ⟨b1, 0, none⟩)) hE (fun a hE => ?_)
 refine wP 5 35 16 (.pointer (some ⟨b1, 0, none⟩)) hE (fun a hE => ?_)
 refine wP 6 99 15 (.pointer (some ⟨b1, 0, none⟩)) hE (fun a hE => ?_)
 refine wP 11 2147 14 (.slice A4 (List.length (x3)) c5) hE (fun a hE => ?_)
 refine wP 12 6243 13 (.int .i64 (((List.length (x3) : Nat) : Int))) hE (fun a hE => ?_)
 refine wP 14 22627 12 (.pointer (some ⟨b1, 0, none⟩)) hE (fun a hE => ?_)
 refine wP 15 55395 11 (.pointer (some ⟨b1, 0, none⟩)) hE (fun a hE => ?_)
 refine wF 2 55399 10 0 33 0 hE (fun a hE => ?_)
 refine tT 3 55407 (fuel := 9) (by kernel_rfl) hE (tk_load 0 (.slice A8 (List.length (x7.fDone)) c9) rfl rfl rfl rfl hE rfl hS rfl rfl (by kernel_rfl) (kL (j := 0) hS rfl List.not_mem_nil) (fun a hE => ?_))
 refine wP 4 55423 8 (.int .i64 (((List.length (x7.fDone) : Nat) : Int))) hE (fun a hE => ?_)
 refine wF 7 55551 7 1 33 1 hE (fun a hE => ?_)
 refine tT 8 55807 (fuel := 6) (by kernel_rfl) hE (tk_load 0 (.slice A11 (List.length (x7.fLate)) c12) rfl rfl rfl rfl hE rfl hS rfl rfl (by kernel_rfl) (kL (j := 0) hS rfl List.not_mem_nil) (fun a hE => ?_))
 refine wP 9 56319 5 (.int .i64 (((List.length (x7.fLate) : Nat) : Int))) hE (fun a hE => ?_)
 refine wP 10 57343 4 (.int .i64 ((IntKind.wrap .i64 (((List.length (x7.fDone) : Nat) : Int) + ((List.length (x7.fLate) : Nat) : Int))))) hE (fun a hE => ?_)
 refine wP 13 65535 3 (.int .i64 ((IntKind.wrap .i64 ((IntKind.wrap .i64 (((List.length (x7.fDone) : Nat) : Int) + ((List.length (x7.fLate) : Nat) : Int))) + ((List.length (x3) : Nat) : Int))))) hE (fun a hE => ?_)
 refine wF 16 131071 2 2 3 2 hE (fun a hE => ?_)
 refine tT 17 262143 (fuel := 1) (by kernel_rfl) hE (tk_load 0 (.int .i64 (x7.fSize)) rfl rfl rfl rfl hE rfl hS rfl rfl (by kernel_rfl) (kL (j := 0) hS rfl List.not_mem_nil) (fun a hE => ?_))
 refine wP 18 524287 0 (.bool ((decide (x7.fSize < (IntKind.wrap .i64 ((IntKind.wrap .i64 (((List.length (x7.fDone) : Nat) : Int) + ((List.length (x7.fLate) : Nat) : Int))) + ((List.length (x3) : Nat) : Int))))))) hE (fun a hE => ?_)
 refine doneG (by kernel_rfl) ?_
 refine cond_split hE (b := (decide (x7.fSize < (IntKind.wrap .i64 ((IntKind.wrap .i64 (((List.length (x7.fDone) : Nat) : Int) + ((List.length (x7.fLate) : Nat) : Int))) + ((List.length (x3) : Nat) : Int)))))) rfl (fun hb => ?_) (fun hb => ?_)
 ·replace hf := cond_t hb hf
  clear hb
  refine wpIn_seq ?_
  refine region_at ?_
  refine sN 1 1 [(4, .int .i64 ((5 : Int)))] hE (fun a hE => ?_)
  refine at_end rfl ?_
  refine wpIn_ret ?_
  obtain rfl := Option.some.inj hf
  repeat (with_reducible first | refine then_ret ?_ | refine block_ret ?_ | refine qx_ret ?_)
  refine ret_gen ([.int .i64 ((5 : Int))]) hE (by rw [show Tryd.f38.results.toList = [.tmp 4] from rfl]; exact ⟨_, _, rfl, rfl, rfl⟩) ?_
  exact ⟨_, rfl, D0, A8, c9, A11, c12, rfl, hS, h10, h13⟩
 ·replace hf := cond_f hb hf
  clear hb
  refine wpIn_skip ?_
  refine wpIn_seq ?_
  refine region_at ?_
  refine sN 1 1 [(24, .pointer (some ⟨b1, 0, none⟩))] hE (fun a hE => ?_)
  refine at_op (op_buildSlice (K := (kdInt .u8)) (e := 5) (cs := []) ([] : List Int) rfl rfl rfl rfl hE rfl hS rfl (by kernel_rfl) rfl rfl (by exact (show RL (kdInt .u8) D0 ([] : List Int) ([]) from rfl)) (fun a A38 q39 w _ hE h40 hS => ?_)) rfl
  refine sN 2 4 [(27, .pointer (some ⟨b1, 0, none⟩))] hE (fun a hE => ?_)
  refine aF 1 33 1 hE (fun a hE => ?_)
  refine aL 1 (.slice A11 (List.length (x7.fLate)) c12) hE hS (fun a hE => ?_)
  obtain ⟨l42, h43, hf⟩ := bind_some hf
  refine at_op (g_append (K := (kdInt .u8)) (e := 5) (bytes := 1) (l := ([] : List Int)) (m := x7.fLate) rfl rfl rfl rfl hE rfl hS rfl rfl (by kernel_rfl) rfl rfl h40 h13 h43 (fun a A44 c45 q46 w _ hE h47 hS => ?_)) rfl
  refine sN 1 8 [(31, .slice A4 (List.length (x3)) c5)] hE (fun a hE => ?_)
  obtain ⟨l49, h50, hf⟩ := bind_some hf
  refine at_op (g_append (K := (kdInt .u8)) (e := 5) (bytes := 1) (l := l42) (m := x3) rfl rfl rfl rfl hE rfl hS rfl rfl (by kernel_rfl) rfl rfl h47 h6 h50 (fun a A51 c52 q53 w _ hE h54 hS => ?_)) rfl
  refine sN 1 10 [(33, .pointer (some ⟨b1, 0, none⟩))] hE (fun a hE => ?_)
  refine aF 1 33 1 hE (fun a hE => ?_)
  have hS := hS.pk (.c 1 rfl (.c 0 rfl .n)) rfl
  refine at_op (op_store (v := .slice A51 (List.length (l49)) c52) (c_T_inspeximusref08_Disk ({ x7 with fLate := l49 }) A8 c9 A51 c52) rfl rfl rfl rfl hE hS rfl rfl (by kernel_rfl) (by kernel_rfl) (by kernel_rfl) (by kernel_rfl) (by kernel_rfl) (fun a w _ hE hS => ?_)) rfl
  refine at_end rfl ?_
  refine wpIn_seq ?_
  refine region_at ?_
  refine sN 1 1 [(4, .int .i64 ((0 : Int)))] hE (fun a hE => ?_)
  refine at_end rfl ?_
  refine wpIn_ret ?_
  have hS := hS.pk (.c 1 rfl (.c 0 rfl .n)) rfl
  obtain ⟨D56, q59, le57, hS, h60, h58⟩ := hS.lent h54
  obtain rfl := Option.some.inj hf
  repeat (with_reducible first | refine then_ret ?_ | refine block_ret ?_ | refine qx_ret ?_)
  refine ret_gen ([.int .i64 ((0 : Int))]) hE (by rw [show Tryd.f38.results.toList = [.tmp 4] from rfl]; exact ⟨_, _, rfl, rfl, rfl⟩) ?_
  have hS := hS.pk (.c 1 rfl .n) rfl
  exact ⟨_, rfl, D56, A8, c9, A51, c52, rfl, hS, (h10.mono le57), h58⟩
set_option maxRecDepth 100000 in
set_option maxHeartbeats 4000000 in
theorem inspeximusref09_Log_Put.calls {K : Nat} {g w0 : World} {D0 : Snap} {x5 : (List Int)} {x9 : (List (List Int))} {x13 : T_inspeximusref08_Disk} {b1 : Nat} {b2 : Nat} {A6 : Option Addr} {c7 : Nat} {A10 : Option Addr} {c11 : Nat} {A14 : Option Addr} {c15 : Nat} {A17 : Option Addr} {c18 : Nat} {r : (Int × (List (List Int)) × T_inspeximusref08_Disk)} (hf : inspeximusref09_Log_Put.f K x5 x9 x13 = some r) (hS0 : St g w0 D0 [bx b1 45 ([.pointer (some ⟨b2, 0, none⟩)] ++ ([.slice A10 (List.length (x9)) c11])), bx b2 35 (c_T_inspeximusref08_Disk (x13) A14 c15 A17 c18)]) (h8 : Sl (kdInt .u8) D0 A6 c7 (x5)) (h12 : Sl (kdSlice (kdInt .u8)) D0 A10 c11 (x9)) (h16 : Sl (kdInt .u8) D0 A14 c15 (x13.fDone)) (h19 : Sl (kdInt .u8) D0 A17 c18 (x13.fLate)) (hG0 : Cell (kdArr .u32 8) D0 0 0 gl_First) (hG1 : Cell (kdArr .u32 64) D0 1 0 gl_K) :
  CallsIn (Fw none) 0 Tryd.prog 15 (List.toArray [.pointer (some ⟨b1, 0, none⟩), .slice A6 (List.length (x5)) c7]) w0 (fun e w' => ∃ v, e = .returned v ∧ ∃ (D1 : Snap) (A125 : Option Addr) (c126 : Nat) (A128 : Option Addr) (c129 : Nat) (A131 : Option Addr) (c132 : Nat), v = .int .i64 (r.1) ∧ Stp g w0 D0 [bx b1 45 ([.pointer (some ⟨b2, 0, none⟩)] ++ ([.slice A10 (List.length (x9)) c11])), bx b2 35 (c_T_inspeximusref08_Disk (x13) A14 c15 A17 c18)] w' D1 [bx b1 45 ([.pointer (some ⟨b2, 0, none⟩)] ++ ([.slice A125 (List.length (r.2.1)) c126])), bx b2 35 (c_T_inspeximusref08_Disk ((T_inspeximusref08_Disk.mk (r.2.2.fDone) (r.2.2.fLate) (r.2.2.fSize))) A128 c129 A131 c132)] ∧ Sl (kdSlice (kdInt .u8)) D1 A125 c126 (r.2.1) ∧ Sl (kdInt .u8) D1 A128 c129 (r.2.2.fDone) ∧ Sl (kdInt .u8) D1 A131 c132 (r.2.2.fLate)) := by
 unfold inspeximusref09_Log_Put.f at hf
 have hS := Stp.refl hS0
 clear hS0
 refine calls_body (n := 38) Tryd.func15 rfl Tryd.ntmps15 rfl (fun a hE => ?_)
 have hE : Env a 38 [] [(0, .pointer (some ⟨b1, 0, none⟩)), (1, .slice A6 (List.length (x5)) c7)] := hE
 refine wpIn_seq ?_
 refine region_at ?_
 refine sN 1 1 [(4, .int .i64 ((0 : Int)))] hE (fun a hE => ?_)
 refine at_end rfl ?_
 refine wpIn_seq ?_
 refine wpIn_seq ?_
 refine region_at ?_
 refine sN 3 3 [(9, .bool ((decide (((List.length (x5) : Nat) : Int) = (0 : Int)))))] hE (fun a hE => ?_)
 refine at_end rfl ?_
 refine cond_split hE (b := (decide (((List.length (x5) : Nat) : Int) = (0 : Int)))) rfl (fun hb => ?_) (fun hb => ?_)
 ·replace hf := cond_t hb hf
  clear hb
  refine wpIn_seq ?_
  refine region_at ?_
  refine sN 1 1 [(4, .int .i64 ((1 : Int)))] hE (fun a hE => ?_)
  refine at_end rfl ?_
  refine wpIn_ret ?_
  obtain rfl := Option.some.inj hf
  repeat (with_reducible first | refine then_ret ?_ | refine block_ret ?_ | refine qx_ret ?_)
  refine ret_gen ([.int .i64 ((1 : Int))]) hE (by rw [show Tryd.f15.results.toList = [.tmp 4] from rfl]; exact ⟨_, _, rfl, rfl, rfl⟩) ?_
  exact ⟨_, rfl, D0, A10, c11, A14, c15, A17, c18, rfl, hS, h12, h16, h19⟩
 ·replace hf := cond_f hb hf
  clear hb
  refine wpIn_skip ?_
  refine wpIn_seq ?_
  refine wpIn_seq ?_
  refine region_at ?_
  refine sN 3 3 [(12, .bool ((decide ((2000 : Int) < ((List.length (x5) : Nat) : Int)))))] hE (fun a hE => ?_)
  refine at_end rfl ?_
  refine cond_split hE (b := (decide ((2000 : Int) < ((List.length (x5) : Nat) : Int)))) rfl (fun hb => ?_) (fun hb => ?_)
  ·replace hf := cond_t hb hf
   clear hb
   refine wpIn_seq ?_
   refine region_at ?_
   refine sN 1 1 [(4, .int .i64 ((4 : Int)))] hE (fun a hE => ?_)
   refine at_end rfl ?_
   refine wpIn_ret ?_
   obtain rfl := Option.some.inj hf
   repeat (with_reducible first | refine then_ret ?_ | refine block_ret ?_ | refine qx_ret ?_)
   refine ret_gen ([.int .i64 ((4 : Int))]) hE (by rw [show Tryd.f15.results.toList = [.tmp 4] from rfl]; exact ⟨_, _, rfl, rfl, rfl⟩) ?_
   exact ⟨_, rfl, D0, A10, c11, A14, c15, A17, c18, rfl, hS, h12, h16, h19⟩
  ·replace hf := cond_f hb hf
   clear hb
   refine wpIn_skip ?_
   refine wpIn_seq ?_
   refine region_at ?_
   refine at_op (op_buildSlice (K := (kdSlice (kdInt .u8))) (e := 33) (cs := []) ([] : List (List Int)) rfl rfl rfl rfl hE rfl hS rfl (by kernel_rfl) rfl rfl (by exact (show RL (kdSlice (kdInt .u8)) D0 ([] : List (List Int)) ([]) from rfl)) (fun a A134 q135 w _ hE h136 hS => ?_)) rfl
   refine sN 2 3 [(15, .pointer (some ⟨b1, 0, none⟩))] hE (fun a hE => ?_)
   refine aF 1 26 1 hE (fun a hE => ?_)
   refine aL 1 (.slice A10 (List.length (x9)) c11) hE hS (fun a hE => ?_)
   obtain ⟨l138, h139, hf⟩ := bind_some hf
   refine at_op (g_append (K := (kdSlice (kdInt .u8))) (e := 33) (bytes := 24) (l := ([] : List (List Int))) (m := x9) rfl rfl rfl rfl hE rfl hS rfl rfl (by kernel_rfl) rfl rfl h136 h12 h139 (fun a A140 c141 q142 w _ hE h143 hS => ?_)) rfl
   refine at_op (op_buildSlice (K := (kdInt .u8)) (e := 5) (cs := []) ([] : List Int) rfl rfl rfl rfl hE rfl hS rfl (by kernel_rfl) rfl rfl (by exact (show RL (kdInt .u8) D0 ([] : List Int) ([]) from rfl)) (fun a A145 q146 w _ hE h147 hS => ?_)) rfl
   refine sN 1 8 [(20, .slice A6 (List.length (x5)) c7)] hE (fun a hE => ?_)
   obtain ⟨l149, h150, hf⟩ := bind_some hf
   refine at_op (g_append (K := (kdInt .u8)) (e := 5) (bytes := 1) (l := ([] : List Int)) (m := x5) rfl rfl rfl rfl hE rfl hS rfl rfl (by kernel_rfl) rfl rfl h147 h8 h150 (fun a A151 c152 q153 w _ hE h154 hS => ?_)) rfl
   obtain ⟨D156, q159, le157, hS, h160, h158⟩ := hS.lent h154
   refine at_op (op_buildSlice (K := (kdSlice (kdInt .u8))) (e := 33) (cs := [.slice A151 (List.length (l149)) c152] ++ []) ([l149] : List (List Int)) rfl rfl rfl rfl hE rfl hS rfl (by kernel_rfl) rfl rfl (by exact (show RL (kdSlice (kdInt .u8)) D156 ([l149] : List (List Int)) ([.slice A151 (List.length (l149)) c152] ++ []) from ⟨_, _, rfl, (kslice h158), rfl⟩)) (fun a A161 q162 w _ hE h163 hS => ?_)) rfl
   obtain ⟨D165, q168, le166, hS, h169, h167⟩ := hS.lent h163
   have hS := hS.pk (.c 2 rfl (.c 0 rfl (.c 1 rfl (.c 3 rfl (.c 4 rfl .n))))) rfl
   obtain ⟨l170, h171, hf⟩ := bind_some hf
   refine at_op (g_append (K := (kdSlice (kdInt .u8))) (e := 33) (bytes := 24) (l := l138) (m := ([l149] : List (List Int))) rfl rfl rfl rfl hE rfl hS rfl rfl (by kernel_rfl) rfl rfl (h143.mono (le2 le157 le166)) h167 h171 (fun a A172 c173 q174 w _ hE h175 hS => ?_)) rfl
   refine sN 1 12 [(5, .slice A172 (List.length (l170)) c173)] hE (fun a hE => ?_)
   refine at_end rfl ?_
   refine wpIn_seq ?_
   refine region_draw (fun j => Keeps (mfOf [(6, [b2])] j)) (by kernel_rfl) ?_
   have hS := hS.drew
   first | generalize w.drew = w at hS ⊢ | generalize w0.drew = w at hS ⊢
   refine wP 0 1 7 (.pointer (some ⟨b1, 0, none⟩)) hE (fun a hE => ?_)
   refine wP 1 3 6 (.pointer (some ⟨b1, 0, none⟩)) hE (fun a hE => ?_)
   refine wP 4 19 5 (.slice A172 (List.length (l170)) c173) hE (fun a hE => ?_)
   refine wF 2 23 4 0 32 0 hE (fun a hE => ?_)
   refine tT 3 31 (fuel := 3) (by kernel_rfl) hE (tk_load 3 (.pointer (some ⟨b2, 0, none⟩)) rfl rfl rfl rfl hE rfl hS rfl rfl (by kernel_rfl) (kL (j := 3) hS rfl List.not_mem_nil) (fun a hE => ?_))
   obtain ⟨D208, q211, le209, hS, h212, h210⟩ := hS.lent h175
   have hS := hS.pk (.c 0 rfl (.c 3 rfl (.c 4 rfl .n))) rfl
   obtain ⟨r213, h214, hf⟩ := bind_some hf
   refine oG 5 63 (fuel := 2) (by kernel_rfl) (op_call rfl rfl rfl rfl hE rfl rfl rfl rfl (by kernel_rfl) (inspeximusref09_Laid.calls (g := g) h214 (hS.st.fore (L := [])) h210 (hG0.mono (le2 (le2 le157 le166) le209)) (hG1.mono (le2 (le2 le157 le166) le209))) (fun a v w hR hE => ?_))
   obtain ⟨D215, A217, c218, q219, rfl, hS1, h220⟩ := hR
   refine ⟨(hS1.keeps.sub (M' := []) trivial).mono (fun _ h => h), ?_⟩
   have le222 := hS1.dle
   have hS := hS.callR hS1 rfl (.c .n)
   clear hS1
   obtain ⟨D223, q226, le224, hS, h227, h225⟩ := hS.lent h220
   have hS := hS.pk (.c 3 rfl (.c 0 rfl (.c 1 rfl (.c 2 rfl .n)))) rfl
   obtain ⟨r228, h229, hf⟩ := bind_some hf
   refine oG 6 127 (fuel := 1) (by kernel_rfl) (op_call rfl rfl rfl rfl hE rfl rfl rfl rfl (by kernel_rfl) (inspeximusref08_Disk_Write.calls (g := g) h229 (hS.st.fore (L := [bx b2 35 (c_T_inspeximusref08_Disk (x13) A14 c15 A17 c18)])) h225 (h16.mono (le2 (le2 (le2 (le2 le157 le166) le209) le222) le224)) (h19.mono (le2 (le2 (le2 (le2 le157 le166) le209) le222) le224))) (fun a v w hR hE => ?_))
   obtain ⟨D230, A232, c233, A235, c236, rfl, hS1, h234, h237⟩ := hR
   refine ⟨(hS1.keeps.sub (M' := [b2]) ⟨.inl (List.Mem.head _), trivial⟩).mono (fun _ h => h), ?_⟩
   have le238 := hS1.dle
   have hS := hS.callR hS1 rfl (.c .n)
   clear hS1
   refine wP 7 255 0 (.int .i64 (r228.1)) hE (fun a hE => ?_)
   refine doneG (by kernel_rfl) ?_
   refine wpIn_seq ?_
   refine wpIn_seq ?_
   refine region_at ?_
   refine sN 2 2 [(32, .bool ((decide (r228.1 = (0 : Int)))))] hE (fun a hE => ?_)
   refine at_end rfl ?_
   refine cond_split hE (b := (decide (r228.1 = (0 : Int)))) rfl (fun hb => ?_) (fun hb => ?_)
   ·replace hf := cond_t hb hf
    clear hb
    refine region_at ?_
    refine sN 3 3 [(34, .slice A172 (List.length (l170)) c173), (35, .pointer (some ⟨b1, 0, none⟩))] hE (fun a hE => ?_)
    refine aF 1 26 1 hE (fun a hE => ?_)
    have hS := hS.pk (.c 3 rfl (.c 0 rfl (.c 1 rfl (.c 2 rfl .n)))) rfl
    refine at_op (op_store (v := .slice A172 (List.length (l170)) c173) ([.pointer (some ⟨b2, 0, none⟩)] ++ ([.slice A172 (List.length (l170)) c173])) rfl rfl rfl rfl hE hS rfl rfl (by kernel_rfl) (by kernel_rfl) (by kernel_rfl) (by kernel_rfl) (by kernel_rfl) (fun a w _ hE hS => ?_)) rfl
    refine at_end rfl ?_
    refine wpIn_seq ?_
    refine region_at ?_
    refine sN 2 2 [(4, .int .i64 (r228.1))] hE (fun a hE => ?_)
    refine at_end rfl ?_
    refine wpIn_ret ?_
    obtain rfl := Option.some.inj hf
    repeat (with_reducible first | refine then_ret ?_ | refine block_ret ?_ | refine qx_ret ?_)
    refine ret_gen ([.int .i64 (r228.1)]) hE (by rw [show Tryd.f15.results.toList = [.tmp 4] from rfl]; exact ⟨_, _, rfl, rfl, rfl⟩) ?_
    have hS := hS.pk (.c 0 rfl (.c 1 rfl .n)) rfl
    exact ⟨_, rfl, D230, A172, c173, A232, c233, A235, c236, rfl, hS, (h210.mono (le2 (le2 le222 le224) le238)), h234, h237⟩
   ·replace hf := cond_f hb hf
    clear hb
    refine wpIn_skip ?_
    refine wpIn_seq ?_
    refine region_at ?_
    refine sN 2 2 [(4, .int .i64 (r228.1))] hE (fun a hE => ?_)
    refine at_end rfl ?_
    refine wpIn_ret ?_
    obtain rfl := Option.some.inj hf
    repeat (with_reducible first | refine then_ret ?_ | refine block_ret ?_ | refine qx_ret ?_)
    refine ret_gen ([.int .i64 (r228.1)]) hE (by rw [show Tryd.f15.results.toList = [.tmp 4] from rfl]; exact ⟨_, _, rfl, rfl, rfl⟩) ?_
    have hS := hS.pk (.c 3 rfl (.c 0 rfl .n)) rfl
    exact ⟨_, rfl, D230, A10, c11, A232, c233, A235, c236, rfl, hS, (h12.mono (le2 (le2 (le2 (le2 (le2 le157 le166) le209) le222) le224) le238)), h234, h237⟩
set_option maxRecDepth 100000 in
set_option maxHeartbeats 4000000 in
theorem inspeximusref08_Disk_Sync.calls {K : Nat} {g w0 : World} {D0 : Snap} {x3 : T_inspeximusref08_Disk} {b1 : Nat} {A4 : Option Addr} {c5 : Nat} {A7 : Option Addr} {c8 : Nat} {r : (T_inspeximusref08_Disk)} (hf : inspeximusref08_Disk_Sync.f K x3 = some r) (hS0 : St g w0 D0 [bx b1 35 (c_T_inspeximusref08_Disk (x3) A4 c5 A7 c8)]) (h6 : Sl (kdInt .u8) D0 A4 c5 (x3.fDone)) (h9 : Sl (kdInt .u8) D0 A7 c8 (x3.fLate)) :
  CallsIn (Fw none) 0 Tryd.prog 16 (List.toArray [.pointer (some ⟨b1, 0, none⟩)]) w0 (fun e w' => ∃ v, e = .returned v ∧ ∃ (D1 : Snap) (A46 : Option Addr) (c47 : Nat) (A49 : Option Addr) (c50 : Nat), v = .tuple #[] ∧ Stp g w0 D0 [bx b1 35 (c_T_inspeximusref08_Disk (x3) A4 c5 A7 c8)] w' D1 [bx b1 35 (c_T_inspeximusref08_Disk ((T_inspeximusref08_Disk.mk (r.fDone) (r.fLate) (r.fSize))) A46 c47 A49 c50)] ∧ Sl (kdInt .u8) D1 A46 c47 (r.fDone) ∧ Sl (kdInt .u8) D1 A49 c50 (r.fLate)) := by
 unfold inspeximusref08_Disk_Sync.f at hf
 have hS := Stp.refl hS0
 clear hS0
 refine calls_body (n := 19) Tryd.func16 rfl Tryd.ntmps16 rfl (fun a hE => ?_)
 have hE : Env a 19 [] [(0, .pointer (some ⟨b1, 0, none⟩))] := hE
 refine wpIn_seq ?_
 refine region_draw (fun j => RD D0 (plOf [14] [b1] j)) (by kernel_rfl) ?_
 have hS := hS.drew
 first | generalize w.drew = w at hS ⊢ | generalize w0.drew = w at hS ⊢
 refine wP 0 1 14 (.pointer (some ⟨b1, 0, none⟩)) hE (fun a hE => ?_)
 refine wP 2 5 13 (.pointer (some ⟨b1, 0, none⟩)) hE (fun a hE => ?_)
 refine wP 3 13 12 (.pointer (some ⟨b1, 0, none⟩)) hE (fun a hE => ?_)
 refine wP 7 141 11 (.pointer (some ⟨b1, 0, none⟩)) hE (fun a hE => ?_)
 refine wP 8 397 10 (.pointer (some ⟨b1, 0, none⟩)) hE (fun a hE => ?_)
 refine wF 4 413 9 0 33 0 hE (fun a hE => ?_)
 refine tD 5 445 (fuel := 8) (by kernel_rfl) hE (tk_load 0 (.slice A4 (List.length (x3.fDone)) c5) rfl rfl rfl rfl hE rfl hS rfl rfl (by kernel_rfl) (fun _ h => h.1.at_ (List.Mem.head _)) (fun a hE => ?_))
 refine wF 9 957 7 1 33 1 hE (fun a hE => ?_)
 refine tD 10 1981 (fuel := 6) (by kernel_rfl) hE (tk_load 0 (.slice A7 (List.length (x3.fLate)) c8) rfl rfl rfl rfl hE rfl hS rfl rfl (by kernel_rfl) (fun _ h => h.1.at_ (List.Mem.head _)) (fun a hE => ?_))
 have hp_b1 := hS.heapAt (j := 0) rfl
 refine oG 1 1983 (fuel := 5) (by kernel_rfl) (op_buildSlice (K := (kdInt .u8)) (e := 5) (cs := []) ([] : List Int) rfl rfl rfl rfl hE rfl hS rfl (by kernel_rfl) rfl rfl (by exact (show RL (kdInt .u8) D0 ([] : List Int) ([]) from rfl)) (fun a A70 q71 w _ hE h72 hS => ?_))
 refine ⟨⟨show RP [b1] _ _ from ⟨(hS.heapAt (j := 1) rfl).trans hp_b1.symm, trivial⟩, fun _ => hS.st.sees⟩, ?_⟩
 clear hp_b1
 have hp_b1 := hS.heapAt (j := 1) rfl
 obtain ⟨l74, h75, hf⟩ := bind_some hf
 refine oG 6 2047 (fuel := 4) (by kernel_rfl) (g_append (K := (kdInt .u8)) (e := 5) (bytes := 1) (l := ([] : List Int)) (m := x3.fDone) rfl rfl rfl rfl hE rfl hS rfl rfl (by kernel_rfl) rfl rfl h72 h6 h75 (fun a A76 c77 q78 w _ hE h79 hS => ?_))
 refine ⟨⟨show RP [b1] _ _ from ⟨(hS.heapAt (j := 1) rfl).trans hp_b1.symm, trivial⟩, fun _ => hS.st.sees⟩, ?_⟩
 clear hp_b1
 have hp_b1 := hS.heapAt (j := 1) rfl
 obtain ⟨l81, h82, hf⟩ := bind_some hf
 refine oG 11 4095 (fuel := 3) (by kernel_rfl) (g_append (K := (kdInt .u8)) (e := 5) (bytes := 1) (l := l74) (m := x3.fLate) rfl rfl rfl rfl hE rfl hS rfl rfl (by kernel_rfl) rfl rfl h79 h9 h82 (fun a A83 c84 q85 w _ hE h86 hS => ?_))
 refine ⟨⟨show RP [b1] _ _ from ⟨(hS.heapAt (j := 1) rfl).trans hp_b1.symm, trivial⟩, fun _ => hS.st.sees⟩, ?_⟩
 clear hp_b1
 refine wP 12 8191 2 (.pointer (some ⟨b1, 0, none⟩)) hE (fun a hE => ?_)
 refine wF 13 16383 1 0 33 0 hE (fun a hE => ?_)
 have hp_b1 := hS.heapAt (j := 1) rfl
 have hS := hS.pk (.c 1 rfl (.c 0 rfl .n)) rfl
 refine oG 14 32767 (fuel := 0) (by kernel_rfl) (op_store (v := .slice A83 (List.length (l81)) c84) (c_T_inspeximusref08_Disk ({ x3 with fDone := l81 }) A83 c84 A7 c8) rfl rfl rfl rfl hE hS rfl rfl (by kernel_rfl) (by kernel_rfl) (by kernel_rfl) (by kernel_rfl) (by kernel_rfl) (fun a w _ hE hS => ?_))
 refine ⟨⟨trivial, fun _ => hS.st.sees⟩, ?_⟩
 clear hp_b1
 refine doneG (by kernel_rfl) ?_
 refine region_at ?_
 refine sN 2 2 [(17, .pointer (some ⟨b1, 0, none⟩))] hE (fun a hE => ?_)
 refine aF 1 33 1 hE (fun a hE => ?_)
 refine at_op (op_store (v := .slice none 0 0) (c_T_inspeximusref08_Disk ((T_inspeximusref08_Disk.mk (l81) (([] : List Int)) (x3.fSize))) A83 c84 none 0) rfl rfl rfl rfl hE hS rfl rfl (by kernel_rfl) (by kernel_rfl) (by kernel_rfl) (by kernel_rfl) (by kernel_rfl) (fun a w _ hE hS => ?_)) rfl
 refine at_end rfl ?_
 have hS := hS.pk (.c 1 rfl (.c 0 rfl .n)) rfl
 obtain ⟨D88, q91, le89, hS, h92, h90⟩ := hS.lent h86
 obtain rfl := Option.some.inj hf
 repeat (with_reducible first | refine then_ret ?_ | refine block_ret ?_ | refine qx_ret ?_)
 refine ret_genN ([]) hE (by rw [show Tryd.f16.results.toList = [] from rfl]; exact rfl) ?_
 have hS := hS.pk (.c 1 rfl .n) rfl
 exact ⟨_, rfl, D88, A83, c84, none, 0, rfl, hS, h90, (Sl.nil (kdInt .u8) D88)⟩
set_option maxRecDepth 100000 in
set_option maxHeartbeats 4000000 in
theorem inspeximusref08_Disk_Crash.calls {K : Nat} {g w0 : World} {D0 : Snap} {x3 : Int} {x4 : T_inspeximusref08_Disk} {b1 : Nat} {A5 : Option Addr} {c6 : Nat} {A8 : Option Addr} {c9 : Nat} {r : (T_inspeximusref08_Disk)} (hf : inspeximusref08_Disk_Crash.f K x3 x4 = some r) (hS0 : St g w0 D0 [bx b1 35 (c_T_inspeximusref08_Disk (x4) A5 c6 A8 c9)]) (h7 : Sl (kdInt .u8) D0 A5 c6 (x4.fDone)) (h10 : Sl (kdInt .u8) D0 A8 c9 (x4.fLate)) :
  CallsIn (Fw none) 0 Tryd.prog 19 (List.toArray [.pointer (some ⟨b1, 0, none⟩), .int .i64 (x3)]) w0 (fun e w' => ∃ v, e = .returned v ∧ ∃ (D1 : Snap) (A56 : Option Addr) (c57 : Nat) (A59 : Option Addr) (c60 : Nat), v = .tuple #[] ∧ Stp g w0 D0 [bx b1 35 (c_T_inspeximusref08_Disk (x4) A5 c6 A8 c9)] w' D1 [bx b1 35 (c_T_inspeximusref08_Disk ((T_inspeximusref08_Disk.mk (r.fDone) (r.fLate) (r.fSize))) A56 c57 A59 c60)] ∧ Sl (kdInt .u8) D1 A56 c57 (r.fDone) ∧ Sl (kdInt .u8) D1 A59 c60 (r.fLate)) := by
 unfold inspeximusref08_Disk_Crash.f at hf
 have hS := Stp.refl hS0
 clear hS0
 refine calls_body (n := 24) Tryd.func19 rfl Tryd.ntmps19 rfl (fun a hE => ?_)
 have hE : Env a 24 [] [(0, .pointer (some ⟨b1, 0, none⟩)), (1, .int .i64 (x3))] := hE
 obtain ⟨j105, hj106, hf⟩ := jn_elim hf
 refine seq_join (fun a w => ∃ (y62 : Int), ∃ (D63 : Snap), Env a 24 [] [(0, .pointer (some ⟨b1, 0, none⟩)), (1, .int .i64 (y62))] ∧ Stp g w0 D0 [bx b1 35 (c_T_inspeximusref08_Disk (x4) A5 c6 A8 c9)] w D63 [bx b1 35 (c_T_inspeximusref08_Disk (x4) A5 c6 A8 c9)] ∧ Snap.le D0 D63 ∧ j105 y62 = some r) ?_ ?_
 ·clear hj106
  refine wpIn_seq ?_
  refine region_at ?_
  refine sN 2 2 [(5, .bool ((decide (x3 < (0 : Int)))))] hE (fun a hE => ?_)
  refine at_end rfl ?_
  refine cond_split hE (b := (decide (x3 < (0 : Int)))) rfl (fun hb => ?_) (fun hb => ?_)
  ·replace hf := cond_t hb hf
   clear hb
   refine region_at ?_
   refine sN 1 1 [(1, .int .i64 ((0 : Int)))] hE (fun a hE => ?_)
   refine at_end rfl ?_
   exact ⟨(0 : Int), D0, hE.weak (by kernel_rfl), hS, Snap.le.refl _, hf⟩
  ·replace hf := cond_f hb hf
   clear hb
   refine wpIn_skip ?_
   exact ⟨x3, D0, hE.weak (by kernel_rfl), hS, Snap.le.refl _, hf⟩
 ·clear hE hS
  rintro a w ⟨y62, D63, hE, hS, le64, hf⟩
  replace hf := hj106 _ hf
  clear hj106
  obtain ⟨j94, hj95, hf⟩ := jn_elim hf
  refine seq_join (fun a w => ∃ (y74 : T_inspeximusref08_Disk), ∃ (A77 : Option Addr), ∃ (c78 : Nat), ∃ (A80 : Option Addr), ∃ (c81 : Nat), ∃ (D75 : Snap), Env a 24 [] [(0, .pointer (some ⟨b1, 0, none⟩))] ∧ Stp g w0 D0 [bx b1 35 (c_T_inspeximusref08_Disk (x4) A5 c6 A8 c9)] w D75 [bx b1 35 (c_T_inspeximusref08_Disk (y74) A77 c78 A80 c81)] ∧ Snap.le D63 D75 ∧ Sl (kdInt .u8) D75 A77 c78 (y74.fDone) ∧ Sl (kdInt .u8) D75 A80 c81 (y74.fLate) ∧ j94 y74 = some r) ?_ ?_
  ·clear hj95
   refine wpIn_seq ?_
   refine region_at ?_
   refine sN 3 3 [(6, .int .i64 (y62)), (8, .pointer (some ⟨b1, 0, none⟩))] hE (fun a hE => ?_)
   refine aF 1 33 1 hE (fun a hE => ?_)
   refine aL 0 (.slice A8 (List.length (x4.fLate)) c9) hE hS (fun a hE => ?_)
   refine sN 2 7 [(12, .bool ((decide (y62 < ((List.length (x4.fLate) : Nat) : Int)))))] hE (fun a hE => ?_)
   refine at_end rfl ?_
   refine cond_split hE (b := (decide (y62 < ((List.length (x4.fLate) : Nat) : Int)))) rfl (fun hb => ?_) (fun hb => ?_)
   ·replace hf := cond_t hb hf
    clear hb
    refine region_at ?_
    refine sN 3 3 [(13, .pointer (some ⟨b1, 0, none⟩)), (15, .pointer (some ⟨b1, 0, none⟩))] hE (fun a hE => ?_)
    refine aF 1 33 1 hE (fun a hE => ?_)
    refine aL 0 (.slice A8 (List.length (x4.fLate)) c9) hE hS (fun a hE => ?_)
    refine sN 1 6 [(18, .int .i64 (y62))] hE (fun a hE => ?_)
    obtain ⟨l96, h97, hf⟩ := bind_some hf
    refine at_op (op_tk hE (g_slice (K := (kdInt .u8)) (e := 5) (by_ := 1) (zl := 1) rfl rfl rfl rfl hE rfl rfl (by kernel_rfl) rfl ⟨_, rfl⟩ (h10.mono le64) h97 (fun a A98 c99 hE h100 => ?_))) rfl
    refine sN 1 8 [(20, .pointer (some ⟨b1, 0, none⟩))] hE (fun a hE => ?_)
    refine aF 1 33 1 hE (fun a hE => ?_)
    obtain ⟨v101, hv102, hf⟩ := bind_some hf
    replace hv102 := Option.some.inj hv102
    refine at_op (op_store (v := .slice A98 (List.length (l96)) c99) (c_T_inspeximusref08_Disk (v101) A5 c6 A98 c99) rfl rfl rfl rfl hE hS rfl rfl (by kernel_rfl) (by kernel_rfl) (by kernel_rfl) (by kernel_rfl) (by rw [← hv102]; kernel_rfl) (fun a w _ hE hS => ?_)) rfl
    have h103 : Sl (kdInt .u8) D0 A5 c6 (v101.fDone) := by rw [← hv102]; exact h7
    have h104 : Sl (kdInt .u8) D63 A98 c99 (v101.fLate) := by rw [← hv102]; exact h100
    refine at_end rfl ?_
    exact ⟨v101, A5, c6, A98, c99, D63, hE.weak (by kernel_rfl), hS, Snap.le.refl _, (h103.mono le64), h104, hf⟩
   ·replace hf := cond_f hb hf
    clear hb
    refine wpIn_skip ?_
    exact ⟨x4, A5, c6, A8, c9, D63, hE.weak (by kernel_rfl), hS, Snap.le.refl _, (h7.mono le64), (h10.mono le64), hf⟩
  ·clear hE hS
   rintro a w ⟨y74, A77, c78, A80, c81, D75, hE, hS, le76, h79, h82, hf⟩
   replace hf := hj95 _ hf
   clear hj95
   refine region_at ?_
   refine sN 1 1 [(22, .pointer (some ⟨b1, 0, none⟩))] hE (fun a hE => ?_)
   obtain ⟨r83, h84, hf⟩ := bind_some hf
   refine aC rfl rfl rfl rfl hE rfl rfl rfl rfl (inspeximusref08_Disk_Sync.calls (g := g) h84 (hS.st.fore (L := [bx b1 35 (c_T_inspeximusref08_Disk (y74) A77 c78 A80 c81)])) h79 h82) (fun a v w hR hE => ?_)
   obtain ⟨D85, A87, c88, A90, c91, rfl, hS1, h89, h92⟩ := hR
   have le93 := hS1.dle
   have hS := hS.callR hS1 rfl (.c .n)
   clear hS1
   refine at_end rfl ?_
   obtain rfl := Option.some.inj hf
   repeat (with_reducible first | refine then_ret ?_ | refine block_ret ?_ | refine qx_ret ?_)
   refine ret_genN ([]) hE (by rw [show Tryd.f19.results.toList = [] from rfl]; exact rfl) ?_
   exact ⟨_, rfl, D85, A87, c88, A90, c91, rfl, hS, h89, h92⟩
set_option maxRecDepth 100000 in
set_option maxHeartbeats 4000000 in
theorem inspeximusref09_Same.calls {K : Nat} {g w0 : World} {D0 : Snap} {x1 : (List (List Int))} {x5 : (List (List Int))} {A2 : Option Addr} {c3 : Nat} {A6 : Option Addr} {c7 : Nat} {r : (Bool)} (hf : inspeximusref09_Same.f K x1 x5 = some r) (hS0 : St g w0 D0 []) (h4 : Sl (kdSlice (kdInt .u8)) D0 A2 c3 (x1)) (h8 : Sl (kdSlice (kdInt .u8)) D0 A6 c7 (x5)) :
  CallsIn (Fw none) 0 Tryd.prog 20 (List.toArray [.slice A2 (List.length (x1)) c3, .slice A6 (List.length (x5)) c7]) w0 (fun e w' => ∃ v, e = .returned v ∧ ∃ (D1 : Snap), v = .bool (r) ∧ Stp g w0 D0 [] w' D1 []) := by
 unfold inspeximusref09_Same.f at hf
 have hS := Stp.refl hS0
 clear hS0
 refine calls_body (n := 27) Tryd.func20 rfl Tryd.ntmps20 rfl (fun a hE => ?_)
 have hE : Env a 27 [] [(0, .slice A2 (List.length (x1)) c3), (1, .slice A6 (List.length (x5)) c7)] := hE
 refine wpIn_seq ?_
 refine region_at ?_
 refine sN 1 1 [(4, .bool false)] hE (fun a hE => ?_)
 refine at_end rfl ?_
 refine wpIn_seq ?_
 refine wpIn_seq ?_
 refine region_at ?_
 refine sN 5 5 [(10, .bool ((!decide (((List.length (x1) : Nat) : Int) = ((List.length (x5) : Nat) : Int)))))] hE (fun a hE => ?_)
 refine at_end rfl ?_
 refine cond_split hE (b := (!decide (((List.length (x1) : Nat) : Int) = ((List.length (x5) : Nat) : Int)))) rfl (fun hb => ?_) (fun hb => ?_)
 ·replace hf := cond_t hb hf
  clear hb
  refine wpIn_seq ?_
  refine region_at ?_
  refine sN 1 1 [(4, .bool false)] hE (fun a hE => ?_)
  refine at_end rfl ?_
  refine wpIn_ret ?_
  obtain rfl := Option.some.inj hf
  repeat (with_reducible first | refine then_ret ?_ | refine block_ret ?_ | refine qx_ret ?_)
  refine ret_gen ([.bool false]) hE (by rw [show Tryd.f20.results.toList = [.tmp 4] from rfl]; exact ⟨_, _, rfl, rfl, rfl⟩) ?_
  exact ⟨_, rfl, D0, rfl, hS⟩
 ·replace hf := cond_f hb hf
  clear hb
  refine wpIn_skip ?_
  refine wpIn_seq ?_
  refine wpIn_seq ?_
  refine region_at ?_
  refine sN 1 1 [(5, .int .i64 ((0 : Int)))] hE (fun a hE => ?_)
  refine at_end rfl ?_
  obtain ⟨s1636, hf, hs1637⟩ := bind_some hf
  refine block_loop (fun a w => ∃ (z1633 : Unit), ∃ (D1634 : Snap), Env a 27 [] [] ∧ Stp g w0 D0 [] w D1634 [] ∧ Snap.le D0 D1634 ∧ (Sum.inr z1633) = s1636) (fun k a w => ∃ (y1487 : Int), ∃ (D1488 : Snap), Env a 27 [] [(0, .slice A2 (List.length (x1)) c3), (1, .slice A6 (List.length (x5)) c7), (5, .int .i64 (y1487))] ∧ Stp g w0 D0 [] w D1488 [] ∧ Snap.le D0 D1488 ∧ inspeximusref09_Same_l1.l K x1 x5 k y1487 = some s1636) K ?_ ?_ ?_
  ·exact ⟨(0 : Int), D0, hE.weak (by kernel_rfl), hS, Snap.le.refl _, hf⟩
  ·clear hE hS hf
   rintro a w ⟨z1633, D1634, hE, hS, le1635, rfl⟩
   have hf := hs1637
   clear hs1637
   refine wpIn_seq ?_
   refine region_at ?_
   refine sN 1 1 [(4, .bool true)] hE (fun a hE => ?_)
   refine at_end rfl ?_
   refine wpIn_ret ?_
   obtain rfl := Option.some.inj hf
   repeat (with_reducible first | refine then_ret ?_ | refine block_ret ?_ | refine qx_ret ?_)
   refine ret_gen ([.bool true]) hE (by rw [show Tryd.f20.results.toList = [.tmp 4] from rfl]; exact ⟨_, _, rfl, rfl, rfl⟩) ?_
   exact ⟨_, rfl, D1634, rfl, hS⟩
  ·clear hE hS hf
   rintro k a w ⟨y1487, D1488, hE, hS, le1489, hf⟩
   obtain ⟨k, rfl, hf⟩ := inspeximusref09_Same_l1.some _ _ hf
   refine ⟨k, rfl, ?_⟩
   unfold inspeximusref09_Same_l1.b at hf
   refine wpIn_seq ?_
   refine wpIn_seq ?_
   refine region_at ?_
   refine sN 4 4 [(14, .bool ((decide (y1487 < ((List.length (x1) : Nat) : Int)))))] hE (fun a hE => ?_)
   refine at_end rfl ?_
   refine cond_split hE (b := (decide (y1487 < ((List.length (x1) : Nat) : Int)))) rfl (fun hb => ?_) (fun hb => ?_)
   ·replace hf := cond_t hb hf
    clear hb
    refine wpIn_skip ?_
    refine wpIn_seq ?_
    refine wpIn_block ?_
    refine wpIn_seq ?_
    refine region_draw (fun j => Keeps (mfOf [] j)) (by kernel_rfl) ?_
    have hS := hS.drew
    first | generalize w.drew = w at hS ⊢ | generalize w0.drew = w at hS ⊢
    refine wP 0 1 9 (.slice A2 (List.length (x1)) c3) hE (fun a hE => ?_)
    refine wP 1 3 8 (.int .i64 (y1487)) hE (fun a hE => ?_)
    refine wP 4 19 7 (.slice A6 (List.length (x5)) c7) hE (fun a hE => ?_)
    refine wP 5 51 6 (.int .i64 (y1487)) hE (fun a hE => ?_)
    obtain ⟨x1743, h1744, hf⟩ := bind_some hf
    refine tW 2 55 (fuel := 5) (by kernel_rfl) hE (fun M => g_index (K := (kdSlice (kdInt .u8))) (e := 33) (by_ := 24) (zl := 1) rfl rfl rfl rfl hE rfl rfl rfl (by kernel_rfl) rfl (h4.mono le1489) h1744 (fun a b1745 o1746 hE h1747 => ?_))
    obtain ⟨cs1748, C1749, T1750, fr1751, hr1752, hb1753, hc1754⟩ := h1747
    obtain ⟨A1755, c1756, rfl, h1757⟩ := hr1752
    refine tT 3 63 (fuel := 4) (by kernel_rfl) hE (tk_loadX (off0 := o1746) (off := 0) (c := [.slice A1755 (List.length (x1743)) c1756]) (.slice A1755 (List.length (x1743)) c1756) rfl rfl rfl rfl hE rfl hS rfl hb1753 hc1754 (by kernel_rfl) (by kernel_rfl) (kD hS dn_nil) (fun a hE => ?_))
    obtain ⟨x1758, h1759, hf⟩ := bind_some hf
    refine tW 6 127 (fuel := 3) (by kernel_rfl) hE (fun M => g_index (K := (kdSlice (kdInt .u8))) (e := 33) (by_ := 24) (zl := 1) rfl rfl rfl rfl hE rfl rfl rfl (by kernel_rfl) rfl (h8.mono le1489) h1759 (fun a b1760 o1761 hE h1762 => ?_))
    obtain ⟨cs1763, C1764, T1765, fr1766, hr1767, hb1768, hc1769⟩ := h1762
    obtain ⟨A1770, c1771, rfl, h1772⟩ := hr1767
    refine tT 7 255 (fuel := 2) (by kernel_rfl) hE (tk_loadX (off0 := o1761) (off := 0) (c := [.slice A1770 (List.length (x1758)) c1771]) (.slice A1770 (List.length (x1758)) c1771) rfl rfl rfl rfl hE rfl hS rfl hb1768 hc1769 (by kernel_rfl) (by kernel_rfl) (kD hS dn_nil) (fun a hE => ?_))
    obtain ⟨r1773, h1774, hf⟩ := bind_some hf
    refine oG 8 511 (fuel := 1) (by kernel_rfl) (op_call rfl rfl rfl rfl hE rfl rfl rfl rfl (by kernel_rfl) (inspeximusref01_Bytes.calls (g := g) h1774 (hS.st.fore (L := [])) h1757 h1772) (fun a v w hR hE => ?_))
    obtain ⟨D1775, rfl, hS1⟩ := hR
    refine ⟨(hS1.keeps.sub (M' := []) trivial).mono (fun _ h => h), ?_⟩
    have le1777 := hS1.dle
    have hS := hS.callR hS1 rfl .n
    clear hS1
    refine wP 9 1023 0 (.bool ((!r1773))) hE (fun a hE => ?_)
    refine doneG (by kernel_rfl) ?_
    refine cond_split hE (b := (!r1773)) rfl (fun hb => ?_) (fun hb => ?_)
    ·replace hf := cond_t hb hf
     clear hb
     refine wpIn_seq ?_
     refine region_at ?_
     refine sN 1 1 [(4, .bool false)] hE (fun a hE => ?_)
     refine at_end rfl ?_
     refine wpIn_ret ?_
     obtain rfl := Option.some.inj hf
     replace hf := hs1637
     obtain rfl := Option.some.inj hf
     repeat (with_reducible first | refine then_ret ?_ | refine block_ret ?_ | refine qx_ret ?_)
     refine ret_gen ([.bool false]) hE (by rw [show Tryd.f20.results.toList = [.tmp 4] from rfl]; exact ⟨_, _, rfl, rfl, rfl⟩) ?_
     exact ⟨_, rfl, D1775, rfl, hS⟩
    ·replace hf := cond_f hb hf
     clear hb
     refine wpIn_skip ?_
     refine region_at ?_
     refine sN 3 3 [(5, .int .i64 ((IntKind.wrap .i64 (y1487 + (1 : Int)))))] hE (fun a hE => ?_)
     refine at_end rfl ?_
     exact ⟨(IntKind.wrap .i64 (y1487 + (1 : Int))), D1775, hE.weak (by kernel_rfl), hS, (le2 le1489 le1777), hf⟩
   ·replace hf := cond_f hb hf
    clear hb
    refine wpIn_exit ?_
    obtain rfl := Option.some.inj hf
    exact ⟨(), D1488, hE.weak (by kernel_rfl), hS, le1489, rfl⟩
set_option maxRecDepth 100000 in
set_option maxHeartbeats 4000000 in
theorem inspeximuslaw09_LogActs.calls {K : Nat} {g w0 : World} {D0 : Snap} {x1 : Int} {x2 : (List T_inspeximusref08_Act)} {A3 : Option Addr} {c4 : Nat} {r : (Bool)} (hf : inspeximuslaw09_LogActs.f K x1 x2 = some r) (hS0 : St g w0 D0 []) (h5 : Sl kd_T_inspeximusref08_Act D0 A3 c4 (x2)) (hG0 : Cell (kdArr .u32 8) D0 0 0 gl_First) (hG1 : Cell (kdArr .u32 64) D0 1 0 gl_K) :
  CallsIn (Fw none) 0 Tryd.prog 3 (List.toArray [.int .i64 (x1), .slice A3 (List.length (x2)) c4]) w0 (fun e w' => ∃ v, e = .returned v ∧ ∃ (D1 : Snap), v = .bool (r) ∧ Stp g w0 D0 [] w' D1 []) := by
 unfold inspeximuslaw09_LogActs.f at hf
 have hS := Stp.refl hS0
 clear hS0
 refine calls_body (n := 150) Tryd.func3 rfl Tryd.ntmps3 rfl (fun a hE => ?_)
 have hE : Env a 150 [] [(0, .int .i64 (x1)), (1, .slice A3 (List.length (x2)) c4)] := hE
 refine wpIn_seq ?_
 refine region_at ?_
 refine sN 1 1 [(4, .bool false)] hE (fun a hE => ?_)
 refine at_end rfl ?_
 refine wpIn_seq ?_
 refine wpIn_seq ?_
 refine region_at ?_
 obtain ⟨r7792, h7793, hf⟩ := bind_some hf
 refine aC rfl rfl rfl rfl hE rfl rfl rfl rfl (inspeximuslaw09_alive.calls (g := g) h7793 (hS.st.fore (L := [])) hG0 hG1) (fun a v w hR hE => ?_)
 obtain ⟨D7794, rfl, hS1⟩ := hR
 have le7796 := hS1.dle
 have hS := hS.callR hS1 rfl .n
 clear hS1
 refine sN 1 2 [(20, .bool ((!r7792)))] hE (fun a hE => ?_)
 refine at_end rfl ?_
 refine cond_split hE (b := (!r7792)) rfl (fun hb => ?_) (fun hb => ?_)
 ·replace hf := cond_t hb hf
  clear hb
  refine wpIn_seq ?_
  refine region_at ?_
  refine sN 1 1 [(4, .bool false)] hE (fun a hE => ?_)
  refine at_end rfl ?_
  refine wpIn_ret ?_
  obtain rfl := Option.some.inj hf
  repeat (with_reducible first | refine then_ret ?_ | refine block_ret ?_ | refine qx_ret ?_)
  refine ret_gen ([.bool false]) hE (by rw [show Tryd.f3.results.toList = [.tmp 4] from rfl]; exact ⟨_, _, rfl, rfl, rfl⟩) ?_
  exact ⟨_, rfl, D7794, rfl, hS⟩
 ·replace hf := cond_f hb hf
  clear hb
  refine wpIn_skip ?_
  refine wpIn_seq ?_
  obtain ⟨j15561, hj15562, hf⟩ := jn_elim hf
  refine seq_join (fun a w => ∃ (y7825 : Bool), ∃ (D7826 : Snap), Env a 150 [] [(0, .int .i64 (x1)), (1, .slice A3 (List.length (x2)) c4), (31, .bool (y7825))] ∧ Stp g w0 D0 [] w D7826 [] ∧ Snap.le D7794 D7826 ∧ j15561 y7825 = some r) ?_ ?_
  ·clear hj15562
   refine region_at ?_
   refine sN 1 1 [(21, .slice A3 (List.length (x2)) c4)] hE (fun a hE => ?_)
   obtain ⟨r15563, h15564, hf⟩ := bind_some hf
   refine aC rfl rfl rfl rfl hE rfl rfl rfl rfl (inspeximuslaw09_few.calls (g := g) h15564 (hS.st.fore (L := [])) (h5.mono le7796)) (fun a v w hR hE => ?_)
   obtain ⟨D15565, rfl, hS1⟩ := hR
   have le15567 := hS1.dle
   have hS := hS.callR hS1 rfl .n
   clear hS1
   refine sN 2 4 [(24, .bool ((!r15563)))] hE (fun a hE => ?_)
   refine Or.elim (Bool.eq_false_or_eq_true ((!r15563))).symm (fun hb => ?_) (fun hb => ?_)
   ·replace hf := cond_f hb hf
    have hE := hE.know (t := 24) (b := (!r15563)) (b' := false) rfl hb
    clear hb
    refine sN 4 8 [(28, .bool ((decide (x1 < (1 : Int)))))] hE (fun a hE => ?_)
    refine Or.elim (Bool.eq_false_or_eq_true ((decide (x1 < (1 : Int))))).symm (fun hb => ?_) (fun hb => ?_)
    ·replace hf := cond_f hb hf
     have hE := hE.know (t := 28) (b := (decide (x1 < (1 : Int)))) (b' := false) rfl hb
     clear hb
     refine sN 3 11 [(31, .bool ((decide ((3000 : Int) < x1))))] hE (fun a hE => ?_)
     refine at_end rfl ?_
     exact ⟨(decide ((3000 : Int) < x1)), D15565, hE.weak (by kernel_rfl), hS, le15567, hf⟩
    ·replace hf := cond_t hb hf
     have hE := hE.know (t := 28) (b := (decide (x1 < (1 : Int)))) (b' := true) rfl hb
     clear hb
     refine sN 3 11 [(31, .bool true)] hE (fun a hE => ?_)
     refine at_end rfl ?_
     exact ⟨true, D15565, hE.weak (by kernel_rfl), hS, le15567, hf⟩
   ·replace hf := cond_t hb hf
    have hE := hE.know (t := 24) (b := (!r15563)) (b' := true) rfl hb
    clear hb
    refine sN 7 11 [(31, .bool true)] hE (fun a hE => ?_)
    refine at_end rfl ?_
    exact ⟨true, D15565, hE.weak (by kernel_rfl), hS, le15567, hf⟩
  ·clear hE hS
   rintro a w ⟨y7825, D7826, hE, hS, le7827, hf⟩
   replace hf := hj15562 _ hf
   clear hj15562
   refine cond_split hE (b := y7825) rfl (fun hb => ?_) (fun hb => ?_)
   ·replace hf := cond_t hb hf
    clear hb
    refine wpIn_seq ?_
    refine region_at ?_
    obtain ⟨r7828, h7829, hf⟩ := bind_some hf
    refine aC rfl rfl rfl rfl hE rfl rfl rfl rfl (log_Open_v2.calls (g := g) h7829 (hS.st.fore (L := [])) ) (fun a v w hR hE => ?_)
    obtain ⟨D7830, A7832, c7833, rfl, hS1, h7834⟩ := hR
    have le7835 := hS1.dle
    have hS := hS.callR hS1 rfl .n
    clear hS1
    refine sN 7 8 [(6, .slice A7832 (List.length (r7828.1)) c7833), (7, .int .i64 (r7828.2))] hE (fun a hE => ?_)
    refine at_end rfl ?_
    refine wpIn_seq ?_
    refine region_at ?_
    refine sN 3 3 [(39, .bool ((decide (r7828.2 = (1 : Int)))))] hE (fun a hE => ?_)
    refine Or.elim (Bool.eq_false_or_eq_true ((decide (r7828.2 = (1 : Int))))).symm (fun hb => ?_) (fun hb => ?_)
    ·replace hf := cond_f hb hf
     have hE := hE.know (t := 39) (b := (decide (r7828.2 = (1 : Int)))) (b' := false) rfl hb
     clear hb
     refine sN 5 8 [(4, .bool false)] hE (fun a hE => ?_)
     refine at_end rfl ?_
     refine wpIn_ret ?_
     obtain rfl := Option.some.inj hf
     repeat (with_reducible first | refine then_ret ?_ | refine block_ret ?_ | refine qx_ret ?_)
     refine ret_gen ([.bool false]) hE (by rw [show Tryd.f3.results.toList = [.tmp 4] from rfl]; exact ⟨_, _, rfl, rfl, rfl⟩) ?_
     exact ⟨_, rfl, D7830, rfl, hS⟩
    ·replace hf := cond_t hb hf
     have hE := hE.know (t := 39) (b := (decide (r7828.2 = (1 : Int)))) (b' := true) rfl hb
     clear hb
     refine sN 5 8 [(4, .bool ((decide (((List.length (r7828.1) : Nat) : Int) = (0 : Int)))))] hE (fun a hE => ?_)
     refine at_end rfl ?_
     refine wpIn_ret ?_
     obtain rfl := Option.some.inj hf
     repeat (with_reducible first | refine then_ret ?_ | refine block_ret ?_ | refine qx_ret ?_)
     refine ret_gen ([.bool ((decide (((List.length (r7828.1) : Nat) : Int) = (0 : Int))))]) hE (by rw [show Tryd.f3.results.toList = [.tmp 4] from rfl]; exact ⟨_, _, rfl, rfl, rfl⟩) ?_
     exact ⟨_, rfl, D7830, rfl, hS⟩
   ·replace hf := cond_f hb hf
    clear hb
    refine wpIn_skip ?_
    refine wpIn_seq ?_
    refine region_at ?_
    refine sN 1 1 [(44, .int .i64 (x1))] hE (fun a hE => ?_)
    obtain ⟨r7836, h7837, hf⟩ := bind_some hf
    refine aC rfl rfl rfl rfl hE rfl rfl rfl rfl (disk_New.calls (g := g) h7837 (hS.st.fore (L := [])) ) (fun a v w hR hE => ?_)
    obtain ⟨D7838, b7840, A7842, c7843, q7844, rfl, hS1, h7845⟩ := hR
    have le7847 := hS1.dle
    have hS := hS.callR hS1 rfl (.c (.c .n))
    clear hS1
    refine sN 1 3 [(46, .int .i64 (x1))] hE (fun a hE => ?_)
    refine at_op (op_tk hE (tk_build (c_T_inspeximusref08_Disk ({ z_T_inspeximusref08_Disk with fSize := x1 }) none 0 none 0) rfl rfl rfl rfl hE rfl rfl (by kernel_rfl) (fun a hE => ?_))) rfl
    refine at_op (op_box rfl rfl rfl rfl hE rfl hS rfl (fun a b7848 w _ hE hS => ?_)) rfl
    refine sN 2 7 [(8, .pointer (some ⟨b7840, 0, none⟩)), (9, .pointer (some ⟨b7848, 0, none⟩))] hE (fun a hE => ?_)
    refine at_end rfl ?_
    refine wpIn_seq ?_
    refine region_at ?_
    refine sN 1 1 [(50, .pointer (some ⟨b7840, 0, none⟩))] hE (fun a hE => ?_)
    have hS := hS.pk (.c 1 rfl (.c 2 rfl (.c 0 rfl .n))) rfl
    obtain ⟨r7850, h7851, hf⟩ := bind_some hf
    refine aC rfl rfl rfl rfl hE rfl rfl rfl rfl (log_Open.calls (g := g) h7851 (hS.st.fore (L := [bx b7840 72 (c_T_disk_Disk ((T_disk_Disk.mk (r7836.1) (r7836.2.1) (r7836.2.2))) A7842 c7843), q7844])) h7845 (hG0.mono (le2 (le2 le7796 le7827) le7847)) (hG1.mono (le2 (le2 le7796 le7827) le7847))) (fun a v w hR hE => ?_)
    obtain ⟨D7852, b7854, A7856, c7857, q7858, A7861, c7862, q7863, rfl, hS1, h7859, h7864⟩ := hR
    have le7866 := hS1.dle
    have hS := hS.callR hS1 rfl (.c (.c (.c (.c .n))))
    clear hS1
    refine sN 7 9 [(10, .pointer (some ⟨b7854, 0, none⟩))] hE (fun a hE => ?_)
    refine at_end rfl ?_
    refine wpIn_seq ?_
    refine region_at ?_
    refine sN 1 1 [(55, .pointer (some ⟨b7848, 0, none⟩))] hE (fun a hE => ?_)
    have hS := hS.pk (.c 4 rfl (.c 0 rfl (.c 1 rfl (.c 3 rfl .n)))) rfl
    obtain ⟨r7867, h7868, hf⟩ := bind_some hf
    have hc := (inspeximusref09_Open.calls (g := g) h7868 (hS.st.fore (L := [bx b7848 35 (c_T_inspeximusref08_Disk ({ z_T_inspeximusref08_Disk with fSize := x1 }) none 0 none 0)])) ((Sl.nil (kdInt .u8) D7838).mono le7866) ((Sl.nil (kdInt .u8) D7838).mono le7866) (hG0.mono (le2 (le2 (le2 le7796 le7827) le7847) le7866)) (hG1.mono (le2 (le2 (le2 le7796 le7827) le7847) le7866)))
    refine aC rfl rfl rfl rfl hE rfl rfl rfl rfl hc (fun a v w hR hE => ?_)
    obtain ⟨D7869, b7871, A7873, c7874, A7876, c7877, A7879, c7880, rfl, hS1, h7875, h7878, h7881⟩ := hR
    have le7882 := hS1.dle
    have hS := hS.callR hS1 rfl (.c (.c .n))
    clear hS1
    refine sN 1 3 [(13, .pointer (some ⟨b7871, 0, none⟩))] hE (fun a hE => ?_)
    refine at_end rfl ?_
    refine wpIn_seq ?_
    refine wpIn_seq ?_
    refine region_at ?_
    refine sN 1 1 [(14, .int .i64 ((0 : Int)))] hE (fun a hE => ?_)
    refine at_end rfl ?_
    obtain ⟨s14308, hf, hs14309⟩ := bind_some hf
    have hS := hS.pk (.c 3 rfl (.c 1 rfl (.c 2 rfl (.c 0 rfl (.c 4 rfl .n))))) rfl
    refine block_loop (fun a w => ∃ (z14305 : Unit), ∃ (D14306 : Snap), Env a 150 [] [] ∧ Stp g w0 D0 [] w D14306 [] ∧ Snap.le D7869 D14306 ∧ (Sum.inr z14305) = s14308) (fun k a w => ∃ (y13015 : Int × T_log_at × (List (List Int)) × (List Int) × Int × T_inspeximusref08_Disk), ∃ (A13018 : Option Addr), ∃ (c13019 : Nat), ∃ (A13021 : Option Addr), ∃ (c13022 : Nat), ∃ (q13023 : Blk), ∃ (A13026 : Option Addr), ∃ (c13027 : Nat), ∃ (A13029 : Option Addr), ∃ (c13030 : Nat), ∃ (b13034 : Nat), ∃ (b13035 : Nat), ∃ (D13016 : Snap), Env a 150 [] [(1, .slice A3 (List.length (x2)) c4), (8, .pointer (some ⟨b7840, 0, none⟩)), (9, .pointer (some ⟨b7848, 0, none⟩)), (10, .pointer (some ⟨b13034, 0, none⟩)), (13, .pointer (some ⟨b13035, 0, none⟩)), (14, .int .i64 (y13015.1))] ∧ Stp g w0 D0 [] w D13016 [bx b13034 64 ([.pointer (some ⟨b7840, 0, none⟩)] ++ ((c_T_log_at (y13015.2.1)))), bx b13035 45 ([.pointer (some ⟨b7848, 0, none⟩)] ++ ([.slice A13018 (List.length (y13015.2.2.1)) c13019])), bx b7840 72 (c_T_disk_Disk ((T_disk_Disk.mk (y13015.2.2.2.1) (y13015.2.2.2.2.1) (r7836.2.2))) A13021 c13022), bx b7848 35 (c_T_inspeximusref08_Disk (y13015.2.2.2.2.2) A13026 c13027 A13029 c13030), q13023] ∧ Snap.le D7869 D13016 ∧ Sl (kdSlice (kdInt .u8)) D13016 A13018 c13019 (y13015.2.2.1) ∧ OwnL (kdInt .u8) 5 D13016 A13021 c13022 (y13015.2.2.2.1) q13023 ∧ Sl (kdInt .u8) D13016 A13026 c13027 (y13015.2.2.2.2.2.fDone) ∧ Sl (kdInt .u8) D13016 A13029 c13030 (y13015.2.2.2.2.2.fLate) ∧ inspeximuslaw09_LogActs_l1.l K x2 r7836 k y13015 = some s14308) K ?_ ?_ ?_
    ·exact ⟨((0 : Int), r7850.2.2.2.2, r7867.2, r7850.2.2.1, r7850.2.2.2.1, r7867.1), A7879, c7880, A7861, c7862, q7863, A7873, c7874, A7876, c7877, b7854, b7871, D7869, hE.weak (by kernel_rfl), hS, Snap.le.refl _, h7881, (h7864.mono le7882), h7875, h7878, hf⟩
    ·clear hE hS hf
     rintro a w ⟨z14305, D14306, hE, hS, le14307, rfl⟩
     have hf := hs14309
     clear hs14309
     refine wpIn_seq ?_
     refine region_at ?_
     refine sN 1 1 [(4, .bool true)] hE (fun a hE => ?_)
     refine at_end rfl ?_
     refine wpIn_ret ?_
     obtain rfl := Option.some.inj hf
     repeat (with_reducible first | refine then_ret ?_ | refine block_ret ?_ | refine qx_ret ?_)
     refine ret_gen ([.bool true]) hE (by rw [show Tryd.f3.results.toList = [.tmp 4] from rfl]; exact ⟨_, _, rfl, rfl, rfl⟩) ?_
     exact ⟨_, rfl, D14306, rfl, hS⟩
    ·clear hE hS hf
     rintro k a w ⟨y13015, A13018, c13019, A13021, c13022, q13023, A13026, c13027, A13029, c13030, b13034, b13035, D13016, hE, hS, le13017, h13020, h13024, h13028, h13031, hf⟩
     obtain ⟨k, rfl, hf⟩ := inspeximuslaw09_LogActs_l1.some _ _ hf
     refine ⟨k, rfl, ?_⟩
     unfold inspeximuslaw09_LogActs_l1.b at hf
     refine wpIn_seq ?_
     refine wpIn_seq ?_
     refine region_at ?_
     refine sN 4 4 [(60, .bool ((decide (y13015.1 < ((List.length (x2) : Nat) : Int)))))] hE (fun a hE => ?_)
     refine at_end rfl ?_
     refine cond_split hE (b := (decide (y13015.1 < ((List.length (x2) : Nat) : Int)))) rfl (fun hb => ?_) (fun hb => ?_)
     ·replace hf := cond_t hb hf
      clear hb
      refine wpIn_skip ?_
      refine wpIn_seq ?_
      refine wpIn_block ?_
      refine wpIn_seq ?_
      refine region_at ?_
      refine sN 2 2 [(63, .slice A3 (List.length (x2)) c4), (64, .int .i64 (y13015.1))] hE (fun a hE => ?_)
      obtain ⟨x14934, h14935, hf⟩ := bind_some hf
      refine at_op (op_tk hE (g_index (K := kd_T_inspeximusref08_Act) (e := 39) (by_ := 40) (zl := 3) rfl rfl rfl rfl hE rfl rfl rfl (by kernel_rfl) rfl (h5.mono (le2 (le2 (le2 (le2 (le2 le7796 le7827) le7847) le7866) le7882) le13017)) h14935 (fun a b14936 o14937 hE h14938 => ?_))) rfl
      obtain ⟨cs14939, C14940, T14941, fr14942, hr14943, hb14944, hc14945⟩ := h14938
      obtain ⟨A14946, c14947, rfl, h14948⟩ := kd_T_inspeximusref08_Act_el hr14943
      refine at_op (op_tk hE (tk_loadX (off0 := o14937) (off := 0) (c := c_T_inspeximusref08_Act (x14934) A14946 c14947) (.agg (List.toArray (c_T_inspeximusref08_Act (x14934) A14946 c14947))) rfl rfl rfl rfl hE rfl hS rfl hb14944 hc14945 (by kernel_rfl) (by kernel_rfl) (kD hS dn_nil) (fun a hE => ?_))) rfl
      refine at_op (op_alloc (z := .agg (List.toArray (c_T_inspeximusref08_Act (z_T_inspeximusref08_Act) none 0))) rfl rfl rfl rfl hE rfl hS (by kernel_rfl) (fun a b14949 w _ hE hS => ?_)) rfl
      refine at_op (op_store (v := .agg (List.toArray (c_T_inspeximusref08_Act (x14934) A14946 c14947))) (c_T_inspeximusref08_Act (x14934) A14946 c14947) rfl rfl rfl rfl hE hS rfl rfl (by kernel_rfl) (by kernel_rfl) (by kernel_rfl) (by kernel_rfl) (by kernel_rfl) (fun a w _ hE hS => ?_)) rfl
      refine at_end rfl ?_
      refine wpIn_seq ?_
      refine region_at ?_
      refine sN 1 1 [(16, .bool true)] hE (fun a hE => ?_)
      refine at_end rfl ?_
      obtain ⟨j15387, hj15388, hf⟩ := jn_elim hf
      refine seq_join (fun a w => ∃ (y15120 : Bool × T_log_at × (List (List Int)) × (List Int) × Int × T_inspeximusref08_Disk), ∃ (A15123 : Option Addr), ∃ (c15124 : Nat), ∃ (A15126 : Option Addr), ∃ (c15127 : Nat), ∃ (q15128 : Blk), ∃ (A15131 : Option Addr), ∃ (c15132 : Nat), ∃ (A15134 : Option Addr), ∃ (c15135 : Nat), ∃ (b15139 : Nat), ∃ (b15140 : Nat), ∃ (D15121 : Snap), Env a 150 [] [(1, .slice A3 (List.length (x2)) c4), (8, .pointer (some ⟨b7840, 0, none⟩)), (9, .pointer (some ⟨b7848, 0, none⟩)), (10, .pointer (some ⟨b15139, 0, none⟩)), (13, .pointer (some ⟨b15140, 0, none⟩)), (14, .int .i64 (y13015.1)), (16, .bool (y15120.1))] ∧ Stp g w0 D0 [] w D15121 [bx b15139 64 ([.pointer (some ⟨b7840, 0, none⟩)] ++ ((c_T_log_at (y15120.2.1)))), bx b15140 45 ([.pointer (some ⟨b7848, 0, none⟩)] ++ ([.slice A15123 (List.length (y15120.2.2.1)) c15124])), bx b7840 72 (c_T_disk_Disk ((T_disk_Disk.mk (y15120.2.2.2.1) (y15120.2.2.2.2.1) (r7836.2.2))) A15126 c15127), bx b7848 35 (c_T_inspeximusref08_Disk (y15120.2.2.2.2.2) A15131 c15132 A15134 c15135), q15128] ∧ Snap.le D13016 D15121 ∧ Sl (kdSlice (kdInt .u8)) D15121 A15123 c15124 (y15120.2.2.1) ∧ OwnL (kdInt .u8) 5 D15121 A15126 c15127 (y15120.2.2.2.1) q15128 ∧ Sl (kdInt .u8) D15121 A15131 c15132 (y15120.2.2.2.2.2.fDone) ∧ Sl (kdInt .u8) D15121 A15134 c15135 (y15120.2.2.2.2.2.fLate) ∧ j15387 y15120 = some s14308) ?_ ?_
      ·clear hj15388
       refine wpIn_seq ?_
       refine region_at ?_
       refine aF 0 3 0 hE (fun a hE => ?_)
       refine aL 0 (.int .i64 (x14934.fKind)) hE hS (fun a hE => ?_)
       refine at_end rfl ?_
       refine wpIn_block ?_
       refine wpIn_seq ?_
       refine region_at ?_
       refine sN 2 2 [(69, .bool ((decide (x14934.fKind = (0 : Int)))))] hE (fun a hE => ?_)
       refine at_end rfl ?_
       refine cond_split hE (b := (decide (x14934.fKind = (0 : Int)))) rfl (fun hb => ?_) (fun hb => ?_)
       ·replace hf := cond_t hb hf
        clear hb
        refine region_draw (fun j => Keeps (mfOf [(3, [b13034, b7840] ++ ids [q13023]), (7, [b13035, b7848])] j)) (by kernel_rfl) ?_
        have hS := hS.drew
        first | generalize w.drew = w at hS ⊢ | generalize w0.drew = w at hS ⊢
        refine wP 0 1 9 (.pointer (some ⟨b13034, 0, none⟩)) hE (fun a hE => ?_)
        refine wP 4 17 8 (.pointer (some ⟨b13035, 0, none⟩)) hE (fun a hE => ?_)
        refine wF 1 19 7 2 33 2 hE (fun a hE => ?_)
        refine tS (T := [(3, [b13034, b7840] ++ ids [q13023]), (7, [b13035, b7848])]) [] [2, 3, 7, 8, 9] 2 23 (fuel := 6) (by kernel_rfl) hE (tk_load 0 (.slice A14946 (List.length (x14934.fB)) c14947) rfl rfl rfl rfl hE rfl hS rfl rfl (by kernel_rfl) (kL (j := 0) hS rfl List.not_mem_nil) (fun a hE => ?_))
        refine wF 5 55 5 2 33 2 hE (fun a hE => ?_)
        refine tN (T := [(3, [b13034, b7840] ++ ids [q13023]), (7, [b13035, b7848])]) [3] 6 119 (fuel := 4) (by kernel_rfl) hE (tk_load 0 (.slice A14946 (List.length (x14934.fB)) c14947) rfl rfl rfl rfl hE rfl hS rfl rfl (by kernel_rfl) (kL (j := 0) hS rfl (show b14949 ∉ (b13034 :: (b7840 :: (ids [q13023] ++ []))) from (nm_cons (hS.ne (i := 0) (j := 1) (by decide) rfl rfl) (nm_cons (hS.ne (i := 0) (j := 3) (by decide) rfl rfl) (nm_app (hS.nmq (i := 0) (j := 5) (by decide) rfl rfl) List.not_mem_nil))))) (fun a hE => ?_))
        have hS := hS.pk (.c 1 rfl (.c 3 rfl (.c 5 rfl (.c 0 rfl (.c 2 rfl (.c 4 rfl .n)))))) rfl
        obtain ⟨r15413, h15414, hf⟩ := bind_some hf
        refine oG 3 127 (fuel := 3) (by kernel_rfl) (op_call rfl rfl rfl rfl hE rfl rfl rfl rfl (by kernel_rfl) (log_Log_Put.calls (g := g) h15414 (hS.st.fore (L := [bx b13034 64 ([.pointer (some ⟨b7840, 0, none⟩)] ++ ((c_T_log_at (y13015.2.1)))), bx b7840 72 (c_T_disk_Disk ((T_disk_Disk.mk (y13015.2.2.2.1) (y13015.2.2.2.2.1) (r7836.2.2))) A13021 c13022), q13023])) h14948 h13024 (hG0.mono (le2 (le2 (le2 (le2 (le2 le7796 le7827) le7847) le7866) le7882) le13017)) (hG1.mono (le2 (le2 (le2 (le2 (le2 le7796 le7827) le7847) le7866) le7882) le13017))) (fun a v w hR hE => ?_))
        obtain ⟨D15415, A15417, c15418, q15419, rfl, hS1, h15420⟩ := hR
        refine ⟨hS1.keeps.mono (fun _ h => h), ?_⟩
        have le15422 := hS1.dle
        have hS := hS.callR hS1 rfl (.c (.c (.c .n)))
        clear hS1
        have hS := hS.pk (.c 4 rfl (.c 5 rfl (.c 0 rfl (.c 1 rfl (.c 2 rfl (.c 3 rfl .n)))))) rfl
        obtain ⟨r15423, h15424, hf⟩ := bind_some hf
        refine oG 7 255 (fuel := 2) (by kernel_rfl) (op_call rfl rfl rfl rfl hE rfl rfl rfl rfl (by kernel_rfl) (inspeximusref09_Log_Put.calls (g := g) h15424 (hS.st.fore (L := [bx b13035 45 ([.pointer (some ⟨b7848, 0, none⟩)] ++ ([.slice A13018 (List.length (y13015.2.2.1)) c13019])), bx b7848 35 (c_T_inspeximusref08_Disk (y13015.2.2.2.2.2) A13026 c13027 A13029 c13030)])) (h14948.mono le15422) (h13020.mono le15422) (h13028.mono le15422) (h13031.mono le15422) (hG0.mono (le2 (le2 (le2 (le2 (le2 (le2 le7796 le7827) le7847) le7866) le7882) le13017) le15422)) (hG1.mono (le2 (le2 (le2 (le2 (le2 (le2 le7796 le7827) le7847) le7866) le7882) le13017) le15422))) (fun a v w hR hE => ?_))
        obtain ⟨D15425, A15427, c15428, A15430, c15431, A15433, c15434, rfl, hS1, h15429, h15432, h15435⟩ := hR
        refine ⟨(hS1.keeps.sub (M' := [b13035, b7848]) ⟨.inl (List.Mem.head _), .inl (List.Mem.tail _ (List.Mem.head _)), trivial⟩).mono (fun _ h => h), ?_⟩
        have le15436 := hS1.dle
        have hS := hS.callR hS1 rfl (.c (.c .n))
        clear hS1
        refine wP 8 511 1 (.bool ((decide (r15413.1 = r15423.1)))) hE (fun a hE => ?_)
        refine wP 9 1023 0 (.bool ((decide (r15413.1 = r15423.1)))) hE (fun a hE => ?_)
        refine doneG (by kernel_rfl) ?_
        have hS := hS.pk (.c 2 rfl (.c 0 rfl (.c 3 rfl (.c 1 rfl (.c 4 rfl .n))))) rfl
        exact ⟨((decide (r15413.1 = r15423.1)), r15413.2.1, r15423.2.1, r15413.2.2, y13015.2.2.2.2.1, r15423.2.2), A15427, c15428, A15417, c15418, q15419, A15430, c15431, A15433, c15434, b13034, b13035, D15425, hE.weak (by kernel_rfl), hS, (le2 le15422 le15436), h15429, (h15420.mono le15436), h15432, h15435, hf⟩
       ·replace hf := cond_f hb hf
        clear hb
        refine wpIn_seq ?_
        refine region_at ?_
        refine sN 2 2 [(80, .bool ((decide (x14934.fKind = (1 : Int)))))] hE (fun a hE => ?_)
        refine at_end rfl ?_
        refine cond_split hE (b := (decide (x14934.fKind = (1 : Int)))) rfl (fun hb => ?_) (fun hb => ?_)
        ·replace hf := cond_t hb hf
         clear hb
         refine wpIn_seq ?_
         refine region_at ?_
         refine sN 1 1 [(82, .pointer (some ⟨b13035, 0, none⟩))] hE (fun a hE => ?_)
         refine aF 2 33 2 hE (fun a hE => ?_)
         refine aL 0 (.slice A14946 (List.length (x14934.fB)) c14947) hE hS (fun a hE => ?_)
         have hS := hS.pk (.c 2 rfl (.c 4 rfl (.c 0 rfl (.c 1 rfl (.c 3 rfl (.c 5 rfl .n)))))) rfl
         obtain ⟨r15437, h15438, hf⟩ := bind_some hf
         refine aC rfl rfl rfl rfl hE rfl rfl rfl rfl (inspeximusref09_Log_Put.calls (g := g) h15438 (hS.st.fore (L := [bx b13035 45 ([.pointer (some ⟨b7848, 0, none⟩)] ++ ([.slice A13018 (List.length (y13015.2.2.1)) c13019])), bx b7848 35 (c_T_inspeximusref08_Disk (y13015.2.2.2.2.2) A13026 c13027 A13029 c13030)])) h14948 h13020 h13028 h13031 (hG0.mono (le2 (le2 (le2 (le2 (le2 le7796 le7827) le7847) le7866) le7882) le13017)) (hG1.mono (le2 (le2 (le2 (le2 (le2 le7796 le7827) le7847) le7866) le7882) le13017))) (fun a v w hR hE => ?_)
         obtain ⟨D15439, A15441, c15442, A15444, c15445, A15447, c15448, rfl, hS1, h15443, h15446, h15449⟩ := hR
         have le15450 := hS1.dle
         have hS := hS.callR hS1 rfl (.c (.c .n))
         clear hS1
         refine sN 1 5 [(17, .int .i64 (r15437.1))] hE (fun a hE => ?_)
         refine at_end rfl ?_
         obtain ⟨j15481, hj15482, hf⟩ := jn_elim hf
         refine seq_join (fun a w => ∃ (y15462 : T_inspeximusref08_Disk), ∃ (A15465 : Option Addr), ∃ (c15466 : Nat), ∃ (A15468 : Option Addr), ∃ (c15469 : Nat), ∃ (D15463 : Snap), Env a 150 [] [(1, .slice A3 (List.length (x2)) c4), (8, .pointer (some ⟨b7840, 0, none⟩)), (9, .pointer (some ⟨b7848, 0, none⟩)), (10, .pointer (some ⟨b13034, 0, none⟩)), (13, .pointer (some ⟨b13035, 0, none⟩)), (14, .int .i64 (y13015.1)), (15, .pointer (some ⟨b14949, 0, none⟩)), (17, .int .i64 (r15437.1))] ∧ Stp g w0 D0 [] w D15463 [bx b7840 72 (c_T_disk_Disk ((T_disk_Disk.mk (y13015.2.2.2.1) (y13015.2.2.2.2.1) (r7836.2.2))) A13021 c13022), bx b7848 35 (c_T_inspeximusref08_Disk (y15462) A15465 c15466 A15468 c15469), bx b13034 64 ([.pointer (some ⟨b7840, 0, none⟩)] ++ ((c_T_log_at (y13015.2.1)))), bx b13035 45 ([.pointer (some ⟨b7848, 0, none⟩)] ++ ([.slice A15441 (List.length (r15437.2.1)) c15442])), bx b14949 39 (c_T_inspeximusref08_Act (x14934) A14946 c14947), q13023] ∧ Snap.le D15439 D15463 ∧ Sl (kdInt .u8) D15463 A15465 c15466 (y15462.fDone) ∧ Sl (kdInt .u8) D15463 A15468 c15469 (y15462.fLate) ∧ j15481 y15462 = some s14308) ?_ ?_
         ·clear hj15482
          refine wpIn_seq ?_
          refine region_at ?_
          refine sN 2 2 [(87, .bool ((decide (r15437.1 = (0 : Int)))))] hE (fun a hE => ?_)
          refine at_end rfl ?_
          refine cond_split hE (b := (decide (r15437.1 = (0 : Int)))) rfl (fun hb => ?_) (fun hb => ?_)
          ·replace hf := cond_t hb hf
           clear hb
           refine region_at ?_
           refine sN 1 1 [(88, .pointer (some ⟨b7848, 0, none⟩))] hE (fun a hE => ?_)
           have hS := hS.pk (.c 1 rfl (.c 0 rfl (.c 2 rfl (.c 3 rfl (.c 4 rfl (.c 5 rfl .n)))))) rfl
           obtain ⟨r15483, h15484, hf⟩ := bind_some hf
           refine aC rfl rfl rfl rfl hE rfl rfl rfl rfl (inspeximusref08_Disk_Sync.calls (g := g) h15484 (hS.st.fore (L := [bx b7848 35 (c_T_inspeximusref08_Disk (r15437.2.2) A15444 c15445 A15447 c15448)])) h15446 h15449) (fun a v w hR hE => ?_)
           obtain ⟨D15485, A15487, c15488, A15490, c15491, rfl, hS1, h15489, h15492⟩ := hR
           have le15493 := hS1.dle
           have hS := hS.callR hS1 rfl (.c .n)
           clear hS1
           refine at_end rfl ?_
           have hS := hS.pk (.c 4 rfl (.c 0 rfl (.c 3 rfl (.c 1 rfl (.c 2 rfl (.c 5 rfl .n)))))) rfl
           exact ⟨r15483, A15487, c15488, A15490, c15491, D15485, hE.weak (by kernel_rfl), hS, le15493, h15489, h15492, hf⟩
          ·replace hf := cond_f hb hf
           clear hb
           refine wpIn_skip ?_
           have hS := hS.pk (.c 4 rfl (.c 1 rfl (.c 3 rfl (.c 0 rfl (.c 2 rfl (.c 5 rfl .n)))))) rfl
           exact ⟨r15437.2.2, A15444, c15445, A15447, c15448, D15439, hE.weak (by kernel_rfl), hS, Snap.le.refl _, h15446, h15449, hf⟩
         ·clear hE hS
          rintro a w ⟨y15462, A15465, c15466, A15468, c15469, D15463, hE, hS, le15464, h15467, h15470, hf⟩
          replace hf := hj15482 _ hf
          clear hj15482
          refine region_at ?_
          refine sN 1 1 [(90, .pointer (some ⟨b13034, 0, none⟩))] hE (fun a hE => ?_)
          refine aF 2 33 2 hE (fun a hE => ?_)
          refine aL 4 (.slice A14946 (List.length (x14934.fB)) c14947) hE hS (fun a hE => ?_)
          have hS := hS.pk (.c 2 rfl (.c 0 rfl (.c 5 rfl (.c 1 rfl (.c 3 rfl (.c 4 rfl .n)))))) rfl
          obtain ⟨r15471, h15472, hf⟩ := bind_some hf
          refine aC rfl rfl rfl rfl hE rfl rfl rfl rfl (log_Log_Append.calls (g := g) h15472 (hS.st.fore (L := [bx b13034 64 ([.pointer (some ⟨b7840, 0, none⟩)] ++ ((c_T_log_at (y13015.2.1)))), bx b7840 72 (c_T_disk_Disk ((T_disk_Disk.mk (y13015.2.2.2.1) (y13015.2.2.2.2.1) (r7836.2.2))) A13021 c13022), q13023])) (h14948.mono (le2 le15450 le15464)) (h13024.mono (le2 le15450 le15464)) (hG0.mono (le2 (le2 (le2 (le2 (le2 (le2 (le2 le7796 le7827) le7847) le7866) le7882) le13017) le15450) le15464)) (hG1.mono (le2 (le2 (le2 (le2 (le2 (le2 (le2 le7796 le7827) le7847) le7866) le7882) le13017) le15450) le15464))) (fun a v w hR hE => ?_)
          obtain ⟨D15473, A15475, c15476, q15477, rfl, hS1, h15478⟩ := hR
          have le15480 := hS1.dle
          have hS := hS.callR hS1 rfl (.c (.c (.c .n)))
          clear hS1
          refine sN 3 7 [(16, .bool ((decide (r15471.1 = r15437.1))))] hE (fun a hE => ?_)
          refine at_end rfl ?_
          have hS := hS.pk (.c 0 rfl (.c 4 rfl (.c 1 rfl (.c 3 rfl (.c 2 rfl .n))))) rfl
          exact ⟨((decide (r15471.1 = r15437.1)), r15471.2.1, r15437.2.1, r15471.2.2.1, r15471.2.2.2, y15462), A15441, c15442, A15475, c15476, q15477, A15465, c15466, A15468, c15469, b13034, b13035, D15473, hE.weak (by kernel_rfl), hS, (le2 (le2 le15450 le15464) le15480), (h15443.mono (le2 le15464 le15480)), h15478, (h15467.mono le15480), (h15470.mono le15480), hf⟩
        ·replace hf := cond_f hb hf
         clear hb
         refine wpIn_seq ?_
         refine region_at ?_
         refine sN 2 2 [(96, .bool ((decide (x14934.fKind = (2 : Int)))))] hE (fun a hE => ?_)
         refine at_end rfl ?_
         refine cond_split hE (b := (decide (x14934.fKind = (2 : Int)))) rfl (fun hb => ?_) (fun hb => ?_)
         ·replace hf := cond_t hb hf
          clear hb
          refine wpIn_seq ?_
          refine region_at ?_
          refine sN 1 1 [(98, .pointer (some ⟨b7840, 0, none⟩))] hE (fun a hE => ?_)
          refine aF 1 3 1 hE (fun a hE => ?_)
          refine aL 0 (.int .i64 (x14934.fN)) hE hS (fun a hE => ?_)
          have hS := hS.pk (.c 3 rfl (.c 5 rfl (.c 0 rfl (.c 1 rfl (.c 2 rfl (.c 4 rfl .n)))))) rfl
          obtain ⟨r15494, h15495, hf⟩ := bind_some hf
          refine aC rfl rfl rfl rfl hE rfl rfl rfl rfl (disk_Disk_Crash.calls (g := g) h15495 (hS.st.fore (L := [bx b7840 72 (c_T_disk_Disk ((T_disk_Disk.mk (y13015.2.2.2.1) (y13015.2.2.2.2.1) (r7836.2.2))) A13021 c13022), q13023])) h13024) (fun a v w hR hE => ?_)
          obtain ⟨D15496, A15498, c15499, q15500, rfl, hS1, h15501⟩ := hR
          have le15503 := hS1.dle
          have hS := hS.callR hS1 rfl (.c (.c .n))
          clear hS1
          refine at_end rfl ?_
          refine wpIn_seq ?_
          refine region_at ?_
          refine sN 1 1 [(102, .pointer (some ⟨b7848, 0, none⟩))] hE (fun a hE => ?_)
          refine aF 1 3 1 hE (fun a hE => ?_)
          refine aL 2 (.int .i64 (x14934.fN)) hE hS (fun a hE => ?_)
          have hS := hS.pk (.c 5 rfl (.c 0 rfl (.c 1 rfl (.c 2 rfl (.c 3 rfl (.c 4 rfl .n)))))) rfl
          obtain ⟨r15504, h15505, hf⟩ := bind_some hf
          refine aC rfl rfl rfl rfl hE rfl rfl rfl rfl (inspeximusref08_Disk_Crash.calls (g := g) h15505 (hS.st.fore (L := [bx b7848 35 (c_T_inspeximusref08_Disk (y13015.2.2.2.2.2) A13026 c13027 A13029 c13030)])) (h13028.mono le15503) (h13031.mono le15503)) (fun a v w hR hE => ?_)
          obtain ⟨D15506, A15508, c15509, A15511, c15512, rfl, hS1, h15510, h15513⟩ := hR
          have le15514 := hS1.dle
          have hS := hS.callR hS1 rfl (.c .n)
          clear hS1
          refine at_end rfl ?_
          refine wpIn_seq ?_
          refine region_at ?_
          refine sN 1 1 [(18, .slice none 0 0)] hE (fun a hE => ?_)
          refine at_end rfl ?_
          refine wpIn_seq ?_
          refine region_at ?_
          refine sN 1 1 [(107, .pointer (some ⟨b7840, 0, none⟩))] hE (fun a hE => ?_)
          have hS := hS.pk (.c 1 rfl (.c 2 rfl (.c 0 rfl (.c 3 rfl (.c 4 rfl (.c 5 rfl .n)))))) rfl
          obtain ⟨r15515, h15516, hf⟩ := bind_some hf
          refine aC rfl rfl rfl rfl hE rfl rfl rfl rfl (log_Open.calls (g := g) h15516 (hS.st.fore (L := [bx b7840 72 (c_T_disk_Disk ((T_disk_Disk.mk (r15494.1) (r15494.2) (r7836.2.2))) A15498 c15499), q15500])) (h15501.mono le15514) (hG0.mono (le2 (le2 (le2 (le2 (le2 (le2 (le2 le7796 le7827) le7847) le7866) le7882) le13017) le15503) le15514)) (hG1.mono (le2 (le2 (le2 (le2 (le2 (le2 (le2 le7796 le7827) le7847) le7866) le7882) le13017) le15503) le15514))) (fun a v w hR hE => ?_)
          obtain ⟨D15517, b15519, A15521, c15522, q15523, A15526, c15527, q15528, rfl, hS1, h15524, h15529⟩ := hR
          have le15531 := hS1.dle
          have hS := hS.callR hS1 rfl (.c (.c (.c (.c .n))))
          clear hS1
          refine sN 6 8 [(10, .pointer (some ⟨b15519, 0, none⟩)), (18, .slice A15521 (List.length (r15515.1)) c15522)] hE (fun a hE => ?_)
          refine at_end rfl ?_
          refine wpIn_seq ?_
          refine region_at ?_
          refine sN 1 1 [(112, .pointer (some ⟨b7848, 0, none⟩))] hE (fun a hE => ?_)
          have hS := hS.pk (.c 4 rfl (.c 0 rfl (.c 1 rfl (.c 2 rfl (.c 3 rfl (.c 5 rfl (.c 6 rfl (.c 7 rfl .n)))))))) rfl
          obtain ⟨r15532, h15533, hf⟩ := bind_some hf
          refine aC rfl rfl rfl rfl hE rfl rfl rfl rfl (inspeximusref09_Open.calls (g := g) h15533 (hS.st.fore (L := [bx b7848 35 (c_T_inspeximusref08_Disk (r15504) A15508 c15509 A15511 c15512)])) (h15510.mono le15531) (h15513.mono le15531) (hG0.mono (le2 (le2 (le2 (le2 (le2 (le2 (le2 (le2 le7796 le7827) le7847) le7866) le7882) le13017) le15503) le15514) le15531)) (hG1.mono (le2 (le2 (le2 (le2 (le2 (le2 (le2 (le2 le7796 le7827) le7847) le7866) le7882) le13017) le15503) le15514) le15531))) (fun a v w hR hE => ?_)
          obtain ⟨D15534, b15536, A15538, c15539, A15541, c15542, A15544, c15545, rfl, hS1, h15540, h15543, h15546⟩ := hR
          have le15547 := hS1.dle
          have hS := hS.callR hS1 rfl (.c (.c .n))
          clear hS1
          refine sN 1 3 [(13, .pointer (some ⟨b15536, 0, none⟩))] hE (fun a hE => ?_)
          refine at_end rfl ?_
          refine region_at ?_
          refine sN 3 3 [(114, .slice A15521 (List.length (r15515.1)) c15522), (116, .pointer (some ⟨b15536, 0, none⟩))] hE (fun a hE => ?_)
          refine aF 1 26 1 hE (fun a hE => ?_)
          refine aL 1 (.slice A15544 (List.length (r15532.2)) c15545) hE hS (fun a hE => ?_)
          have hS := hS.pk (.c 4 rfl (.c 0 rfl (.c 1 rfl (.c 2 rfl (.c 3 rfl (.c 5 rfl (.c 6 rfl (.c 7 rfl (.c 8 rfl .n))))))))) rfl
          obtain ⟨D15548, q15551, le15549, hS, h15552, h15550⟩ := hS.lent (h15524.mono le15547)
          obtain ⟨r15553, h15554, hf⟩ := bind_some hf
          refine aC rfl rfl rfl rfl hE rfl rfl rfl rfl (inspeximusref09_Same.calls (g := g) h15554 (hS.st.fore (L := [])) h15550 (h15546.mono le15549)) (fun a v w hR hE => ?_)
          obtain ⟨D15555, rfl, hS1⟩ := hR
          have le15557 := hS1.dle
          have hS := hS.callR hS1 rfl .n
          clear hS1
          refine sN 1 7 [(16, .bool (r15553))] hE (fun a hE => ?_)
          refine at_end rfl ?_
          have hS := hS.pk (.c 4 rfl (.c 2 rfl (.c 3 rfl (.c 1 rfl (.c 5 rfl .n))))) rfl
          exact ⟨(r15553, r15515.2.2.2.2, r15532.2, r15515.2.2.1, r15515.2.2.2.1, r15532.1), A15544, c15545, A15526, c15527, q15528, A15538, c15539, A15541, c15542, b15519, b15536, D15555, hE.weak (by kernel_rfl), hS, (le2 (le2 (le2 (le2 (le2 le15503 le15514) le15531) le15547) le15549) le15557), (h15546.mono (le2 le15549 le15557)), (h15529.mono (le2 (le2 le15547 le15549) le15557)), (h15540.mono (le2 le15549 le15557)), (h15543.mono (le2 le15549 le15557)), hf⟩
         ·replace hf := cond_f hb hf
          clear hb
          refine wpIn_skip ?_
          have hS := hS.pk (.c 1 rfl (.c 2 rfl (.c 3 rfl (.c 4 rfl (.c 5 rfl .n))))) rfl
          exact ⟨(true, y13015.2.1, y13015.2.2.1, y13015.2.2.2.1, y13015.2.2.2.2.1, y13015.2.2.2.2.2), A13018, c13019, A13021, c13022, q13023, A13026, c13027, A13029, c13030, b13034, b13035, D13016, hE.weak (by kernel_rfl), hS, Snap.le.refl _, h13020, h13024, h13028, h13031, hf⟩
      ·clear hE hS
       rintro a w ⟨y15120, A15123, c15124, A15126, c15127, q15128, A15131, c15132, A15134, c15135, b15139, b15140, D15121, hE, hS, le15122, h15125, h15129, h15133, h15136, hf⟩
       replace hf := hj15388 _ hf
       clear hj15388
       obtain ⟨j15267, hj15268, hf⟩ := jn_elim hf
       refine seq_join (fun a w => ∃ (y15259 : Bool × (List Int)), ∃ (A15262 : Option Addr), ∃ (c15263 : Nat), ∃ (q15264 : Blk), ∃ (D15260 : Snap), Env a 150 [] [(1, .slice A3 (List.length (x2)) c4), (8, .pointer (some ⟨b7840, 0, none⟩)), (9, .pointer (some ⟨b7848, 0, none⟩)), (10, .pointer (some ⟨b15139, 0, none⟩)), (13, .pointer (some ⟨b15140, 0, none⟩)), (14, .int .i64 (y13015.1)), (149, .bool (y15259.1))] ∧ Stp g w0 D0 [] w D15260 [bx b7840 72 (c_T_disk_Disk ((T_disk_Disk.mk (y15259.2) (y15120.2.2.2.2.1) (r7836.2.2))) A15262 c15263), bx b7848 35 (c_T_inspeximusref08_Disk (y15120.2.2.2.2.2) A15131 c15132 A15134 c15135), bx b15139 64 ([.pointer (some ⟨b7840, 0, none⟩)] ++ ((c_T_log_at (y15120.2.1)))), bx b15140 45 ([.pointer (some ⟨b7848, 0, none⟩)] ++ ([.slice A15123 (List.length (y15120.2.2.1)) c15124])), q15264] ∧ Snap.le D15121 D15260 ∧ OwnL (kdInt .u8) 5 D15260 A15262 c15263 (y15259.2) q15264 ∧ j15267 y15259 = some s14308) ?_ ?_
       ·clear hj15268
        refine region_draw (fun j => RD D15121 (plOf [] [b15140] j)) (by kernel_rfl) ?_
        have hS := hS.drew
        first | generalize w.drew = w at hS ⊢ | generalize w0.drew = w at hS ⊢
        refine wP 0 1 29 (.bool (y15120.1)) hE (fun a hE => ?_)
        refine wP 1 3 28 (.bool ((!y15120.1))) hE (fun a hE => ?_)
        refine wP 2 7 27 (.bool ((!y15120.1))) hE (fun a hE => ?_)
        refine Or.elim (Bool.eq_false_or_eq_true ((!y15120.1))).symm (fun hb => ?_) (fun hb => ?_)
        ·replace hf := cond_f hb hf
         have hE := hE.know (t := 122) (b := (!y15120.1)) (b' := false) rfl hb
         clear hb
         refine wP 3 15 26 (.pointer (some ⟨b15139, 0, none⟩)) hE (fun a hE => ?_)
         refine wP 5 47 25 (.pointer (some ⟨b15140, 0, none⟩)) hE (fun a hE => ?_)
         refine wP 6 111 24 (.pointer (some ⟨b15140, 0, none⟩)) hE (fun a hE => ?_)
         refine wF 7 239 23 1 26 1 hE (fun a hE => ?_)
         refine tD 8 495 (fuel := 22) (by kernel_rfl) hE (tk_load 1 (.slice A15123 (List.length (y15120.2.2.1)) c15124) rfl rfl rfl rfl hE rfl hS rfl rfl (by kernel_rfl) (fun _ h => h.1.at_ (List.Mem.head _)) (fun a hE => ?_))
         refine wP 9 1007 21 (.int .i64 (((List.length (y15120.2.2.1) : Nat) : Int))) hE (fun a hE => ?_)
         have hp_b15140 := hS.heapAt (j := 1) rfl
         have hS := hS.pk (.c 0 rfl (.c 2 rfl (.c 4 rfl (.c 1 rfl (.c 3 rfl .n))))) rfl
         obtain ⟨r15328, h15329, hf⟩ := bind_some hf
         refine oG 4 1023 (fuel := 20) (by kernel_rfl) (op_call rfl rfl rfl rfl hE rfl rfl rfl rfl (by kernel_rfl) (log_Log_Count.calls (g := g) h15329 (hS.st.fore (L := [bx b15139 64 ([.pointer (some ⟨b7840, 0, none⟩)] ++ ((c_T_log_at (y15120.2.1)))), bx b7840 72 (c_T_disk_Disk ((T_disk_Disk.mk (y15120.2.2.2.1) (y15120.2.2.2.2.1) (r7836.2.2))) A15126 c15127), q15128])) h15129) (fun a v w hR hE => ?_))
         obtain ⟨D15330, q15332, rfl, hS1, h15333⟩ := hR
         have le15335 := hS1.dle
         have hS := hS.callR hS1 rfl (.c (.c (.c .n)))
         clear hS1
         refine ⟨⟨show RP [b15140] _ _ from ⟨(hS.heapAt (j := 3) rfl).trans hp_b15140.symm, trivial⟩, fun _ => hS.st.sees.mono le15335⟩, ?_⟩
         clear hp_b15140
         refine wP 10 2047 19 (.bool ((!decide (r15328 = ((List.length (y15120.2.2.1) : Nat) : Int))))) hE (fun a hE => ?_)
         refine wP 11 4095 18 (.bool ((!decide (r15328 = ((List.length (y15120.2.2.1) : Nat) : Int))))) hE (fun a hE => ?_)
         refine wP 12 8191 17 (.bool ((!decide (r15328 = ((List.length (y15120.2.2.1) : Nat) : Int))))) hE (fun a hE => ?_)
         refine Or.elim (Bool.eq_false_or_eq_true ((!decide (r15328 = ((List.length (y15120.2.2.1) : Nat) : Int))))).symm (fun hb => ?_) (fun hb => ?_)
         ·replace hf := cond_f hb hf
          have hE := hE.know (t := 132) (b := (!decide (r15328 = ((List.length (y15120.2.2.1) : Nat) : Int)))) (b' := false) rfl hb
          clear hb
          refine wP 13 16383 16 (.pointer (some ⟨b15139, 0, none⟩)) hE (fun a hE => ?_)
          refine wP 15 49151 15 (.pointer (some ⟨b15140, 0, none⟩)) hE (fun a hE => ?_)
          refine wP 16 114687 14 (.pointer (some ⟨b15140, 0, none⟩)) hE (fun a hE => ?_)
          refine wF 17 245759 13 1 26 1 hE (fun a hE => ?_)
          refine tD 18 507903 (fuel := 12) (by kernel_rfl) hE (tk_load 3 (.slice A15123 (List.length (y15120.2.2.1)) c15124) rfl rfl rfl rfl hE rfl hS rfl rfl (by kernel_rfl) (fun _ h => h.1.at_ (List.Mem.head _)) (fun a hE => ?_))
          have hp_b15140 := hS.heapAt (j := 3) rfl
          obtain ⟨r15336, h15337, hf⟩ := bind_some hf
          refine oG 14 524287 (fuel := 11) (by kernel_rfl) (op_call rfl rfl rfl rfl hE rfl rfl rfl rfl (by kernel_rfl) (log_Log_Chain.calls (g := g) h15337 (hS.st.fore (L := [bx b15139 64 ([.pointer (some ⟨b7840, 0, none⟩)] ++ ((c_T_log_at (y15120.2.1)))), bx b7840 72 (c_T_disk_Disk ((T_disk_Disk.mk (y15120.2.2.2.1) (y15120.2.2.2.2.1) (r7836.2.2))) A15126 c15127), q15332])) h15333) (fun a v w hR hE => ?_))
          obtain ⟨D15338, q15340, rfl, hS1, h15341⟩ := hR
          have le15343 := hS1.dle
          have hS := hS.callR hS1 rfl (.c (.c (.c .n)))
          clear hS1
          refine ⟨⟨show RP [b15140] _ _ from ⟨(hS.heapAt (j := 3) rfl).trans hp_b15140.symm, trivial⟩, fun _ => hS.st.sees.mono (le2 le15335 le15343)⟩, ?_⟩
          clear hp_b15140
          have hp_b15140 := hS.heapAt (j := 3) rfl
          obtain ⟨r15344, h15345, hf⟩ := bind_some hf
          refine oG 19 1048575 (fuel := 10) (by kernel_rfl) (op_call rfl rfl rfl rfl hE rfl rfl rfl rfl (by kernel_rfl) (inspeximusref09_Chain.calls (g := g) h15345 (hS.st.fore (L := [])) (h15125.mono (le2 le15335 le15343)) (hG0.mono (le2 (le2 (le2 (le2 (le2 (le2 (le2 (le2 le7796 le7827) le7847) le7866) le7882) le13017) le15122) le15335) le15343)) (hG1.mono (le2 (le2 (le2 (le2 (le2 (le2 (le2 (le2 le7796 le7827) le7847) le7866) le7882) le13017) le15122) le15335) le15343))) (fun a v w hR hE => ?_))
          obtain ⟨D15346, rfl, hS1⟩ := hR
          have le15348 := hS1.dle
          have hS := hS.callR hS1 rfl .n
          clear hS1
          refine ⟨⟨show RP [b15140] _ _ from ⟨(hS.heapAt (j := 3) rfl).trans hp_b15140.symm, trivial⟩, fun _ => hS.st.sees.mono (le2 (le2 le15335 le15343) le15348)⟩, ?_⟩
          clear hp_b15140
          refine tW 20 2097151 (fuel := 9) (by kernel_rfl) hE (fun M => tk_bin (r := .bool ((!(decide (r15336 = r15344))))) rfl rfl rfl rfl hE rfl rfl rfl (neagg_run (by kernel_rfl) (EqR_arr (k := .u8) (N := 32) (by kernel_rfl))) (fun a hE => ?_))
          refine wP 21 4194303 8 (.bool ((!(decide (r15336 = r15344))))) hE (fun a hE => ?_)
          refine wP 22 8388607 7 (.bool ((!(decide (r15336 = r15344))))) hE (fun a hE => ?_)
          refine Or.elim (Bool.eq_false_or_eq_true ((!(decide (r15336 = r15344))))).symm (fun hb => ?_) (fun hb => ?_)
          ·replace hf := cond_f hb hf
           have hE := hE.know (t := 142) (b := (!(decide (r15336 = r15344)))) (b' := false) rfl hb
           clear hb
           refine wP 23 16777215 6 (.pointer (some ⟨b7840, 0, none⟩)) hE (fun a hE => ?_)
           refine wP 25 50331647 5 (.pointer (some ⟨b7848, 0, none⟩)) hE (fun a hE => ?_)
           have hp_b15140 := hS.heapAt (j := 3) rfl
           have hS := hS.pk (.c 1 rfl (.c 2 rfl (.c 0 rfl (.c 3 rfl (.c 4 rfl .n))))) rfl
           obtain ⟨r15349, h15350, hf⟩ := bind_some hf
           refine oG 24 67108863 (fuel := 4) (by kernel_rfl) (op_call rfl rfl rfl rfl hE rfl rfl rfl rfl (by kernel_rfl) (disk_Disk_Bytes.calls (g := g) h15350 (hS.st.fore (L := [bx b7840 72 (c_T_disk_Disk ((T_disk_Disk.mk (y15120.2.2.2.1) (y15120.2.2.2.2.1) (r7836.2.2))) A15126 c15127), q15340])) (h15341.mono le15348)) (fun a v w hR hE => ?_))
           obtain ⟨D15351, A15353, c15354, q15355, q15358, rfl, hS1, h15356, h15359⟩ := hR
           have le15361 := hS1.dle
           have hS := hS.callR hS1 rfl (.c (.c (.c .n)))
           clear hS1
           refine ⟨⟨show RP [b15140] _ _ from ⟨(hS.heapAt (j := 4) rfl).trans hp_b15140.symm, trivial⟩, fun _ => hS.st.sees.mono (le2 (le2 (le2 le15335 le15343) le15348) le15361)⟩, ?_⟩
           clear hp_b15140
           have hp_b15140 := hS.heapAt (j := 4) rfl
           have hS := hS.pk (.c 5 rfl (.c 0 rfl (.c 1 rfl (.c 2 rfl (.c 3 rfl (.c 4 rfl .n)))))) rfl
           obtain ⟨r15362, h15363, hf⟩ := bind_some hf
           refine oG 26 134217727 (fuel := 3) (by kernel_rfl) (op_call rfl rfl rfl rfl hE rfl rfl rfl rfl (by kernel_rfl) (inspeximusref08_Disk_Bytes.calls (g := g) h15363 (hS.st.fore (L := [bx b7848 35 (c_T_inspeximusref08_Disk (y15120.2.2.2.2.2) A15131 c15132 A15134 c15135)])) (h15133.mono (le2 (le2 (le2 le15335 le15343) le15348) le15361)) (h15136.mono (le2 (le2 (le2 le15335 le15343) le15348) le15361))) (fun a v w hR hE => ?_))
           obtain ⟨D15364, A15366, c15367, q15368, rfl, hS1, h15369⟩ := hR
           have le15371 := hS1.dle
           have hS := hS.callR hS1 rfl (.c (.c .n))
           clear hS1
           refine ⟨⟨show RP [b15140] _ _ from ⟨(hS.heapAt (j := 6) rfl).trans hp_b15140.symm, trivial⟩, fun _ => hS.st.sees.mono (le2 (le2 (le2 (le2 le15335 le15343) le15348) le15361) le15371)⟩, ?_⟩
           clear hp_b15140
           have hp_b15140 := hS.heapAt (j := 6) rfl
           have hS := hS.pk (.c 3 rfl (.c 0 rfl (.c 1 rfl (.c 2 rfl (.c 4 rfl (.c 5 rfl (.c 6 rfl .n))))))) rfl
           obtain ⟨D15372, q15375, le15373, hS, h15376, h15374⟩ := hS.lent (h15356.mono le15371)
           have hS := hS.pk (.c 2 rfl (.c 0 rfl (.c 1 rfl (.c 3 rfl (.c 4 rfl (.c 5 rfl (.c 6 rfl .n))))))) rfl
           obtain ⟨D15377, q15380, le15378, hS, h15381, h15379⟩ := hS.lent (h15369.mono le15373)
           obtain ⟨r15382, h15383, hf⟩ := bind_some hf
           refine oG 27 268435455 (fuel := 2) (by kernel_rfl) (op_call rfl rfl rfl rfl hE rfl rfl rfl rfl (by kernel_rfl) (inspeximusref01_Bytes.calls (g := g) h15383 (hS.st.fore (L := [])) (h15374.mono le15378) h15379) (fun a v w hR hE => ?_))
           obtain ⟨D15384, rfl, hS1⟩ := hR
           have le15386 := hS1.dle
           have hS := hS.callR hS1 rfl .n
           clear hS1
           refine ⟨⟨show RP [b15140] _ _ from ⟨(hS.heapAt (j := 6) rfl).trans hp_b15140.symm, trivial⟩, fun _ => hS.st.sees.mono (le2 (le2 (le2 (le2 (le2 (le2 (le2 le15335 le15343) le15348) le15361) le15371) le15373) le15378) le15386)⟩, ?_⟩
           clear hp_b15140
           refine wP 28 536870911 1 (.bool ((!r15382))) hE (fun a hE => ?_)
           refine wP 29 1073741823 0 (.bool ((!r15382))) hE (fun a hE => ?_)
           refine doneG (by kernel_rfl) ?_
           have hS := hS.pk (.c 3 rfl (.c 2 rfl (.c 5 rfl (.c 6 rfl (.c 4 rfl .n))))) rfl
           exact ⟨((!r15382), y15120.2.2.2.1), A15126, c15127, q15358, D15384, hE.weak (by kernel_rfl), hS, (le2 (le2 (le2 (le2 (le2 (le2 (le2 le15335 le15343) le15348) le15361) le15371) le15373) le15378) le15386), (h15359.mono (le2 (le2 (le2 le15371 le15373) le15378) le15386)), hf⟩
          ·replace hf := cond_t hb hf
           have hE := hE.know (t := 142) (b := (!(decide (r15336 = r15344)))) (b' := true) rfl hb
           clear hb
           refine wS 23 16777215 6 hE (fun a hE => ?_)
           refine wS 24 33554431 5 hE (fun a hE => ?_)
           refine wS 25 67108863 4 hE (fun a hE => ?_)
           refine wS 26 134217727 3 hE (fun a hE => ?_)
           refine wS 27 268435455 2 hE (fun a hE => ?_)
           refine wS 28 536870911 1 hE (fun a hE => ?_)
           refine wP 29 1073741823 0 (.bool true) hE (fun a hE => ?_)
           refine doneG (by kernel_rfl) ?_
           have hS := hS.pk (.c 1 rfl (.c 4 rfl (.c 0 rfl (.c 3 rfl (.c 2 rfl .n))))) rfl
           exact ⟨(true, y15120.2.2.2.1), A15126, c15127, q15340, D15346, hE.weak (by kernel_rfl), hS, (le2 (le2 le15335 le15343) le15348), (h15341.mono le15348), hf⟩
         ·replace hf := cond_t hb hf
          have hE := hE.know (t := 132) (b := (!decide (r15328 = ((List.length (y15120.2.2.1) : Nat) : Int)))) (b' := true) rfl hb
          clear hb
          refine wS 13 16383 16 hE (fun a hE => ?_)
          refine wS 14 32767 15 hE (fun a hE => ?_)
          refine wS 15 65535 14 hE (fun a hE => ?_)
          refine wS 16 131071 13 hE (fun a hE => ?_)
          refine wS 17 262143 12 hE (fun a hE => ?_)
          refine wS 18 524287 11 hE (fun a hE => ?_)
          refine wS 19 1048575 10 hE (fun a hE => ?_)
          refine wS 20 2097151 9 hE (fun a hE => ?_)
          refine wP 21 4194303 8 (.bool true) hE (fun a hE => ?_)
          refine wP 22 8388607 7 (.bool true) hE (fun a hE => ?_)
          refine wS 23 16777215 6 hE (fun a hE => ?_)
          refine wS 24 33554431 5 hE (fun a hE => ?_)
          refine wS 25 67108863 4 hE (fun a hE => ?_)
          refine wS 26 134217727 3 hE (fun a hE => ?_)
          refine wS 27 268435455 2 hE (fun a hE => ?_)
          refine wS 28 536870911 1 hE (fun a hE => ?_)
          refine wP 29 1073741823 0 (.bool true) hE (fun a hE => ?_)
          refine doneG (by kernel_rfl) ?_
          have hS := hS.pk (.c 1 rfl (.c 4 rfl (.c 0 rfl (.c 3 rfl (.c 2 rfl .n))))) rfl
          exact ⟨(true, y15120.2.2.2.1), A15126, c15127, q15332, D15330, hE.weak (by kernel_rfl), hS, le15335, h15333, hf⟩
        ·replace hf := cond_t hb hf
         have hE := hE.know (t := 122) (b := (!y15120.1)) (b' := true) rfl hb
         clear hb
         refine wS 3 15 26 hE (fun a hE => ?_)
         refine wS 4 31 25 hE (fun a hE => ?_)
         refine wS 5 63 24 hE (fun a hE => ?_)
         refine wS 6 127 23 hE (fun a hE => ?_)
         refine wS 7 255 22 hE (fun a hE => ?_)
         refine wS 8 511 21 hE (fun a hE => ?_)
         refine wS 9 1023 20 hE (fun a hE => ?_)
         refine wS 10 2047 19 hE (fun a hE => ?_)
         refine wP 11 4095 18 (.bool true) hE (fun a hE => ?_)
         refine wP 12 8191 17 (.bool true) hE (fun a hE => ?_)
         refine wS 13 16383 16 hE (fun a hE => ?_)
         refine wS 14 32767 15 hE (fun a hE => ?_)
         refine wS 15 65535 14 hE (fun a hE => ?_)
         refine wS 16 131071 13 hE (fun a hE => ?_)
         refine wS 17 262143 12 hE (fun a hE => ?_)
         refine wS 18 524287 11 hE (fun a hE => ?_)
         refine wS 19 1048575 10 hE (fun a hE => ?_)
         refine wS 20 2097151 9 hE (fun a hE => ?_)
         refine wP 21 4194303 8 (.bool true) hE (fun a hE => ?_)
         refine wP 22 8388607 7 (.bool true) hE (fun a hE => ?_)
         refine wS 23 16777215 6 hE (fun a hE => ?_)
         refine wS 24 33554431 5 hE (fun a hE => ?_)
         refine wS 25 67108863 4 hE (fun a hE => ?_)
         refine wS 26 134217727 3 hE (fun a hE => ?_)
         refine wS 27 268435455 2 hE (fun a hE => ?_)
         refine wS 28 536870911 1 hE (fun a hE => ?_)
         refine wP 29 1073741823 0 (.bool true) hE (fun a hE => ?_)
         refine doneG (by kernel_rfl) ?_
         have hS := hS.pk (.c 2 rfl (.c 3 rfl (.c 0 rfl (.c 1 rfl (.c 4 rfl .n))))) rfl
         exact ⟨(true, y15120.2.2.2.1), A15126, c15127, q15128, D15121, hE.weak (by kernel_rfl), hS, Snap.le.refl _, h15129, hf⟩
       ·clear hE hS
        rintro a w ⟨y15259, A15262, c15263, q15264, D15260, hE, hS, le15261, h15265, hf⟩
        replace hf := hj15268 _ hf
        clear hj15268
        refine cond_split hE (b := y15259.1) rfl (fun hb => ?_) (fun hb => ?_)
        ·replace hf := cond_t hb hf
         clear hb
         refine wpIn_seq ?_
         refine region_at ?_
         refine sN 1 1 [(4, .bool false)] hE (fun a hE => ?_)
         refine at_end rfl ?_
         refine wpIn_ret ?_
         obtain rfl := Option.some.inj hf
         replace hf := hs14309
         obtain rfl := Option.some.inj hf
         repeat (with_reducible first | refine then_ret ?_ | refine block_ret ?_ | refine qx_ret ?_)
         refine ret_gen ([.bool false]) hE (by rw [show Tryd.f3.results.toList = [.tmp 4] from rfl]; exact ⟨_, _, rfl, rfl, rfl⟩) ?_
         have hS := hS.pk .n rfl
         exact ⟨_, rfl, D15260, rfl, hS⟩
        ·replace hf := cond_f hb hf
         clear hb
         refine wpIn_skip ?_
         refine region_at ?_
         refine sN 3 3 [(14, .int .i64 ((IntKind.wrap .i64 (y13015.1 + (1 : Int)))))] hE (fun a hE => ?_)
         refine at_end rfl ?_
         have hS := hS.pk (.c 2 rfl (.c 3 rfl (.c 0 rfl (.c 1 rfl (.c 4 rfl .n))))) rfl
         exact ⟨((IntKind.wrap .i64 (y13015.1 + (1 : Int))), y15120.2.1, y15120.2.2.1, y15259.2, y15120.2.2.2.2.1, y15120.2.2.2.2.2), A15123, c15124, A15262, c15263, q15264, A15131, c15132, A15134, c15135, b15139, b15140, D15260, hE.weak (by kernel_rfl), hS, (le2 (le2 le13017 le15122) le15261), (h15125.mono le15261), h15265, (h15133.mono le15261), (h15136.mono le15261), hf⟩
     ·replace hf := cond_f hb hf
      clear hb
      refine wpIn_exit ?_
      obtain rfl := Option.some.inj hf
      have hS := hS.pk .n rfl
      exact ⟨(), D13016, hE.weak (by kernel_rfl), hS, le13017, rfl⟩
end Go.Proofs.YthnfokfankaenaaDoor
