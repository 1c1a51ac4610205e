/-
  Proved, text by text: a call of a function of the cut comes to what its plain function computes.
  Conditions: those that each theorem names.
-/
import Derived.Test.YtnnhkfmknlfpbaaProg
import Derived.Test.YtnnhkfmknlfpbaaBuOneDef
set_option linter.unusedVariables false
namespace Go.Proofs.Ytnnhkfmknlfpbaa
open Go Go.Sep

set_option maxRecDepth 100000 in
set_option maxHeartbeats 4000000 in
theorem bundle_within.calls {K : Nat} {g w0 : World} {D0 : Snap} {x1 : Int} {x2 : Int} {x3 : Int} {r : (Bool)} (hf : bundle_within.f K x1 x2 x3 = some r) (hS0 : St g w0 D0 []) :
    CallsIn (Fw none) 0 Try.prog 18 (List.toArray [.int .i64 (x1), .int .i64 (x2), .int .i64 (x3)]) w0 (fun e w' => ∃ v, e = .returned v ∧ ∃ (D1 : Snap), v = .bool (r) ∧ Stp g w0 D0 [] w' D1 []) := by
  unfold bundle_within.f at hf
  have hS := Stp.refl hS0
  clear hS0
  refine calls_body (n := 15) Try.func18 rfl Try.ntmps18 rfl (fun a hE => ?_)
  have hE : Env a 15 [] [(0, .int .i64 (x1)), (1, .int .i64 (x2)), (2, .int .i64 (x3))] := hE
  refine wpIn_seq ?_
  refine region_at ?_
  refine segN 1 (j := 1) [(6, .bool false)] hE (by kernel_rfl) rfl (fun a hE => ?_)
  refine at_end rfl ?_
  refine wpIn_seq ?_
  refine region_at ?_
  refine segN 4 (j := 4) [(10, .bool ((decide (x2 ≤ x1))))] hE (by kernel_rfl) rfl (fun a hE => ?_)
  cases hb : (decide (x2 ≤ x1))
  · replace hf := cond_f hb hf
    have hE := hE.know (t := 10) (b := (decide (x2 ≤ x1))) (b' := false) rfl hb
    clear hb
    refine segN 5 (j := 9) [(6, .bool false)] hE (by kernel_rfl) rfl (fun a hE => ?_)
    refine at_end rfl ?_
    refine wpIn_ret ?_
    obtain rfl := Option.some.inj hf
    repeat (with_reducible first | refine then_ret ?_ | refine block_ret ?_ | refine qx_ret ?_)
    refine ret_gen ([.bool false]) hE (by rw [show Try.f18.results.toList = [.tmp 6] from rfl]; exact ⟨_, _, rfl, rfl, rfl⟩) ?_
    exact ⟨_, rfl, D0, rfl, hS⟩
  · replace hf := cond_t hb hf
    have hE := hE.know (t := 10) (b := (decide (x2 ≤ x1))) (b' := true) rfl hb
    clear hb
    refine segN 5 (j := 9) [(6, .bool ((decide (x1 ≤ x3))))] hE (by kernel_rfl) rfl (fun a hE => ?_)
    refine at_end rfl ?_
    refine wpIn_ret ?_
    obtain rfl := Option.some.inj hf
    repeat (with_reducible first | refine then_ret ?_ | refine block_ret ?_ | refine qx_ret ?_)
    refine ret_gen ([.bool ((decide (x1 ≤ x3)))]) hE (by rw [show Try.f18.results.toList = [.tmp 6] from rfl]; exact ⟨_, _, rfl, rfl, rfl⟩) ?_
    exact ⟨_, rfl, D0, rfl, hS⟩

set_option maxRecDepth 100000 in
set_option maxHeartbeats 4000000 in
theorem bundle_point_1.calls {K : Nat} {g w0 : World} {D0 : Snap} {x1 : T_api_Sig} {r : (Bool)} (hf : bundle_point_1.f K x1 = some r) (hS0 : St g w0 D0 []) :
    CallsIn (Fw none) 0 Try.prog 48 (List.toArray [.agg (List.toArray (c_T_api_Sig (x1)))]) w0 (fun e w' => ∃ v, e = .returned v ∧ ∃ (D1 : Snap), v = .bool (r) ∧ Stp g w0 D0 [] w' D1 []) := by
  unfold bundle_point_1.f at hf
  have hS := Stp.refl hS0
  clear hS0
  refine calls_body (n := 7) Try.func48 rfl Try.ntmps48 rfl (fun a hE => ?_)
  have hE : Env a 7 [] [(0, .agg (List.toArray (c_T_api_Sig (x1))))] := hE
  refine wpIn_seq ?_
  refine region_at ?_
  refine at_op (op_box rfl rfl rfl rfl hE rfl hS rfl (fun a b9 w _ hE hS => ?_)) rfl
  refine segN 1 (j := 2) [(2, .bool false)] hE (by kernel_rfl) rfl (fun a hE => ?_)
  refine at_end rfl ?_
  refine wpIn_seq ?_
  refine region_at ?_
  refine at_op (op_tk hE (g_fieldAddr (fo := 0) (ft := 3) 0 rfl rfl rfl rfl hE rfl rfl (by kernel_rfl) rfl (fun a hE => ?_))) rfl
  refine at_op (op_tk hE (tk_load 0 (.int .i64 (x1.fWit)) rfl rfl rfl rfl hE rfl hS rfl rfl (by kernel_rfl) (kL (j := 0) hS rfl List.not_mem_nil) (fun a hE => ?_))) rfl
  obtain ⟨r11, h12, hf⟩ := bind_some hf
  refine at_op (op_call rfl rfl rfl rfl hE rfl rfl rfl rfl (by kernel_rfl) (bundle_within.calls (g := g) h12 (hS.st.fore (L := [])) ) (fun a v w hR hE => ?_)) rfl
  obtain ⟨D13, rfl, hS1⟩ := hR
  have le15 := hS1.dle
  have hS := hS.callR hS1 rfl .n
  clear hS1
  refine segN 2 (j := 5) [(2, .bool ((!r11)))] hE (by kernel_rfl) rfl (fun a hE => ?_)
  refine at_end rfl ?_
  refine wpIn_ret ?_
  obtain rfl := Option.some.inj hf
  repeat (with_reducible first | refine then_ret ?_ | refine block_ret ?_ | refine qx_ret ?_)
  refine ret_gen ([.bool ((!r11))]) hE (by rw [show Try.f48.results.toList = [.tmp 2] from rfl]; exact ⟨_, _, rfl, rfl, rfl⟩) ?_
  have hS := hS.pk .n rfl
  exact ⟨_, rfl, D13, rfl, hS⟩

set_option maxRecDepth 100000 in
set_option maxHeartbeats 4000000 in
theorem slices_IndexFunc_api_Sig_api_Sig.calls {K : Nat} {g w0 : World} {D0 : Snap} {x1 : (List T_api_Sig)} {A2 : Option Addr} {c3 : Nat} {r : (Int)} (hf : slices_IndexFunc_api_Sig_api_Sig.f K x1 = some r) (hS0 : St g w0 D0 []) (h4 : Sl kd_T_api_Sig D0 A2 c3 (x1)) :
    CallsIn (Fw none) 0 Try.prog 72 (List.toArray [.slice A2 (List.length (x1)) c3, .func (.func 48) #[] #[]]) w0 (fun e w' => ∃ v, e = .returned v ∧ ∃ (D1 : Snap), v = .int .i64 (r) ∧ Stp g w0 D0 [] w' D1 []) := by
  unfold slices_IndexFunc_api_Sig_api_Sig.f at hf
  have hS := Stp.refl hS0
  clear hS0
  refine calls_body (n := 19) Try.func72 rfl Try.ntmps72 rfl (fun a hE => ?_)
  have hE : Env a 19 [] [(0, .slice A2 (List.length (x1)) c3), (1, .func (.func 48) #[] #[])] := hE
  refine wpIn_seq ?_
  refine region_at ?_
  refine segN 1 (j := 1) [(4, .int .i64 ((0 : Int)))] hE (by kernel_rfl) rfl (fun a hE => ?_)
  refine at_end rfl ?_
  refine wpIn_seq ?_
  refine wpIn_seq ?_
  refine region_at ?_
  refine segN 3 (j := 3) [(7, .int .i64 (((List.length (x1) : Nat) : Int))), (8, .int .i64 ((0 : Int)))] hE (by kernel_rfl) rfl (fun a hE => ?_)
  refine at_end rfl ?_
  obtain ⟨s466, hf, hs467⟩ := bind_some hf
  refine block_loop (fun a w => ∃ (z463 : Unit), ∃ (D464 : Snap), Env a 19 [] [] ∧ Stp g w0 D0 [] w D464 [] ∧ Snap.le D0 D464 ∧ (Sum.inr z463) = s466) (fun k a w => ∃ (y423 : Int), ∃ (D424 : Snap), Env a 19 [] [(0, .slice A2 (List.length (x1)) c3), (1, .func (.func 48) #[] #[]), (7, .int .i64 (((List.length (x1) : Nat) : Int))), (8, .int .i64 (y423))] ∧ Stp g w0 D0 [] w D424 [] ∧ Snap.le D0 D424 ∧ slices_IndexFunc_api_Sig_api_Sig_l1.l K x1 k y423 = some s466) K ?_ ?_ ?_
  · exact ⟨(0 : Int), D0, hE.weak (by kernel_rfl), hS, Snap.le.refl _, hf⟩
  · clear hE hS hf
    rintro a w ⟨z463, D464, hE, hS, le465, rfl⟩
    have hf := hs467
    clear hs467
    refine wpIn_seq ?_
    refine region_at ?_
    refine segN 1 (j := 1) [(4, .int .i64 ((-1 : Int)))] hE (by kernel_rfl) rfl (fun a hE => ?_)
    refine at_end rfl ?_
    refine wpIn_ret ?_
    obtain rfl := Option.some.inj hf
    repeat (with_reducible first | refine then_ret ?_ | refine block_ret ?_ | refine qx_ret ?_)
    refine ret_gen ([.int .i64 ((-1 : Int))]) hE (by rw [show Try.f72.results.toList = [.tmp 4] from rfl]; exact ⟨_, _, rfl, rfl, rfl⟩) ?_
    exact ⟨_, rfl, D464, rfl, hS⟩
  · clear hE hS hf
    rintro k a w ⟨y423, D424, hE, hS, le425, hf⟩
    obtain ⟨k, rfl, hf⟩ := slices_IndexFunc_api_Sig_api_Sig_l1.some _ hf
    refine ⟨k, rfl, ?_⟩
    unfold slices_IndexFunc_api_Sig_api_Sig_l1.b at hf
    refine wpIn_seq ?_
    refine region_at ?_
    refine segN 1 (j := 1) [(9, .bool ((decide (y423 < ((List.length (x1) : Nat) : Int)))))] hE (by kernel_rfl) rfl (fun a hE => ?_)
    refine at_end rfl ?_
    refine wpIn_seq ?_
    refine cond_split hE (b := (decide (y423 < ((List.length (x1) : Nat) : Int)))) rfl (fun hb => ?_) (fun hb => ?_)
    · replace hf := cond_t hb hf
      clear hb
      refine wpIn_skip ?_
      refine wpIn_seq ?_
      refine wpIn_block ?_
      refine wpIn_seq ?_
      refine region_at ?_
      refine segN 2 (j := 2) [(5, .int .i64 (y423))] hE (by kernel_rfl) rfl (fun a hE => ?_)
      refine at_end rfl ?_
      refine wpIn_seq ?_
      refine region_at ?_
      refine segN 3 (j := 3) [(11, .func (.func 48) #[] #[]), (12, .slice A2 (List.length (x1)) c3), (13, .int .i64 (y423))] hE (by kernel_rfl) rfl (fun a hE => ?_)
      obtain ⟨x485, h486, hf⟩ := bind_some hf
      refine at_op (op_tk hE (g_index (K := kd_T_api_Sig) (e := 43) (by_ := 40) (zl := 33) rfl rfl rfl rfl hE rfl rfl rfl (by kernel_rfl) rfl (h4.mono le425) h486 (fun a b487 o488 hE h489 => ?_))) rfl
      obtain ⟨cs490, C491, T492, fr493, hr494, hb495, hc496⟩ := h489
      obtain ⟨rfl⟩ := kd_T_api_Sig_el hr494
      refine at_op (op_tk hE (tk_loadX (off0 := o488) (off := 0) (c := c_T_api_Sig (x485)) (.agg (List.toArray (c_T_api_Sig (x485)))) rfl rfl rfl rfl hE rfl hS rfl hb495 hc496 (by kernel_rfl) (by kernel_rfl) (kD hS dn_nil) (fun a hE => ?_))) rfl
      obtain ⟨r497, h498, hf⟩ := bind_some hf
      refine at_op (op_call rfl rfl rfl rfl hE rfl rfl rfl rfl (by kernel_rfl) (bundle_point_1.calls (g := g) h498 (hS.st.fore (L := [])) ) (fun a v w hR hE => ?_)) rfl
      obtain ⟨D499, rfl, hS1⟩ := hR
      have le501 := hS1.dle
      have hS := hS.callR hS1 rfl .n
      clear hS1
      refine at_end rfl ?_
      refine cond_split hE (b := r497) rfl (fun hb => ?_) (fun hb => ?_)
      · replace hf := cond_t hb hf
        clear hb
        refine wpIn_seq ?_
        refine region_at ?_
        refine segN 2 (j := 2) [(4, .int .i64 (y423))] hE (by kernel_rfl) rfl (fun a hE => ?_)
        refine at_end rfl ?_
        refine wpIn_ret ?_
        obtain rfl := Option.some.inj hf
        replace hf := hs467
        obtain rfl := Option.some.inj hf
        repeat (with_reducible first | refine then_ret ?_ | refine block_ret ?_ | refine qx_ret ?_)
        refine ret_gen ([.int .i64 (y423)]) hE (by rw [show Try.f72.results.toList = [.tmp 4] from rfl]; exact ⟨_, _, rfl, rfl, rfl⟩) ?_
        exact ⟨_, rfl, D499, rfl, hS⟩
      · replace hf := cond_f hb hf
        clear hb
        refine wpIn_skip ?_
        refine region_at ?_
        refine segN 2 (j := 2) [(8, .int .i64 ((IntKind.wrap .i64 (y423 + (1 : Int)))))] hE (by kernel_rfl) rfl (fun a hE => ?_)
        refine at_end rfl ?_
        exact ⟨(IntKind.wrap .i64 (y423 + (1 : Int))), D499, hE.weak (by kernel_rfl), hS, (Snap.le.trans le425 le501), hf⟩
    · replace hf := cond_f hb hf
      clear hb
      refine wpIn_exit ?_
      obtain rfl := Option.some.inj hf
      exact ⟨(), D424, hE.weak (by kernel_rfl), hS, le425, rfl⟩

set_option maxRecDepth 100000 in
set_option maxHeartbeats 4000000 in
theorem slices_ContainsFunc_api_Sig_api_Sig.calls {K : Nat} {g w0 : World} {D0 : Snap} {x1 : (List T_api_Sig)} {A2 : Option Addr} {c3 : Nat} {r : (Bool)} (hf : slices_ContainsFunc_api_Sig_api_Sig.f K x1 = some r) (hS0 : St g w0 D0 []) (h4 : Sl kd_T_api_Sig D0 A2 c3 (x1)) :
    CallsIn (Fw none) 0 Try.prog 49 (List.toArray [.slice A2 (List.length (x1)) c3, .func (.func 48) #[] #[]]) w0 (fun e w' => ∃ v, e = .returned v ∧ ∃ (D1 : Snap), v = .bool (r) ∧ Stp g w0 D0 [] w' D1 []) := by
  unfold slices_ContainsFunc_api_Sig_api_Sig.f at hf
  have hS := Stp.refl hS0
  clear hS0
  refine calls_body (n := 9) Try.func49 rfl Try.ntmps49 rfl (fun a hE => ?_)
  have hE : Env a 9 [] [(0, .slice A2 (List.length (x1)) c3), (1, .func (.func 48) #[] #[])] := hE
  refine wpIn_seq ?_
  refine region_at ?_
  refine segN 1 (j := 1) [(4, .bool false)] hE (by kernel_rfl) rfl (fun a hE => ?_)
  refine at_end rfl ?_
  refine wpIn_seq ?_
  refine region_at ?_
  refine segN 2 (j := 2) [(5, .slice A2 (List.length (x1)) c3), (6, .func (.func 48) #[] #[])] hE (by kernel_rfl) rfl (fun a hE => ?_)
  obtain ⟨r10, h11, hf⟩ := bind_some hf
  refine at_op (op_call rfl rfl rfl rfl hE rfl rfl rfl rfl (by kernel_rfl) (slices_IndexFunc_api_Sig_api_Sig.calls (g := g) h11 (hS.st.fore (L := [])) h4) (fun a v w hR hE => ?_)) rfl
  obtain ⟨D12, rfl, hS1⟩ := hR
  have le14 := hS1.dle
  have hS := hS.callR hS1 rfl .n
  clear hS1
  refine segN 2 (j := 5) [(4, .bool ((decide ((0 : Int) ≤ r10))))] hE (by kernel_rfl) rfl (fun a hE => ?_)
  refine at_end rfl ?_
  refine wpIn_ret ?_
  obtain rfl := Option.some.inj hf
  repeat (with_reducible first | refine then_ret ?_ | refine block_ret ?_ | refine qx_ret ?_)
  refine ret_gen ([.bool ((decide ((0 : Int) ≤ r10)))]) hE (by rw [show Try.f49.results.toList = [.tmp 4] from rfl]; exact ⟨_, _, rfl, rfl, rfl⟩) ?_
  exact ⟨_, rfl, D12, rfl, hS⟩

set_option maxRecDepth 100000 in
set_option maxHeartbeats 4000000 in
theorem bundle_point.calls {K : Nat} {g w0 : World} {D0 : Snap} {x1 : T_api_Point} {A2 : Option Addr} {c3 : Nat} {r : (Bool)} (hf : bundle_point.f K x1 = some r) (hS0 : St g w0 D0 []) (h4 : Sl kd_T_api_Sig D0 A2 c3 (x1.fSigs)) :
    CallsIn (Fw none) 0 Try.prog 16 (List.toArray [.agg (List.toArray (c_T_api_Point (x1) A2 c3))]) w0 (fun e w' => ∃ v, e = .returned v ∧ ∃ (D1 : Snap), v = .bool (r) ∧ Stp g w0 D0 [] w' D1 []) := by
  unfold bundle_point.f at hf
  have hS := Stp.refl hS0
  clear hS0
  refine calls_body (n := 20) Try.func16 rfl Try.ntmps16 rfl (fun a hE => ?_)
  have hE : Env a 20 [] [(0, .agg (List.toArray (c_T_api_Point (x1) A2 c3)))] := hE
  refine wpIn_seq ?_
  refine region_at ?_
  refine at_op (op_box rfl rfl rfl rfl hE rfl hS rfl (fun a b27 w _ hE hS => ?_)) rfl
  refine segN 1 (j := 2) [(2, .bool false)] hE (by kernel_rfl) rfl (fun a hE => ?_)
  refine at_end rfl ?_
  refine wpIn_seq ?_
  refine region_at ?_
  refine segN 1 (j := 1) [(3, .func (.func 48) #[] #[])] hE (by kernel_rfl) rfl (fun a hE => ?_)
  refine at_end rfl ?_
  refine wpIn_seq ?_
  refine region_at ?_
  refine at_op (op_tk hE (g_fieldAddr (fo := 0) (ft := 3) 0 rfl rfl rfl rfl hE rfl rfl (by kernel_rfl) rfl (fun a hE => ?_))) rfl
  refine at_op (op_tk hE (tk_load 0 (.int .i64 (x1.fSize)) rfl rfl rfl rfl hE rfl hS rfl rfl (by kernel_rfl) (kL (j := 0) hS rfl List.not_mem_nil) (fun a hE => ?_))) rfl
  obtain ⟨r39, h40, hf⟩ := bind_some hf
  refine at_op (op_call rfl rfl rfl rfl hE rfl rfl rfl rfl (by kernel_rfl) (bundle_within.calls (g := g) h40 (hS.st.fore (L := [])) ) (fun a v w hR hE => ?_)) rfl
  obtain ⟨D41, rfl, hS1⟩ := hR
  have le43 := hS1.dle
  have hS := hS.callR hS1 rfl .n
  clear hS1
  refine segN 1 (j := 4) [(7, .bool (r39))] hE (by kernel_rfl) rfl (fun a hE => ?_)
  cases hb : r39
  · replace hf := cond_f hb hf
    have hE := hE.know (t := 7) (b := r39) (b' := false) rfl hb
    clear hb
    refine segN 13 (j := 17) [(2, .bool false)] hE (by kernel_rfl) rfl (fun a hE => ?_)
    refine at_end rfl ?_
    refine wpIn_ret ?_
    obtain rfl := Option.some.inj hf
    repeat (with_reducible first | refine then_ret ?_ | refine block_ret ?_ | refine qx_ret ?_)
    refine ret_gen ([.bool false]) hE (by rw [show Try.f16.results.toList = [.tmp 2] from rfl]; exact ⟨_, _, rfl, rfl, rfl⟩) ?_
    have hS := hS.pk .n rfl
    exact ⟨_, rfl, D41, rfl, hS⟩
  · replace hf := cond_t hb hf
    have hE := hE.know (t := 7) (b := r39) (b' := true) rfl hb
    clear hb
    refine at_op (op_tk hE (g_fieldAddr (fo := 33) (ft := 24) 33 rfl rfl rfl rfl hE rfl rfl (by kernel_rfl) rfl (fun a hE => ?_))) rfl
    refine at_op (op_tk hE (tk_load 0 (.slice A2 (List.length (x1.fSigs)) c3) rfl rfl rfl rfl hE rfl hS rfl rfl (by kernel_rfl) (kL (j := 0) hS rfl List.not_mem_nil) (fun a hE => ?_))) rfl
    refine segN 4 (j := 10) [(13, .bool ((decide (((List.length (x1.fSigs) : Nat) : Int) ≤ (4 : Int)))))] hE (by kernel_rfl) rfl (fun a hE => ?_)
    cases hb : (decide (((List.length (x1.fSigs) : Nat) : Int) ≤ (4 : Int)))
    · replace hf := cond_f hb hf
      have hE := hE.know (t := 13) (b := (decide (((List.length (x1.fSigs) : Nat) : Int) ≤ (4 : Int)))) (b' := false) rfl hb
      clear hb
      refine segN 7 (j := 17) [(2, .bool false)] hE (by kernel_rfl) rfl (fun a hE => ?_)
      refine at_end rfl ?_
      refine wpIn_ret ?_
      obtain rfl := Option.some.inj hf
      repeat (with_reducible first | refine then_ret ?_ | refine block_ret ?_ | refine qx_ret ?_)
      refine ret_gen ([.bool false]) hE (by rw [show Try.f16.results.toList = [.tmp 2] from rfl]; exact ⟨_, _, rfl, rfl, rfl⟩) ?_
      have hS := hS.pk .n rfl
      exact ⟨_, rfl, D41, rfl, hS⟩
    · replace hf := cond_t hb hf
      have hE := hE.know (t := 13) (b := (decide (((List.length (x1.fSigs) : Nat) : Int) ≤ (4 : Int)))) (b' := true) rfl hb
      clear hb
      refine at_op (op_tk hE (g_fieldAddr (fo := 33) (ft := 24) 33 rfl rfl rfl rfl hE rfl rfl (by kernel_rfl) rfl (fun a hE => ?_))) rfl
      refine at_op (op_tk hE (tk_load 0 (.slice A2 (List.length (x1.fSigs)) c3) rfl rfl rfl rfl hE rfl hS rfl rfl (by kernel_rfl) (kL (j := 0) hS rfl List.not_mem_nil) (fun a hE => ?_))) rfl
      refine segN 1 (j := 13) [(16, .func (.func 48) #[] #[])] hE (by kernel_rfl) rfl (fun a hE => ?_)
      obtain ⟨r44, h45, hf⟩ := bind_some hf
      refine at_op (op_call rfl rfl rfl rfl hE rfl rfl rfl rfl (by kernel_rfl) (slices_ContainsFunc_api_Sig_api_Sig.calls (g := g) h45 (hS.st.fore (L := [])) (h4.mono le43)) (fun a v w hR hE => ?_)) rfl
      obtain ⟨D46, rfl, hS1⟩ := hR
      have le48 := hS1.dle
      have hS := hS.callR hS1 rfl .n
      clear hS1
      refine segN 3 (j := 17) [(2, .bool ((!r44)))] hE (by kernel_rfl) rfl (fun a hE => ?_)
      refine at_end rfl ?_
      refine wpIn_ret ?_
      obtain rfl := Option.some.inj hf
      repeat (with_reducible first | refine then_ret ?_ | refine block_ret ?_ | refine qx_ret ?_)
      refine ret_gen ([.bool ((!r44))]) hE (by rw [show Try.f16.results.toList = [.tmp 2] from rfl]; exact ⟨_, _, rfl, rfl, rfl⟩) ?_
      have hS := hS.pk .n rfl
      exact ⟨_, rfl, D46, rfl, hS⟩

set_option maxRecDepth 100000 in
set_option maxHeartbeats 4000000 in
theorem rec_within.calls {K : Nat} {g w0 : World} {D0 : Snap} {x1 : Int} {x2 : Int} {x3 : Int} {r : (Bool)} (hf : rec_within.f K x1 x2 x3 = some r) (hS0 : St g w0 D0 []) :
    CallsIn (Fw none) 0 Try.prog 73 (List.toArray [.int .i64 (x1), .int .i64 (x2), .int .i64 (x3)]) w0 (fun e w' => ∃ v, e = .returned v ∧ ∃ (D1 : Snap), v = .bool (r) ∧ Stp g w0 D0 [] w' D1 []) := by
  unfold rec_within.f at hf
  have hS := Stp.refl hS0
  clear hS0
  refine calls_body (n := 15) Try.func73 rfl Try.ntmps73 rfl (fun a hE => ?_)
  have hE : Env a 15 [] [(0, .int .i64 (x1)), (1, .int .i64 (x2)), (2, .int .i64 (x3))] := hE
  refine wpIn_seq ?_
  refine region_at ?_
  refine segN 1 (j := 1) [(6, .bool false)] hE (by kernel_rfl) rfl (fun a hE => ?_)
  refine at_end rfl ?_
  refine wpIn_seq ?_
  refine region_at ?_
  refine segN 4 (j := 4) [(10, .bool ((decide (x2 ≤ x1))))] hE (by kernel_rfl) rfl (fun a hE => ?_)
  cases hb : (decide (x2 ≤ x1))
  · replace hf := cond_f hb hf
    have hE := hE.know (t := 10) (b := (decide (x2 ≤ x1))) (b' := false) rfl hb
    clear hb
    refine segN 5 (j := 9) [(6, .bool false)] hE (by kernel_rfl) rfl (fun a hE => ?_)
    refine at_end rfl ?_
    refine wpIn_ret ?_
    obtain rfl := Option.some.inj hf
    repeat (with_reducible first | refine then_ret ?_ | refine block_ret ?_ | refine qx_ret ?_)
    refine ret_gen ([.bool false]) hE (by rw [show Try.f73.results.toList = [.tmp 6] from rfl]; exact ⟨_, _, rfl, rfl, rfl⟩) ?_
    exact ⟨_, rfl, D0, rfl, hS⟩
  · replace hf := cond_t hb hf
    have hE := hE.know (t := 10) (b := (decide (x2 ≤ x1))) (b' := true) rfl hb
    clear hb
    refine segN 5 (j := 9) [(6, .bool ((decide (x1 ≤ x3))))] hE (by kernel_rfl) rfl (fun a hE => ?_)
    refine at_end rfl ?_
    refine wpIn_ret ?_
    obtain rfl := Option.some.inj hf
    repeat (with_reducible first | refine then_ret ?_ | refine block_ret ?_ | refine qx_ret ?_)
    refine ret_gen ([.bool ((decide (x1 ≤ x3)))]) hE (by rw [show Try.f73.results.toList = [.tmp 6] from rfl]; exact ⟨_, _, rfl, rfl, rfl⟩) ?_
    exact ⟨_, rfl, D0, rfl, hS⟩

set_option maxRecDepth 100000 in
set_option maxHeartbeats 4000000 in
theorem rec_ranges_1.calls {K : Nat} {g w0 : World} {D0 : Snap} {x1 : T_api_Step} {r : (Bool)} (hf : rec_ranges_1.f K x1 = some r) (hS0 : St g w0 D0 []) :
    CallsIn (Fw none) 0 Try.prog 74 (List.toArray [.agg (List.toArray (c_T_api_Step (x1)))]) w0 (fun e w' => ∃ v, e = .returned v ∧ ∃ (D1 : Snap), v = .bool (r) ∧ Stp g w0 D0 [] w' D1 []) := by
  unfold rec_ranges_1.f at hf
  have hS := Stp.refl hS0
  clear hS0
  refine calls_body (n := 13) Try.func74 rfl Try.ntmps74 rfl (fun a hE => ?_)
  have hE : Env a 13 [] [(0, .agg (List.toArray (c_T_api_Step (x1))))] := hE
  refine wpIn_seq ?_
  refine region_at ?_
  refine at_op (op_box rfl rfl rfl rfl hE rfl hS rfl (fun a b24 w _ hE hS => ?_)) rfl
  refine segN 1 (j := 2) [(2, .bool false)] hE (by kernel_rfl) rfl (fun a hE => ?_)
  refine at_end rfl ?_
  refine wpIn_seq ?_
  refine region_at ?_
  refine at_op (op_tk hE (g_fieldAddr (fo := 0) (ft := 3) 0 rfl rfl rfl rfl hE rfl rfl (by kernel_rfl) rfl (fun a hE => ?_))) rfl
  refine at_op (op_tk hE (tk_load 0 (.int .i64 (x1.fPart)) rfl rfl rfl rfl hE rfl hS rfl rfl (by kernel_rfl) (kL (j := 0) hS rfl List.not_mem_nil) (fun a hE => ?_))) rfl
  obtain ⟨r36, h37, hf⟩ := bind_some hf
  refine at_op (op_call rfl rfl rfl rfl hE rfl rfl rfl rfl (by kernel_rfl) (rec_within.calls (g := g) h37 (hS.st.fore (L := [])) ) (fun a v w hR hE => ?_)) rfl
  obtain ⟨D38, rfl, hS1⟩ := hR
  have le40 := hS1.dle
  have hS := hS.callR hS1 rfl .n
  clear hS1
  refine segN 2 (j := 5) [(7, .bool ((!r36)))] hE (by kernel_rfl) rfl (fun a hE => ?_)
  cases hb : (!r36)
  · replace hf := cond_f hb hf
    have hE := hE.know (t := 7) (b := (!r36)) (b' := false) rfl hb
    clear hb
    refine at_op (op_tk hE (g_fieldAddr (fo := 1) (ft := 3) 1 rfl rfl rfl rfl hE rfl rfl (by kernel_rfl) rfl (fun a hE => ?_))) rfl
    refine at_op (op_tk hE (tk_load 0 (.int .i64 (x1.fKind)) rfl rfl rfl rfl hE rfl hS rfl rfl (by kernel_rfl) (kL (j := 0) hS rfl List.not_mem_nil) (fun a hE => ?_))) rfl
    obtain ⟨r41, h42, hf⟩ := bind_some hf
    refine at_op (op_call rfl rfl rfl rfl hE rfl rfl rfl rfl (by kernel_rfl) (rec_within.calls (g := g) h42 (hS.st.fore (L := [])) ) (fun a v w hR hE => ?_)) rfl
    obtain ⟨D43, rfl, hS1⟩ := hR
    have le45 := hS1.dle
    have hS := hS.callR hS1 rfl .n
    clear hS1
    refine segN 3 (j := 11) [(2, .bool ((!r41)))] hE (by kernel_rfl) rfl (fun a hE => ?_)
    refine at_end rfl ?_
    refine wpIn_ret ?_
    obtain rfl := Option.some.inj hf
    repeat (with_reducible first | refine then_ret ?_ | refine block_ret ?_ | refine qx_ret ?_)
    refine ret_gen ([.bool ((!r41))]) hE (by rw [show Try.f74.results.toList = [.tmp 2] from rfl]; exact ⟨_, _, rfl, rfl, rfl⟩) ?_
    have hS := hS.pk .n rfl
    exact ⟨_, rfl, D43, rfl, hS⟩
  · replace hf := cond_t hb hf
    have hE := hE.know (t := 7) (b := (!r36)) (b' := true) rfl hb
    clear hb
    refine segN 6 (j := 11) [(2, .bool true)] hE (by kernel_rfl) rfl (fun a hE => ?_)
    refine at_end rfl ?_
    refine wpIn_ret ?_
    obtain rfl := Option.some.inj hf
    repeat (with_reducible first | refine then_ret ?_ | refine block_ret ?_ | refine qx_ret ?_)
    refine ret_gen ([.bool true]) hE (by rw [show Try.f74.results.toList = [.tmp 2] from rfl]; exact ⟨_, _, rfl, rfl, rfl⟩) ?_
    have hS := hS.pk .n rfl
    exact ⟨_, rfl, D38, rfl, hS⟩

set_option maxRecDepth 100000 in
set_option maxHeartbeats 4000000 in
theorem slices_IndexFunc_api_Step_api_Step.calls {K : Nat} {g w0 : World} {D0 : Snap} {x1 : (List T_api_Step)} {A2 : Option Addr} {c3 : Nat} {r : (Int)} (hf : slices_IndexFunc_api_Step_api_Step.f K x1 = some r) (hS0 : St g w0 D0 []) (h4 : Sl kd_T_api_Step D0 A2 c3 (x1)) :
    CallsIn (Fw none) 0 Try.prog 80 (List.toArray [.slice A2 (List.length (x1)) c3, .func (.func 74) #[] #[]]) w0 (fun e w' => ∃ v, e = .returned v ∧ ∃ (D1 : Snap), v = .int .i64 (r) ∧ Stp g w0 D0 [] w' D1 []) := by
  unfold slices_IndexFunc_api_Step_api_Step.f at hf
  have hS := Stp.refl hS0
  clear hS0
  refine calls_body (n := 19) Try.func80 rfl Try.ntmps80 rfl (fun a hE => ?_)
  have hE : Env a 19 [] [(0, .slice A2 (List.length (x1)) c3), (1, .func (.func 74) #[] #[])] := hE
  refine wpIn_seq ?_
  refine region_at ?_
  refine segN 1 (j := 1) [(4, .int .i64 ((0 : Int)))] hE (by kernel_rfl) rfl (fun a hE => ?_)
  refine at_end rfl ?_
  refine wpIn_seq ?_
  refine wpIn_seq ?_
  refine region_at ?_
  refine segN 3 (j := 3) [(7, .int .i64 (((List.length (x1) : Nat) : Int))), (8, .int .i64 ((0 : Int)))] hE (by kernel_rfl) rfl (fun a hE => ?_)
  refine at_end rfl ?_
  obtain ⟨s466, hf, hs467⟩ := bind_some hf
  refine block_loop (fun a w => ∃ (z463 : Unit), ∃ (D464 : Snap), Env a 19 [] [] ∧ Stp g w0 D0 [] w D464 [] ∧ Snap.le D0 D464 ∧ (Sum.inr z463) = s466) (fun k a w => ∃ (y423 : Int), ∃ (D424 : Snap), Env a 19 [] [(0, .slice A2 (List.length (x1)) c3), (1, .func (.func 74) #[] #[]), (7, .int .i64 (((List.length (x1) : Nat) : Int))), (8, .int .i64 (y423))] ∧ Stp g w0 D0 [] w D424 [] ∧ Snap.le D0 D424 ∧ slices_IndexFunc_api_Step_api_Step_l1.l K x1 k y423 = some s466) K ?_ ?_ ?_
  · exact ⟨(0 : Int), D0, hE.weak (by kernel_rfl), hS, Snap.le.refl _, hf⟩
  · clear hE hS hf
    rintro a w ⟨z463, D464, hE, hS, le465, rfl⟩
    have hf := hs467
    clear hs467
    refine wpIn_seq ?_
    refine region_at ?_
    refine segN 1 (j := 1) [(4, .int .i64 ((-1 : Int)))] hE (by kernel_rfl) rfl (fun a hE => ?_)
    refine at_end rfl ?_
    refine wpIn_ret ?_
    obtain rfl := Option.some.inj hf
    repeat (with_reducible first | refine then_ret ?_ | refine block_ret ?_ | refine qx_ret ?_)
    refine ret_gen ([.int .i64 ((-1 : Int))]) hE (by rw [show Try.f80.results.toList = [.tmp 4] from rfl]; exact ⟨_, _, rfl, rfl, rfl⟩) ?_
    exact ⟨_, rfl, D464, rfl, hS⟩
  · clear hE hS hf
    rintro k a w ⟨y423, D424, hE, hS, le425, hf⟩
    obtain ⟨k, rfl, hf⟩ := slices_IndexFunc_api_Step_api_Step_l1.some _ hf
    refine ⟨k, rfl, ?_⟩
    unfold slices_IndexFunc_api_Step_api_Step_l1.b at hf
    refine wpIn_seq ?_
    refine region_at ?_
    refine segN 1 (j := 1) [(9, .bool ((decide (y423 < ((List.length (x1) : Nat) : Int)))))] hE (by kernel_rfl) rfl (fun a hE => ?_)
    refine at_end rfl ?_
    refine wpIn_seq ?_
    refine cond_split hE (b := (decide (y423 < ((List.length (x1) : Nat) : Int)))) rfl (fun hb => ?_) (fun hb => ?_)
    · replace hf := cond_t hb hf
      clear hb
      refine wpIn_skip ?_
      refine wpIn_seq ?_
      refine wpIn_block ?_
      refine wpIn_seq ?_
      refine region_at ?_
      refine segN 2 (j := 2) [(5, .int .i64 (y423))] hE (by kernel_rfl) rfl (fun a hE => ?_)
      refine at_end rfl ?_
      refine wpIn_seq ?_
      refine region_at ?_
      refine segN 3 (j := 3) [(11, .func (.func 74) #[] #[]), (12, .slice A2 (List.length (x1)) c3), (13, .int .i64 (y423))] hE (by kernel_rfl) rfl (fun a hE => ?_)
      obtain ⟨x485, h486, hf⟩ := bind_some hf
      refine at_op (op_tk hE (g_index (K := kd_T_api_Step) (e := 104) (by_ := 16) (zl := 2) rfl rfl rfl rfl hE rfl rfl rfl (by kernel_rfl) rfl (h4.mono le425) h486 (fun a b487 o488 hE h489 => ?_))) rfl
      obtain ⟨cs490, C491, T492, fr493, hr494, hb495, hc496⟩ := h489
      obtain ⟨rfl⟩ := kd_T_api_Step_el hr494
      refine at_op (op_tk hE (tk_loadX (off0 := o488) (off := 0) (c := c_T_api_Step (x485)) (.agg (List.toArray (c_T_api_Step (x485)))) rfl rfl rfl rfl hE rfl hS rfl hb495 hc496 (by kernel_rfl) (by kernel_rfl) (kD hS dn_nil) (fun a hE => ?_))) rfl
      obtain ⟨r497, h498, hf⟩ := bind_some hf
      refine at_op (op_call rfl rfl rfl rfl hE rfl rfl rfl rfl (by kernel_rfl) (rec_ranges_1.calls (g := g) h498 (hS.st.fore (L := [])) ) (fun a v w hR hE => ?_)) rfl
      obtain ⟨D499, rfl, hS1⟩ := hR
      have le501 := hS1.dle
      have hS := hS.callR hS1 rfl .n
      clear hS1
      refine at_end rfl ?_
      refine cond_split hE (b := r497) rfl (fun hb => ?_) (fun hb => ?_)
      · replace hf := cond_t hb hf
        clear hb
        refine wpIn_seq ?_
        refine region_at ?_
        refine segN 2 (j := 2) [(4, .int .i64 (y423))] hE (by kernel_rfl) rfl (fun a hE => ?_)
        refine at_end rfl ?_
        refine wpIn_ret ?_
        obtain rfl := Option.some.inj hf
        replace hf := hs467
        obtain rfl := Option.some.inj hf
        repeat (with_reducible first | refine then_ret ?_ | refine block_ret ?_ | refine qx_ret ?_)
        refine ret_gen ([.int .i64 (y423)]) hE (by rw [show Try.f80.results.toList = [.tmp 4] from rfl]; exact ⟨_, _, rfl, rfl, rfl⟩) ?_
        exact ⟨_, rfl, D499, rfl, hS⟩
      · replace hf := cond_f hb hf
        clear hb
        refine wpIn_skip ?_
        refine region_at ?_
        refine segN 2 (j := 2) [(8, .int .i64 ((IntKind.wrap .i64 (y423 + (1 : Int)))))] hE (by kernel_rfl) rfl (fun a hE => ?_)
        refine at_end rfl ?_
        exact ⟨(IntKind.wrap .i64 (y423 + (1 : Int))), D499, hE.weak (by kernel_rfl), hS, (Snap.le.trans le425 le501), hf⟩
    · replace hf := cond_f hb hf
      clear hb
      refine wpIn_exit ?_
      obtain rfl := Option.some.inj hf
      exact ⟨(), D424, hE.weak (by kernel_rfl), hS, le425, rfl⟩

set_option maxRecDepth 100000 in
set_option maxHeartbeats 4000000 in
theorem slices_ContainsFunc_api_Step_api_Step.calls {K : Nat} {g w0 : World} {D0 : Snap} {x1 : (List T_api_Step)} {A2 : Option Addr} {c3 : Nat} {r : (Bool)} (hf : slices_ContainsFunc_api_Step_api_Step.f K x1 = some r) (hS0 : St g w0 D0 []) (h4 : Sl kd_T_api_Step D0 A2 c3 (x1)) :
    CallsIn (Fw none) 0 Try.prog 75 (List.toArray [.slice A2 (List.length (x1)) c3, .func (.func 74) #[] #[]]) w0 (fun e w' => ∃ v, e = .returned v ∧ ∃ (D1 : Snap), v = .bool (r) ∧ Stp g w0 D0 [] w' D1 []) := by
  unfold slices_ContainsFunc_api_Step_api_Step.f at hf
  have hS := Stp.refl hS0
  clear hS0
  refine calls_body (n := 9) Try.func75 rfl Try.ntmps75 rfl (fun a hE => ?_)
  have hE : Env a 9 [] [(0, .slice A2 (List.length (x1)) c3), (1, .func (.func 74) #[] #[])] := hE
  refine wpIn_seq ?_
  refine region_at ?_
  refine segN 1 (j := 1) [(4, .bool false)] hE (by kernel_rfl) rfl (fun a hE => ?_)
  refine at_end rfl ?_
  refine wpIn_seq ?_
  refine region_at ?_
  refine segN 2 (j := 2) [(5, .slice A2 (List.length (x1)) c3), (6, .func (.func 74) #[] #[])] hE (by kernel_rfl) rfl (fun a hE => ?_)
  obtain ⟨r10, h11, hf⟩ := bind_some hf
  refine at_op (op_call rfl rfl rfl rfl hE rfl rfl rfl rfl (by kernel_rfl) (slices_IndexFunc_api_Step_api_Step.calls (g := g) h11 (hS.st.fore (L := [])) h4) (fun a v w hR hE => ?_)) rfl
  obtain ⟨D12, rfl, hS1⟩ := hR
  have le14 := hS1.dle
  have hS := hS.callR hS1 rfl .n
  clear hS1
  refine segN 2 (j := 5) [(4, .bool ((decide ((0 : Int) ≤ r10))))] hE (by kernel_rfl) rfl (fun a hE => ?_)
  refine at_end rfl ?_
  refine wpIn_ret ?_
  obtain rfl := Option.some.inj hf
  repeat (with_reducible first | refine then_ret ?_ | refine block_ret ?_ | refine qx_ret ?_)
  refine ret_gen ([.bool ((decide ((0 : Int) ≤ r10)))]) hE (by rw [show Try.f75.results.toList = [.tmp 4] from rfl]; exact ⟨_, _, rfl, rfl, rfl⟩) ?_
  exact ⟨_, rfl, D12, rfl, hS⟩

set_option maxRecDepth 100000 in
set_option maxHeartbeats 4000000 in
theorem rec_ranges.calls {K : Nat} {g w0 : World} {D0 : Snap} {x1 : T_api_Rec} {A2 : Option Addr} {c3 : Nat} {A5 : Option Addr} {c6 : Nat} {r : (Bool)} (hf : rec_ranges.f K x1 = some r) (hS0 : St g w0 D0 []) (h4 : Sl kd_T_api_Step D0 A2 c3 (x1.fSteps)) (h7 : Sl (kdInt .u8) D0 A5 c6 (x1.fData)) :
    CallsIn (Fw none) 0 Try.prog 50 (List.toArray [.agg (List.toArray (c_T_api_Rec (x1) A2 c3 A5 c6))]) w0 (fun e w' => ∃ v, e = .returned v ∧ ∃ (D1 : Snap), v = .bool (r) ∧ Stp g w0 D0 [] w' D1 []) := by
  unfold rec_ranges.f at hf
  have hS := Stp.refl hS0
  clear hS0
  refine calls_body (n := 76) Try.func50 rfl Try.ntmps50 rfl (fun a hE => ?_)
  have hE : Env a 76 [] [(0, .agg (List.toArray (c_T_api_Rec (x1) A2 c3 A5 c6)))] := hE
  refine wpIn_seq ?_
  refine region_at ?_
  refine at_op (op_box rfl rfl rfl rfl hE rfl hS rfl (fun a b230 w _ hE hS => ?_)) rfl
  refine segN 1 (j := 2) [(2, .bool false)] hE (by kernel_rfl) rfl (fun a hE => ?_)
  refine at_end rfl ?_
  refine wpIn_seq ?_
  obtain ⟨j435, hj436, hf⟩ := jn_elim hf
  refine seq_join (fun a w => ∃ (y282 : Bool), ∃ (D283 : Snap), Env a 76 [] [(1, .pointer (some ⟨b230, 0, none⟩)), (19, .bool (y282))] ∧ Stp g w0 D0 [] w D283 [bx b230 47 (c_T_api_Rec (x1) A2 c3 A5 c6)] ∧ Snap.le D0 D283 ∧ j435 y282 = some r) ?_ ?_
  · clear hj436
    refine region_at ?_
    refine at_op (op_tk hE (g_fieldAddr (fo := 1) (ft := 3) 1 rfl rfl rfl rfl hE rfl rfl (by kernel_rfl) rfl (fun a hE => ?_))) rfl
    refine at_op (op_tk hE (tk_load 0 (.int .i64 (x1.fSaga)) rfl rfl rfl rfl hE rfl hS rfl rfl (by kernel_rfl) (kL (j := 0) hS rfl List.not_mem_nil) (fun a hE => ?_))) rfl
    obtain ⟨r437, h438, hf⟩ := bind_some hf
    refine at_op (op_call rfl rfl rfl rfl hE rfl rfl rfl rfl (by kernel_rfl) (rec_within.calls (g := g) h438 (hS.st.fore (L := [])) ) (fun a v w hR hE => ?_)) rfl
    obtain ⟨D439, rfl, hS1⟩ := hR
    have le441 := hS1.dle
    have hS := hS.callR hS1 rfl .n
    clear hS1
    refine segN 2 (j := 5) [(8, .bool ((!r437)))] hE (by kernel_rfl) rfl (fun a hE => ?_)
    cases hb : (!r437)
    · replace hf := cond_f hb hf
      have hE := hE.know (t := 8) (b := (!r437)) (b' := false) rfl hb
      clear hb
      refine at_op (op_tk hE (g_fieldAddr (fo := 8) (ft := 3) 8 rfl rfl rfl rfl hE rfl rfl (by kernel_rfl) rfl (fun a hE => ?_))) rfl
      refine at_op (op_tk hE (tk_load 0 (.int .i64 (x1.fPart)) rfl rfl rfl rfl hE rfl hS rfl rfl (by kernel_rfl) (kL (j := 0) hS rfl List.not_mem_nil) (fun a hE => ?_))) rfl
      obtain ⟨r442, h443, hf⟩ := bind_some hf
      refine at_op (op_call rfl rfl rfl rfl hE rfl rfl rfl rfl (by kernel_rfl) (rec_within.calls (g := g) h443 (hS.st.fore (L := [])) ) (fun a v w hR hE => ?_)) rfl
      obtain ⟨D444, rfl, hS1⟩ := hR
      have le446 := hS1.dle
      have hS := hS.callR hS1 rfl .n
      clear hS1
      refine segN 3 (j := 11) [(14, .bool ((!r442)))] hE (by kernel_rfl) rfl (fun a hE => ?_)
      cases hb : (!r442)
      · replace hf := cond_f hb hf
        have hE := hE.know (t := 14) (b := (!r442)) (b' := false) rfl hb
        clear hb
        refine at_op (op_tk hE (g_fieldAddr (fo := 9) (ft := 3) 9 rfl rfl rfl rfl hE rfl rfl (by kernel_rfl) rfl (fun a hE => ?_))) rfl
        refine at_op (op_tk hE (tk_load 0 (.int .i64 (x1.fEpoch)) rfl rfl rfl rfl hE rfl hS rfl rfl (by kernel_rfl) (kL (j := 0) hS rfl List.not_mem_nil) (fun a hE => ?_))) rfl
        obtain ⟨r447, h448, hf⟩ := bind_some hf
        refine at_op (op_call rfl rfl rfl rfl hE rfl rfl rfl rfl (by kernel_rfl) (rec_within.calls (g := g) h448 (hS.st.fore (L := [])) ) (fun a v w hR hE => ?_)) rfl
        obtain ⟨D449, rfl, hS1⟩ := hR
        have le451 := hS1.dle
        have hS := hS.callR hS1 rfl .n
        clear hS1
        refine segN 2 (j := 16) [(19, .bool ((!r447)))] hE (by kernel_rfl) rfl (fun a hE => ?_)
        refine at_end rfl ?_
        exact ⟨(!r447), D449, hE.weak (by kernel_rfl), hS, (Snap.le.trans (Snap.le.trans le441 le446) le451), hf⟩
      · replace hf := cond_t hb hf
        have hE := hE.know (t := 14) (b := (!r442)) (b' := true) rfl hb
        clear hb
        refine segN 5 (j := 16) [(19, .bool true)] hE (by kernel_rfl) rfl (fun a hE => ?_)
        refine at_end rfl ?_
        exact ⟨true, D444, hE.weak (by kernel_rfl), hS, (Snap.le.trans le441 le446), hf⟩
    · replace hf := cond_t hb hf
      have hE := hE.know (t := 8) (b := (!r437)) (b' := true) rfl hb
      clear hb
      refine segN 11 (j := 16) [(19, .bool true)] hE (by kernel_rfl) rfl (fun a hE => ?_)
      refine at_end rfl ?_
      exact ⟨true, D439, hE.weak (by kernel_rfl), hS, le441, hf⟩
  · clear hE hS
    rintro a w ⟨y282, D283, hE, hS, le284, hf⟩
    replace hf := hj436 _ hf
    clear hj436
    refine cond_split hE (b := y282) rfl (fun hb => ?_) (fun hb => ?_)
    · replace hf := cond_t hb hf
      clear hb
      refine wpIn_seq ?_
      refine region_at ?_
      refine segN 1 (j := 1) [(2, .bool false)] hE (by kernel_rfl) rfl (fun a hE => ?_)
      refine at_end rfl ?_
      refine wpIn_ret ?_
      obtain rfl := Option.some.inj hf
      repeat (with_reducible first | refine then_ret ?_ | refine block_ret ?_ | refine qx_ret ?_)
      refine ret_gen ([.bool false]) hE (by rw [show Try.f50.results.toList = [.tmp 2] from rfl]; exact ⟨_, _, rfl, rfl, rfl⟩) ?_
      have hS := hS.pk .n rfl
      exact ⟨_, rfl, D283, rfl, hS⟩
    · replace hf := cond_f hb hf
      clear hb
      refine wpIn_skip ?_
      refine wpIn_seq ?_
      refine wpIn_seq ?_
      refine region_at ?_
      refine at_op (op_tk hE (g_fieldAddr (fo := 0) (ft := 3) 0 rfl rfl rfl rfl hE rfl rfl (by kernel_rfl) rfl (fun a hE => ?_))) rfl
      refine at_op (op_tk hE (tk_load 0 (.int .i64 (x1.fKind)) rfl rfl rfl rfl hE rfl hS rfl rfl (by kernel_rfl) (kL (j := 0) hS rfl List.not_mem_nil) (fun a hE => ?_))) rfl
      refine at_end rfl ?_
      refine wpIn_block ?_
      refine wpIn_seq ?_
      refine region_at ?_
      refine segN 2 (j := 2) [(22, .bool ((decide (x1.fKind = (1 : Int)))))] hE (by kernel_rfl) rfl (fun a hE => ?_)
      refine at_end rfl ?_
      refine cond_split hE (b := (decide (x1.fKind = (1 : Int)))) rfl (fun hb => ?_) (fun hb => ?_)
      · replace hf := cond_t hb hf
        clear hb
        refine wpIn_seq ?_
        refine region_at ?_
        refine segN 1 (j := 1) [(3, .func (.func 74) #[] #[])] hE (by kernel_rfl) rfl (fun a hE => ?_)
        refine at_end rfl ?_
        refine wpIn_seq ?_
        refine region_at ?_
        refine at_op (op_tk hE (g_fieldAddr (fo := 42) (ft := 45) 42 rfl rfl rfl rfl hE rfl rfl (by kernel_rfl) rfl (fun a hE => ?_))) rfl
        refine at_op (op_tk hE (tk_load 0 (.slice A2 (List.length (x1.fSteps)) c3) rfl rfl rfl rfl hE rfl hS rfl rfl (by kernel_rfl) (kL (j := 0) hS rfl List.not_mem_nil) (fun a hE => ?_))) rfl
        refine segN 1 (j := 3) [(26, .int .i64 (((List.length (x1.fSteps) : Nat) : Int)))] hE (by kernel_rfl) rfl (fun a hE => ?_)
        obtain ⟨r370, h371, hf⟩ := bind_some hf
        refine at_op (op_call rfl rfl rfl rfl hE rfl rfl rfl rfl (by kernel_rfl) (rec_within.calls (g := g) h371 (hS.st.fore (L := [])) ) (fun a v w hR hE => ?_)) rfl
        obtain ⟨D372, rfl, hS1⟩ := hR
        have le374 := hS1.dle
        have hS := hS.callR hS1 rfl .n
        clear hS1
        refine segN 1 (j := 5) [(28, .bool (r370))] hE (by kernel_rfl) rfl (fun a hE => ?_)
        cases hb : r370
        · replace hf := cond_f hb hf
          have hE := hE.know (t := 28) (b := r370) (b' := false) rfl hb
          clear hb
          refine segN 13 (j := 18) [(2, .bool false)] hE (by kernel_rfl) rfl (fun a hE => ?_)
          refine at_end rfl ?_
          refine wpIn_ret ?_
          obtain rfl := Option.some.inj hf
          repeat (with_reducible first | refine then_ret ?_ | refine block_ret ?_ | refine qx_ret ?_)
          refine ret_gen ([.bool false]) hE (by rw [show Try.f50.results.toList = [.tmp 2] from rfl]; exact ⟨_, _, rfl, rfl, rfl⟩) ?_
          have hS := hS.pk .n rfl
          exact ⟨_, rfl, D372, rfl, hS⟩
        · replace hf := cond_t hb hf
          have hE := hE.know (t := 28) (b := r370) (b' := true) rfl hb
          clear hb
          refine at_op (op_tk hE (g_fieldAddr (fo := 42) (ft := 45) 42 rfl rfl rfl rfl hE rfl rfl (by kernel_rfl) rfl (fun a hE => ?_))) rfl
          refine at_op (op_tk hE (tk_load 0 (.slice A2 (List.length (x1.fSteps)) c3) rfl rfl rfl rfl hE rfl hS rfl rfl (by kernel_rfl) (kL (j := 0) hS rfl List.not_mem_nil) (fun a hE => ?_))) rfl
          refine segN 1 (j := 8) [(31, .func (.func 74) #[] #[])] hE (by kernel_rfl) rfl (fun a hE => ?_)
          obtain ⟨r375, h376, hf⟩ := bind_some hf
          refine at_op (op_call rfl rfl rfl rfl hE rfl rfl rfl rfl (by kernel_rfl) (slices_ContainsFunc_api_Step_api_Step.calls (g := g) h376 (hS.st.fore (L := [])) (h4.mono (Snap.le.trans le284 le374))) (fun a v w hR hE => ?_)) rfl
          obtain ⟨D377, rfl, hS1⟩ := hR
          have le379 := hS1.dle
          have hS := hS.callR hS1 rfl .n
          clear hS1
          refine segN 3 (j := 12) [(35, .bool ((!r375)))] hE (by kernel_rfl) rfl (fun a hE => ?_)
          cases hb : (!r375)
          · replace hf := cond_f hb hf
            have hE := hE.know (t := 35) (b := (!r375)) (b' := false) rfl hb
            clear hb
            refine segN 6 (j := 18) [(2, .bool false)] hE (by kernel_rfl) rfl (fun a hE => ?_)
            refine at_end rfl ?_
            refine wpIn_ret ?_
            obtain rfl := Option.some.inj hf
            repeat (with_reducible first | refine then_ret ?_ | refine block_ret ?_ | refine qx_ret ?_)
            refine ret_gen ([.bool false]) hE (by rw [show Try.f50.results.toList = [.tmp 2] from rfl]; exact ⟨_, _, rfl, rfl, rfl⟩) ?_
            have hS := hS.pk .n rfl
            exact ⟨_, rfl, D377, rfl, hS⟩
          · replace hf := cond_t hb hf
            have hE := hE.know (t := 35) (b := (!r375)) (b' := true) rfl hb
            clear hb
            refine at_op (op_tk hE (g_fieldAddr (fo := 43) (ft := 32) 43 rfl rfl rfl rfl hE rfl rfl (by kernel_rfl) rfl (fun a hE => ?_))) rfl
            refine at_op (op_tk hE (tk_load 0 (.slice A5 (List.length (x1.fData)) c6) rfl rfl rfl rfl hE rfl hS rfl rfl (by kernel_rfl) (kL (j := 0) hS rfl List.not_mem_nil) (fun a hE => ?_))) rfl
            refine segN 4 (j := 18) [(2, .bool ((decide (((List.length (x1.fData) : Nat) : Int) ≤ (60 : Int)))))] hE (by kernel_rfl) rfl (fun a hE => ?_)
            refine at_end rfl ?_
            refine wpIn_ret ?_
            obtain rfl := Option.some.inj hf
            repeat (with_reducible first | refine then_ret ?_ | refine block_ret ?_ | refine qx_ret ?_)
            refine ret_gen ([.bool ((decide (((List.length (x1.fData) : Nat) : Int) ≤ (60 : Int))))]) hE (by rw [show Try.f50.results.toList = [.tmp 2] from rfl]; exact ⟨_, _, rfl, rfl, rfl⟩) ?_
            have hS := hS.pk .n rfl
            exact ⟨_, rfl, D377, rfl, hS⟩
      · replace hf := cond_f hb hf
        clear hb
        obtain ⟨j433, hj434, hf⟩ := jn_elim hf
        refine seq_join (fun a w => ∃ (y380 : Bool), ∃ (D381 : Snap), Env a 76 [] [(1, .pointer (some ⟨b230, 0, none⟩)), (21, .int .i64 (x1.fKind)), (41, .bool (y380))] ∧ Stp g w0 D0 [] w D381 [bx b230 47 (c_T_api_Rec (x1) A2 c3 A5 c6)] ∧ Snap.le D283 D381 ∧ j433 y380 = some r) ?_ ?_
        · clear hj434
          refine wpIn_seq ?_
          refine region_at ?_
          refine segN 2 (j := 2) [(41, .bool ((decide (x1.fKind = (2 : Int)))))] hE (by kernel_rfl) rfl (fun a hE => ?_)
          refine at_end rfl ?_
          refine cond_split hE (b := (decide (x1.fKind = (2 : Int)))) rfl (fun hb => ?_) (fun hb => ?_)
          · replace hf := cond_t hb hf
            clear hb
            refine wpIn_skip ?_
            exact ⟨(decide (x1.fKind = (2 : Int))), D283, hE.weak (by kernel_rfl), hS, Snap.le.refl _, hf⟩
          · replace hf := cond_f hb hf
            clear hb
            refine wpIn_seq ?_
            refine region_at ?_
            refine segN 2 (j := 2) [(41, .bool ((decide (x1.fKind = (4 : Int)))))] hE (by kernel_rfl) rfl (fun a hE => ?_)
            refine at_end rfl ?_
            refine cond_split hE (b := (decide (x1.fKind = (4 : Int)))) rfl (fun hb => ?_) (fun hb => ?_)
            · replace hf := cond_t hb hf
              clear hb
              refine wpIn_skip ?_
              exact ⟨(decide (x1.fKind = (4 : Int))), D283, hE.weak (by kernel_rfl), hS, Snap.le.refl _, hf⟩
            · replace hf := cond_f hb hf
              clear hb
              refine region_at ?_
              refine segN 2 (j := 2) [(41, .bool ((decide (x1.fKind = (3 : Int)))))] hE (by kernel_rfl) rfl (fun a hE => ?_)
              refine at_end rfl ?_
              exact ⟨(decide (x1.fKind = (3 : Int))), D283, hE.weak (by kernel_rfl), hS, Snap.le.refl _, hf⟩
        · clear hE hS
          rintro a w ⟨y380, D381, hE, hS, le382, hf⟩
          replace hf := hj434 _ hf
          clear hj434
          refine cond_split hE (b := y380) rfl (fun hb => ?_) (fun hb => ?_)
          · replace hf := cond_t hb hf
            clear hb
            refine wpIn_seq ?_
            refine region_at ?_
            refine at_op (op_tk hE (g_fieldAddr (fo := 2) (ft := 3) 2 rfl rfl rfl rfl hE rfl rfl (by kernel_rfl) rfl (fun a hE => ?_))) rfl
            refine at_op (op_tk hE (tk_load 0 (.int .i64 (x1.fSeq)) rfl rfl rfl rfl hE rfl hS rfl rfl (by kernel_rfl) (kL (j := 0) hS rfl List.not_mem_nil) (fun a hE => ?_))) rfl
            obtain ⟨r398, h399, hf⟩ := bind_some hf
            refine at_op (op_call rfl rfl rfl rfl hE rfl rfl rfl rfl (by kernel_rfl) (rec_within.calls (g := g) h399 (hS.st.fore (L := [])) ) (fun a v w hR hE => ?_)) rfl
            obtain ⟨D400, rfl, hS1⟩ := hR
            have le402 := hS1.dle
            have hS := hS.callR hS1 rfl .n
            clear hS1
            refine segN 1 (j := 4) [(48, .bool (r398))] hE (by kernel_rfl) rfl (fun a hE => ?_)
            cases hb : r398
            · replace hf := cond_f hb hf
              have hE := hE.know (t := 48) (b := r398) (b' := false) rfl hb
              clear hb
              refine segN 10 (j := 14) [(2, .bool false)] hE (by kernel_rfl) rfl (fun a hE => ?_)
              refine at_end rfl ?_
              refine wpIn_ret ?_
              obtain rfl := Option.some.inj hf
              repeat (with_reducible first | refine then_ret ?_ | refine block_ret ?_ | refine qx_ret ?_)
              refine ret_gen ([.bool false]) hE (by rw [show Try.f50.results.toList = [.tmp 2] from rfl]; exact ⟨_, _, rfl, rfl, rfl⟩) ?_
              have hS := hS.pk .n rfl
              exact ⟨_, rfl, D400, rfl, hS⟩
            · replace hf := cond_t hb hf
              have hE := hE.know (t := 48) (b := r398) (b' := true) rfl hb
              clear hb
              refine at_op (op_tk hE (g_fieldAddr (fo := 3) (ft := 3) 3 rfl rfl rfl rfl hE rfl rfl (by kernel_rfl) rfl (fun a hE => ?_))) rfl
              refine at_op (op_tk hE (tk_load 0 (.int .i64 (x1.fStep)) rfl rfl rfl rfl hE rfl hS rfl rfl (by kernel_rfl) (kL (j := 0) hS rfl List.not_mem_nil) (fun a hE => ?_))) rfl
              obtain ⟨r403, h404, hf⟩ := bind_some hf
              refine at_op (op_call rfl rfl rfl rfl hE rfl rfl rfl rfl (by kernel_rfl) (rec_within.calls (g := g) h404 (hS.st.fore (L := [])) ) (fun a v w hR hE => ?_)) rfl
              obtain ⟨D405, rfl, hS1⟩ := hR
              have le407 := hS1.dle
              have hS := hS.callR hS1 rfl .n
              clear hS1
              refine segN 2 (j := 9) [(53, .bool (r403))] hE (by kernel_rfl) rfl (fun a hE => ?_)
              cases hb : r403
              · replace hf := cond_f hb hf
                have hE := hE.know (t := 53) (b := r403) (b' := false) rfl hb
                clear hb
                refine segN 5 (j := 14) [(2, .bool false)] hE (by kernel_rfl) rfl (fun a hE => ?_)
                refine at_end rfl ?_
                refine wpIn_ret ?_
                obtain rfl := Option.some.inj hf
                repeat (with_reducible first | refine then_ret ?_ | refine block_ret ?_ | refine qx_ret ?_)
                refine ret_gen ([.bool false]) hE (by rw [show Try.f50.results.toList = [.tmp 2] from rfl]; exact ⟨_, _, rfl, rfl, rfl⟩) ?_
                have hS := hS.pk .n rfl
                exact ⟨_, rfl, D405, rfl, hS⟩
              · replace hf := cond_t hb hf
                have hE := hE.know (t := 53) (b := r403) (b' := true) rfl hb
                clear hb
                refine at_op (op_tk hE (g_fieldAddr (fo := 4) (ft := 3) 4 rfl rfl rfl rfl hE rfl rfl (by kernel_rfl) rfl (fun a hE => ?_))) rfl
                refine at_op (op_tk hE (tk_load 0 (.int .i64 (x1.fTry)) rfl rfl rfl rfl hE rfl hS rfl rfl (by kernel_rfl) (kL (j := 0) hS rfl List.not_mem_nil) (fun a hE => ?_))) rfl
                obtain ⟨r408, h409, hf⟩ := bind_some hf
                refine at_op (op_call rfl rfl rfl rfl hE rfl rfl rfl rfl (by kernel_rfl) (rec_within.calls (g := g) h409 (hS.st.fore (L := [])) ) (fun a v w hR hE => ?_)) rfl
                obtain ⟨D410, rfl, hS1⟩ := hR
                have le412 := hS1.dle
                have hS := hS.callR hS1 rfl .n
                clear hS1
                refine segN 2 (j := 14) [(2, .bool (r408))] hE (by kernel_rfl) rfl (fun a hE => ?_)
                refine at_end rfl ?_
                refine wpIn_ret ?_
                obtain rfl := Option.some.inj hf
                repeat (with_reducible first | refine then_ret ?_ | refine block_ret ?_ | refine qx_ret ?_)
                refine ret_gen ([.bool (r408)]) hE (by rw [show Try.f50.results.toList = [.tmp 2] from rfl]; exact ⟨_, _, rfl, rfl, rfl⟩) ?_
                have hS := hS.pk .n rfl
                exact ⟨_, rfl, D410, rfl, hS⟩
          · replace hf := cond_f hb hf
            clear hb
            refine wpIn_seq ?_
            refine region_at ?_
            refine segN 2 (j := 2) [(58, .bool ((decide (x1.fKind = (5 : Int)))))] hE (by kernel_rfl) rfl (fun a hE => ?_)
            refine at_end rfl ?_
            refine cond_split hE (b := (decide (x1.fKind = (5 : Int)))) rfl (fun hb => ?_) (fun hb => ?_)
            · replace hf := cond_t hb hf
              clear hb
              refine wpIn_seq ?_
              refine region_at ?_
              refine at_op (op_tk hE (g_fieldAddr (fo := 2) (ft := 3) 2 rfl rfl rfl rfl hE rfl rfl (by kernel_rfl) rfl (fun a hE => ?_))) rfl
              refine at_op (op_tk hE (tk_load 0 (.int .i64 (x1.fSeq)) rfl rfl rfl rfl hE rfl hS rfl rfl (by kernel_rfl) (kL (j := 0) hS rfl List.not_mem_nil) (fun a hE => ?_))) rfl
              obtain ⟨r423, h424, hf⟩ := bind_some hf
              refine at_op (op_call rfl rfl rfl rfl hE rfl rfl rfl rfl (by kernel_rfl) (rec_within.calls (g := g) h424 (hS.st.fore (L := [])) ) (fun a v w hR hE => ?_)) rfl
              obtain ⟨D425, rfl, hS1⟩ := hR
              have le427 := hS1.dle
              have hS := hS.callR hS1 rfl .n
              clear hS1
              refine segN 1 (j := 4) [(63, .bool (r423))] hE (by kernel_rfl) rfl (fun a hE => ?_)
              cases hb : r423
              · replace hf := cond_f hb hf
                have hE := hE.know (t := 63) (b := r423) (b' := false) rfl hb
                clear hb
                refine segN 5 (j := 9) [(2, .bool false)] hE (by kernel_rfl) rfl (fun a hE => ?_)
                refine at_end rfl ?_
                refine wpIn_ret ?_
                obtain rfl := Option.some.inj hf
                repeat (with_reducible first | refine then_ret ?_ | refine block_ret ?_ | refine qx_ret ?_)
                refine ret_gen ([.bool false]) hE (by rw [show Try.f50.results.toList = [.tmp 2] from rfl]; exact ⟨_, _, rfl, rfl, rfl⟩) ?_
                have hS := hS.pk .n rfl
                exact ⟨_, rfl, D425, rfl, hS⟩
              · replace hf := cond_t hb hf
                have hE := hE.know (t := 63) (b := r423) (b' := true) rfl hb
                clear hb
                refine at_op (op_tk hE (g_fieldAddr (fo := 7) (ft := 3) 7 rfl rfl rfl rfl hE rfl rfl (by kernel_rfl) rfl (fun a hE => ?_))) rfl
                refine at_op (op_tk hE (tk_load 0 (.int .i64 (x1.fEnd)) rfl rfl rfl rfl hE rfl hS rfl rfl (by kernel_rfl) (kL (j := 0) hS rfl List.not_mem_nil) (fun a hE => ?_))) rfl
                obtain ⟨r428, h429, hf⟩ := bind_some hf
                refine at_op (op_call rfl rfl rfl rfl hE rfl rfl rfl rfl (by kernel_rfl) (rec_within.calls (g := g) h429 (hS.st.fore (L := [])) ) (fun a v w hR hE => ?_)) rfl
                obtain ⟨D430, rfl, hS1⟩ := hR
                have le432 := hS1.dle
                have hS := hS.callR hS1 rfl .n
                clear hS1
                refine segN 2 (j := 9) [(2, .bool (r428))] hE (by kernel_rfl) rfl (fun a hE => ?_)
                refine at_end rfl ?_
                refine wpIn_ret ?_
                obtain rfl := Option.some.inj hf
                repeat (with_reducible first | refine then_ret ?_ | refine block_ret ?_ | refine qx_ret ?_)
                refine ret_gen ([.bool (r428)]) hE (by rw [show Try.f50.results.toList = [.tmp 2] from rfl]; exact ⟨_, _, rfl, rfl, rfl⟩) ?_
                have hS := hS.pk .n rfl
                exact ⟨_, rfl, D430, rfl, hS⟩
            · replace hf := cond_f hb hf
              clear hb
              refine wpIn_skip ?_
              refine wpIn_seq ?_
              refine region_at ?_
              refine at_op (op_tk hE (g_fieldAddr (fo := 0) (ft := 3) 0 rfl rfl rfl rfl hE rfl rfl (by kernel_rfl) rfl (fun a hE => ?_))) rfl
              refine at_op (op_tk hE (tk_load 0 (.int .i64 (x1.fKind)) rfl rfl rfl rfl hE rfl hS rfl rfl (by kernel_rfl) (kL (j := 0) hS rfl List.not_mem_nil) (fun a hE => ?_))) rfl
              refine segN 2 (j := 4) [(71, .bool ((decide (x1.fKind = (6 : Int)))))] hE (by kernel_rfl) rfl (fun a hE => ?_)
              cases hb : (decide (x1.fKind = (6 : Int)))
              · replace hf := cond_f hb hf
                have hE := hE.know (t := 71) (b := (decide (x1.fKind = (6 : Int)))) (b' := false) rfl hb
                clear hb
                refine segN 5 (j := 9) [(2, .bool false)] hE (by kernel_rfl) rfl (fun a hE => ?_)
                refine at_end rfl ?_
                refine wpIn_ret ?_
                obtain rfl := Option.some.inj hf
                repeat (with_reducible first | refine then_ret ?_ | refine block_ret ?_ | refine qx_ret ?_)
                refine ret_gen ([.bool false]) hE (by rw [show Try.f50.results.toList = [.tmp 2] from rfl]; exact ⟨_, _, rfl, rfl, rfl⟩) ?_
                have hS := hS.pk .n rfl
                exact ⟨_, rfl, D381, rfl, hS⟩
              · replace hf := cond_t hb hf
                have hE := hE.know (t := 71) (b := (decide (x1.fKind = (6 : Int)))) (b' := true) rfl hb
                clear hb
                refine at_op (op_tk hE (g_fieldAddr (fo := 9) (ft := 3) 9 rfl rfl rfl rfl hE rfl rfl (by kernel_rfl) rfl (fun a hE => ?_))) rfl
                refine at_op (op_tk hE (tk_load 0 (.int .i64 (x1.fEpoch)) rfl rfl rfl rfl hE rfl hS rfl rfl (by kernel_rfl) (kL (j := 0) hS rfl List.not_mem_nil) (fun a hE => ?_))) rfl
                refine segN 3 (j := 9) [(2, .bool ((decide ((1 : Int) ≤ x1.fEpoch))))] hE (by kernel_rfl) rfl (fun a hE => ?_)
                refine at_end rfl ?_
                refine wpIn_ret ?_
                obtain rfl := Option.some.inj hf
                repeat (with_reducible first | refine then_ret ?_ | refine block_ret ?_ | refine qx_ret ?_)
                refine ret_gen ([.bool ((decide ((1 : Int) ≤ x1.fEpoch)))]) hE (by rw [show Try.f50.results.toList = [.tmp 2] from rfl]; exact ⟨_, _, rfl, rfl, rfl⟩) ?_
                have hS := hS.pk .n rfl
                exact ⟨_, rfl, D381, rfl, hS⟩

set_option maxRecDepth 100000 in
set_option maxHeartbeats 4000000 in
theorem rec_kept.calls {K : Nat} {g w0 : World} {D0 : Snap} {x1 : T_api_Rec} {A2 : Option Addr} {c3 : Nat} {A5 : Option Addr} {c6 : Nat} {r : (T_api_Rec)} (hf : rec_kept.f K x1 = some r) (hS0 : St g w0 D0 []) (h4 : Sl kd_T_api_Step D0 A2 c3 (x1.fSteps)) (h7 : Sl (kdInt .u8) D0 A5 c6 (x1.fData)) :
    CallsIn (Fw none) 0 Try.prog 51 (List.toArray [.agg (List.toArray (c_T_api_Rec (x1) A2 c3 A5 c6))]) w0 (fun e w' => ∃ v, e = .returned v ∧ ∃ (D1 : Snap) (A5173 : Option Addr) (c5174 : Nat) (A5176 : Option Addr) (c5177 : Nat), v = .agg (List.toArray (c_T_api_Rec ((T_api_Rec.mk (r.fKind) (r.fSaga) (r.fSeq) (r.fStep) (r.fTry) (r.fBack) (r.fGood) (r.fEnd) (r.fPart) (r.fEpoch) (r.fTag) (r.fSteps) (r.fData) (r.fSalt) (r.fGone) (r.fCom))) A5173 c5174 A5176 c5177)) ∧ Stp g w0 D0 [] w' D1 [] ∧ Sl kd_T_api_Step D1 A5173 c5174 (r.fSteps) ∧ Sl (kdInt .u8) D1 A5176 c5177 (r.fData)) := by
  unfold rec_kept.f at hf
  have hS := Stp.refl hS0
  clear hS0
  refine calls_body (n := 83) Try.func51 rfl Try.ntmps51 rfl (fun a hE => ?_)
  have hE : Env a 83 [] [(0, .agg (List.toArray (c_T_api_Rec (x1) A2 c3 A5 c6)))] := hE
  refine wpIn_seq ?_
  refine region_at ?_
  refine at_op (op_box rfl rfl rfl rfl hE rfl hS rfl (fun a b5179 w _ hE hS => ?_)) rfl
  refine at_op (op_alloc (z := .agg (List.toArray (c_T_api_Rec (z_T_api_Rec) none 0 none 0))) rfl rfl rfl rfl hE rfl hS (by kernel_rfl) (fun a b5181 w _ hE hS => ?_)) rfl
  refine at_end rfl ?_
  refine wpIn_seq ?_
  refine region_at ?_
  refine at_op (op_tk hE (g_fieldAddr (fo := 0) (ft := 3) 0 rfl rfl rfl rfl hE rfl rfl (by kernel_rfl) rfl (fun a hE => ?_))) rfl
  refine at_op (op_tk hE (tk_load 1 (.int .i64 (x1.fKind)) rfl rfl rfl rfl hE rfl hS rfl rfl (by kernel_rfl) (kL (j := 1) hS rfl List.not_mem_nil) (fun a hE => ?_))) rfl
  refine at_op (op_tk hE (tk_build (c_T_api_Rec ({ z_T_api_Rec with fKind := x1.fKind }) none 0 none 0) rfl rfl rfl rfl hE rfl rfl (by kernel_rfl) (fun a hE => ?_))) rfl
  refine at_op (op_alloc (z := .agg (List.toArray (c_T_api_Rec (z_T_api_Rec) none 0 none 0))) rfl rfl rfl rfl hE rfl hS (by kernel_rfl) (fun a b5183 w _ hE hS => ?_)) rfl
  obtain ⟨v5185, hv5186, hf⟩ := bind_some hf
  replace hv5186 := Option.some.inj hv5186
  refine at_op (op_store (v := .agg (List.toArray (c_T_api_Rec ({ z_T_api_Rec with fKind := x1.fKind }) none 0 none 0))) (c_T_api_Rec (v5185) none 0 none 0) rfl rfl rfl rfl hE hS rfl rfl (by kernel_rfl) (by kernel_rfl) (by kernel_rfl) (by kernel_rfl) (by rw [← hv5186]; kernel_rfl) (fun a w _ hE hS => ?_)) rfl
  have h5187 : Sl kd_T_api_Step D0 none 0 (v5185.fSteps) := by rw [← hv5186]; exact (Sl.nil kd_T_api_Step D0)
  have h5188 : Sl (kdInt .u8) D0 none 0 (v5185.fData) := by rw [← hv5186]; exact (Sl.nil (kdInt .u8) D0)
  refine at_end rfl ?_
  obtain ⟨j7770, hj7771, hf⟩ := jn_elim hf
  refine seq_join (fun a w => ∃ (y7761 : T_api_Rec), ∃ (A7764 : Option Addr), ∃ (c7765 : Nat), ∃ (A7767 : Option Addr), ∃ (c7768 : Nat), ∃ (D7762 : Snap), Env a 83 [] [(2, .pointer (some ⟨b5181, 0, none⟩)), (3, .pointer (some ⟨b5183, 0, none⟩))] ∧ Stp g w0 D0 [] w D7762 [bx b5181 47 (c_T_api_Rec (z_T_api_Rec) none 0 none 0), bx b5183 47 (c_T_api_Rec (y7761) A7764 c7765 A7767 c7768)] ∧ Snap.le D0 D7762 ∧ Sl kd_T_api_Step D7762 A7764 c7765 (y7761.fSteps) ∧ Sl (kdInt .u8) D7762 A7767 c7768 (y7761.fData) ∧ j7770 y7761 = some r) ?_ ?_
  · clear hj7771
    refine wpIn_seq ?_
    refine region_at ?_
    refine at_op (op_tk hE (g_fieldAddr (fo := 0) (ft := 3) 0 rfl rfl rfl rfl hE rfl rfl (by kernel_rfl) rfl (fun a hE => ?_))) rfl
    refine at_op (op_tk hE (tk_load 2 (.int .i64 (x1.fKind)) rfl rfl rfl rfl hE rfl hS rfl rfl (by kernel_rfl) (kL (j := 2) hS rfl List.not_mem_nil) (fun a hE => ?_))) rfl
    refine at_end rfl ?_
    refine wpIn_block ?_
    refine wpIn_seq ?_
    refine wpIn_block ?_
    refine wpIn_seq ?_
    refine wpIn_block ?_
    obtain ⟨j10014, hj10015, hf⟩ := jn_elim hf
    refine seq_join (fun a w => ∃ (y9965 : T_api_Rec), ∃ (A9968 : Option Addr), ∃ (c9969 : Nat), ∃ (A9971 : Option Addr), ∃ (c9972 : Nat), ∃ (D9966 : Snap), Env a 83 [] [(1, .pointer (some ⟨b5179, 0, none⟩)), (2, .pointer (some ⟨b5181, 0, none⟩)), (3, .pointer (some ⟨b5183, 0, none⟩))] ∧ Stp g w0 D0 [] w D9966 [bx b5179 47 (c_T_api_Rec (x1) A2 c3 A5 c6), bx b5181 47 (c_T_api_Rec (z_T_api_Rec) none 0 none 0), bx b5183 47 (c_T_api_Rec (y9965) A9968 c9969 A9971 c9972)] ∧ Snap.le D0 D9966 ∧ Sl kd_T_api_Step D9966 A9968 c9969 (y9965.fSteps) ∧ Sl (kdInt .u8) D9966 A9971 c9972 (y9965.fData) ∧ j10014 y9965 = some r) ?_ ?_
    · clear hj10015
      refine wpIn_block ?_
      refine wpIn_seq ?_
      refine wpIn_block ?_
      refine wpIn_seq ?_
      refine wpIn_block ?_
      refine wpIn_seq ?_
      refine wpIn_seq ?_
      refine wpIn_seq ?_
      refine region_at ?_
      refine segN 2 (j := 2) [(9, .bool ((decide (x1.fKind = (1 : Int)))))] hE (by kernel_rfl) rfl (fun a hE => ?_)
      refine at_end rfl ?_
      refine cond_split hE (b := (decide (x1.fKind = (1 : Int)))) rfl (fun hb => ?_) (fun hb => ?_)
      · replace hf := cond_t hb hf
        clear hb
        refine wpIn_exit ?_
        refine wpIn_seq ?_
        refine wpIn_seq ?_
        refine region_draw (fun j => Keeps (mfOf [(7, [b5183]), (9, [b5183]), (11, [b5183])] j)) (by kernel_rfl) ?_
        have hS := hS.drew
        first | generalize w.drew = w at hS ⊢ | generalize w0.drew = w at hS ⊢
        refine tW 0 1 (fuel := 11) (by kernel_rfl) hE (fun M => g_fieldAddr (fo := 1) (ft := 3) 1 rfl rfl rfl rfl hE rfl rfl (by kernel_rfl) rfl (fun a hE => ?_))
        refine tT 1 3 (fuel := 10) (by kernel_rfl) hE (tk_load 2 (.int .i64 (x1.fSaga)) rfl rfl rfl rfl hE rfl hS rfl rfl (by kernel_rfl) (kL (j := 2) hS rfl List.not_mem_nil) (fun a hE => ?_))
        refine tW 2 7 (fuel := 9) (by kernel_rfl) hE (fun M => g_fieldAddr (fo := 42) (ft := 45) 42 rfl rfl rfl rfl hE rfl rfl (by kernel_rfl) rfl (fun a hE => ?_))
        refine tN (T := [(7, [b5183]), (9, [b5183]), (11, [b5183])]) [7] 3 15 (fuel := 8) (by kernel_rfl) hE (tk_load 2 (.slice A2 (List.length (x1.fSteps)) c3) rfl rfl rfl rfl hE rfl hS rfl rfl (by kernel_rfl) (kL (j := 2) hS rfl (show b5179 ∉ [b5183] from (nm_cons (hS.ne (i := 2) (j := 0) (by decide) rfl rfl) List.not_mem_nil))) (fun a hE => ?_))
        refine tW 4 31 (fuel := 7) (by kernel_rfl) hE (fun M => g_fieldAddr (fo := 76) (ft := 4) 76 rfl rfl rfl rfl hE rfl rfl (by kernel_rfl) rfl (fun a hE => ?_))
        refine tN (T := [(7, [b5183]), (9, [b5183]), (11, [b5183])]) [7, 9] 5 63 (fuel := 6) (by kernel_rfl) hE (tk_load 2 (.bool (x1.fGone)) rfl rfl rfl rfl hE rfl hS rfl rfl (by kernel_rfl) (kL (j := 2) hS rfl (show b5179 ∉ [b5183, b5183] from (nm_cons (hS.ne (i := 2) (j := 0) (by decide) rfl rfl) (nm_cons (hS.ne (i := 2) (j := 0) (by decide) rfl rfl) List.not_mem_nil)))) (fun a hE => ?_))
        refine tW 6 127 (fuel := 5) (by kernel_rfl) hE (fun M => g_fieldAddr (fo := 1) (ft := 3) 1 rfl rfl rfl rfl hE rfl rfl (by kernel_rfl) rfl (fun a hE => ?_))
        obtain ⟨v10230, hv10231, hf⟩ := bind_some hf
        replace hv10231 := Option.some.inj hv10231
        refine oG 7 255 (fuel := 4) (by kernel_rfl) (op_store (v := .int .i64 (x1.fSaga)) (c_T_api_Rec (v10230) none 0 none 0) rfl rfl rfl rfl hE hS rfl rfl (by kernel_rfl) (by kernel_rfl) (by kernel_rfl) (by kernel_rfl) (by rw [← hv10231]; kernel_rfl) (fun a w hkp hE hS => ⟨hkp.mono (fun _ h => h), ?_⟩))
        clear hkp
        have h10232 : Sl kd_T_api_Step D0 none 0 (v10230.fSteps) := by rw [← hv10231]; exact h5187
        have h10233 : Sl (kdInt .u8) D0 none 0 (v10230.fData) := by rw [← hv10231]; exact h5188
        refine tW 8 511 (fuel := 3) (by kernel_rfl) hE (fun M => g_fieldAddr (fo := 42) (ft := 45) 42 rfl rfl rfl rfl hE rfl rfl (by kernel_rfl) rfl (fun a hE => ?_))
        obtain ⟨v10234, hv10235, hf⟩ := bind_some hf
        replace hv10235 := Option.some.inj hv10235
        refine oG 9 1023 (fuel := 2) (by kernel_rfl) (op_store (v := .slice A2 (List.length (x1.fSteps)) c3) (c_T_api_Rec (v10234) A2 c3 none 0) rfl rfl rfl rfl hE hS rfl rfl (by kernel_rfl) (by kernel_rfl) (by kernel_rfl) (by kernel_rfl) (by rw [← hv10235]; kernel_rfl) (fun a w hkp hE hS => ⟨hkp.mono (fun _ h => h), ?_⟩))
        clear hkp
        have h10236 : Sl kd_T_api_Step D0 A2 c3 (v10234.fSteps) := by rw [← hv10235]; exact h4
        have h10237 : Sl (kdInt .u8) D0 none 0 (v10234.fData) := by rw [← hv10235]; exact h10233
        refine tW 10 2047 (fuel := 1) (by kernel_rfl) hE (fun M => g_fieldAddr (fo := 76) (ft := 4) 76 rfl rfl rfl rfl hE rfl rfl (by kernel_rfl) rfl (fun a hE => ?_))
        obtain ⟨v10238, hv10239, hf⟩ := bind_some hf
        replace hv10239 := Option.some.inj hv10239
        refine oG 11 4095 (fuel := 0) (by kernel_rfl) (op_store (v := .bool (x1.fGone)) (c_T_api_Rec (v10238) A2 c3 none 0) rfl rfl rfl rfl hE hS rfl rfl (by kernel_rfl) (by kernel_rfl) (by kernel_rfl) (by kernel_rfl) (by rw [← hv10239]; kernel_rfl) (fun a w hkp hE hS => ⟨hkp.mono (fun _ h => h), ?_⟩))
        clear hkp
        have h10240 : Sl kd_T_api_Step D0 A2 c3 (v10238.fSteps) := by rw [← hv10239]; exact h10236
        have h10241 : Sl (kdInt .u8) D0 none 0 (v10238.fData) := by rw [← hv10239]; exact h10237
        refine doneG (by kernel_rfl) ?_
        refine wpIn_seq ?_
        refine region_at ?_
        refine at_op (op_tk hE (g_fieldAddr (fo := 76) (ft := 4) 76 rfl rfl rfl rfl hE rfl rfl (by kernel_rfl) rfl (fun a hE => ?_))) rfl
        refine at_op (op_tk hE (tk_load 2 (.bool (x1.fGone)) rfl rfl rfl rfl hE rfl hS rfl rfl (by kernel_rfl) (kL (j := 2) hS rfl List.not_mem_nil) (fun a hE => ?_))) rfl
        refine at_end rfl ?_
        refine cond_split hE (b := x1.fGone) rfl (fun hb => ?_) (fun hb => ?_)
        · replace hf := cond_t hb hf
          clear hb
          refine region_at ?_
          refine at_op (op_tk hE (g_fieldAddr (fo := 77) (ft := 23) 77 rfl rfl rfl rfl hE rfl rfl (by kernel_rfl) rfl (fun a hE => ?_))) rfl
          refine at_op (op_tk hE (tk_load 2 (.agg (List.toArray (acells .u8 32 (x1.fCom)))) rfl rfl rfl rfl hE rfl hS rfl rfl (by kernel_rfl) (kL (j := 2) hS rfl List.not_mem_nil) (fun a hE => ?_))) rfl
          refine at_op (op_tk hE (g_fieldAddr (fo := 77) (ft := 23) 77 rfl rfl rfl rfl hE rfl rfl (by kernel_rfl) rfl (fun a hE => ?_))) rfl
          obtain ⟨v10242, hv10243, hf⟩ := bind_some hf
          replace hv10243 := Option.some.inj hv10243
          refine at_op (op_store (v := .agg (List.toArray (acells .u8 32 (x1.fCom)))) (c_T_api_Rec (v10242) A2 c3 none 0) rfl rfl rfl rfl hE hS rfl rfl (by kernel_rfl) (by kernel_rfl) (by kernel_rfl) (by kernel_rfl) (by rw [← hv10243]; kernel_rfl) (fun a w _ hE hS => ?_)) rfl
          have h10244 : Sl kd_T_api_Step D0 A2 c3 (v10242.fSteps) := by rw [← hv10243]; exact h10240
          have h10245 : Sl (kdInt .u8) D0 none 0 (v10242.fData) := by rw [← hv10243]; exact h10241
          refine at_end rfl ?_
          refine wpIn_exit ?_
          have hS := hS.pk (.c 1 rfl (.c 0 rfl .n)) rfl
          exact ⟨v10242, A2, c3, none, 0, D0, hE.weak (by kernel_rfl), hS, Snap.le.refl _, h10244, h10245, hf⟩
        · replace hf := cond_f hb hf
          clear hb
          refine region_draw (fun j => Keeps (mfOf [(5, [b5183]), (7, [b5183])] j)) (by kernel_rfl) ?_
          have hS := hS.drew
          first | generalize w.drew = w at hS ⊢ | generalize w0.drew = w at hS ⊢
          refine tW 0 1 (fuel := 7) (by kernel_rfl) hE (fun M => g_fieldAddr (fo := 43) (ft := 32) 43 rfl rfl rfl rfl hE rfl rfl (by kernel_rfl) rfl (fun a hE => ?_))
          refine tT 1 3 (fuel := 6) (by kernel_rfl) hE (tk_load 2 (.slice A5 (List.length (x1.fData)) c6) rfl rfl rfl rfl hE rfl hS rfl rfl (by kernel_rfl) (kL (j := 2) hS rfl List.not_mem_nil) (fun a hE => ?_))
          refine tW 2 7 (fuel := 5) (by kernel_rfl) hE (fun M => g_fieldAddr (fo := 44) (ft := 23) 44 rfl rfl rfl rfl hE rfl rfl (by kernel_rfl) rfl (fun a hE => ?_))
          refine tN (T := [(5, [b5183]), (7, [b5183])]) [5] 3 15 (fuel := 4) (by kernel_rfl) hE (tk_load 2 (.agg (List.toArray (acells .u8 32 (x1.fSalt)))) rfl rfl rfl rfl hE rfl hS rfl rfl (by kernel_rfl) (kL (j := 2) hS rfl (show b5179 ∉ [b5183] from (nm_cons (hS.ne (i := 2) (j := 0) (by decide) rfl rfl) List.not_mem_nil))) (fun a hE => ?_))
          refine tW 4 31 (fuel := 3) (by kernel_rfl) hE (fun M => g_fieldAddr (fo := 43) (ft := 32) 43 rfl rfl rfl rfl hE rfl rfl (by kernel_rfl) rfl (fun a hE => ?_))
          obtain ⟨v10254, hv10255, hf⟩ := bind_some hf
          replace hv10255 := Option.some.inj hv10255
          refine oG 5 63 (fuel := 2) (by kernel_rfl) (op_store (v := .slice A5 (List.length (x1.fData)) c6) (c_T_api_Rec (v10254) A2 c3 A5 c6) rfl rfl rfl rfl hE hS rfl rfl (by kernel_rfl) (by kernel_rfl) (by kernel_rfl) (by kernel_rfl) (by rw [← hv10255]; kernel_rfl) (fun a w hkp hE hS => ⟨hkp.mono (fun _ h => h), ?_⟩))
          clear hkp
          have h10256 : Sl kd_T_api_Step D0 A2 c3 (v10254.fSteps) := by rw [← hv10255]; exact h10240
          have h10257 : Sl (kdInt .u8) D0 A5 c6 (v10254.fData) := by rw [← hv10255]; exact h7
          refine tW 6 127 (fuel := 1) (by kernel_rfl) hE (fun M => g_fieldAddr (fo := 44) (ft := 23) 44 rfl rfl rfl rfl hE rfl rfl (by kernel_rfl) rfl (fun a hE => ?_))
          obtain ⟨v10258, hv10259, hf⟩ := bind_some hf
          replace hv10259 := Option.some.inj hv10259
          refine oG 7 255 (fuel := 0) (by kernel_rfl) (op_store (v := .agg (List.toArray (acells .u8 32 (x1.fSalt)))) (c_T_api_Rec (v10258) A2 c3 A5 c6) rfl rfl rfl rfl hE hS rfl rfl (by kernel_rfl) (by kernel_rfl) (by kernel_rfl) (by kernel_rfl) (by rw [← hv10259]; kernel_rfl) (fun a w hkp hE hS => ⟨hkp.mono (fun _ h => h), ?_⟩))
          clear hkp
          have h10260 : Sl kd_T_api_Step D0 A2 c3 (v10258.fSteps) := by rw [← hv10259]; exact h10256
          have h10261 : Sl (kdInt .u8) D0 A5 c6 (v10258.fData) := by rw [← hv10259]; exact h10257
          refine doneG (by kernel_rfl) ?_
          refine wpIn_exit ?_
          have hS := hS.pk (.c 1 rfl (.c 0 rfl .n)) rfl
          exact ⟨v10258, A2, c3, A5, c6, D0, hE.weak (by kernel_rfl), hS, Snap.le.refl _, h10260, h10261, hf⟩
      · replace hf := cond_f hb hf
        clear hb
        refine wpIn_skip ?_
        refine wpIn_seq ?_
        refine wpIn_seq ?_
        refine region_at ?_
        refine segN 2 (j := 2) [(11, .bool ((decide (x1.fKind = (3 : Int)))))] hE (by kernel_rfl) rfl (fun a hE => ?_)
        refine at_end rfl ?_
        refine cond_split hE (b := (decide (x1.fKind = (3 : Int)))) rfl (fun hb => ?_) (fun hb => ?_)
        · replace hf := cond_t hb hf
          clear hb
          refine wpIn_exit ?_
          refine region_draw (fun j => Keeps (mfOf [(9, [b5183]), (11, [b5183]), (13, [b5183]), (15, [b5183])] j)) (by kernel_rfl) ?_
          have hS := hS.drew
          first | generalize w.drew = w at hS ⊢ | generalize w0.drew = w at hS ⊢
          refine tW 0 1 (fuel := 15) (by kernel_rfl) hE (fun M => g_fieldAddr (fo := 6) (ft := 4) 6 rfl rfl rfl rfl hE rfl rfl (by kernel_rfl) rfl (fun a hE => ?_))
          refine tT 1 3 (fuel := 14) (by kernel_rfl) hE (tk_load 2 (.bool (x1.fGood)) rfl rfl rfl rfl hE rfl hS rfl rfl (by kernel_rfl) (kL (j := 2) hS rfl List.not_mem_nil) (fun a hE => ?_))
          refine tW 2 7 (fuel := 13) (by kernel_rfl) hE (fun M => g_fieldAddr (fo := 8) (ft := 3) 8 rfl rfl rfl rfl hE rfl rfl (by kernel_rfl) rfl (fun a hE => ?_))
          refine tN (T := [(9, [b5183]), (11, [b5183]), (13, [b5183]), (15, [b5183])]) [9] 3 15 (fuel := 12) (by kernel_rfl) hE (tk_load 2 (.int .i64 (x1.fPart)) rfl rfl rfl rfl hE rfl hS rfl rfl (by kernel_rfl) (kL (j := 2) hS rfl (show b5179 ∉ [b5183] from (nm_cons (hS.ne (i := 2) (j := 0) (by decide) rfl rfl) List.not_mem_nil))) (fun a hE => ?_))
          refine tW 4 31 (fuel := 11) (by kernel_rfl) hE (fun M => g_fieldAddr (fo := 9) (ft := 3) 9 rfl rfl rfl rfl hE rfl rfl (by kernel_rfl) rfl (fun a hE => ?_))
          refine tN (T := [(9, [b5183]), (11, [b5183]), (13, [b5183]), (15, [b5183])]) [9, 11] 5 63 (fuel := 10) (by kernel_rfl) hE (tk_load 2 (.int .i64 (x1.fEpoch)) rfl rfl rfl rfl hE rfl hS rfl rfl (by kernel_rfl) (kL (j := 2) hS rfl (show b5179 ∉ [b5183, b5183] from (nm_cons (hS.ne (i := 2) (j := 0) (by decide) rfl rfl) (nm_cons (hS.ne (i := 2) (j := 0) (by decide) rfl rfl) List.not_mem_nil)))) (fun a hE => ?_))
          refine tW 6 127 (fuel := 9) (by kernel_rfl) hE (fun M => g_fieldAddr (fo := 10) (ft := 23) 10 rfl rfl rfl rfl hE rfl rfl (by kernel_rfl) rfl (fun a hE => ?_))
          refine tN (T := [(9, [b5183]), (11, [b5183]), (13, [b5183]), (15, [b5183])]) [9, 11, 13] 7 255 (fuel := 8) (by kernel_rfl) hE (tk_load 2 (.agg (List.toArray (acells .u8 32 (x1.fTag)))) rfl rfl rfl rfl hE rfl hS rfl rfl (by kernel_rfl) (kL (j := 2) hS rfl (show b5179 ∉ [b5183, b5183, b5183] from (nm_cons (hS.ne (i := 2) (j := 0) (by decide) rfl rfl) (nm_cons (hS.ne (i := 2) (j := 0) (by decide) rfl rfl) (nm_cons (hS.ne (i := 2) (j := 0) (by decide) rfl rfl) List.not_mem_nil))))) (fun a hE => ?_))
          refine tW 8 511 (fuel := 7) (by kernel_rfl) hE (fun M => g_fieldAddr (fo := 6) (ft := 4) 6 rfl rfl rfl rfl hE rfl rfl (by kernel_rfl) rfl (fun a hE => ?_))
          obtain ⟨v10278, hv10279, hf⟩ := bind_some hf
          replace hv10279 := Option.some.inj hv10279
          refine oG 9 1023 (fuel := 6) (by kernel_rfl) (op_store (v := .bool (x1.fGood)) (c_T_api_Rec (v10278) none 0 none 0) rfl rfl rfl rfl hE hS rfl rfl (by kernel_rfl) (by kernel_rfl) (by kernel_rfl) (by kernel_rfl) (by rw [← hv10279]; kernel_rfl) (fun a w hkp hE hS => ⟨hkp.mono (fun _ h => h), ?_⟩))
          clear hkp
          have h10280 : Sl kd_T_api_Step D0 none 0 (v10278.fSteps) := by rw [← hv10279]; exact h5187
          have h10281 : Sl (kdInt .u8) D0 none 0 (v10278.fData) := by rw [← hv10279]; exact h5188
          refine tW 10 2047 (fuel := 5) (by kernel_rfl) hE (fun M => g_fieldAddr (fo := 8) (ft := 3) 8 rfl rfl rfl rfl hE rfl rfl (by kernel_rfl) rfl (fun a hE => ?_))
          obtain ⟨v10282, hv10283, hf⟩ := bind_some hf
          replace hv10283 := Option.some.inj hv10283
          refine oG 11 4095 (fuel := 4) (by kernel_rfl) (op_store (v := .int .i64 (x1.fPart)) (c_T_api_Rec (v10282) none 0 none 0) rfl rfl rfl rfl hE hS rfl rfl (by kernel_rfl) (by kernel_rfl) (by kernel_rfl) (by kernel_rfl) (by rw [← hv10283]; kernel_rfl) (fun a w hkp hE hS => ⟨hkp.mono (fun _ h => h), ?_⟩))
          clear hkp
          have h10284 : Sl kd_T_api_Step D0 none 0 (v10282.fSteps) := by rw [← hv10283]; exact h10280
          have h10285 : Sl (kdInt .u8) D0 none 0 (v10282.fData) := by rw [← hv10283]; exact h10281
          refine tW 12 8191 (fuel := 3) (by kernel_rfl) hE (fun M => g_fieldAddr (fo := 9) (ft := 3) 9 rfl rfl rfl rfl hE rfl rfl (by kernel_rfl) rfl (fun a hE => ?_))
          obtain ⟨v10286, hv10287, hf⟩ := bind_some hf
          replace hv10287 := Option.some.inj hv10287
          refine oG 13 16383 (fuel := 2) (by kernel_rfl) (op_store (v := .int .i64 (x1.fEpoch)) (c_T_api_Rec (v10286) none 0 none 0) rfl rfl rfl rfl hE hS rfl rfl (by kernel_rfl) (by kernel_rfl) (by kernel_rfl) (by kernel_rfl) (by rw [← hv10287]; kernel_rfl) (fun a w hkp hE hS => ⟨hkp.mono (fun _ h => h), ?_⟩))
          clear hkp
          have h10288 : Sl kd_T_api_Step D0 none 0 (v10286.fSteps) := by rw [← hv10287]; exact h10284
          have h10289 : Sl (kdInt .u8) D0 none 0 (v10286.fData) := by rw [← hv10287]; exact h10285
          refine tW 14 32767 (fuel := 1) (by kernel_rfl) hE (fun M => g_fieldAddr (fo := 10) (ft := 23) 10 rfl rfl rfl rfl hE rfl rfl (by kernel_rfl) rfl (fun a hE => ?_))
          obtain ⟨v10290, hv10291, hf⟩ := bind_some hf
          replace hv10291 := Option.some.inj hv10291
          refine oG 15 65535 (fuel := 0) (by kernel_rfl) (op_store (v := .agg (List.toArray (acells .u8 32 (x1.fTag)))) (c_T_api_Rec (v10290) none 0 none 0) rfl rfl rfl rfl hE hS rfl rfl (by kernel_rfl) (by kernel_rfl) (by kernel_rfl) (by kernel_rfl) (by rw [← hv10291]; kernel_rfl) (fun a w hkp hE hS => ⟨hkp.mono (fun _ h => h), ?_⟩))
          clear hkp
          have h10292 : Sl kd_T_api_Step D0 none 0 (v10290.fSteps) := by rw [← hv10291]; exact h10288
          have h10293 : Sl (kdInt .u8) D0 none 0 (v10290.fData) := by rw [← hv10291]; exact h10289
          refine doneG (by kernel_rfl) ?_
          have hS := hS.pk (.c 2 rfl (.c 1 rfl (.c 0 rfl .n))) rfl
          exact ⟨v10290, none, 0, none, 0, D0, hE.weak (by kernel_rfl), hS, Snap.le.refl _, h10292, h10293, hf⟩
        · replace hf := cond_f hb hf
          clear hb
          refine wpIn_skip ?_
          refine wpIn_seq ?_
          obtain ⟨j10342, hj10343, hf⟩ := jn_elim hf
          refine seq_join (fun a w => ∃ (y10299 : Bool), ∃ (D10300 : Snap), Env a 83 [] [(1, .pointer (some ⟨b5179, 0, none⟩)), (2, .pointer (some ⟨b5181, 0, none⟩)), (3, .pointer (some ⟨b5183, 0, none⟩)), (8, .int .i64 (x1.fKind)), (13, .bool (y10299))] ∧ Stp g w0 D0 [] w D10300 [bx b5179 47 (c_T_api_Rec (x1) A2 c3 A5 c6), bx b5181 47 (c_T_api_Rec (z_T_api_Rec) none 0 none 0), bx b5183 47 (c_T_api_Rec (v5185) none 0 none 0)] ∧ Snap.le D0 D10300 ∧ j10342 y10299 = some r) ?_ ?_
          · clear hj10343
            refine wpIn_seq ?_
            refine region_at ?_
            refine segN 2 (j := 2) [(13, .bool ((decide (x1.fKind = (2 : Int)))))] hE (by kernel_rfl) rfl (fun a hE => ?_)
            refine at_end rfl ?_
            refine cond_split hE (b := (decide (x1.fKind = (2 : Int)))) rfl (fun hb => ?_) (fun hb => ?_)
            · replace hf := cond_t hb hf
              clear hb
              refine wpIn_skip ?_
              have hS := hS.pk (.c 2 rfl (.c 1 rfl (.c 0 rfl .n))) rfl
              exact ⟨(decide (x1.fKind = (2 : Int))), D0, hE.weak (by kernel_rfl), hS, Snap.le.refl _, hf⟩
            · replace hf := cond_f hb hf
              clear hb
              refine region_at ?_
              refine segN 2 (j := 2) [(13, .bool ((decide (x1.fKind = (4 : Int)))))] hE (by kernel_rfl) rfl (fun a hE => ?_)
              refine at_end rfl ?_
              have hS := hS.pk (.c 2 rfl (.c 1 rfl (.c 0 rfl .n))) rfl
              exact ⟨(decide (x1.fKind = (4 : Int))), D0, hE.weak (by kernel_rfl), hS, Snap.le.refl _, hf⟩
          · clear hE hS
            rintro a w ⟨y10299, D10300, hE, hS, le10301, hf⟩
            replace hf := hj10343 _ hf
            clear hj10343
            refine cond_split hE (b := y10299) rfl (fun hb => ?_) (fun hb => ?_)
            · replace hf := cond_t hb hf
              clear hb
              refine wpIn_exit ?_
              exact ⟨v5185, none, 0, none, 0, D10300, hE.weak (by kernel_rfl), hS, le10301, (h5187.mono le10301), (h5188.mono le10301), hf⟩
            · replace hf := cond_f hb hf
              clear hb
              refine wpIn_skip ?_
              refine wpIn_seq ?_
              refine wpIn_seq ?_
              refine region_at ?_
              refine segN 2 (j := 2) [(16, .bool ((decide (x1.fKind = (5 : Int)))))] hE (by kernel_rfl) rfl (fun a hE => ?_)
              refine at_end rfl ?_
              refine cond_split hE (b := (decide (x1.fKind = (5 : Int)))) rfl (fun hb => ?_) (fun hb => ?_)
              · replace hf := cond_t hb hf
                clear hb
                refine wpIn_exit ?_
                refine wpIn_seq ?_
                refine region_draw (fun j => Keeps (mfOf [(7, [b5183]), (9, [b5183]), (11, [b5183])] j)) (by kernel_rfl) ?_
                have hS := hS.drew
                first | generalize w.drew = w at hS ⊢ | generalize w0.drew = w at hS ⊢
                refine tW 0 1 (fuel := 11) (by kernel_rfl) hE (fun M => g_fieldAddr (fo := 1) (ft := 3) 1 rfl rfl rfl rfl hE rfl rfl (by kernel_rfl) rfl (fun a hE => ?_))
                refine tT 1 3 (fuel := 10) (by kernel_rfl) hE (tk_load 0 (.int .i64 (x1.fSaga)) rfl rfl rfl rfl hE rfl hS rfl rfl (by kernel_rfl) (kL (j := 0) hS rfl List.not_mem_nil) (fun a hE => ?_))
                refine tW 2 7 (fuel := 9) (by kernel_rfl) hE (fun M => g_fieldAddr (fo := 2) (ft := 3) 2 rfl rfl rfl rfl hE rfl rfl (by kernel_rfl) rfl (fun a hE => ?_))
                refine tN (T := [(7, [b5183]), (9, [b5183]), (11, [b5183])]) [7] 3 15 (fuel := 8) (by kernel_rfl) hE (tk_load 0 (.int .i64 (x1.fSeq)) rfl rfl rfl rfl hE rfl hS rfl rfl (by kernel_rfl) (kL (j := 0) hS rfl (show b5179 ∉ [b5183] from (nm_cons (hS.ne (i := 0) (j := 2) (by decide) rfl rfl) List.not_mem_nil))) (fun a hE => ?_))
                refine tW 4 31 (fuel := 7) (by kernel_rfl) hE (fun M => g_fieldAddr (fo := 7) (ft := 3) 7 rfl rfl rfl rfl hE rfl rfl (by kernel_rfl) rfl (fun a hE => ?_))
                refine tN (T := [(7, [b5183]), (9, [b5183]), (11, [b5183])]) [7, 9] 5 63 (fuel := 6) (by kernel_rfl) hE (tk_load 0 (.int .i64 (x1.fEnd)) rfl rfl rfl rfl hE rfl hS rfl rfl (by kernel_rfl) (kL (j := 0) hS rfl (show b5179 ∉ [b5183, b5183] from (nm_cons (hS.ne (i := 0) (j := 2) (by decide) rfl rfl) (nm_cons (hS.ne (i := 0) (j := 2) (by decide) rfl rfl) List.not_mem_nil)))) (fun a hE => ?_))
                refine tW 6 127 (fuel := 5) (by kernel_rfl) hE (fun M => g_fieldAddr (fo := 1) (ft := 3) 1 rfl rfl rfl rfl hE rfl rfl (by kernel_rfl) rfl (fun a hE => ?_))
                have hS := hS.pk (.c 2 rfl (.c 0 rfl (.c 1 rfl .n))) rfl
                obtain ⟨v10314, hv10315, hf⟩ := bind_some hf
                replace hv10315 := Option.some.inj hv10315
                refine oG 7 255 (fuel := 4) (by kernel_rfl) (op_store (v := .int .i64 (x1.fSaga)) (c_T_api_Rec (v10314) none 0 none 0) rfl rfl rfl rfl hE hS rfl rfl (by kernel_rfl) (by kernel_rfl) (by kernel_rfl) (by kernel_rfl) (by rw [← hv10315]; kernel_rfl) (fun a w hkp hE hS => ⟨hkp.mono (fun _ h => h), ?_⟩))
                clear hkp
                have h10316 : Sl kd_T_api_Step D0 none 0 (v10314.fSteps) := by rw [← hv10315]; exact h5187
                have h10317 : Sl (kdInt .u8) D0 none 0 (v10314.fData) := by rw [← hv10315]; exact h5188
                refine tW 8 511 (fuel := 3) (by kernel_rfl) hE (fun M => g_fieldAddr (fo := 2) (ft := 3) 2 rfl rfl rfl rfl hE rfl rfl (by kernel_rfl) rfl (fun a hE => ?_))
                obtain ⟨v10318, hv10319, hf⟩ := bind_some hf
                replace hv10319 := Option.some.inj hv10319
                refine oG 9 1023 (fuel := 2) (by kernel_rfl) (op_store (v := .int .i64 (x1.fSeq)) (c_T_api_Rec (v10318) none 0 none 0) rfl rfl rfl rfl hE hS rfl rfl (by kernel_rfl) (by kernel_rfl) (by kernel_rfl) (by kernel_rfl) (by rw [← hv10319]; kernel_rfl) (fun a w hkp hE hS => ⟨hkp.mono (fun _ h => h), ?_⟩))
                clear hkp
                have h10320 : Sl kd_T_api_Step D0 none 0 (v10318.fSteps) := by rw [← hv10319]; exact h10316
                have h10321 : Sl (kdInt .u8) D0 none 0 (v10318.fData) := by rw [← hv10319]; exact h10317
                refine tW 10 2047 (fuel := 1) (by kernel_rfl) hE (fun M => g_fieldAddr (fo := 7) (ft := 3) 7 rfl rfl rfl rfl hE rfl rfl (by kernel_rfl) rfl (fun a hE => ?_))
                obtain ⟨v10322, hv10323, hf⟩ := bind_some hf
                replace hv10323 := Option.some.inj hv10323
                refine oG 11 4095 (fuel := 0) (by kernel_rfl) (op_store (v := .int .i64 (x1.fEnd)) (c_T_api_Rec (v10322) none 0 none 0) rfl rfl rfl rfl hE hS rfl rfl (by kernel_rfl) (by kernel_rfl) (by kernel_rfl) (by kernel_rfl) (by rw [← hv10323]; kernel_rfl) (fun a w hkp hE hS => ⟨hkp.mono (fun _ h => h), ?_⟩))
                clear hkp
                have h10324 : Sl kd_T_api_Step D0 none 0 (v10322.fSteps) := by rw [← hv10323]; exact h10320
                have h10325 : Sl (kdInt .u8) D0 none 0 (v10322.fData) := by rw [← hv10323]; exact h10321
                refine doneG (by kernel_rfl) ?_
                refine wpIn_exit ?_
                have hS := hS.pk (.c 2 rfl (.c 0 rfl .n)) rfl
                exact ⟨v10322, none, 0, none, 0, D10300, hE.weak (by kernel_rfl), hS, le10301, (h10324.mono le10301), (h10325.mono le10301), hf⟩
              · replace hf := cond_f hb hf
                clear hb
                refine wpIn_skip ?_
                refine wpIn_seq ?_
                refine region_at ?_
                refine segN 2 (j := 2) [(18, .bool ((decide (x1.fKind = (6 : Int)))))] hE (by kernel_rfl) rfl (fun a hE => ?_)
                refine at_end rfl ?_
                refine cond_split hE (b := (decide (x1.fKind = (6 : Int)))) rfl (fun hb => ?_) (fun hb => ?_)
                · replace hf := cond_t hb hf
                  clear hb
                  refine wpIn_exit ?_
                  refine wpIn_seq ?_
                  refine region_draw (fun j => Keeps (mfOf [(5, [b5183]), (7, [b5183])] j)) (by kernel_rfl) ?_
                  have hS := hS.drew
                  first | generalize w.drew = w at hS ⊢ | generalize w0.drew = w at hS ⊢
                  refine tW 0 1 (fuel := 7) (by kernel_rfl) hE (fun M => g_fieldAddr (fo := 8) (ft := 3) 8 rfl rfl rfl rfl hE rfl rfl (by kernel_rfl) rfl (fun a hE => ?_))
                  refine tT 1 3 (fuel := 6) (by kernel_rfl) hE (tk_load 0 (.int .i64 (x1.fPart)) rfl rfl rfl rfl hE rfl hS rfl rfl (by kernel_rfl) (kL (j := 0) hS rfl List.not_mem_nil) (fun a hE => ?_))
                  refine tW 2 7 (fuel := 5) (by kernel_rfl) hE (fun M => g_fieldAddr (fo := 9) (ft := 3) 9 rfl rfl rfl rfl hE rfl rfl (by kernel_rfl) rfl (fun a hE => ?_))
                  refine tN (T := [(5, [b5183]), (7, [b5183])]) [5] 3 15 (fuel := 4) (by kernel_rfl) hE (tk_load 0 (.int .i64 (x1.fEpoch)) rfl rfl rfl rfl hE rfl hS rfl rfl (by kernel_rfl) (kL (j := 0) hS rfl (show b5179 ∉ [b5183] from (nm_cons (hS.ne (i := 0) (j := 2) (by decide) rfl rfl) List.not_mem_nil))) (fun a hE => ?_))
                  refine tW 4 31 (fuel := 3) (by kernel_rfl) hE (fun M => g_fieldAddr (fo := 8) (ft := 3) 8 rfl rfl rfl rfl hE rfl rfl (by kernel_rfl) rfl (fun a hE => ?_))
                  have hS := hS.pk (.c 2 rfl (.c 0 rfl (.c 1 rfl .n))) rfl
                  obtain ⟨v10334, hv10335, hf⟩ := bind_some hf
                  replace hv10335 := Option.some.inj hv10335
                  refine oG 5 63 (fuel := 2) (by kernel_rfl) (op_store (v := .int .i64 (x1.fPart)) (c_T_api_Rec (v10334) none 0 none 0) rfl rfl rfl rfl hE hS rfl rfl (by kernel_rfl) (by kernel_rfl) (by kernel_rfl) (by kernel_rfl) (by rw [← hv10335]; kernel_rfl) (fun a w hkp hE hS => ⟨hkp.mono (fun _ h => h), ?_⟩))
                  clear hkp
                  have h10336 : Sl kd_T_api_Step D0 none 0 (v10334.fSteps) := by rw [← hv10335]; exact h5187
                  have h10337 : Sl (kdInt .u8) D0 none 0 (v10334.fData) := by rw [← hv10335]; exact h5188
                  refine tW 6 127 (fuel := 1) (by kernel_rfl) hE (fun M => g_fieldAddr (fo := 9) (ft := 3) 9 rfl rfl rfl rfl hE rfl rfl (by kernel_rfl) rfl (fun a hE => ?_))
                  obtain ⟨v10338, hv10339, hf⟩ := bind_some hf
                  replace hv10339 := Option.some.inj hv10339
                  refine oG 7 255 (fuel := 0) (by kernel_rfl) (op_store (v := .int .i64 (x1.fEpoch)) (c_T_api_Rec (v10338) none 0 none 0) rfl rfl rfl rfl hE hS rfl rfl (by kernel_rfl) (by kernel_rfl) (by kernel_rfl) (by kernel_rfl) (by rw [← hv10339]; kernel_rfl) (fun a w hkp hE hS => ⟨hkp.mono (fun _ h => h), ?_⟩))
                  clear hkp
                  have h10340 : Sl kd_T_api_Step D0 none 0 (v10338.fSteps) := by rw [← hv10339]; exact h10336
                  have h10341 : Sl (kdInt .u8) D0 none 0 (v10338.fData) := by rw [← hv10339]; exact h10337
                  refine doneG (by kernel_rfl) ?_
                  refine wpIn_exit ?_
                  have hS := hS.pk (.c 2 rfl (.c 0 rfl .n)) rfl
                  exact ⟨v10338, none, 0, none, 0, D10300, hE.weak (by kernel_rfl), hS, le10301, (h10340.mono le10301), (h10341.mono le10301), hf⟩
                · replace hf := cond_f hb hf
                  clear hb
                  refine wpIn_skip ?_
                  refine wpIn_exit ?_
                  have hS := hS.pk (.c 1 rfl (.c 2 rfl .n)) rfl
                  exact ⟨v5185, none, 0, none, 0, D10300, hE.weak (by kernel_rfl), hS, le10301, (h5187.mono le10301), (h5188.mono le10301), hf⟩
    · clear hE hS
      rintro a w ⟨y9965, A9968, c9969, A9971, c9972, D9966, hE, hS, le9967, h9970, h9973, hf⟩
      replace hf := hj10015 _ hf
      clear hj10015
      refine wpIn_seq ?_
      refine region_draw (fun j => Keeps (mfOf [(11, [b5183]), (13, [b5183]), (15, [b5183]), (17, [b5183]), (19, [b5183])] j)) (by kernel_rfl) ?_
      have hS := hS.drew
      first | generalize w.drew = w at hS ⊢ | generalize w0.drew = w at hS ⊢
      refine tW 0 1 (fuel := 19) (by kernel_rfl) hE (fun M => g_fieldAddr (fo := 1) (ft := 3) 1 rfl rfl rfl rfl hE rfl rfl (by kernel_rfl) rfl (fun a hE => ?_))
      refine tT 1 3 (fuel := 18) (by kernel_rfl) hE (tk_load 0 (.int .i64 (x1.fSaga)) rfl rfl rfl rfl hE rfl hS rfl rfl (by kernel_rfl) (kL (j := 0) hS rfl List.not_mem_nil) (fun a hE => ?_))
      refine tW 2 7 (fuel := 17) (by kernel_rfl) hE (fun M => g_fieldAddr (fo := 2) (ft := 3) 2 rfl rfl rfl rfl hE rfl rfl (by kernel_rfl) rfl (fun a hE => ?_))
      refine tN (T := [(11, [b5183]), (13, [b5183]), (15, [b5183]), (17, [b5183]), (19, [b5183])]) [11] 3 15 (fuel := 16) (by kernel_rfl) hE (tk_load 0 (.int .i64 (x1.fSeq)) rfl rfl rfl rfl hE rfl hS rfl rfl (by kernel_rfl) (kL (j := 0) hS rfl (show b5179 ∉ [b5183] from (nm_cons (hS.ne (i := 0) (j := 2) (by decide) rfl rfl) List.not_mem_nil))) (fun a hE => ?_))
      refine tW 4 31 (fuel := 15) (by kernel_rfl) hE (fun M => g_fieldAddr (fo := 3) (ft := 3) 3 rfl rfl rfl rfl hE rfl rfl (by kernel_rfl) rfl (fun a hE => ?_))
      refine tN (T := [(11, [b5183]), (13, [b5183]), (15, [b5183]), (17, [b5183]), (19, [b5183])]) [11, 13] 5 63 (fuel := 14) (by kernel_rfl) hE (tk_load 0 (.int .i64 (x1.fStep)) rfl rfl rfl rfl hE rfl hS rfl rfl (by kernel_rfl) (kL (j := 0) hS rfl (show b5179 ∉ [b5183, b5183] from (nm_cons (hS.ne (i := 0) (j := 2) (by decide) rfl rfl) (nm_cons (hS.ne (i := 0) (j := 2) (by decide) rfl rfl) List.not_mem_nil)))) (fun a hE => ?_))
      refine tW 6 127 (fuel := 13) (by kernel_rfl) hE (fun M => g_fieldAddr (fo := 4) (ft := 3) 4 rfl rfl rfl rfl hE rfl rfl (by kernel_rfl) rfl (fun a hE => ?_))
      refine tN (T := [(11, [b5183]), (13, [b5183]), (15, [b5183]), (17, [b5183]), (19, [b5183])]) [11, 13, 15] 7 255 (fuel := 12) (by kernel_rfl) hE (tk_load 0 (.int .i64 (x1.fTry)) rfl rfl rfl rfl hE rfl hS rfl rfl (by kernel_rfl) (kL (j := 0) hS rfl (show b5179 ∉ [b5183, b5183, b5183] from (nm_cons (hS.ne (i := 0) (j := 2) (by decide) rfl rfl) (nm_cons (hS.ne (i := 0) (j := 2) (by decide) rfl rfl) (nm_cons (hS.ne (i := 0) (j := 2) (by decide) rfl rfl) List.not_mem_nil))))) (fun a hE => ?_))
      refine tW 8 511 (fuel := 11) (by kernel_rfl) hE (fun M => g_fieldAddr (fo := 5) (ft := 4) 5 rfl rfl rfl rfl hE rfl rfl (by kernel_rfl) rfl (fun a hE => ?_))
      refine tN (T := [(11, [b5183]), (13, [b5183]), (15, [b5183]), (17, [b5183]), (19, [b5183])]) [11, 13, 15, 17] 9 1023 (fuel := 10) (by kernel_rfl) hE (tk_load 0 (.bool (x1.fBack)) rfl rfl rfl rfl hE rfl hS rfl rfl (by kernel_rfl) (kL (j := 0) hS rfl (show b5179 ∉ [b5183, b5183, b5183, b5183] from (nm_cons (hS.ne (i := 0) (j := 2) (by decide) rfl rfl) (nm_cons (hS.ne (i := 0) (j := 2) (by decide) rfl rfl) (nm_cons (hS.ne (i := 0) (j := 2) (by decide) rfl rfl) (nm_cons (hS.ne (i := 0) (j := 2) (by decide) rfl rfl) List.not_mem_nil)))))) (fun a hE => ?_))
      refine tW 10 2047 (fuel := 9) (by kernel_rfl) hE (fun M => g_fieldAddr (fo := 1) (ft := 3) 1 rfl rfl rfl rfl hE rfl rfl (by kernel_rfl) rfl (fun a hE => ?_))
      have hS := hS.pk (.c 2 rfl (.c 0 rfl (.c 1 rfl .n))) rfl
      obtain ⟨v9994, hv9995, hf⟩ := bind_some hf
      replace hv9995 := Option.some.inj hv9995
      refine oG 11 4095 (fuel := 8) (by kernel_rfl) (op_store (v := .int .i64 (x1.fSaga)) (c_T_api_Rec (v9994) A9968 c9969 A9971 c9972) rfl rfl rfl rfl hE hS rfl rfl (by kernel_rfl) (by kernel_rfl) (by kernel_rfl) (by kernel_rfl) (by rw [← hv9995]; kernel_rfl) (fun a w hkp hE hS => ⟨hkp.mono (fun _ h => h), ?_⟩))
      clear hkp
      have h9996 : Sl kd_T_api_Step D9966 A9968 c9969 (v9994.fSteps) := by rw [← hv9995]; exact h9970
      have h9997 : Sl (kdInt .u8) D9966 A9971 c9972 (v9994.fData) := by rw [← hv9995]; exact h9973
      refine tW 12 8191 (fuel := 7) (by kernel_rfl) hE (fun M => g_fieldAddr (fo := 2) (ft := 3) 2 rfl rfl rfl rfl hE rfl rfl (by kernel_rfl) rfl (fun a hE => ?_))
      obtain ⟨v9998, hv9999, hf⟩ := bind_some hf
      replace hv9999 := Option.some.inj hv9999
      refine oG 13 16383 (fuel := 6) (by kernel_rfl) (op_store (v := .int .i64 (x1.fSeq)) (c_T_api_Rec (v9998) A9968 c9969 A9971 c9972) rfl rfl rfl rfl hE hS rfl rfl (by kernel_rfl) (by kernel_rfl) (by kernel_rfl) (by kernel_rfl) (by rw [← hv9999]; kernel_rfl) (fun a w hkp hE hS => ⟨hkp.mono (fun _ h => h), ?_⟩))
      clear hkp
      have h10000 : Sl kd_T_api_Step D9966 A9968 c9969 (v9998.fSteps) := by rw [← hv9999]; exact h9996
      have h10001 : Sl (kdInt .u8) D9966 A9971 c9972 (v9998.fData) := by rw [← hv9999]; exact h9997
      refine tW 14 32767 (fuel := 5) (by kernel_rfl) hE (fun M => g_fieldAddr (fo := 3) (ft := 3) 3 rfl rfl rfl rfl hE rfl rfl (by kernel_rfl) rfl (fun a hE => ?_))
      obtain ⟨v10002, hv10003, hf⟩ := bind_some hf
      replace hv10003 := Option.some.inj hv10003
      refine oG 15 65535 (fuel := 4) (by kernel_rfl) (op_store (v := .int .i64 (x1.fStep)) (c_T_api_Rec (v10002) A9968 c9969 A9971 c9972) rfl rfl rfl rfl hE hS rfl rfl (by kernel_rfl) (by kernel_rfl) (by kernel_rfl) (by kernel_rfl) (by rw [← hv10003]; kernel_rfl) (fun a w hkp hE hS => ⟨hkp.mono (fun _ h => h), ?_⟩))
      clear hkp
      have h10004 : Sl kd_T_api_Step D9966 A9968 c9969 (v10002.fSteps) := by rw [← hv10003]; exact h10000
      have h10005 : Sl (kdInt .u8) D9966 A9971 c9972 (v10002.fData) := by rw [← hv10003]; exact h10001
      refine tW 16 131071 (fuel := 3) (by kernel_rfl) hE (fun M => g_fieldAddr (fo := 4) (ft := 3) 4 rfl rfl rfl rfl hE rfl rfl (by kernel_rfl) rfl (fun a hE => ?_))
      obtain ⟨v10006, hv10007, hf⟩ := bind_some hf
      replace hv10007 := Option.some.inj hv10007
      refine oG 17 262143 (fuel := 2) (by kernel_rfl) (op_store (v := .int .i64 (x1.fTry)) (c_T_api_Rec (v10006) A9968 c9969 A9971 c9972) rfl rfl rfl rfl hE hS rfl rfl (by kernel_rfl) (by kernel_rfl) (by kernel_rfl) (by kernel_rfl) (by rw [← hv10007]; kernel_rfl) (fun a w hkp hE hS => ⟨hkp.mono (fun _ h => h), ?_⟩))
      clear hkp
      have h10008 : Sl kd_T_api_Step D9966 A9968 c9969 (v10006.fSteps) := by rw [← hv10007]; exact h10004
      have h10009 : Sl (kdInt .u8) D9966 A9971 c9972 (v10006.fData) := by rw [← hv10007]; exact h10005
      refine tW 18 524287 (fuel := 1) (by kernel_rfl) hE (fun M => g_fieldAddr (fo := 5) (ft := 4) 5 rfl rfl rfl rfl hE rfl rfl (by kernel_rfl) rfl (fun a hE => ?_))
      obtain ⟨v10010, hv10011, hf⟩ := bind_some hf
      replace hv10011 := Option.some.inj hv10011
      refine oG 19 1048575 (fuel := 0) (by kernel_rfl) (op_store (v := .bool (x1.fBack)) (c_T_api_Rec (v10010) A9968 c9969 A9971 c9972) rfl rfl rfl rfl hE hS rfl rfl (by kernel_rfl) (by kernel_rfl) (by kernel_rfl) (by kernel_rfl) (by rw [← hv10011]; kernel_rfl) (fun a w hkp hE hS => ⟨hkp.mono (fun _ h => h), ?_⟩))
      clear hkp
      have h10012 : Sl kd_T_api_Step D9966 A9968 c9969 (v10010.fSteps) := by rw [← hv10011]; exact h10008
      have h10013 : Sl (kdInt .u8) D9966 A9971 c9972 (v10010.fData) := by rw [← hv10011]; exact h10009
      refine doneG (by kernel_rfl) ?_
      refine wpIn_exit ?_
      have hS := hS.pk (.c 2 rfl (.c 0 rfl .n)) rfl
      exact ⟨v10010, A9968, c9969, A9971, c9972, D9966, hE.weak (by kernel_rfl), hS, le9967, h10012, h10013, hf⟩
  · clear hE hS
    rintro a w ⟨y7761, A7764, c7765, A7767, c7768, D7762, hE, hS, le7763, h7766, h7769, hf⟩
    replace hf := hj7771 _ hf
    clear hj7771
    refine wpIn_seq ?_
    refine region_at ?_
    refine at_op (op_tk hE (tk_load 1 (.agg (List.toArray (c_T_api_Rec (y7761) A7764 c7765 A7767 c7768))) rfl rfl rfl rfl hE rfl hS rfl rfl (by kernel_rfl) (kL (j := 1) hS rfl List.not_mem_nil) (fun a hE => ?_))) rfl
    refine at_op (op_store (v := .agg (List.toArray (c_T_api_Rec (y7761) A7764 c7765 A7767 c7768))) (c_T_api_Rec (y7761) A7764 c7765 A7767 c7768) rfl rfl rfl rfl hE hS rfl rfl (by kernel_rfl) (by kernel_rfl) (by kernel_rfl) (by kernel_rfl) (by kernel_rfl) (fun a w _ hE hS => ?_)) rfl
    refine at_end rfl ?_
    refine wpIn_ret ?_
    obtain rfl := Option.some.inj hf
    repeat (with_reducible first | refine then_ret ?_ | refine block_ret ?_ | refine qx_ret ?_)
    refine ret_gen ([.agg (List.toArray (c_T_api_Rec (y7761) A7764 c7765 A7767 c7768))]) hE (by rw [show Try.f51.results.toList = [.cell 2 47] from rfl]; exact ⟨_, _, _, 0, _, _, rfl, rfl, hS.heapAt (j := 0) rfl, by kernel_rfl, rfl⟩) ?_
    have hS := hS.pk .n rfl
    exact ⟨_, rfl, D7762, A7764, c7765, A7767, c7768, rfl, hS, h7766, h7769⟩

set_option maxRecDepth 100000 in
set_option maxHeartbeats 4000000 in
theorem slices_Equal_api_Step_api_Step.calls {K : Nat} {g w0 : World} {D0 : Snap} {x1 : (List T_api_Step)} {x5 : (List T_api_Step)} {A2 : Option Addr} {c3 : Nat} {A6 : Option Addr} {c7 : Nat} {r : (Bool)} (hf : slices_Equal_api_Step_api_Step.f K x1 x5 = some r) (hS0 : St g w0 D0 []) (h4 : Sl kd_T_api_Step D0 A2 c3 (x1)) (h8 : Sl kd_T_api_Step D0 A6 c7 (x5)) :
    CallsIn (Fw none) 0 Try.prog 69 (List.toArray [.slice A2 (List.length (x1)) c3, .slice A6 (List.length (x5)) c7]) w0 (fun e w' => ∃ v, e = .returned v ∧ ∃ (D1 : Snap), v = .bool (r) ∧ Stp g w0 D0 [] w' D1 []) := by
  unfold slices_Equal_api_Step_api_Step.f at hf
  have hS := Stp.refl hS0
  clear hS0
  refine calls_body (n := 26) Try.func69 rfl Try.ntmps69 rfl (fun a hE => ?_)
  have hE : Env a 26 [] [(0, .slice A2 (List.length (x1)) c3), (1, .slice A6 (List.length (x5)) c7)] := hE
  refine wpIn_seq ?_
  refine region_at ?_
  refine segN 1 (j := 1) [(4, .bool false)] hE (by kernel_rfl) rfl (fun a hE => ?_)
  refine at_end rfl ?_
  refine wpIn_seq ?_
  refine wpIn_seq ?_
  refine region_at ?_
  refine segN 5 (j := 5) [(10, .bool ((!decide (((List.length (x1) : Nat) : Int) = ((List.length (x5) : Nat) : Int)))))] hE (by kernel_rfl) rfl (fun a hE => ?_)
  refine at_end rfl ?_
  refine cond_split hE (b := (!decide (((List.length (x1) : Nat) : Int) = ((List.length (x5) : Nat) : Int)))) rfl (fun hb => ?_) (fun hb => ?_)
  · replace hf := cond_t hb hf
    clear hb
    refine wpIn_seq ?_
    refine region_at ?_
    refine segN 1 (j := 1) [(4, .bool false)] hE (by kernel_rfl) rfl (fun a hE => ?_)
    refine at_end rfl ?_
    refine wpIn_ret ?_
    obtain rfl := Option.some.inj hf
    repeat (with_reducible first | refine then_ret ?_ | refine block_ret ?_ | refine qx_ret ?_)
    refine ret_gen ([.bool false]) hE (by rw [show Try.f69.results.toList = [.tmp 4] from rfl]; exact ⟨_, _, rfl, rfl, rfl⟩) ?_
    exact ⟨_, rfl, D0, rfl, hS⟩
  · replace hf := cond_f hb hf
    clear hb
    refine wpIn_skip ?_
    refine wpIn_seq ?_
    refine wpIn_seq ?_
    refine region_at ?_
    refine segN 3 (j := 3) [(12, .int .i64 (((List.length (x1) : Nat) : Int))), (13, .int .i64 ((0 : Int)))] hE (by kernel_rfl) rfl (fun a hE => ?_)
    refine at_end rfl ?_
    obtain ⟨s1152, hf, hs1153⟩ := bind_some hf
    refine block_loop (fun a w => ∃ (z1149 : Unit), ∃ (D1150 : Snap), Env a 26 [] [] ∧ Stp g w0 D0 [] w D1150 [] ∧ Snap.le D0 D1150 ∧ (Sum.inr z1149) = s1152) (fun k a w => ∃ (y1047 : Int), ∃ (D1048 : Snap), Env a 26 [] [(0, .slice A2 (List.length (x1)) c3), (1, .slice A6 (List.length (x5)) c7), (12, .int .i64 (((List.length (x1) : Nat) : Int))), (13, .int .i64 (y1047))] ∧ Stp g w0 D0 [] w D1048 [] ∧ Snap.le D0 D1048 ∧ slices_Equal_api_Step_api_Step_l1.l K x1 x5 k y1047 = some s1152) K ?_ ?_ ?_
    · exact ⟨(0 : Int), D0, hE.weak (by kernel_rfl), hS, Snap.le.refl _, hf⟩
    · clear hE hS hf
      rintro a w ⟨z1149, D1150, hE, hS, le1151, rfl⟩
      have hf := hs1153
      clear hs1153
      refine wpIn_seq ?_
      refine region_at ?_
      refine segN 1 (j := 1) [(4, .bool true)] hE (by kernel_rfl) rfl (fun a hE => ?_)
      refine at_end rfl ?_
      refine wpIn_ret ?_
      obtain rfl := Option.some.inj hf
      repeat (with_reducible first | refine then_ret ?_ | refine block_ret ?_ | refine qx_ret ?_)
      refine ret_gen ([.bool true]) hE (by rw [show Try.f69.results.toList = [.tmp 4] from rfl]; exact ⟨_, _, rfl, rfl, rfl⟩) ?_
      exact ⟨_, rfl, D1150, rfl, hS⟩
    · clear hE hS hf
      rintro k a w ⟨y1047, D1048, hE, hS, le1049, hf⟩
      obtain ⟨k, rfl, hf⟩ := slices_Equal_api_Step_api_Step_l1.some _ _ hf
      refine ⟨k, rfl, ?_⟩
      unfold slices_Equal_api_Step_api_Step_l1.b at hf
      refine wpIn_seq ?_
      refine region_at ?_
      refine segN 1 (j := 1) [(14, .bool ((decide (y1047 < ((List.length (x1) : Nat) : Int)))))] hE (by kernel_rfl) rfl (fun a hE => ?_)
      refine at_end rfl ?_
      refine wpIn_seq ?_
      refine cond_split hE (b := (decide (y1047 < ((List.length (x1) : Nat) : Int)))) rfl (fun hb => ?_) (fun hb => ?_)
      · replace hf := cond_t hb hf
        clear hb
        refine wpIn_skip ?_
        refine wpIn_seq ?_
        refine wpIn_block ?_
        refine wpIn_seq ?_
        refine region_at ?_
        refine segN 2 (j := 2) [(5, .int .i64 (y1047))] hE (by kernel_rfl) rfl (fun a hE => ?_)
        refine at_end rfl ?_
        refine wpIn_seq ?_
        refine region_draw (fun j => Keeps (mfOf [] j)) (by kernel_rfl) ?_
        have hS := hS.drew
        first | generalize w.drew = w at hS ⊢ | generalize w0.drew = w at hS ⊢
        refine tW 0 1 (fuel := 8) (by kernel_rfl) hE (fun M => tk_pure (.slice A2 (List.length (x1)) c3) hE rfl rfl rfl rfl (fun _ _ _ e => by cases e) (by kernel_rfl) (fun a hE => ?_))
        refine tW 1 3 (fuel := 7) (by kernel_rfl) hE (fun M => tk_pure (.int .i64 (y1047)) hE rfl rfl rfl rfl (fun _ _ _ e => by cases e) (by kernel_rfl) (fun a hE => ?_))
        refine tW 4 19 (fuel := 6) (by kernel_rfl) hE (fun M => tk_pure (.slice A6 (List.length (x5)) c7) hE rfl rfl rfl rfl (fun _ _ _ e => by cases e) (by kernel_rfl) (fun a hE => ?_))
        refine tW 5 51 (fuel := 5) (by kernel_rfl) hE (fun M => tk_pure (.int .i64 (y1047)) hE rfl rfl rfl rfl (fun _ _ _ e => by cases e) (by kernel_rfl) (fun a hE => ?_))
        obtain ⟨x1226, h1227, hf⟩ := bind_some hf
        refine tW 2 55 (fuel := 4) (by kernel_rfl) hE (fun M => g_index (K := kd_T_api_Step) (e := 104) (by_ := 16) (zl := 2) rfl rfl rfl rfl hE rfl rfl rfl (by kernel_rfl) rfl (h4.mono le1049) h1227 (fun a b1228 o1229 hE h1230 => ?_))
        obtain ⟨cs1231, C1232, T1233, fr1234, hr1235, hb1236, hc1237⟩ := h1230
        obtain ⟨rfl⟩ := kd_T_api_Step_el hr1235
        refine tT 3 63 (fuel := 3) (by kernel_rfl) hE (tk_loadX (off0 := o1229) (off := 0) (c := c_T_api_Step (x1226)) (.agg (List.toArray (c_T_api_Step (x1226)))) rfl rfl rfl rfl hE rfl hS rfl hb1236 hc1237 (by kernel_rfl) (by kernel_rfl) (kD hS dn_nil) (fun a hE => ?_))
        obtain ⟨x1238, h1239, hf⟩ := bind_some hf
        refine tW 6 127 (fuel := 2) (by kernel_rfl) hE (fun M => g_index (K := kd_T_api_Step) (e := 104) (by_ := 16) (zl := 2) rfl rfl rfl rfl hE rfl rfl rfl (by kernel_rfl) rfl (h8.mono le1049) h1239 (fun a b1240 o1241 hE h1242 => ?_))
        obtain ⟨cs1243, C1244, T1245, fr1246, hr1247, hb1248, hc1249⟩ := h1242
        obtain ⟨rfl⟩ := kd_T_api_Step_el hr1247
        refine tT 7 255 (fuel := 1) (by kernel_rfl) hE (tk_loadX (off0 := o1241) (off := 0) (c := c_T_api_Step (x1238)) (.agg (List.toArray (c_T_api_Step (x1238)))) rfl rfl rfl rfl hE rfl hS rfl hb1248 hc1249 (by kernel_rfl) (by kernel_rfl) (kD hS dn_nil) (fun a hE => ?_))
        refine tW 8 511 (fuel := 0) (by kernel_rfl) hE (fun M => tk_bin (r := .bool ((!((decide (x1226.fPart = x1238.fPart)) && ((decide (x1226.fKind = x1238.fKind)) && true))))) rfl rfl rfl rfl hE rfl rfl rfl (neagg_run (by kernel_rfl) (EqR_struct (fs := structFs Try.prog 104) (by kernel_rfl) ⟨.int .i64 (x1226.fPart), .int .i64 (x1238.fPart), (decide (x1226.fPart = x1238.fPart)), _, by kernel_rfl, by kernel_rfl, by kernel_rfl, (EqR_int (by kernel_rfl)), ⟨.int .i64 (x1226.fKind), .int .i64 (x1238.fKind), (decide (x1226.fKind = x1238.fKind)), _, by kernel_rfl, by kernel_rfl, by kernel_rfl, (EqR_int (by kernel_rfl)), rfl, rfl⟩, rfl⟩)) (fun a hE => ?_))
        refine doneG (by kernel_rfl) ?_
        refine cond_split hE (b := (!((decide (x1226.fPart = x1238.fPart)) && ((decide (x1226.fKind = x1238.fKind)) && true)))) rfl (fun hb => ?_) (fun hb => ?_)
        · replace hf := cond_t hb hf
          clear hb
          refine wpIn_seq ?_
          refine region_at ?_
          refine segN 1 (j := 1) [(4, .bool false)] hE (by kernel_rfl) rfl (fun a hE => ?_)
          refine at_end rfl ?_
          refine wpIn_ret ?_
          obtain rfl := Option.some.inj hf
          replace hf := hs1153
          obtain rfl := Option.some.inj hf
          repeat (with_reducible first | refine then_ret ?_ | refine block_ret ?_ | refine qx_ret ?_)
          refine ret_gen ([.bool false]) hE (by rw [show Try.f69.results.toList = [.tmp 4] from rfl]; exact ⟨_, _, rfl, rfl, rfl⟩) ?_
          exact ⟨_, rfl, D1048, rfl, hS⟩
        · replace hf := cond_f hb hf
          clear hb
          refine wpIn_skip ?_
          refine region_at ?_
          refine segN 2 (j := 2) [(13, .int .i64 ((IntKind.wrap .i64 (y1047 + (1 : Int)))))] hE (by kernel_rfl) rfl (fun a hE => ?_)
          refine at_end rfl ?_
          exact ⟨(IntKind.wrap .i64 (y1047 + (1 : Int))), D1048, hE.weak (by kernel_rfl), hS, le1049, hf⟩
      · replace hf := cond_f hb hf
        clear hb
        refine wpIn_exit ?_
        obtain rfl := Option.some.inj hf
        exact ⟨(), D1048, hE.weak (by kernel_rfl), hS, le1049, rfl⟩

set_option maxRecDepth 100000 in
set_option maxHeartbeats 4000000 in
theorem bytes_Equal.calls {K : Nat} {g w0 : World} {D0 : Snap} {x1 : (List Int)} {x5 : (List Int)} {A2 : Option Addr} {c3 : Nat} {A6 : Option Addr} {c7 : Nat} {r : (Bool)} (hf : bytes_Equal.f K x1 x5 = some r) (hS0 : St g w0 D0 []) (h4 : Sl (kdInt .u8) D0 A2 c3 (x1)) (h8 : Sl (kdInt .u8) D0 A6 c7 (x5)) :
    CallsIn (Fw none) 0 Try.prog 70 (List.toArray [.slice A2 (List.length (x1)) c3, .slice A6 (List.length (x5)) c7]) w0 (fun e w' => ∃ v, e = .returned v ∧ ∃ (D1 : Snap), v = .bool (r) ∧ Stp g w0 D0 [] w' D1 []) := by
  unfold bytes_Equal.f at hf
  have hS := Stp.refl hS0
  clear hS0
  refine calls_body (n := 10) Try.func70 rfl Try.ntmps70 rfl (fun a hE => ?_)
  have hE : Env a 10 [] [(0, .slice A2 (List.length (x1)) c3), (1, .slice A6 (List.length (x5)) c7)] := hE
  refine wpIn_seq ?_
  refine region_at ?_
  refine segN 1 (j := 1) [(4, .bool false)] hE (by kernel_rfl) rfl (fun a hE => ?_)
  refine at_end rfl ?_
  refine wpIn_seq ?_
  refine region_at ?_
  refine segN 1 (j := 1) [(5, .slice A2 (List.length (x1)) c3)] hE (by kernel_rfl) rfl (fun a hE => ?_)
  refine at_op (op_tk hE (tk_b2s rfl rfl rfl rfl hE rfl hS rfl (by kernel_rfl) h4 (kD hS dn_nil) (fun a hE => ?_))) rfl
  refine segN 1 (j := 3) [(7, .slice A6 (List.length (x5)) c7)] hE (by kernel_rfl) rfl (fun a hE => ?_)
  refine at_op (op_tk hE (tk_b2s rfl rfl rfl rfl hE rfl hS rfl (by kernel_rfl) h8 (kD hS dn_nil) (fun a hE => ?_))) rfl
  refine at_op (op_tk hE (tk_bin (r := .bool ((ByteArray.toList (bofL (x1)) == ByteArray.toList (bofL (x5))))) rfl rfl rfl rfl hE rfl rfl rfl (fun w => bstr_run _ _ w _ rfl (by decide)) (fun a hE => ?_))) rfl
  refine segN 1 (j := 6) [(4, .bool ((ByteArray.toList (bofL (x1)) == ByteArray.toList (bofL (x5)))))] hE (by kernel_rfl) rfl (fun a hE => ?_)
  refine at_end rfl ?_
  refine wpIn_ret ?_
  obtain rfl := Option.some.inj hf
  repeat (with_reducible first | refine then_ret ?_ | refine block_ret ?_ | refine qx_ret ?_)
  refine ret_gen ([.bool ((ByteArray.toList (bofL (x1)) == ByteArray.toList (bofL (x5))))]) hE (by rw [show Try.f70.results.toList = [.tmp 4] from rfl]; exact ⟨_, _, rfl, rfl, rfl⟩) ?_
  exact ⟨_, rfl, D0, rfl, hS⟩

set_option maxRecDepth 100000 in
set_option maxHeartbeats 4000000 in
theorem rec_head.calls {K : Nat} {g w0 : World} {D0 : Snap} {x1 : T_api_Rec} {A2 : Option Addr} {c3 : Nat} {A5 : Option Addr} {c6 : Nat} {r : (T_rec_plain)} (hf : rec_head.f K x1 = some r) (hS0 : St g w0 D0 []) (h4 : Sl kd_T_api_Step D0 A2 c3 (x1.fSteps)) (h7 : Sl (kdInt .u8) D0 A5 c6 (x1.fData)) :
    CallsIn (Fw none) 0 Try.prog 71 (List.toArray [.agg (List.toArray (c_T_api_Rec (x1) A2 c3 A5 c6))]) w0 (fun e w' => ∃ v, e = .returned v ∧ ∃ (D1 : Snap), v = .agg (List.toArray (c_T_rec_plain ((T_rec_plain.mk (r.fKind) (r.fSaga) (r.fSeq) (r.fStep) (r.fTry) (r.fBack) (r.fGood) (r.fGone) (r.fEnd) (r.fPart) (r.fEpoch))))) ∧ Stp g w0 D0 [] w' D1 []) := by
  unfold rec_head.f at hf
  have hS := Stp.refl hS0
  clear hS0
  refine calls_body (n := 26) Try.func71 rfl Try.ntmps71 rfl (fun a hE => ?_)
  have hE : Env a 26 [] [(0, .agg (List.toArray (c_T_api_Rec (x1) A2 c3 A5 c6)))] := hE
  refine wpIn_seq ?_
  refine region_at ?_
  refine at_op (op_box rfl rfl rfl rfl hE rfl hS rfl (fun a b14 w _ hE hS => ?_)) rfl
  refine at_op (op_alloc (z := .agg (List.toArray (c_T_rec_plain (z_T_rec_plain)))) rfl rfl rfl rfl hE rfl hS (by kernel_rfl) (fun a b16 w _ hE hS => ?_)) rfl
  refine at_end rfl ?_
  refine wpIn_seq ?_
  refine region_at ?_
  refine at_op (op_tk hE (g_fieldAddr (fo := 0) (ft := 3) 0 rfl rfl rfl rfl hE rfl rfl (by kernel_rfl) rfl (fun a hE => ?_))) rfl
  refine at_op (op_tk hE (tk_load 1 (.int .i64 (x1.fKind)) rfl rfl rfl rfl hE rfl hS rfl rfl (by kernel_rfl) (kL (j := 1) hS rfl List.not_mem_nil) (fun a hE => ?_))) rfl
  refine at_op (op_tk hE (g_fieldAddr (fo := 1) (ft := 3) 1 rfl rfl rfl rfl hE rfl rfl (by kernel_rfl) rfl (fun a hE => ?_))) rfl
  refine at_op (op_tk hE (tk_load 1 (.int .i64 (x1.fSaga)) rfl rfl rfl rfl hE rfl hS rfl rfl (by kernel_rfl) (kL (j := 1) hS rfl List.not_mem_nil) (fun a hE => ?_))) rfl
  refine at_op (op_tk hE (g_fieldAddr (fo := 2) (ft := 3) 2 rfl rfl rfl rfl hE rfl rfl (by kernel_rfl) rfl (fun a hE => ?_))) rfl
  refine at_op (op_tk hE (tk_load 1 (.int .i64 (x1.fSeq)) rfl rfl rfl rfl hE rfl hS rfl rfl (by kernel_rfl) (kL (j := 1) hS rfl List.not_mem_nil) (fun a hE => ?_))) rfl
  refine at_op (op_tk hE (g_fieldAddr (fo := 3) (ft := 3) 3 rfl rfl rfl rfl hE rfl rfl (by kernel_rfl) rfl (fun a hE => ?_))) rfl
  refine at_op (op_tk hE (tk_load 1 (.int .i64 (x1.fStep)) rfl rfl rfl rfl hE rfl hS rfl rfl (by kernel_rfl) (kL (j := 1) hS rfl List.not_mem_nil) (fun a hE => ?_))) rfl
  refine at_op (op_tk hE (g_fieldAddr (fo := 4) (ft := 3) 4 rfl rfl rfl rfl hE rfl rfl (by kernel_rfl) rfl (fun a hE => ?_))) rfl
  refine at_op (op_tk hE (tk_load 1 (.int .i64 (x1.fTry)) rfl rfl rfl rfl hE rfl hS rfl rfl (by kernel_rfl) (kL (j := 1) hS rfl List.not_mem_nil) (fun a hE => ?_))) rfl
  refine at_op (op_tk hE (g_fieldAddr (fo := 5) (ft := 4) 5 rfl rfl rfl rfl hE rfl rfl (by kernel_rfl) rfl (fun a hE => ?_))) rfl
  refine at_op (op_tk hE (tk_load 1 (.bool (x1.fBack)) rfl rfl rfl rfl hE rfl hS rfl rfl (by kernel_rfl) (kL (j := 1) hS rfl List.not_mem_nil) (fun a hE => ?_))) rfl
  refine at_op (op_tk hE (g_fieldAddr (fo := 6) (ft := 4) 6 rfl rfl rfl rfl hE rfl rfl (by kernel_rfl) rfl (fun a hE => ?_))) rfl
  refine at_op (op_tk hE (tk_load 1 (.bool (x1.fGood)) rfl rfl rfl rfl hE rfl hS rfl rfl (by kernel_rfl) (kL (j := 1) hS rfl List.not_mem_nil) (fun a hE => ?_))) rfl
  refine at_op (op_tk hE (g_fieldAddr (fo := 76) (ft := 4) 76 rfl rfl rfl rfl hE rfl rfl (by kernel_rfl) rfl (fun a hE => ?_))) rfl
  refine at_op (op_tk hE (tk_load 1 (.bool (x1.fGone)) rfl rfl rfl rfl hE rfl hS rfl rfl (by kernel_rfl) (kL (j := 1) hS rfl List.not_mem_nil) (fun a hE => ?_))) rfl
  refine at_op (op_tk hE (g_fieldAddr (fo := 7) (ft := 3) 7 rfl rfl rfl rfl hE rfl rfl (by kernel_rfl) rfl (fun a hE => ?_))) rfl
  refine at_op (op_tk hE (tk_load 1 (.int .i64 (x1.fEnd)) rfl rfl rfl rfl hE rfl hS rfl rfl (by kernel_rfl) (kL (j := 1) hS rfl List.not_mem_nil) (fun a hE => ?_))) rfl
  refine at_op (op_tk hE (g_fieldAddr (fo := 8) (ft := 3) 8 rfl rfl rfl rfl hE rfl rfl (by kernel_rfl) rfl (fun a hE => ?_))) rfl
  refine at_op (op_tk hE (tk_load 1 (.int .i64 (x1.fPart)) rfl rfl rfl rfl hE rfl hS rfl rfl (by kernel_rfl) (kL (j := 1) hS rfl List.not_mem_nil) (fun a hE => ?_))) rfl
  refine at_op (op_tk hE (g_fieldAddr (fo := 9) (ft := 3) 9 rfl rfl rfl rfl hE rfl rfl (by kernel_rfl) rfl (fun a hE => ?_))) rfl
  refine at_op (op_tk hE (tk_load 1 (.int .i64 (x1.fEpoch)) rfl rfl rfl rfl hE rfl hS rfl rfl (by kernel_rfl) (kL (j := 1) hS rfl List.not_mem_nil) (fun a hE => ?_))) rfl
  refine at_op (op_tk hE (tk_build (c_T_rec_plain ((T_rec_plain.mk (x1.fKind) (x1.fSaga) (x1.fSeq) (x1.fStep) (x1.fTry) (x1.fBack) (x1.fGood) (x1.fGone) (x1.fEnd) (x1.fPart) (x1.fEpoch)))) rfl rfl rfl rfl hE rfl rfl (by kernel_rfl) (fun a hE => ?_))) rfl
  obtain ⟨v18, hv19, hf⟩ := bind_some hf
  replace hv19 := Option.some.inj hv19
  refine at_op (op_store (v := .agg (List.toArray (c_T_rec_plain ((T_rec_plain.mk (x1.fKind) (x1.fSaga) (x1.fSeq) (x1.fStep) (x1.fTry) (x1.fBack) (x1.fGood) (x1.fGone) (x1.fEnd) (x1.fPart) (x1.fEpoch)))))) (c_T_rec_plain (v18)) rfl rfl rfl rfl hE hS rfl rfl (by kernel_rfl) (by kernel_rfl) (by kernel_rfl) (by kernel_rfl) (by rw [← hv19]; kernel_rfl) (fun a w _ hE hS => ?_)) rfl
  refine at_end rfl ?_
  refine wpIn_ret ?_
  obtain rfl := Option.some.inj hf
  repeat (with_reducible first | refine then_ret ?_ | refine block_ret ?_ | refine qx_ret ?_)
  refine ret_gen ([.agg (List.toArray (c_T_rec_plain (v18)))]) hE (by rw [show Try.f71.results.toList = [.cell 2 106] from rfl]; exact ⟨_, _, _, 0, _, _, rfl, rfl, hS.heapAt (j := 0) rfl, by kernel_rfl, rfl⟩) ?_
  have hS := hS.pk .n rfl
  exact ⟨_, rfl, D0, rfl, hS⟩

set_option maxRecDepth 100000 in
set_option maxHeartbeats 4000000 in
theorem rec_Same.calls {K : Nat} {g w0 : World} {D0 : Snap} {x1 : T_api_Rec} {x8 : T_api_Rec} {A2 : Option Addr} {c3 : Nat} {A5 : Option Addr} {c6 : Nat} {A9 : Option Addr} {c10 : Nat} {A12 : Option Addr} {c13 : Nat} {r : (Bool)} (hf : rec_Same.f K x1 x8 = some r) (hS0 : St g w0 D0 []) (h4 : Sl kd_T_api_Step D0 A2 c3 (x1.fSteps)) (h7 : Sl (kdInt .u8) D0 A5 c6 (x1.fData)) (h11 : Sl kd_T_api_Step D0 A9 c10 (x8.fSteps)) (h14 : Sl (kdInt .u8) D0 A12 c13 (x8.fData)) :
    CallsIn (Fw none) 0 Try.prog 46 (List.toArray [.agg (List.toArray (c_T_api_Rec (x1) A2 c3 A5 c6)), .agg (List.toArray (c_T_api_Rec (x8) A9 c10 A12 c13))]) w0 (fun e w' => ∃ v, e = .returned v ∧ ∃ (D1 : Snap), v = .bool (r) ∧ Stp g w0 D0 [] w' D1 []) := by
  unfold rec_Same.f at hf
  have hS := Stp.refl hS0
  clear hS0
  refine calls_body (n := 45) Try.func46 rfl Try.ntmps46 rfl (fun a hE => ?_)
  have hE : Env a 45 [] [(0, .agg (List.toArray (c_T_api_Rec (x1) A2 c3 A5 c6))), (1, .agg (List.toArray (c_T_api_Rec (x8) A9 c10 A12 c13)))] := hE
  refine wpIn_seq ?_
  refine region_at ?_
  refine at_op (op_box rfl rfl rfl rfl hE rfl hS rfl (fun a b114 w _ hE hS => ?_)) rfl
  refine at_op (op_box rfl rfl rfl rfl hE rfl hS rfl (fun a b116 w _ hE hS => ?_)) rfl
  refine segN 1 (j := 3) [(4, .bool false)] hE (by kernel_rfl) rfl (fun a hE => ?_)
  refine at_end rfl ?_
  refine wpIn_seq ?_
  obtain ⟨j201, hj202, hf⟩ := jn_elim hf
  refine seq_join (fun a w => ∃ (y153 : Bool), ∃ (D154 : Snap), Env a 45 [] [(2, .pointer (some ⟨b114, 0, none⟩)), (3, .pointer (some ⟨b116, 0, none⟩)), (18, .bool (y153))] ∧ Stp g w0 D0 [] w D154 [bx b114 47 (c_T_api_Rec (x1) A2 c3 A5 c6), bx b116 47 (c_T_api_Rec (x8) A9 c10 A12 c13)] ∧ Snap.le D0 D154 ∧ j201 y153 = some r) ?_ ?_
  · clear hj202
    refine region_at ?_
    refine at_op (op_tk hE (g_fieldAddr (fo := 42) (ft := 45) 42 rfl rfl rfl rfl hE rfl rfl (by kernel_rfl) rfl (fun a hE => ?_))) rfl
    refine at_op (op_tk hE (tk_load 1 (.slice A2 (List.length (x1.fSteps)) c3) rfl rfl rfl rfl hE rfl hS rfl rfl (by kernel_rfl) (kL (j := 1) hS rfl List.not_mem_nil) (fun a hE => ?_))) rfl
    refine at_op (op_tk hE (g_fieldAddr (fo := 42) (ft := 45) 42 rfl rfl rfl rfl hE rfl rfl (by kernel_rfl) rfl (fun a hE => ?_))) rfl
    refine at_op (op_tk hE (tk_load 0 (.slice A9 (List.length (x8.fSteps)) c10) rfl rfl rfl rfl hE rfl hS rfl rfl (by kernel_rfl) (kL (j := 0) hS rfl List.not_mem_nil) (fun a hE => ?_))) rfl
    obtain ⟨r203, h204, hf⟩ := bind_some hf
    refine at_op (op_call rfl rfl rfl rfl hE rfl rfl rfl rfl (by kernel_rfl) (slices_Equal_api_Step_api_Step.calls (g := g) h204 (hS.st.fore (L := [])) h4 h11) (fun a v w hR hE => ?_)) rfl
    obtain ⟨D205, rfl, hS1⟩ := hR
    have le207 := hS1.dle
    have hS := hS.callR hS1 rfl .n
    clear hS1
    refine segN 2 (j := 7) [(11, .bool ((!r203)))] hE (by kernel_rfl) rfl (fun a hE => ?_)
    cases hb : (!r203)
    · replace hf := cond_f hb hf
      have hE := hE.know (t := 11) (b := (!r203)) (b' := false) rfl hb
      clear hb
      refine at_op (op_tk hE (g_fieldAddr (fo := 43) (ft := 32) 43 rfl rfl rfl rfl hE rfl rfl (by kernel_rfl) rfl (fun a hE => ?_))) rfl
      refine at_op (op_tk hE (tk_load 1 (.slice A5 (List.length (x1.fData)) c6) rfl rfl rfl rfl hE rfl hS rfl rfl (by kernel_rfl) (kL (j := 1) hS rfl List.not_mem_nil) (fun a hE => ?_))) rfl
      refine at_op (op_tk hE (g_fieldAddr (fo := 43) (ft := 32) 43 rfl rfl rfl rfl hE rfl rfl (by kernel_rfl) rfl (fun a hE => ?_))) rfl
      refine at_op (op_tk hE (tk_load 0 (.slice A12 (List.length (x8.fData)) c13) rfl rfl rfl rfl hE rfl hS rfl rfl (by kernel_rfl) (kL (j := 0) hS rfl List.not_mem_nil) (fun a hE => ?_))) rfl
      obtain ⟨r208, h209, hf⟩ := bind_some hf
      refine at_op (op_call rfl rfl rfl rfl hE rfl rfl rfl rfl (by kernel_rfl) (bytes_Equal.calls (g := g) h209 (hS.st.fore (L := [])) (h7.mono le207) (h14.mono le207)) (fun a v w hR hE => ?_)) rfl
      obtain ⟨D210, rfl, hS1⟩ := hR
      have le212 := hS1.dle
      have hS := hS.callR hS1 rfl .n
      clear hS1
      refine segN 2 (j := 14) [(18, .bool ((!r208)))] hE (by kernel_rfl) rfl (fun a hE => ?_)
      refine at_end rfl ?_
      have hS := hS.pk (.c 1 rfl (.c 0 rfl .n)) rfl
      exact ⟨(!r208), D210, hE.weak (by kernel_rfl), hS, (Snap.le.trans le207 le212), hf⟩
    · replace hf := cond_t hb hf
      have hE := hE.know (t := 11) (b := (!r203)) (b' := true) rfl hb
      clear hb
      refine segN 7 (j := 14) [(18, .bool true)] hE (by kernel_rfl) rfl (fun a hE => ?_)
      refine at_end rfl ?_
      have hS := hS.pk (.c 1 rfl (.c 0 rfl .n)) rfl
      exact ⟨true, D205, hE.weak (by kernel_rfl), hS, le207, hf⟩
  · clear hE hS
    rintro a w ⟨y153, D154, hE, hS, le155, hf⟩
    replace hf := hj202 _ hf
    clear hj202
    refine cond_split hE (b := y153) rfl (fun hb => ?_) (fun hb => ?_)
    · replace hf := cond_t hb hf
      clear hb
      refine wpIn_seq ?_
      refine region_at ?_
      refine segN 1 (j := 1) [(4, .bool false)] hE (by kernel_rfl) rfl (fun a hE => ?_)
      refine at_end rfl ?_
      refine wpIn_ret ?_
      obtain rfl := Option.some.inj hf
      repeat (with_reducible first | refine then_ret ?_ | refine block_ret ?_ | refine qx_ret ?_)
      refine ret_gen ([.bool false]) hE (by rw [show Try.f46.results.toList = [.tmp 4] from rfl]; exact ⟨_, _, rfl, rfl, rfl⟩) ?_
      have hS := hS.pk .n rfl
      exact ⟨_, rfl, D154, rfl, hS⟩
    · replace hf := cond_f hb hf
      clear hb
      refine wpIn_skip ?_
      obtain ⟨j179, hj180, hf⟩ := jn_elim hf
      refine seq_join (fun a w => ∃ (y176 : Bool), ∃ (D177 : Snap), Env a 45 [] [(4, .bool (y176))] ∧ Stp g w0 D0 [] w D177 [] ∧ Snap.le D154 D177 ∧ j179 y176 = some r) ?_ ?_
      · clear hj180
        refine region_draw (fun j => Keeps (mfOf [] j)) (by kernel_rfl) ?_
        have hS := hS.drew
        first | generalize w.drew = w at hS ⊢ | generalize w0.drew = w at hS ⊢
        refine tT 0 1 (fuel := 26) (by kernel_rfl) hE (tk_load 0 (.agg (List.toArray (c_T_api_Rec (x1) A2 c3 A5 c6))) rfl rfl rfl rfl hE rfl hS rfl rfl (by kernel_rfl) (kL (j := 0) hS rfl List.not_mem_nil) (fun a hE => ?_))
        refine tT 2 5 (fuel := 25) (by kernel_rfl) hE (tk_load 1 (.agg (List.toArray (c_T_api_Rec (x8) A9 c10 A12 c13))) rfl rfl rfl rfl hE rfl hS rfl rfl (by kernel_rfl) (kL (j := 1) hS rfl List.not_mem_nil) (fun a hE => ?_))
        obtain ⟨r191, h192, hf⟩ := bind_some hf
        refine oG 1 7 (fuel := 24) (by kernel_rfl) (op_call rfl rfl rfl rfl hE rfl rfl rfl rfl (by kernel_rfl) (rec_head.calls (g := g) h192 (hS.st.fore (L := [])) (h4.mono le155) (h7.mono le155)) (fun a v w hR hE => ?_))
        obtain ⟨D193, rfl, hS1⟩ := hR
        refine ⟨(hS1.keeps.sub (M' := []) trivial).mono (fun _ h => h), ?_⟩
        have le195 := hS1.dle
        have hS := hS.callR hS1 rfl .n
        clear hS1
        obtain ⟨r196, h197, hf⟩ := bind_some hf
        refine oG 3 15 (fuel := 23) (by kernel_rfl) (op_call rfl rfl rfl rfl hE rfl rfl rfl rfl (by kernel_rfl) (rec_head.calls (g := g) h197 (hS.st.fore (L := [])) (h11.mono (Snap.le.trans le155 le195)) (h14.mono (Snap.le.trans le155 le195))) (fun a v w hR hE => ?_))
        obtain ⟨D198, rfl, hS1⟩ := hR
        refine ⟨(hS1.keeps.sub (M' := []) trivial).mono (fun _ h => h), ?_⟩
        have le200 := hS1.dle
        have hS := hS.callR hS1 rfl .n
        clear hS1
        refine tW 4 31 (fuel := 22) (by kernel_rfl) hE (fun M => tk_bin (r := .bool (((decide (r191.fKind = r196.fKind)) && ((decide (r191.fSaga = r196.fSaga)) && ((decide (r191.fSeq = r196.fSeq)) && ((decide (r191.fStep = r196.fStep)) && ((decide (r191.fTry = r196.fTry)) && ((r191.fBack == r196.fBack) && ((r191.fGood == r196.fGood) && ((r191.fGone == r196.fGone) && ((decide (r191.fEnd = r196.fEnd)) && ((decide (r191.fPart = r196.fPart)) && ((decide (r191.fEpoch = r196.fEpoch)) && true))))))))))))) rfl rfl rfl rfl hE rfl rfl rfl (eqagg_run (by kernel_rfl) (EqR_struct (fs := structFs Try.prog 106) (by kernel_rfl) ⟨.int .i64 (r191.fKind), .int .i64 (r196.fKind), (decide (r191.fKind = r196.fKind)), _, by kernel_rfl, by kernel_rfl, by kernel_rfl, (EqR_int (by kernel_rfl)), ⟨.int .i64 (r191.fSaga), .int .i64 (r196.fSaga), (decide (r191.fSaga = r196.fSaga)), _, by kernel_rfl, by kernel_rfl, by kernel_rfl, (EqR_int (by kernel_rfl)), ⟨.int .i64 (r191.fSeq), .int .i64 (r196.fSeq), (decide (r191.fSeq = r196.fSeq)), _, by kernel_rfl, by kernel_rfl, by kernel_rfl, (EqR_int (by kernel_rfl)), ⟨.int .i64 (r191.fStep), .int .i64 (r196.fStep), (decide (r191.fStep = r196.fStep)), _, by kernel_rfl, by kernel_rfl, by kernel_rfl, (EqR_int (by kernel_rfl)), ⟨.int .i64 (r191.fTry), .int .i64 (r196.fTry), (decide (r191.fTry = r196.fTry)), _, by kernel_rfl, by kernel_rfl, by kernel_rfl, (EqR_int (by kernel_rfl)), ⟨.bool (r191.fBack), .bool (r196.fBack), (r191.fBack == r196.fBack), _, by kernel_rfl, by kernel_rfl, by kernel_rfl, (EqR_bool (by kernel_rfl)), ⟨.bool (r191.fGood), .bool (r196.fGood), (r191.fGood == r196.fGood), _, by kernel_rfl, by kernel_rfl, by kernel_rfl, (EqR_bool (by kernel_rfl)), ⟨.bool (r191.fGone), .bool (r196.fGone), (r191.fGone == r196.fGone), _, by kernel_rfl, by kernel_rfl, by kernel_rfl, (EqR_bool (by kernel_rfl)), ⟨.int .i64 (r191.fEnd), .int .i64 (r196.fEnd), (decide (r191.fEnd = r196.fEnd)), _, by kernel_rfl, by kernel_rfl, by kernel_rfl, (EqR_int (by kernel_rfl)), ⟨.int .i64 (r191.fPart), .int .i64 (r196.fPart), (decide (r191.fPart = r196.fPart)), _, by kernel_rfl, by kernel_rfl, by kernel_rfl, (EqR_int (by kernel_rfl)), ⟨.int .i64 (r191.fEpoch), .int .i64 (r196.fEpoch), (decide (r191.fEpoch = r196.fEpoch)), _, by kernel_rfl, by kernel_rfl, by kernel_rfl, (EqR_int (by kernel_rfl)), rfl, rfl⟩, rfl⟩, rfl⟩, rfl⟩, rfl⟩, rfl⟩, rfl⟩, rfl⟩, rfl⟩, rfl⟩, rfl⟩)) (fun a hE => ?_))
        refine tW 5 63 (fuel := 21) (by kernel_rfl) hE (fun M => tk_pure (.bool (((decide (r191.fKind = r196.fKind)) && ((decide (r191.fSaga = r196.fSaga)) && ((decide (r191.fSeq = r196.fSeq)) && ((decide (r191.fStep = r196.fStep)) && ((decide (r191.fTry = r196.fTry)) && ((r191.fBack == r196.fBack) && ((r191.fGood == r196.fGood) && ((r191.fGone == r196.fGone) && ((decide (r191.fEnd = r196.fEnd)) && ((decide (r191.fPart = r196.fPart)) && ((decide (r191.fEpoch = r196.fEpoch)) && true))))))))))))) hE rfl rfl rfl rfl (fun _ _ _ e => by cases e) (by kernel_rfl) (fun a hE => ?_))
        cases hb : ((decide (r191.fKind = r196.fKind)) && ((decide (r191.fSaga = r196.fSaga)) && ((decide (r191.fSeq = r196.fSeq)) && ((decide (r191.fStep = r196.fStep)) && ((decide (r191.fTry = r196.fTry)) && ((r191.fBack == r196.fBack) && ((r191.fGood == r196.fGood) && ((r191.fGone == r196.fGone) && ((decide (r191.fEnd = r196.fEnd)) && ((decide (r191.fPart = r196.fPart)) && ((decide (r191.fEpoch = r196.fEpoch)) && true)))))))))))
        · replace hf := cond_f hb hf
          have hE := hE.know (t := 24) (b := ((decide (r191.fKind = r196.fKind)) && ((decide (r191.fSaga = r196.fSaga)) && ((decide (r191.fSeq = r196.fSeq)) && ((decide (r191.fStep = r196.fStep)) && ((decide (r191.fTry = r196.fTry)) && ((r191.fBack == r196.fBack) && ((r191.fGood == r196.fGood) && ((r191.fGone == r196.fGone) && ((decide (r191.fEnd = r196.fEnd)) && ((decide (r191.fPart = r196.fPart)) && ((decide (r191.fEpoch = r196.fEpoch)) && true)))))))))))) (b' := false) rfl hb
          clear hb
          refine tW 6 127 (fuel := 20) (by kernel_rfl) hE (fun M => tk_skip hE rfl rfl rfl rfl (fun a hE => ?_))
          refine tW 7 255 (fuel := 19) (by kernel_rfl) hE (fun M => tk_skip hE rfl rfl rfl rfl (fun a hE => ?_))
          refine tW 8 511 (fuel := 18) (by kernel_rfl) hE (fun M => tk_skip hE rfl rfl rfl rfl (fun a hE => ?_))
          refine tW 9 1023 (fuel := 17) (by kernel_rfl) hE (fun M => tk_skip hE rfl rfl rfl rfl (fun a hE => ?_))
          refine tW 10 2047 (fuel := 16) (by kernel_rfl) hE (fun M => tk_skip hE rfl rfl rfl rfl (fun a hE => ?_))
          refine tW 11 4095 (fuel := 15) (by kernel_rfl) hE (fun M => tk_pure (.bool false) hE rfl rfl rfl rfl (fun _ _ _ e => by cases e) (by kernel_rfl) (fun a hE => ?_))
          refine tW 12 8191 (fuel := 14) (by kernel_rfl) hE (fun M => tk_pure (.bool false) hE rfl rfl rfl rfl (fun _ _ _ e => by cases e) (by kernel_rfl) (fun a hE => ?_))
          refine tW 13 16383 (fuel := 13) (by kernel_rfl) hE (fun M => tk_skip hE rfl rfl rfl rfl (fun a hE => ?_))
          refine tW 14 32767 (fuel := 12) (by kernel_rfl) hE (fun M => tk_skip hE rfl rfl rfl rfl (fun a hE => ?_))
          refine tW 15 65535 (fuel := 11) (by kernel_rfl) hE (fun M => tk_skip hE rfl rfl rfl rfl (fun a hE => ?_))
          refine tW 16 131071 (fuel := 10) (by kernel_rfl) hE (fun M => tk_skip hE rfl rfl rfl rfl (fun a hE => ?_))
          refine tW 17 262143 (fuel := 9) (by kernel_rfl) hE (fun M => tk_skip hE rfl rfl rfl rfl (fun a hE => ?_))
          refine tW 18 524287 (fuel := 8) (by kernel_rfl) hE (fun M => tk_pure (.bool false) hE rfl rfl rfl rfl (fun _ _ _ e => by cases e) (by kernel_rfl) (fun a hE => ?_))
          refine tW 19 1048575 (fuel := 7) (by kernel_rfl) hE (fun M => tk_pure (.bool false) hE rfl rfl rfl rfl (fun _ _ _ e => by cases e) (by kernel_rfl) (fun a hE => ?_))
          refine tW 20 2097151 (fuel := 6) (by kernel_rfl) hE (fun M => tk_skip hE rfl rfl rfl rfl (fun a hE => ?_))
          refine tW 21 4194303 (fuel := 5) (by kernel_rfl) hE (fun M => tk_skip hE rfl rfl rfl rfl (fun a hE => ?_))
          refine tW 22 8388607 (fuel := 4) (by kernel_rfl) hE (fun M => tk_skip hE rfl rfl rfl rfl (fun a hE => ?_))
          refine tW 23 16777215 (fuel := 3) (by kernel_rfl) hE (fun M => tk_skip hE rfl rfl rfl rfl (fun a hE => ?_))
          refine tW 24 33554431 (fuel := 2) (by kernel_rfl) hE (fun M => tk_skip hE rfl rfl rfl rfl (fun a hE => ?_))
          refine tW 25 67108863 (fuel := 1) (by kernel_rfl) hE (fun M => tk_pure (.bool false) hE rfl rfl rfl rfl (fun _ _ _ e => by cases e) (by kernel_rfl) (fun a hE => ?_))
          refine tW 26 134217727 (fuel := 0) (by kernel_rfl) hE (fun M => tk_pure (.bool false) hE rfl rfl rfl rfl (fun _ _ _ e => by cases e) (by kernel_rfl) (fun a hE => ?_))
          refine doneG (by kernel_rfl) ?_
          have hS := hS.pk .n rfl
          exact ⟨false, D198, hE.weak (by kernel_rfl), hS, (Snap.le.trans le195 le200), hf⟩
        · replace hf := cond_t hb hf
          have hE := hE.know (t := 24) (b := ((decide (r191.fKind = r196.fKind)) && ((decide (r191.fSaga = r196.fSaga)) && ((decide (r191.fSeq = r196.fSeq)) && ((decide (r191.fStep = r196.fStep)) && ((decide (r191.fTry = r196.fTry)) && ((r191.fBack == r196.fBack) && ((r191.fGood == r196.fGood) && ((r191.fGone == r196.fGone) && ((decide (r191.fEnd = r196.fEnd)) && ((decide (r191.fPart = r196.fPart)) && ((decide (r191.fEpoch = r196.fEpoch)) && true)))))))))))) (b' := true) rfl hb
          clear hb
          refine tW 6 127 (fuel := 20) (by kernel_rfl) hE (fun M => g_fieldAddr (fo := 10) (ft := 23) 10 rfl rfl rfl rfl hE rfl rfl (by kernel_rfl) rfl (fun a hE => ?_))
          refine tT 7 255 (fuel := 19) (by kernel_rfl) hE (tk_load 0 (.agg (List.toArray (acells .u8 32 (x1.fTag)))) rfl rfl rfl rfl hE rfl hS rfl rfl (by kernel_rfl) (kL (j := 0) hS rfl List.not_mem_nil) (fun a hE => ?_))
          refine tW 8 511 (fuel := 18) (by kernel_rfl) hE (fun M => g_fieldAddr (fo := 10) (ft := 23) 10 rfl rfl rfl rfl hE rfl rfl (by kernel_rfl) rfl (fun a hE => ?_))
          refine tT 9 1023 (fuel := 17) (by kernel_rfl) hE (tk_load 1 (.agg (List.toArray (acells .u8 32 (x8.fTag)))) rfl rfl rfl rfl hE rfl hS rfl rfl (by kernel_rfl) (kL (j := 1) hS rfl List.not_mem_nil) (fun a hE => ?_))
          refine tW 10 2047 (fuel := 16) (by kernel_rfl) hE (fun M => tk_bin (r := .bool ((decide (x1.fTag = x8.fTag)))) rfl rfl rfl rfl hE rfl rfl rfl (eqagg_run (by kernel_rfl) (EqR_arr (k := .u8) (N := 32) (by kernel_rfl))) (fun a hE => ?_))
          refine tW 11 4095 (fuel := 15) (by kernel_rfl) hE (fun M => tk_pure (.bool ((decide (x1.fTag = x8.fTag)))) hE rfl rfl rfl rfl (fun _ _ _ e => by cases e) (by kernel_rfl) (fun a hE => ?_))
          refine tW 12 8191 (fuel := 14) (by kernel_rfl) hE (fun M => tk_pure (.bool ((decide (x1.fTag = x8.fTag)))) hE rfl rfl rfl rfl (fun _ _ _ e => by cases e) (by kernel_rfl) (fun a hE => ?_))
          cases hb : (decide (x1.fTag = x8.fTag))
          · replace hf := cond_f hb hf
            have hE := hE.know (t := 31) (b := (decide (x1.fTag = x8.fTag))) (b' := false) rfl hb
            clear hb
            refine tW 13 16383 (fuel := 13) (by kernel_rfl) hE (fun M => tk_skip hE rfl rfl rfl rfl (fun a hE => ?_))
            refine tW 14 32767 (fuel := 12) (by kernel_rfl) hE (fun M => tk_skip hE rfl rfl rfl rfl (fun a hE => ?_))
            refine tW 15 65535 (fuel := 11) (by kernel_rfl) hE (fun M => tk_skip hE rfl rfl rfl rfl (fun a hE => ?_))
            refine tW 16 131071 (fuel := 10) (by kernel_rfl) hE (fun M => tk_skip hE rfl rfl rfl rfl (fun a hE => ?_))
            refine tW 17 262143 (fuel := 9) (by kernel_rfl) hE (fun M => tk_skip hE rfl rfl rfl rfl (fun a hE => ?_))
            refine tW 18 524287 (fuel := 8) (by kernel_rfl) hE (fun M => tk_pure (.bool false) hE rfl rfl rfl rfl (fun _ _ _ e => by cases e) (by kernel_rfl) (fun a hE => ?_))
            refine tW 19 1048575 (fuel := 7) (by kernel_rfl) hE (fun M => tk_pure (.bool false) hE rfl rfl rfl rfl (fun _ _ _ e => by cases e) (by kernel_rfl) (fun a hE => ?_))
            refine tW 20 2097151 (fuel := 6) (by kernel_rfl) hE (fun M => tk_skip hE rfl rfl rfl rfl (fun a hE => ?_))
            refine tW 21 4194303 (fuel := 5) (by kernel_rfl) hE (fun M => tk_skip hE rfl rfl rfl rfl (fun a hE => ?_))
            refine tW 22 8388607 (fuel := 4) (by kernel_rfl) hE (fun M => tk_skip hE rfl rfl rfl rfl (fun a hE => ?_))
            refine tW 23 16777215 (fuel := 3) (by kernel_rfl) hE (fun M => tk_skip hE rfl rfl rfl rfl (fun a hE => ?_))
            refine tW 24 33554431 (fuel := 2) (by kernel_rfl) hE (fun M => tk_skip hE rfl rfl rfl rfl (fun a hE => ?_))
            refine tW 25 67108863 (fuel := 1) (by kernel_rfl) hE (fun M => tk_pure (.bool false) hE rfl rfl rfl rfl (fun _ _ _ e => by cases e) (by kernel_rfl) (fun a hE => ?_))
            refine tW 26 134217727 (fuel := 0) (by kernel_rfl) hE (fun M => tk_pure (.bool false) hE rfl rfl rfl rfl (fun _ _ _ e => by cases e) (by kernel_rfl) (fun a hE => ?_))
            refine doneG (by kernel_rfl) ?_
            have hS := hS.pk .n rfl
            exact ⟨false, D198, hE.weak (by kernel_rfl), hS, (Snap.le.trans le195 le200), hf⟩
          · replace hf := cond_t hb hf
            have hE := hE.know (t := 31) (b := (decide (x1.fTag = x8.fTag))) (b' := true) rfl hb
            clear hb
            refine tW 13 16383 (fuel := 13) (by kernel_rfl) hE (fun M => g_fieldAddr (fo := 44) (ft := 23) 44 rfl rfl rfl rfl hE rfl rfl (by kernel_rfl) rfl (fun a hE => ?_))
            refine tT 14 32767 (fuel := 12) (by kernel_rfl) hE (tk_load 0 (.agg (List.toArray (acells .u8 32 (x1.fSalt)))) rfl rfl rfl rfl hE rfl hS rfl rfl (by kernel_rfl) (kL (j := 0) hS rfl List.not_mem_nil) (fun a hE => ?_))
            refine tW 15 65535 (fuel := 11) (by kernel_rfl) hE (fun M => g_fieldAddr (fo := 44) (ft := 23) 44 rfl rfl rfl rfl hE rfl rfl (by kernel_rfl) rfl (fun a hE => ?_))
            refine tT 16 131071 (fuel := 10) (by kernel_rfl) hE (tk_load 1 (.agg (List.toArray (acells .u8 32 (x8.fSalt)))) rfl rfl rfl rfl hE rfl hS rfl rfl (by kernel_rfl) (kL (j := 1) hS rfl List.not_mem_nil) (fun a hE => ?_))
            refine tW 17 262143 (fuel := 9) (by kernel_rfl) hE (fun M => tk_bin (r := .bool ((decide (x1.fSalt = x8.fSalt)))) rfl rfl rfl rfl hE rfl rfl rfl (eqagg_run (by kernel_rfl) (EqR_arr (k := .u8) (N := 32) (by kernel_rfl))) (fun a hE => ?_))
            refine tW 18 524287 (fuel := 8) (by kernel_rfl) hE (fun M => tk_pure (.bool ((decide (x1.fSalt = x8.fSalt)))) hE rfl rfl rfl rfl (fun _ _ _ e => by cases e) (by kernel_rfl) (fun a hE => ?_))
            refine tW 19 1048575 (fuel := 7) (by kernel_rfl) hE (fun M => tk_pure (.bool ((decide (x1.fSalt = x8.fSalt)))) hE rfl rfl rfl rfl (fun _ _ _ e => by cases e) (by kernel_rfl) (fun a hE => ?_))
            cases hb : (decide (x1.fSalt = x8.fSalt))
            · replace hf := cond_f hb hf
              have hE := hE.know (t := 38) (b := (decide (x1.fSalt = x8.fSalt))) (b' := false) rfl hb
              clear hb
              refine tW 20 2097151 (fuel := 6) (by kernel_rfl) hE (fun M => tk_skip hE rfl rfl rfl rfl (fun a hE => ?_))
              refine tW 21 4194303 (fuel := 5) (by kernel_rfl) hE (fun M => tk_skip hE rfl rfl rfl rfl (fun a hE => ?_))
              refine tW 22 8388607 (fuel := 4) (by kernel_rfl) hE (fun M => tk_skip hE rfl rfl rfl rfl (fun a hE => ?_))
              refine tW 23 16777215 (fuel := 3) (by kernel_rfl) hE (fun M => tk_skip hE rfl rfl rfl rfl (fun a hE => ?_))
              refine tW 24 33554431 (fuel := 2) (by kernel_rfl) hE (fun M => tk_skip hE rfl rfl rfl rfl (fun a hE => ?_))
              refine tW 25 67108863 (fuel := 1) (by kernel_rfl) hE (fun M => tk_pure (.bool false) hE rfl rfl rfl rfl (fun _ _ _ e => by cases e) (by kernel_rfl) (fun a hE => ?_))
              refine tW 26 134217727 (fuel := 0) (by kernel_rfl) hE (fun M => tk_pure (.bool false) hE rfl rfl rfl rfl (fun _ _ _ e => by cases e) (by kernel_rfl) (fun a hE => ?_))
              refine doneG (by kernel_rfl) ?_
              have hS := hS.pk .n rfl
              exact ⟨false, D198, hE.weak (by kernel_rfl), hS, (Snap.le.trans le195 le200), hf⟩
            · replace hf := cond_t hb hf
              have hE := hE.know (t := 38) (b := (decide (x1.fSalt = x8.fSalt))) (b' := true) rfl hb
              clear hb
              refine tW 20 2097151 (fuel := 6) (by kernel_rfl) hE (fun M => g_fieldAddr (fo := 77) (ft := 23) 77 rfl rfl rfl rfl hE rfl rfl (by kernel_rfl) rfl (fun a hE => ?_))
              refine tT 21 4194303 (fuel := 5) (by kernel_rfl) hE (tk_load 0 (.agg (List.toArray (acells .u8 32 (x1.fCom)))) rfl rfl rfl rfl hE rfl hS rfl rfl (by kernel_rfl) (kL (j := 0) hS rfl List.not_mem_nil) (fun a hE => ?_))
              refine tW 22 8388607 (fuel := 4) (by kernel_rfl) hE (fun M => g_fieldAddr (fo := 77) (ft := 23) 77 rfl rfl rfl rfl hE rfl rfl (by kernel_rfl) rfl (fun a hE => ?_))
              refine tT 23 16777215 (fuel := 3) (by kernel_rfl) hE (tk_load 1 (.agg (List.toArray (acells .u8 32 (x8.fCom)))) rfl rfl rfl rfl hE rfl hS rfl rfl (by kernel_rfl) (kL (j := 1) hS rfl List.not_mem_nil) (fun a hE => ?_))
              refine tW 24 33554431 (fuel := 2) (by kernel_rfl) hE (fun M => tk_bin (r := .bool ((decide (x1.fCom = x8.fCom)))) rfl rfl rfl rfl hE rfl rfl rfl (eqagg_run (by kernel_rfl) (EqR_arr (k := .u8) (N := 32) (by kernel_rfl))) (fun a hE => ?_))
              refine tW 25 67108863 (fuel := 1) (by kernel_rfl) hE (fun M => tk_pure (.bool ((decide (x1.fCom = x8.fCom)))) hE rfl rfl rfl rfl (fun _ _ _ e => by cases e) (by kernel_rfl) (fun a hE => ?_))
              refine tW 26 134217727 (fuel := 0) (by kernel_rfl) hE (fun M => tk_pure (.bool ((decide (x1.fCom = x8.fCom)))) hE rfl rfl rfl rfl (fun _ _ _ e => by cases e) (by kernel_rfl) (fun a hE => ?_))
              refine doneG (by kernel_rfl) ?_
              have hS := hS.pk .n rfl
              exact ⟨(decide (x1.fCom = x8.fCom)), D198, hE.weak (by kernel_rfl), hS, (Snap.le.trans le195 le200), hf⟩
      · clear hE hS
        rintro a w ⟨y176, D177, hE, hS, le178, hf⟩
        replace hf := hj180 _ hf
        clear hj180
        refine wpIn_ret ?_
        obtain rfl := Option.some.inj hf
        repeat (with_reducible first | refine then_ret ?_ | refine block_ret ?_ | refine qx_ret ?_)
        refine ret_gen ([.bool (y176)]) hE (by rw [show Try.f46.results.toList = [.tmp 4] from rfl]; exact ⟨_, _, rfl, rfl, rfl⟩) ?_
        exact ⟨_, rfl, D177, rfl, hS⟩

set_option maxRecDepth 100000 in
set_option maxHeartbeats 4000000 in
theorem rec_Right.calls {K : Nat} {g w0 : World} {D0 : Snap} {x1 : T_api_Rec} {A2 : Option Addr} {c3 : Nat} {A5 : Option Addr} {c6 : Nat} {r : (Bool)} (hf : rec_Right.f K x1 = some r) (hS0 : St g w0 D0 []) (h4 : Sl kd_T_api_Step D0 A2 c3 (x1.fSteps)) (h7 : Sl (kdInt .u8) D0 A5 c6 (x1.fData)) :
    CallsIn (Fw none) 0 Try.prog 17 (List.toArray [.agg (List.toArray (c_T_api_Rec (x1) A2 c3 A5 c6))]) w0 (fun e w' => ∃ v, e = .returned v ∧ ∃ (D1 : Snap), v = .bool (r) ∧ Stp g w0 D0 [] w' D1 []) := by
  unfold rec_Right.f at hf
  have hS := Stp.refl hS0
  clear hS0
  refine calls_body (n := 11) Try.func17 rfl Try.ntmps17 rfl (fun a hE => ?_)
  have hE : Env a 11 [] [(0, .agg (List.toArray (c_T_api_Rec (x1) A2 c3 A5 c6)))] := hE
  refine wpIn_seq ?_
  refine region_at ?_
  refine at_op (op_box rfl rfl rfl rfl hE rfl hS rfl (fun a b94 w _ hE hS => ?_)) rfl
  refine segN 1 (j := 2) [(2, .bool false)] hE (by kernel_rfl) rfl (fun a hE => ?_)
  refine at_end rfl ?_
  refine wpIn_seq ?_
  refine region_draw (fun j => Keeps (mfOf [] j)) (by kernel_rfl) ?_
  have hS := hS.drew
  first | generalize w.drew = w at hS ⊢ | generalize w0.drew = w at hS ⊢
  refine tT 0 1 (fuel := 8) (by kernel_rfl) hE (tk_load 0 (.agg (List.toArray (c_T_api_Rec (x1) A2 c3 A5 c6))) rfl rfl rfl rfl hE rfl hS rfl rfl (by kernel_rfl) (kL (j := 0) hS rfl List.not_mem_nil) (fun a hE => ?_))
  obtain ⟨r159, h160, hf⟩ := bind_some hf
  refine oG 1 3 (fuel := 7) (by kernel_rfl) (op_call rfl rfl rfl rfl hE rfl rfl rfl rfl (by kernel_rfl) (rec_ranges.calls (g := g) h160 (hS.st.fore (L := [])) h4 h7) (fun a v w hR hE => ?_))
  obtain ⟨D161, rfl, hS1⟩ := hR
  refine ⟨(hS1.keeps.sub (M' := []) trivial).mono (fun _ h => h), ?_⟩
  have le163 := hS1.dle
  have hS := hS.callR hS1 rfl .n
  clear hS1
  refine tW 2 7 (fuel := 6) (by kernel_rfl) hE (fun M => tk_pure (.bool (r159)) hE rfl rfl rfl rfl (fun _ _ _ e => by cases e) (by kernel_rfl) (fun a hE => ?_))
  cases hb : r159
  · replace hf := cond_f hb hf
    have hE := hE.know (t := 5) (b := r159) (b' := false) rfl hb
    clear hb
    refine tW 3 15 (fuel := 5) (by kernel_rfl) hE (fun M => tk_skip hE rfl rfl rfl rfl (fun a hE => ?_))
    refine tW 4 31 (fuel := 4) (by kernel_rfl) hE (fun M => tk_skip hE rfl rfl rfl rfl (fun a hE => ?_))
    refine tW 5 63 (fuel := 3) (by kernel_rfl) hE (fun M => tk_skip hE rfl rfl rfl rfl (fun a hE => ?_))
    refine tW 6 127 (fuel := 2) (by kernel_rfl) hE (fun M => tk_skip hE rfl rfl rfl rfl (fun a hE => ?_))
    refine tW 7 255 (fuel := 1) (by kernel_rfl) hE (fun M => tk_pure (.bool false) hE rfl rfl rfl rfl (fun _ _ _ e => by cases e) (by kernel_rfl) (fun a hE => ?_))
    refine tW 8 511 (fuel := 0) (by kernel_rfl) hE (fun M => tk_pure (.bool false) hE rfl rfl rfl rfl (fun _ _ _ e => by cases e) (by kernel_rfl) (fun a hE => ?_))
    refine doneG (by kernel_rfl) ?_
    refine wpIn_ret ?_
    obtain rfl := Option.some.inj hf
    repeat (with_reducible first | refine then_ret ?_ | refine block_ret ?_ | refine qx_ret ?_)
    refine ret_gen ([.bool false]) hE (by rw [show Try.f17.results.toList = [.tmp 2] from rfl]; exact ⟨_, _, rfl, rfl, rfl⟩) ?_
    have hS := hS.pk .n rfl
    exact ⟨_, rfl, D161, rfl, hS⟩
  · replace hf := cond_t hb hf
    have hE := hE.know (t := 5) (b := r159) (b' := true) rfl hb
    clear hb
    refine tT 3 15 (fuel := 5) (by kernel_rfl) hE (tk_load 0 (.agg (List.toArray (c_T_api_Rec (x1) A2 c3 A5 c6))) rfl rfl rfl rfl hE rfl hS rfl rfl (by kernel_rfl) (kL (j := 0) hS rfl List.not_mem_nil) (fun a hE => ?_))
    refine tT 4 31 (fuel := 4) (by kernel_rfl) hE (tk_load 0 (.agg (List.toArray (c_T_api_Rec (x1) A2 c3 A5 c6))) rfl rfl rfl rfl hE rfl hS rfl rfl (by kernel_rfl) (kL (j := 0) hS rfl List.not_mem_nil) (fun a hE => ?_))
    obtain ⟨r164, h165, hf⟩ := bind_some hf
    refine oG 5 63 (fuel := 3) (by kernel_rfl) (op_call rfl rfl rfl rfl hE rfl rfl rfl rfl (by kernel_rfl) (rec_kept.calls (g := g) h165 (hS.st.fore (L := [])) (h4.mono le163) (h7.mono le163)) (fun a v w hR hE => ?_))
    obtain ⟨D166, A168, c169, A171, c172, rfl, hS1, h170, h173⟩ := hR
    refine ⟨(hS1.keeps.sub (M' := []) trivial).mono (fun _ h => h), ?_⟩
    have le174 := hS1.dle
    have hS := hS.callR hS1 rfl .n
    clear hS1
    obtain ⟨r175, h176, hf⟩ := bind_some hf
    refine oG 6 127 (fuel := 2) (by kernel_rfl) (op_call rfl rfl rfl rfl hE rfl rfl rfl rfl (by kernel_rfl) (rec_Same.calls (g := g) h176 (hS.st.fore (L := [])) (h4.mono (Snap.le.trans le163 le174)) (h7.mono (Snap.le.trans le163 le174)) h170 h173) (fun a v w hR hE => ?_))
    obtain ⟨D177, rfl, hS1⟩ := hR
    refine ⟨(hS1.keeps.sub (M' := []) trivial).mono (fun _ h => h), ?_⟩
    have le179 := hS1.dle
    have hS := hS.callR hS1 rfl .n
    clear hS1
    refine tW 7 255 (fuel := 1) (by kernel_rfl) hE (fun M => tk_pure (.bool (r175)) hE rfl rfl rfl rfl (fun _ _ _ e => by cases e) (by kernel_rfl) (fun a hE => ?_))
    refine tW 8 511 (fuel := 0) (by kernel_rfl) hE (fun M => tk_pure (.bool (r175)) hE rfl rfl rfl rfl (fun _ _ _ e => by cases e) (by kernel_rfl) (fun a hE => ?_))
    refine doneG (by kernel_rfl) ?_
    refine wpIn_ret ?_
    obtain rfl := Option.some.inj hf
    repeat (with_reducible first | refine then_ret ?_ | refine block_ret ?_ | refine qx_ret ?_)
    refine ret_gen ([.bool (r175)]) hE (by rw [show Try.f17.results.toList = [.tmp 2] from rfl]; exact ⟨_, _, rfl, rfl, rfl⟩) ?_
    have hS := hS.pk .n rfl
    exact ⟨_, rfl, D177, rfl, hS⟩

set_option maxRecDepth 100000 in
set_option maxHeartbeats 4000000 in
theorem bundle_Right.calls {K : Nat} {g w0 : World} {D0 : Snap} {x1 : T_api_Bundle} {A2 : Option Addr} {c3 : Nat} {A5 : Option Addr} {c6 : Nat} {r : (Bool)} (hf : bundle_Right.f K x1 = some r) (hS0 : St g w0 D0 []) (h4 : Sl kd_T_api_Sig D0 A2 c3 (x1.fPoint.fSigs)) (h7 : Sl kd_T_api_Item D0 A5 c6 (x1.fItems)) :
    CallsIn (Fw none) 0 Try.prog 10 (List.toArray [.agg (List.toArray (c_T_api_Bundle (x1) A2 c3 A5 c6))]) w0 (fun e w' => ∃ v, e = .returned v ∧ ∃ (D1 : Snap), v = .bool (r) ∧ Stp g w0 D0 [] w' D1 []) := by
  unfold bundle_Right.f at hf
  have hS := Stp.refl hS0
  clear hS0
  refine calls_body (n := 81) Try.func10 rfl Try.ntmps10 rfl (fun a hE => ?_)
  have hE : Env a 81 [] [(0, .agg (List.toArray (c_T_api_Bundle (x1) A2 c3 A5 c6)))] := hE
  refine wpIn_seq ?_
  refine region_at ?_
  refine at_op (op_box rfl rfl rfl rfl hE rfl hS rfl (fun a b962 w _ hE hS => ?_)) rfl
  refine segN 1 (j := 2) [(2, .bool false)] hE (by kernel_rfl) rfl (fun a hE => ?_)
  refine at_end rfl ?_
  refine wpIn_seq ?_
  obtain ⟨j1909, hj1910, hf⟩ := jn_elim hf
  refine seq_join (fun a w => ∃ (y984 : Bool), ∃ (D985 : Snap), Env a 81 [] [(1, .pointer (some ⟨b962, 0, none⟩)), (31, .bool (y984))] ∧ Stp g w0 D0 [] w D985 [bx b962 29 (c_T_api_Bundle (x1) A2 c3 A5 c6)] ∧ Snap.le D0 D985 ∧ j1909 y984 = some r) ?_ ?_
  · clear hj1910
    refine region_at ?_
    refine at_op (op_tk hE (g_fieldAddr (fo := 1) (ft := 26) 1 rfl rfl rfl rfl hE rfl rfl (by kernel_rfl) rfl (fun a hE => ?_))) rfl
    refine at_op (op_tk hE (tk_load 0 (.agg (List.toArray (c_T_api_Point (x1.fPoint) A2 c3))) rfl rfl rfl rfl hE rfl hS rfl rfl (by kernel_rfl) (kL (j := 0) hS rfl List.not_mem_nil) (fun a hE => ?_))) rfl
    obtain ⟨r1911, h1912, hf⟩ := bind_some hf
    refine at_op (op_call rfl rfl rfl rfl hE rfl rfl rfl rfl (by kernel_rfl) (bundle_point.calls (g := g) h1912 (hS.st.fore (L := [])) h4) (fun a v w hR hE => ?_)) rfl
    obtain ⟨D1913, rfl, hS1⟩ := hR
    have le1915 := hS1.dle
    have hS := hS.callR hS1 rfl .n
    clear hS1
    refine segN 2 (j := 5) [(10, .bool ((!r1911)))] hE (by kernel_rfl) rfl (fun a hE => ?_)
    cases hb : (!r1911)
    · replace hf := cond_f hb hf
      have hE := hE.know (t := 10) (b := (!r1911)) (b' := false) rfl hb
      clear hb
      refine at_op (op_tk hE (g_fieldAddr (fo := 35) (ft := 27) 35 rfl rfl rfl rfl hE rfl rfl (by kernel_rfl) rfl (fun a hE => ?_))) rfl
      refine at_op (op_tk hE (tk_load 0 (.slice A5 (List.length (x1.fItems)) c6) rfl rfl rfl rfl hE rfl hS rfl rfl (by kernel_rfl) (kL (j := 0) hS rfl List.not_mem_nil) (fun a hE => ?_))) rfl
      refine segN 1 (j := 8) [(13, .int .i64 (((List.length (x1.fItems) : Nat) : Int)))] hE (by kernel_rfl) rfl (fun a hE => ?_)
      refine at_op (op_tk hE (g_fieldAddr (fo := 1) (ft := 26) 1 rfl rfl rfl rfl hE rfl rfl (by kernel_rfl) rfl (fun a hE => ?_))) rfl
      refine at_op (op_tk hE (g_fieldAddr (fo := 0) (ft := 3) 1 rfl rfl rfl rfl hE rfl rfl (by kernel_rfl) rfl (fun a hE => ?_))) rfl
      refine at_op (op_tk hE (tk_load 0 (.int .i64 (x1.fPoint.fSize)) rfl rfl rfl rfl hE rfl hS rfl rfl (by kernel_rfl) (kL (j := 0) hS rfl List.not_mem_nil) (fun a hE => ?_))) rfl
      refine segN 3 (j := 14) [(19, .bool ((decide (x1.fPoint.fSize < ((List.length (x1.fItems) : Nat) : Int)))))] hE (by kernel_rfl) rfl (fun a hE => ?_)
      cases hb : (decide (x1.fPoint.fSize < ((List.length (x1.fItems) : Nat) : Int)))
      · replace hf := cond_f hb hf
        have hE := hE.know (t := 19) (b := (decide (x1.fPoint.fSize < ((List.length (x1.fItems) : Nat) : Int)))) (b' := false) rfl hb
        clear hb
        refine at_op (op_tk hE (g_fieldAddr (fo := 0) (ft := 4) 0 rfl rfl rfl rfl hE rfl rfl (by kernel_rfl) rfl (fun a hE => ?_))) rfl
        refine at_op (op_tk hE (tk_load 0 (.bool (x1.fWhole)) rfl rfl rfl rfl hE rfl hS rfl rfl (by kernel_rfl) (kL (j := 0) hS rfl List.not_mem_nil) (fun a hE => ?_))) rfl
        refine segN 1 (j := 17) [(22, .bool (x1.fWhole))] hE (by kernel_rfl) rfl (fun a hE => ?_)
        cases hb : x1.fWhole
        · replace hf := cond_f hb hf
          have hE := hE.know (t := 22) (b := x1.fWhole) (b' := false) rfl hb
          clear hb
          refine segN 9 (j := 26) [(31, .bool false)] hE (by kernel_rfl) rfl (fun a hE => ?_)
          refine at_end rfl ?_
          exact ⟨false, D1913, hE.weak (by kernel_rfl), hS, le1915, hf⟩
        · replace hf := cond_t hb hf
          have hE := hE.know (t := 22) (b := x1.fWhole) (b' := true) rfl hb
          clear hb
          refine at_op (op_tk hE (g_fieldAddr (fo := 35) (ft := 27) 35 rfl rfl rfl rfl hE rfl rfl (by kernel_rfl) rfl (fun a hE => ?_))) rfl
          refine at_op (op_tk hE (tk_load 0 (.slice A5 (List.length (x1.fItems)) c6) rfl rfl rfl rfl hE rfl hS rfl rfl (by kernel_rfl) (kL (j := 0) hS rfl List.not_mem_nil) (fun a hE => ?_))) rfl
          refine segN 1 (j := 20) [(25, .int .i64 (((List.length (x1.fItems) : Nat) : Int)))] hE (by kernel_rfl) rfl (fun a hE => ?_)
          refine at_op (op_tk hE (g_fieldAddr (fo := 1) (ft := 26) 1 rfl rfl rfl rfl hE rfl rfl (by kernel_rfl) rfl (fun a hE => ?_))) rfl
          refine at_op (op_tk hE (g_fieldAddr (fo := 0) (ft := 3) 1 rfl rfl rfl rfl hE rfl rfl (by kernel_rfl) rfl (fun a hE => ?_))) rfl
          refine at_op (op_tk hE (tk_load 0 (.int .i64 (x1.fPoint.fSize)) rfl rfl rfl rfl hE rfl hS rfl rfl (by kernel_rfl) (kL (j := 0) hS rfl List.not_mem_nil) (fun a hE => ?_))) rfl
          refine segN 3 (j := 26) [(31, .bool ((!decide (((List.length (x1.fItems) : Nat) : Int) = x1.fPoint.fSize))))] hE (by kernel_rfl) rfl (fun a hE => ?_)
          refine at_end rfl ?_
          exact ⟨(!decide (((List.length (x1.fItems) : Nat) : Int) = x1.fPoint.fSize)), D1913, hE.weak (by kernel_rfl), hS, le1915, hf⟩
      · replace hf := cond_t hb hf
        have hE := hE.know (t := 19) (b := (decide (x1.fPoint.fSize < ((List.length (x1.fItems) : Nat) : Int)))) (b' := true) rfl hb
        clear hb
        refine segN 12 (j := 26) [(31, .bool true)] hE (by kernel_rfl) rfl (fun a hE => ?_)
        refine at_end rfl ?_
        exact ⟨true, D1913, hE.weak (by kernel_rfl), hS, le1915, hf⟩
    · replace hf := cond_t hb hf
      have hE := hE.know (t := 10) (b := (!r1911)) (b' := true) rfl hb
      clear hb
      refine segN 21 (j := 26) [(31, .bool true)] hE (by kernel_rfl) rfl (fun a hE => ?_)
      refine at_end rfl ?_
      exact ⟨true, D1913, hE.weak (by kernel_rfl), hS, le1915, hf⟩
  · clear hE hS
    rintro a w ⟨y984, D985, hE, hS, le986, hf⟩
    replace hf := hj1910 _ hf
    clear hj1910
    refine cond_split hE (b := y984) rfl (fun hb => ?_) (fun hb => ?_)
    · replace hf := cond_t hb hf
      clear hb
      refine wpIn_seq ?_
      refine region_at ?_
      refine segN 1 (j := 1) [(2, .bool false)] hE (by kernel_rfl) rfl (fun a hE => ?_)
      refine at_end rfl ?_
      refine wpIn_ret ?_
      obtain rfl := Option.some.inj hf
      repeat (with_reducible first | refine then_ret ?_ | refine block_ret ?_ | refine qx_ret ?_)
      refine ret_gen ([.bool false]) hE (by rw [show Try.f10.results.toList = [.tmp 2] from rfl]; exact ⟨_, _, rfl, rfl, rfl⟩) ?_
      have hS := hS.pk .n rfl
      exact ⟨_, rfl, D985, rfl, hS⟩
    · replace hf := cond_f hb hf
      clear hb
      refine wpIn_skip ?_
      refine wpIn_seq ?_
      refine region_at ?_
      refine segN 1 (j := 1) [(3, .int .i64 ((-1 : Int)))] hE (by kernel_rfl) rfl (fun a hE => ?_)
      refine at_end rfl ?_
      refine wpIn_seq ?_
      refine wpIn_seq ?_
      refine region_at ?_
      refine at_op (op_tk hE (g_fieldAddr (fo := 35) (ft := 27) 35 rfl rfl rfl rfl hE rfl rfl (by kernel_rfl) rfl (fun a hE => ?_))) rfl
      refine at_op (op_tk hE (tk_load 0 (.slice A5 (List.length (x1.fItems)) c6) rfl rfl rfl rfl hE rfl hS rfl rfl (by kernel_rfl) (kL (j := 0) hS rfl List.not_mem_nil) (fun a hE => ?_))) rfl
      refine segN 2 (j := 4) [(34, .int .i64 (((List.length (x1.fItems) : Nat) : Int))), (35, .int .i64 ((0 : Int)))] hE (by kernel_rfl) rfl (fun a hE => ?_)
      refine at_end rfl ?_
      obtain ⟨s1758, hf, hs1759⟩ := bind_some hf
      refine block_loop (fun a w => ∃ (z1755 : Unit), ∃ (D1756 : Snap), Env a 81 [] [] ∧ Stp g w0 D0 [] w D1756 [] ∧ Snap.le D985 D1756 ∧ (Sum.inr z1755) = s1758) (fun k a w => ∃ (y1603 : Int × Int), ∃ (D1604 : Snap), Env a 81 [] [(1, .pointer (some ⟨b962, 0, none⟩)), (3, .int .i64 (y1603.1)), (33, .slice A5 (List.length (x1.fItems)) c6), (34, .int .i64 (((List.length (x1.fItems) : Nat) : Int))), (35, .int .i64 (y1603.2))] ∧ Stp g w0 D0 [] w D1604 [bx b962 29 (c_T_api_Bundle (x1) A2 c3 A5 c6)] ∧ Snap.le D985 D1604 ∧ bundle_Right_l1.l K x1 k y1603 = some s1758) K ?_ ?_ ?_
      · exact ⟨((-1 : Int), (0 : Int)), D985, hE.weak (by kernel_rfl), hS, Snap.le.refl _, hf⟩
      · clear hE hS hf
        rintro a w ⟨z1755, D1756, hE, hS, le1757, rfl⟩
        have hf := hs1759
        clear hs1759
        refine wpIn_seq ?_
        refine region_at ?_
        refine segN 1 (j := 1) [(2, .bool true)] hE (by kernel_rfl) rfl (fun a hE => ?_)
        refine at_end rfl ?_
        refine wpIn_ret ?_
        obtain rfl := Option.some.inj hf
        repeat (with_reducible first | refine then_ret ?_ | refine block_ret ?_ | refine qx_ret ?_)
        refine ret_gen ([.bool true]) hE (by rw [show Try.f10.results.toList = [.tmp 2] from rfl]; exact ⟨_, _, rfl, rfl, rfl⟩) ?_
        exact ⟨_, rfl, D1756, rfl, hS⟩
      · clear hE hS hf
        rintro k a w ⟨y1603, D1604, hE, hS, le1605, hf⟩
        obtain ⟨k, rfl, hf⟩ := bundle_Right_l1.some _ hf
        refine ⟨k, rfl, ?_⟩
        unfold bundle_Right_l1.b at hf
        refine wpIn_seq ?_
        refine region_at ?_
        refine segN 1 (j := 1) [(36, .bool ((decide (y1603.2 < ((List.length (x1.fItems) : Nat) : Int)))))] hE (by kernel_rfl) rfl (fun a hE => ?_)
        refine at_end rfl ?_
        refine wpIn_seq ?_
        refine cond_split hE (b := (decide (y1603.2 < ((List.length (x1.fItems) : Nat) : Int)))) rfl (fun hb => ?_) (fun hb => ?_)
        · replace hf := cond_t hb hf
          clear hb
          refine wpIn_skip ?_
          refine wpIn_seq ?_
          refine wpIn_block ?_
          refine wpIn_seq ?_
          refine region_at ?_
          refine segN 1 (j := 1) [(37, .int .i64 (y1603.2))] hE (by kernel_rfl) rfl (fun a hE => ?_)
          obtain ⟨x1833, h1834, hf⟩ := bind_some hf
          refine at_op (op_tk hE (g_index (K := kd_T_api_Item) (e := 50) (by_ := 256) (zl := 111) rfl rfl rfl rfl hE rfl rfl rfl (by kernel_rfl) rfl (h7.mono (Snap.le.trans le986 le1605)) h1834 (fun a b1835 o1836 hE h1837 => ?_))) rfl
          obtain ⟨cs1838, C1839, T1840, fr1841, hr1842, hb1843, hc1844⟩ := h1837
          obtain ⟨A1845, c1846, A1848, c1849, A1851, c1852, rfl, h1847, h1850, h1853⟩ := kd_T_api_Item_el hr1842
          refine at_op (op_tk hE (tk_loadX (off0 := o1836) (off := 0) (c := c_T_api_Item (x1833) A1845 c1846 A1848 c1849 A1851 c1852) (.agg (List.toArray (c_T_api_Item (x1833) A1845 c1846 A1848 c1849 A1851 c1852))) rfl rfl rfl rfl hE rfl hS rfl hb1843 hc1844 (by kernel_rfl) (by kernel_rfl) (kD hS dn_nil) (fun a hE => ?_))) rfl
          refine at_op (op_alloc (z := .agg (List.toArray (c_T_api_Item (z_T_api_Item) none 0 none 0 none 0))) rfl rfl rfl rfl hE rfl hS (by kernel_rfl) (fun a b1854 w _ hE hS => ?_)) rfl
          refine segN 1 (j := 5) [(4, .int .i64 (y1603.2))] hE (by kernel_rfl) rfl (fun a hE => ?_)
          refine at_op (op_store (v := .agg (List.toArray (c_T_api_Item (x1833) A1845 c1846 A1848 c1849 A1851 c1852))) (c_T_api_Item (x1833) A1845 c1846 A1848 c1849 A1851 c1852) rfl rfl rfl rfl hE hS rfl rfl (by kernel_rfl) (by kernel_rfl) (by kernel_rfl) (by kernel_rfl) (by kernel_rfl) (fun a w _ hE hS => ?_)) rfl
          refine at_end rfl ?_
          refine wpIn_seq ?_
          obtain ⟨j1894, hj1895, hf⟩ := jn_elim hf
          refine seq_join (fun a w => ∃ (y1891 : Bool), ∃ (D1892 : Snap), Env a 81 [] [(1, .pointer (some ⟨b962, 0, none⟩)), (5, .pointer (some ⟨b1854, 0, none⟩)), (33, .slice A5 (List.length (x1.fItems)) c6), (34, .int .i64 (((List.length (x1.fItems) : Nat) : Int))), (35, .int .i64 (y1603.2)), (77, .bool (y1891))] ∧ Stp g w0 D0 [] w D1892 [bx b962 29 (c_T_api_Bundle (x1) A2 c3 A5 c6), bx b1854 50 (c_T_api_Item (x1833) A1845 c1846 A1848 c1849 A1851 c1852)] ∧ Snap.le D1604 D1892 ∧ j1894 y1891 = some s1758) ?_ ?_
          · clear hj1895
            refine region_at ?_
            refine at_op (op_tk hE (g_fieldAddr (fo := 1) (ft := 47) 1 rfl rfl rfl rfl hE rfl rfl (by kernel_rfl) rfl (fun a hE => ?_))) rfl
            refine at_op (op_tk hE (tk_load 0 (.agg (List.toArray (c_T_api_Rec (x1833.fRec) A1845 c1846 A1848 c1849))) rfl rfl rfl rfl hE rfl hS rfl rfl (by kernel_rfl) (kL (j := 0) hS rfl List.not_mem_nil) (fun a hE => ?_))) rfl
            obtain ⟨r1896, h1897, hf⟩ := bind_some hf
            refine at_op (op_call rfl rfl rfl rfl hE rfl rfl rfl rfl (by kernel_rfl) (rec_Right.calls (g := g) h1897 (hS.st.fore (L := [])) h1847 h1850) (fun a v w hR hE => ?_)) rfl
            obtain ⟨D1898, rfl, hS1⟩ := hR
            have le1900 := hS1.dle
            have hS := hS.callR hS1 rfl .n
            clear hS1
            refine segN 2 (j := 5) [(44, .bool ((!r1896)))] hE (by kernel_rfl) rfl (fun a hE => ?_)
            cases hb : (!r1896)
            · replace hf := cond_f hb hf
              have hE := hE.know (t := 44) (b := (!r1896)) (b' := false) rfl hb
              clear hb
              refine at_op (op_tk hE (g_fieldAddr (fo := 0) (ft := 3) 0 rfl rfl rfl rfl hE rfl rfl (by kernel_rfl) rfl (fun a hE => ?_))) rfl
              refine at_op (op_tk hE (tk_load 0 (.int .i64 (x1833.fAt)) rfl rfl rfl rfl hE rfl hS rfl rfl (by kernel_rfl) (kL (j := 0) hS rfl List.not_mem_nil) (fun a hE => ?_))) rfl
              refine segN 2 (j := 9) [(48, .int .i64 ((IntKind.wrap .i64 (y1603.1 + (1 : Int)))))] hE (by kernel_rfl) rfl (fun a hE => ?_)
              refine at_op (op_tk hE (g_fieldAddr (fo := 1) (ft := 26) 1 rfl rfl rfl rfl hE rfl rfl (by kernel_rfl) rfl (fun a hE => ?_))) rfl
              refine at_op (op_tk hE (g_fieldAddr (fo := 0) (ft := 3) 1 rfl rfl rfl rfl hE rfl rfl (by kernel_rfl) rfl (fun a hE => ?_))) rfl
              refine at_op (op_tk hE (tk_load 1 (.int .i64 (x1.fPoint.fSize)) rfl rfl rfl rfl hE rfl hS rfl rfl (by kernel_rfl) (kL (j := 1) hS rfl List.not_mem_nil) (fun a hE => ?_))) rfl
              refine segN 1 (j := 13) [(52, .int .i64 ((IntKind.wrap .i64 (x1.fPoint.fSize - (1 : Int)))))] hE (by kernel_rfl) rfl (fun a hE => ?_)
              obtain ⟨r1901, h1902, hf⟩ := bind_some hf
              refine at_op (op_call rfl rfl rfl rfl hE rfl rfl rfl rfl (by kernel_rfl) (bundle_within.calls (g := g) h1902 (hS.st.fore (L := [])) ) (fun a v w hR hE => ?_)) rfl
              obtain ⟨D1903, rfl, hS1⟩ := hR
              have le1905 := hS1.dle
              have hS := hS.callR hS1 rfl .n
              clear hS1
              refine segN 3 (j := 17) [(56, .bool ((!r1901)))] hE (by kernel_rfl) rfl (fun a hE => ?_)
              cases hb : (!r1901)
              · replace hf := cond_f hb hf
                have hE := hE.know (t := 56) (b := (!r1901)) (b' := false) rfl hb
                clear hb
                refine at_op (op_tk hE (g_fieldAddr (fo := 110) (ft := 48) 110 rfl rfl rfl rfl hE rfl rfl (by kernel_rfl) rfl (fun a hE => ?_))) rfl
                refine at_op (op_tk hE (tk_load 0 (.slice A1851 (List.length (x1833.fPath)) c1852) rfl rfl rfl rfl hE rfl hS rfl rfl (by kernel_rfl) (kL (j := 0) hS rfl List.not_mem_nil) (fun a hE => ?_))) rfl
                refine segN 4 (j := 23) [(62, .bool ((decide ((20 : Int) < ((List.length (x1833.fPath) : Nat) : Int)))))] hE (by kernel_rfl) rfl (fun a hE => ?_)
                cases hb : (decide ((20 : Int) < ((List.length (x1833.fPath) : Nat) : Int)))
                · replace hf := cond_f hb hf
                  have hE := hE.know (t := 62) (b := (decide ((20 : Int) < ((List.length (x1833.fPath) : Nat) : Int)))) (b' := false) rfl hb
                  clear hb
                  refine at_op (op_tk hE (g_fieldAddr (fo := 0) (ft := 4) 0 rfl rfl rfl rfl hE rfl rfl (by kernel_rfl) rfl (fun a hE => ?_))) rfl
                  refine at_op (op_tk hE (tk_load 1 (.bool (x1.fWhole)) rfl rfl rfl rfl hE rfl hS rfl rfl (by kernel_rfl) (kL (j := 1) hS rfl List.not_mem_nil) (fun a hE => ?_))) rfl
                  refine segN 1 (j := 26) [(65, .bool (x1.fWhole))] hE (by kernel_rfl) rfl (fun a hE => ?_)
                  cases hb : x1.fWhole
                  · replace hf := cond_f hb hf
                    have hE := hE.know (t := 65) (b := x1.fWhole) (b' := false) rfl hb
                    clear hb
                    refine segN 12 (j := 38) [(77, .bool false)] hE (by kernel_rfl) rfl (fun a hE => ?_)
                    refine at_end rfl ?_
                    have hS := hS.pk (.c 1 rfl (.c 0 rfl .n)) rfl
                    exact ⟨false, D1903, hE.weak (by kernel_rfl), hS, (Snap.le.trans le1900 le1905), hf⟩
                  · replace hf := cond_t hb hf
                    have hE := hE.know (t := 65) (b := x1.fWhole) (b' := true) rfl hb
                    clear hb
                    refine at_op (op_tk hE (g_fieldAddr (fo := 0) (ft := 3) 0 rfl rfl rfl rfl hE rfl rfl (by kernel_rfl) rfl (fun a hE => ?_))) rfl
                    refine at_op (op_tk hE (tk_load 0 (.int .i64 (x1833.fAt)) rfl rfl rfl rfl hE rfl hS rfl rfl (by kernel_rfl) (kL (j := 0) hS rfl List.not_mem_nil) (fun a hE => ?_))) rfl
                    refine segN 3 (j := 31) [(70, .bool ((!decide (x1833.fAt = y1603.2))))] hE (by kernel_rfl) rfl (fun a hE => ?_)
                    cases hb : (!decide (x1833.fAt = y1603.2))
                    · replace hf := cond_f hb hf
                      have hE := hE.know (t := 70) (b := (!decide (x1833.fAt = y1603.2))) (b' := false) rfl hb
                      clear hb
                      refine at_op (op_tk hE (g_fieldAddr (fo := 110) (ft := 48) 110 rfl rfl rfl rfl hE rfl rfl (by kernel_rfl) rfl (fun a hE => ?_))) rfl
                      refine at_op (op_tk hE (tk_load 0 (.slice A1851 (List.length (x1833.fPath)) c1852) rfl rfl rfl rfl hE rfl hS rfl rfl (by kernel_rfl) (kL (j := 0) hS rfl List.not_mem_nil) (fun a hE => ?_))) rfl
                      refine segN 5 (j := 38) [(77, .bool ((decide ((0 : Int) < ((List.length (x1833.fPath) : Nat) : Int)))))] hE (by kernel_rfl) rfl (fun a hE => ?_)
                      refine at_end rfl ?_
                      have hS := hS.pk (.c 1 rfl (.c 0 rfl .n)) rfl
                      exact ⟨(decide ((0 : Int) < ((List.length (x1833.fPath) : Nat) : Int))), D1903, hE.weak (by kernel_rfl), hS, (Snap.le.trans le1900 le1905), hf⟩
                    · replace hf := cond_t hb hf
                      have hE := hE.know (t := 70) (b := (!decide (x1833.fAt = y1603.2))) (b' := true) rfl hb
                      clear hb
                      refine segN 7 (j := 38) [(77, .bool true)] hE (by kernel_rfl) rfl (fun a hE => ?_)
                      refine at_end rfl ?_
                      have hS := hS.pk (.c 1 rfl (.c 0 rfl .n)) rfl
                      exact ⟨true, D1903, hE.weak (by kernel_rfl), hS, (Snap.le.trans le1900 le1905), hf⟩
                · replace hf := cond_t hb hf
                  have hE := hE.know (t := 62) (b := (decide ((20 : Int) < ((List.length (x1833.fPath) : Nat) : Int)))) (b' := true) rfl hb
                  clear hb
                  refine segN 15 (j := 38) [(77, .bool true)] hE (by kernel_rfl) rfl (fun a hE => ?_)
                  refine at_end rfl ?_
                  have hS := hS.pk (.c 1 rfl (.c 0 rfl .n)) rfl
                  exact ⟨true, D1903, hE.weak (by kernel_rfl), hS, (Snap.le.trans le1900 le1905), hf⟩
              · replace hf := cond_t hb hf
                have hE := hE.know (t := 56) (b := (!r1901)) (b' := true) rfl hb
                clear hb
                refine segN 21 (j := 38) [(77, .bool true)] hE (by kernel_rfl) rfl (fun a hE => ?_)
                refine at_end rfl ?_
                have hS := hS.pk (.c 1 rfl (.c 0 rfl .n)) rfl
                exact ⟨true, D1903, hE.weak (by kernel_rfl), hS, (Snap.le.trans le1900 le1905), hf⟩
            · replace hf := cond_t hb hf
              have hE := hE.know (t := 44) (b := (!r1896)) (b' := true) rfl hb
              clear hb
              refine segN 33 (j := 38) [(77, .bool true)] hE (by kernel_rfl) rfl (fun a hE => ?_)
              refine at_end rfl ?_
              have hS := hS.pk (.c 1 rfl (.c 0 rfl .n)) rfl
              exact ⟨true, D1898, hE.weak (by kernel_rfl), hS, le1900, hf⟩
          · clear hE hS
            rintro a w ⟨y1891, D1892, hE, hS, le1893, hf⟩
            replace hf := hj1895 _ hf
            clear hj1895
            refine cond_split hE (b := y1891) rfl (fun hb => ?_) (fun hb => ?_)
            · replace hf := cond_t hb hf
              clear hb
              refine wpIn_seq ?_
              refine region_at ?_
              refine segN 1 (j := 1) [(2, .bool false)] hE (by kernel_rfl) rfl (fun a hE => ?_)
              refine at_end rfl ?_
              refine wpIn_ret ?_
              obtain rfl := Option.some.inj hf
              replace hf := hs1759
              obtain rfl := Option.some.inj hf
              repeat (with_reducible first | refine then_ret ?_ | refine block_ret ?_ | refine qx_ret ?_)
              refine ret_gen ([.bool false]) hE (by rw [show Try.f10.results.toList = [.tmp 2] from rfl]; exact ⟨_, _, rfl, rfl, rfl⟩) ?_
              have hS := hS.pk .n rfl
              exact ⟨_, rfl, D1892, rfl, hS⟩
            · replace hf := cond_f hb hf
              clear hb
              refine wpIn_skip ?_
              refine region_at ?_
              refine at_op (op_tk hE (g_fieldAddr (fo := 0) (ft := 3) 0 rfl rfl rfl rfl hE rfl rfl (by kernel_rfl) rfl (fun a hE => ?_))) rfl
              refine at_op (op_tk hE (tk_load 1 (.int .i64 (x1833.fAt)) rfl rfl rfl rfl hE rfl hS rfl rfl (by kernel_rfl) (kL (j := 1) hS rfl List.not_mem_nil) (fun a hE => ?_))) rfl
              refine segN 1 (j := 3) [(3, .int .i64 (x1833.fAt))] hE (by kernel_rfl) rfl (fun a hE => ?_)
              refine at_end rfl ?_
              refine region_at ?_
              refine segN 2 (j := 2) [(35, .int .i64 ((IntKind.wrap .i64 (y1603.2 + (1 : Int)))))] hE (by kernel_rfl) rfl (fun a hE => ?_)
              refine at_end rfl ?_
              have hS := hS.pk (.c 0 rfl .n) rfl
              exact ⟨(x1833.fAt, (IntKind.wrap .i64 (y1603.2 + (1 : Int)))), D1892, hE.weak (by kernel_rfl), hS, (Snap.le.trans le1605 le1893), hf⟩
        · replace hf := cond_f hb hf
          clear hb
          refine wpIn_exit ?_
          obtain rfl := Option.some.inj hf
          have hS := hS.pk .n rfl
          exact ⟨(), D1604, hE.weak (by kernel_rfl), hS, le1605, rfl⟩

set_option maxRecDepth 100000 in
set_option maxHeartbeats 4000000 in
theorem wire_Flag.calls {K : Nat} {g w0 : World} {D0 : Snap} {x1 : Bool} {r : ((List Int))} (hf : wire_Flag.f K x1 = some r) (hS0 : St g w0 D0 []) :
    CallsIn (Fw none) 0 Try.prog 20 (List.toArray [.bool (x1)]) w0 (fun e w' => ∃ v, e = .returned v ∧ ∃ (D1 : Snap) (A14 : Option Addr) (c15 : Nat) (q16 : Blk), v = .slice A14 (List.length (r)) c15 ∧ Stp g w0 D0 [] w' D1 [q16] ∧ OwnD (kdInt .u8) 5 D1 A14 c15 (r) q16) := by
  unfold wire_Flag.f at hf
  have hS := Stp.refl hS0
  clear hS0
  refine calls_body (n := 6) Try.func20 rfl Try.ntmps20 rfl (fun a hE => ?_)
  have hE : Env a 6 [] [(0, .bool (x1))] := hE
  refine wpIn_seq ?_
  refine region_at ?_
  refine segN 1 (j := 1) [(2, .slice none 0 0)] hE (by kernel_rfl) rfl (fun a hE => ?_)
  refine at_end rfl ?_
  refine wpIn_seq ?_
  refine wpIn_seq ?_
  refine region_at ?_
  refine segN 1 (j := 1) [(3, .bool (x1))] hE (by kernel_rfl) rfl (fun a hE => ?_)
  refine at_end rfl ?_
  refine cond_split hE (b := x1) rfl (fun hb => ?_) (fun hb => ?_)
  · replace hf := cond_t hb hf
    clear hb
    refine wpIn_seq ?_
    refine region_at ?_
    refine at_op (op_buildSlice (K := (kdInt .u8)) (e := 5) (cs := [.int .u8 ((1 : Int))] ++ []) ([(1 : Int)] : List Int) rfl rfl rfl rfl hE rfl hS rfl (by kernel_rfl) rfl rfl (by exact (show RL (kdInt .u8) D0 ([(1 : Int)] : List Int) ([.int .u8 ((1 : Int))] ++ []) from ⟨_, _, rfl, rfl, rfl⟩)) (fun a A23 q24 w _ hE h25 hS => ?_)) rfl
    refine segN 1 (j := 2) [(2, .slice A23 (List.length (([(1 : Int)] : List Int))) 1)] hE (by kernel_rfl) rfl (fun a hE => ?_)
    refine at_end rfl ?_
    refine wpIn_ret ?_
    obtain rfl := Option.some.inj hf
    repeat (with_reducible first | refine then_ret ?_ | refine block_ret ?_ | refine qx_ret ?_)
    refine ret_gen ([.slice A23 (List.length (([(1 : Int)] : List Int))) 1]) hE (by rw [show Try.f20.results.toList = [.tmp 2] from rfl]; exact ⟨_, _, rfl, rfl, rfl⟩) ?_
    exact ⟨_, rfl, D0, A23, 1, q24, rfl, hS, h25⟩
  · replace hf := cond_f hb hf
    clear hb
    refine wpIn_skip ?_
    refine wpIn_seq ?_
    refine region_at ?_
    refine at_op (op_buildSlice (K := (kdInt .u8)) (e := 5) (cs := [.int .u8 ((0 : Int))] ++ []) ([(0 : Int)] : List Int) rfl rfl rfl rfl hE rfl hS rfl (by kernel_rfl) rfl rfl (by exact (show RL (kdInt .u8) D0 ([(0 : Int)] : List Int) ([.int .u8 ((0 : Int))] ++ []) from ⟨_, _, rfl, rfl, rfl⟩)) (fun a A27 q28 w _ hE h29 hS => ?_)) rfl
    refine segN 1 (j := 2) [(2, .slice A27 (List.length (([(0 : Int)] : List Int))) 1)] hE (by kernel_rfl) rfl (fun a hE => ?_)
    refine at_end rfl ?_
    refine wpIn_ret ?_
    obtain rfl := Option.some.inj hf
    repeat (with_reducible first | refine then_ret ?_ | refine block_ret ?_ | refine qx_ret ?_)
    refine ret_gen ([.slice A27 (List.length (([(0 : Int)] : List Int))) 1]) hE (by rw [show Try.f20.results.toList = [.tmp 2] from rfl]; exact ⟨_, _, rfl, rfl, rfl⟩) ?_
    exact ⟨_, rfl, D0, A27, 1, q28, rfl, hS, h29⟩

set_option maxRecDepth 100000 in
set_option maxHeartbeats 4000000 in
theorem slices_Reverse_byte_byte.calls {K : Nat} {g w0 : World} {D0 : Snap} {x1 : (List Int)} {A2 : Option Addr} {c3 : Nat} {q4 : Blk} {r : ((List Int))} (hf : slices_Reverse_byte_byte.f K x1 = some r) (hS0 : St g w0 D0 [q4]) (h5 : OwnD (kdInt .u8) 5 D0 A2 c3 (x1) q4) :
    CallsIn (Fw none) 0 Try.prog 53 (List.toArray [.slice A2 (List.length (x1)) c3]) w0 (fun e w' => ∃ v, e = .returned v ∧ ∃ (D1 : Snap) (q436 : Blk), v = .tuple #[] ∧ Stp g w0 D0 [q4] w' D1 [q436] ∧ OwnD (kdInt .u8) 5 D1 A2 c3 (r) q436) := by
  unfold slices_Reverse_byte_byte.f at hf
  have hS := Stp.refl hS0
  clear hS0
  refine calls_body (n := 28) Try.func53 rfl Try.ntmps53 rfl (fun a hE => ?_)
  have hE : Env a 28 [] [(0, .slice A2 (List.length (x1)) c3)] := hE
  refine wpIn_seq ?_
  refine region_at ?_
  refine segN 5 (j := 5) [(2, .int .i64 ((0 : Int))), (3, .int .i64 ((IntKind.wrap .i64 (((List.length (x1) : Nat) : Int) - (1 : Int)))))] hE (by kernel_rfl) rfl (fun a hE => ?_)
  refine at_end rfl ?_
  obtain ⟨s738, hf, hs739⟩ := bind_some hf
  refine block_loop (fun a w => ∃ (z730 : (List Int)), ∃ (q735 : Blk), ∃ (D731 : Snap), Env a 28 [] [] ∧ Stp g w0 D0 [q4] w D731 [q735] ∧ Snap.le D0 D731 ∧ OwnD (kdInt .u8) 5 D731 A2 c3 (z730) q735 ∧ z730 = s738) (fun k a w => ∃ (y586 : (List Int) × Int × Int), ∃ (q591 : Blk), ∃ (D587 : Snap), Env a 28 [] [(0, .slice A2 (List.length (y586.1)) c3), (2, .int .i64 (y586.2.1)), (3, .int .i64 (y586.2.2))] ∧ Stp g w0 D0 [q4] w D587 [q591] ∧ Snap.le D0 D587 ∧ OwnD (kdInt .u8) 5 D587 A2 c3 (y586.1) q591 ∧ slices_Reverse_byte_byte_l1.l K k y586 = some s738) K ?_ ?_ ?_
  · exact ⟨(x1, (0 : Int), (IntKind.wrap .i64 (((List.length (x1) : Nat) : Int) - (1 : Int)))), q4, D0, hE.weak (by kernel_rfl), hS, Snap.le.refl _, h5, hf⟩
  · clear hE hS hf
    rintro a w ⟨z730, q735, D731, hE, hS, le732, h736, rfl⟩
    have hf := hs739
    clear hs739
    obtain rfl := Option.some.inj hf
    repeat (with_reducible first | refine then_ret ?_ | refine block_ret ?_ | refine qx_ret ?_)
    refine ret_genN ([]) hE (by rw [show Try.f53.results.toList = [] from rfl]; exact rfl) ?_
    exact ⟨_, rfl, D731, q735, rfl, hS, h736⟩
  · clear hE hS hf
    rintro k a w ⟨y586, q591, D587, hE, hS, le588, h592, hf⟩
    obtain ⟨k, rfl, hf⟩ := slices_Reverse_byte_byte_l1.some hf
    refine ⟨k, rfl, ?_⟩
    unfold slices_Reverse_byte_byte_l1.b at hf
    refine wpIn_seq ?_
    refine wpIn_seq ?_
    refine region_at ?_
    refine segN 3 (j := 3) [(9, .bool ((decide (y586.2.1 < y586.2.2))))] hE (by kernel_rfl) rfl (fun a hE => ?_)
    refine at_end rfl ?_
    refine cond_split hE (b := (decide (y586.2.1 < y586.2.2))) rfl (fun hb => ?_) (fun hb => ?_)
    · replace hf := cond_t hb hf
      clear hb
      refine wpIn_skip ?_
      refine wpIn_seq ?_
      refine wpIn_block ?_
      refine region_draw (fun j => Keeps (mfOf [(13, ids [q591]), (15, ids [q591])] j)) (by kernel_rfl) ?_
      have hS := hS.drew
      first | generalize w.drew = w at hS ⊢ | generalize w0.drew = w at hS ⊢
      refine tW 0 1 (fuel := 15) (by kernel_rfl) hE (fun M => tk_pure (.slice A2 (List.length (y586.1)) c3) hE rfl rfl rfl rfl (fun _ _ _ e => by cases e) (by kernel_rfl) (fun a hE => ?_))
      refine tW 1 3 (fuel := 14) (by kernel_rfl) hE (fun M => tk_pure (.int .i64 (y586.2.1)) hE rfl rfl rfl rfl (fun _ _ _ e => by cases e) (by kernel_rfl) (fun a hE => ?_))
      refine tW 2 7 (fuel := 13) (by kernel_rfl) hE (fun M => tk_pure (.slice A2 (List.length (y586.1)) c3) hE rfl rfl rfl rfl (fun _ _ _ e => by cases e) (by kernel_rfl) (fun a hE => ?_))
      refine tW 3 15 (fuel := 12) (by kernel_rfl) hE (fun M => tk_pure (.int .i64 (y586.2.2)) hE rfl rfl rfl rfl (fun _ _ _ e => by cases e) (by kernel_rfl) (fun a hE => ?_))
      refine tW 4 31 (fuel := 11) (by kernel_rfl) hE (fun M => tk_pure (.slice A2 (List.length (y586.1)) c3) hE rfl rfl rfl rfl (fun _ _ _ e => by cases e) (by kernel_rfl) (fun a hE => ?_))
      refine tW 5 63 (fuel := 10) (by kernel_rfl) hE (fun M => tk_pure (.int .i64 (y586.2.2)) hE rfl rfl rfl rfl (fun _ _ _ e => by cases e) (by kernel_rfl) (fun a hE => ?_))
      refine tW 8 319 (fuel := 9) (by kernel_rfl) hE (fun M => tk_pure (.slice A2 (List.length (y586.1)) c3) hE rfl rfl rfl rfl (fun _ _ _ e => by cases e) (by kernel_rfl) (fun a hE => ?_))
      refine tW 9 831 (fuel := 8) (by kernel_rfl) hE (fun M => tk_pure (.int .i64 (y586.2.1)) hE rfl rfl rfl rfl (fun _ _ _ e => by cases e) (by kernel_rfl) (fun a hE => ?_))
      obtain ⟨x836, h837, hf⟩ := bind_some hf
      refine tW 6 895 (fuel := 7) (by kernel_rfl) hE (fun M => tk_indexO (K := (kdInt .u8)) (T := 5) (by_ := 1) (zl := 1) rfl rfl rfl rfl hE rfl rfl rfl (by kernel_rfl) h592 h837 (fun a b838 u839 hq hE => ?_))
      subst hq
      obtain ⟨cs840, C841, hr842, hb843, hc844⟩ := OwnD.cell h592 h837
      obtain rfl := hr842
      refine tT 7 1023 (fuel := 6) (by kernel_rfl) hE (tk_loadO 0 (off0 := Int.toNat (y586.2.2) * 1) (off := 0) (c := [.int .u8 (x836)]) (Cl := C841) (T := 5) (fr := (0, 0)) (.int .u8 (x836)) rfl rfl rfl rfl hE rfl hS rfl (by rw [hb843]; rfl) hc844 (by kernel_rfl) (kL (j := 0) hS rfl List.not_mem_nil) (fun a hE => ?_))
      obtain ⟨x845, h846, hf⟩ := bind_some hf
      refine tW 10 2047 (fuel := 5) (by kernel_rfl) hE (fun M => tk_indexO (K := (kdInt .u8)) (T := 5) (by_ := 1) (zl := 1) rfl rfl rfl rfl hE rfl rfl rfl (by kernel_rfl) h592 h846 (fun a b847 u848 hq hE => ?_))
      obtain ⟨rfl, rfl⟩ := some_pair hq
      obtain ⟨cs849, C850, hr851, hb852, hc853⟩ := OwnD.cell h592 h846
      obtain rfl := hr851
      refine tT 11 4095 (fuel := 4) (by kernel_rfl) hE (tk_loadO 0 (off0 := Int.toNat (y586.2.1) * 1) (off := 0) (c := [.int .u8 (x845)]) (Cl := C850) (T := 5) (fr := (0, 0)) (.int .u8 (x845)) rfl rfl rfl rfl hE rfl hS rfl (by rw [hb852]; rfl) hc853 (by kernel_rfl) (kL (j := 0) hS rfl List.not_mem_nil) (fun a hE => ?_))
      obtain ⟨x854, h855, hf⟩ := bind_some hf
      refine tW 12 8191 (fuel := 3) (by kernel_rfl) hE (fun M => tk_indexO (K := (kdInt .u8)) (T := 5) (by_ := 1) (zl := 1) rfl rfl rfl rfl hE rfl rfl rfl (by kernel_rfl) h592 h855 (fun a b856 u857 hq hE => ?_))
      obtain ⟨rfl, rfl⟩ := some_pair hq
      refine oG 13 16383 (fuel := 2) (by kernel_rfl) (op_storeO (K := (kdInt .u8)) (T := 5) (l := y586.1) (x836) rfl rfl rfl rfl hE hS h592 rfl rfl (inI_of h855) (rfl) (by kernel_rfl) (by kernel_rfl) (fun a u858 w hkp hE h859 hS => ⟨hkp.mono (fun _ h => h), ?_⟩))
      clear hkp
      have hE : Env a 28 [] [(0, .slice A2 (List.length ((List.set (y586.1) (Int.toNat (y586.2.1)) (x836)))) c3), (2, .int .i64 (y586.2.1)), (3, .int .i64 (y586.2.2)), (9, .bool ((decide (y586.2.1 < y586.2.2)))), (14, .slice A2 (List.length ((List.set (y586.1) (Int.toNat (y586.2.1)) (x836)))) c3), (15, .int .i64 (y586.2.1)), (16, .slice A2 (List.length ((List.set (y586.1) (Int.toNat (y586.2.1)) (x836)))) c3), (17, .int .i64 (y586.2.2)), (18, .slice A2 (List.length ((List.set (y586.1) (Int.toNat (y586.2.1)) (x836)))) c3), (19, .int .i64 (y586.2.2)), (20, .pointer (some ⟨b838, Int.toNat (y586.2.2) * 1, none⟩)), (21, .int .u8 (x836)), (22, .slice A2 (List.length ((List.set (y586.1) (Int.toNat (y586.2.1)) (x836)))) c3), (23, .int .i64 (y586.2.1)), (24, .pointer (some ⟨b838, Int.toNat (y586.2.1) * 1, none⟩)), (25, .int .u8 (x845)), (26, .pointer (some ⟨b838, Int.toNat (y586.2.1) * 1, none⟩))] := by have h := hE.weak (E' := [(0, .slice A2 (List.length (y586.1)) c3), (2, .int .i64 (y586.2.1)), (3, .int .i64 (y586.2.2)), (9, .bool ((decide (y586.2.1 < y586.2.2)))), (14, .slice A2 (List.length (y586.1)) c3), (15, .int .i64 (y586.2.1)), (16, .slice A2 (List.length (y586.1)) c3), (17, .int .i64 (y586.2.2)), (18, .slice A2 (List.length (y586.1)) c3), (19, .int .i64 (y586.2.2)), (20, .pointer (some ⟨b838, Int.toNat (y586.2.2) * 1, none⟩)), (21, .int .u8 (x836)), (22, .slice A2 (List.length (y586.1)) c3), (23, .int .i64 (y586.2.1)), (24, .pointer (some ⟨b838, Int.toNat (y586.2.1) * 1, none⟩)), (25, .int .u8 (x845)), (26, .pointer (some ⟨b838, Int.toNat (y586.2.1) * 1, none⟩))]) (by kernel_rfl); simpa only [List.length_set] using h
      obtain ⟨x861, h862, hf⟩ := bind_some hf
      refine tW 14 32767 (fuel := 1) (by kernel_rfl) hE (fun M => tk_indexO (K := (kdInt .u8)) (T := 5) (by_ := 1) (zl := 1) rfl rfl rfl rfl hE rfl rfl rfl (by kernel_rfl) h859 h862 (fun a b863 u864 hq hE => ?_))
      obtain ⟨rfl, rfl⟩ := some_pair hq
      refine oG 15 65535 (fuel := 0) (by kernel_rfl) (op_storeO (K := (kdInt .u8)) (T := 5) (l := (List.set (y586.1) (Int.toNat (y586.2.1)) (x836))) (x845) rfl rfl rfl rfl hE hS h859 rfl rfl (inI_of h862) (rfl) (by kernel_rfl) (by kernel_rfl) (fun a u865 w hkp hE h866 hS => ⟨hkp.mono (fun _ h => h), ?_⟩))
      clear hkp
      have hE : Env a 28 [] [(0, .slice A2 (List.length ((List.set ((List.set (y586.1) (Int.toNat (y586.2.1)) (x836))) (Int.toNat (y586.2.2)) (x845)))) c3), (2, .int .i64 (y586.2.1)), (3, .int .i64 (y586.2.2)), (9, .bool ((decide (y586.2.1 < y586.2.2)))), (14, .slice A2 (List.length ((List.set ((List.set (y586.1) (Int.toNat (y586.2.1)) (x836))) (Int.toNat (y586.2.2)) (x845)))) c3), (15, .int .i64 (y586.2.1)), (16, .slice A2 (List.length ((List.set ((List.set (y586.1) (Int.toNat (y586.2.1)) (x836))) (Int.toNat (y586.2.2)) (x845)))) c3), (17, .int .i64 (y586.2.2)), (18, .slice A2 (List.length ((List.set ((List.set (y586.1) (Int.toNat (y586.2.1)) (x836))) (Int.toNat (y586.2.2)) (x845)))) c3), (19, .int .i64 (y586.2.2)), (20, .pointer (some ⟨b838, Int.toNat (y586.2.2) * 1, none⟩)), (21, .int .u8 (x836)), (22, .slice A2 (List.length ((List.set ((List.set (y586.1) (Int.toNat (y586.2.1)) (x836))) (Int.toNat (y586.2.2)) (x845)))) c3), (23, .int .i64 (y586.2.1)), (24, .pointer (some ⟨b838, Int.toNat (y586.2.1) * 1, none⟩)), (25, .int .u8 (x845)), (26, .pointer (some ⟨b838, Int.toNat (y586.2.1) * 1, none⟩)), (27, .pointer (some ⟨b838, Int.toNat (y586.2.2) * 1, none⟩))] := by have h := hE.weak (E' := [(0, .slice A2 (List.length ((List.set (y586.1) (Int.toNat (y586.2.1)) (x836)))) c3), (2, .int .i64 (y586.2.1)), (3, .int .i64 (y586.2.2)), (9, .bool ((decide (y586.2.1 < y586.2.2)))), (14, .slice A2 (List.length ((List.set (y586.1) (Int.toNat (y586.2.1)) (x836)))) c3), (15, .int .i64 (y586.2.1)), (16, .slice A2 (List.length ((List.set (y586.1) (Int.toNat (y586.2.1)) (x836)))) c3), (17, .int .i64 (y586.2.2)), (18, .slice A2 (List.length ((List.set (y586.1) (Int.toNat (y586.2.1)) (x836)))) c3), (19, .int .i64 (y586.2.2)), (20, .pointer (some ⟨b838, Int.toNat (y586.2.2) * 1, none⟩)), (21, .int .u8 (x836)), (22, .slice A2 (List.length ((List.set (y586.1) (Int.toNat (y586.2.1)) (x836)))) c3), (23, .int .i64 (y586.2.1)), (24, .pointer (some ⟨b838, Int.toNat (y586.2.1) * 1, none⟩)), (25, .int .u8 (x845)), (26, .pointer (some ⟨b838, Int.toNat (y586.2.1) * 1, none⟩)), (27, .pointer (some ⟨b838, Int.toNat (y586.2.2) * 1, none⟩))]) (by kernel_rfl); simpa only [List.length_set] using h
      refine doneG (by kernel_rfl) ?_
      refine region_at ?_
      refine segN 6 (j := 6) [(2, .int .i64 ((IntKind.wrap .i64 (y586.2.1 + (1 : Int))))), (3, .int .i64 ((IntKind.wrap .i64 (y586.2.2 - (1 : Int)))))] hE (by kernel_rfl) rfl (fun a hE => ?_)
      refine at_end rfl ?_
      exact ⟨((List.set ((List.set (y586.1) (Int.toNat (y586.2.1)) (x836))) (Int.toNat (y586.2.2)) (x845)), (IntKind.wrap .i64 (y586.2.1 + (1 : Int))), (IntKind.wrap .i64 (y586.2.2 - (1 : Int)))), (some (b838, u865)), D587, hE.weak (by kernel_rfl), hS, le588, h866, hf⟩
    · replace hf := cond_f hb hf
      clear hb
      refine wpIn_exit ?_
      obtain rfl := Option.some.inj hf
      exact ⟨y586.1, q591, D587, hE.weak (by kernel_rfl), hS, le588, h592, rfl⟩

set_option maxRecDepth 100000 in
set_option maxHeartbeats 4000000 in
theorem wire_Num.calls {K : Nat} {g w0 : World} {D0 : Snap} {x1 : Int} {r : ((List Int))} (hf : wire_Num.f K x1 = some r) (hS0 : St g w0 D0 []) :
    CallsIn (Fw none) 0 Try.prog 21 (List.toArray [.int .i64 (x1)]) w0 (fun e w' => ∃ v, e = .returned v ∧ ∃ (D1 : Snap) (A306 : Option Addr) (c307 : Nat) (q308 : Blk), v = .slice A306 (List.length (r)) c307 ∧ Stp g w0 D0 [] w' D1 [q308] ∧ OwnD (kdInt .u8) 5 D1 A306 c307 (r) q308) := by
  unfold wire_Num.f at hf
  have hS := Stp.refl hS0
  clear hS0
  refine calls_body (n := 30) Try.func21 rfl Try.ntmps21 rfl (fun a hE => ?_)
  have hE : Env a 30 [] [(0, .int .i64 (x1))] := hE
  refine wpIn_seq ?_
  refine region_at ?_
  refine segN 1 (j := 1) [(2, .slice none 0 0)] hE (by kernel_rfl) rfl (fun a hE => ?_)
  refine at_end rfl ?_
  refine wpIn_seq ?_
  obtain ⟨j614, hj615, hf⟩ := jn_elim hf
  refine seq_join (fun a w => ∃ (y316 : Bool), ∃ (D317 : Snap), Env a 30 [] [(0, .int .i64 (x1)), (9, .bool (y316))] ∧ Stp g w0 D0 [] w D317 [] ∧ Snap.le D0 D317 ∧ j614 y316 = some r) ?_ ?_
  · clear hj615
    refine region_at ?_
    refine segN 3 (j := 3) [(6, .bool ((decide (x1 < (0 : Int)))))] hE (by kernel_rfl) rfl (fun a hE => ?_)
    cases hb : (decide (x1 < (0 : Int)))
    · replace hf := cond_f hb hf
      have hE := hE.know (t := 6) (b := (decide (x1 < (0 : Int)))) (b' := false) rfl hb
      clear hb
      refine segN 3 (j := 6) [(9, .bool ((decide ((2147483647 : Int) < x1))))] hE (by kernel_rfl) rfl (fun a hE => ?_)
      refine at_end rfl ?_
      exact ⟨(decide ((2147483647 : Int) < x1)), D0, hE.weak (by kernel_rfl), hS, Snap.le.refl _, hf⟩
    · replace hf := cond_t hb hf
      have hE := hE.know (t := 6) (b := (decide (x1 < (0 : Int)))) (b' := true) rfl hb
      clear hb
      refine segN 3 (j := 6) [(9, .bool true)] hE (by kernel_rfl) rfl (fun a hE => ?_)
      refine at_end rfl ?_
      exact ⟨true, D0, hE.weak (by kernel_rfl), hS, Snap.le.refl _, hf⟩
  · clear hE hS
    rintro a w ⟨y316, D317, hE, hS, le318, hf⟩
    replace hf := hj615 _ hf
    clear hj615
    refine cond_split hE (b := y316) rfl (fun hb => ?_) (fun hb => ?_)
    · replace hf := cond_t hb hf
      clear hb
      refine wpIn_seq ?_
      refine region_at ?_
      refine segN 1 (j := 1) [(2, .slice none 0 0)] hE (by kernel_rfl) rfl (fun a hE => ?_)
      refine at_end rfl ?_
      refine wpIn_ret ?_
      have hS := hS.nils
      obtain rfl := Option.some.inj hf
      repeat (with_reducible first | refine then_ret ?_ | refine block_ret ?_ | refine qx_ret ?_)
      refine ret_gen ([.slice none 0 0]) hE (by rw [show Try.f21.results.toList = [.tmp 2] from rfl]; exact ⟨_, _, rfl, rfl, rfl⟩) ?_
      exact ⟨_, rfl, D317, none, 0, none, rfl, hS, (OwnD.nil (kdInt .u8) 5 D317)⟩
    · replace hf := cond_f hb hf
      clear hb
      refine wpIn_skip ?_
      refine wpIn_seq ?_
      refine region_at ?_
      refine segN 3 (j := 3) [(12, .int .u8 ((IntKind.wrap .u8 (Int.tmod x1 128))))] hE (by kernel_rfl) rfl (fun a hE => ?_)
      refine at_op (op_buildSlice (K := (kdInt .u8)) (e := 5) (cs := [.int .u8 ((IntKind.wrap .u8 (Int.tmod x1 128)))] ++ []) ([(IntKind.wrap .u8 (Int.tmod x1 128))] : List Int) rfl rfl rfl rfl hE rfl hS rfl (by kernel_rfl) rfl rfl (by exact (show RL (kdInt .u8) D317 ([(IntKind.wrap .u8 (Int.tmod x1 128))] : List Int) ([.int .u8 ((IntKind.wrap .u8 (Int.tmod x1 128)))] ++ []) from ⟨_, _, rfl, rfl, rfl⟩)) (fun a A320 q321 w _ hE h322 hS => ?_)) rfl
      refine segN 1 (j := 5) [(3, .slice A320 (List.length (([(IntKind.wrap .u8 (Int.tmod x1 128))] : List Int))) 1)] hE (by kernel_rfl) rfl (fun a hE => ?_)
      refine at_end rfl ?_
      refine wpIn_seq ?_
      refine wpIn_seq ?_
      refine region_at ?_
      refine segN 3 (j := 3) [(0, .int .i64 ((Int.fdiv x1 (2 ^ 7))))] hE (by kernel_rfl) rfl (fun a hE => ?_)
      refine at_end rfl ?_
      obtain ⟨s572, hf, hs573⟩ := bind_some hf
      refine block_loop (fun a w => ∃ (z564 : (List Int)), ∃ (A567 : Option Addr), ∃ (c568 : Nat), ∃ (q569 : Blk), ∃ (D565 : Snap), Env a 30 [] [(3, .slice A567 (List.length (z564)) c568)] ∧ Stp g w0 D0 [] w D565 [q569] ∧ Snap.le D317 D565 ∧ OwnD (kdInt .u8) 5 D565 A567 c568 (z564) q569 ∧ z564 = s572) (fun k a w => ∃ (y516 : Int × (List Int)), ∃ (A519 : Option Addr), ∃ (c520 : Nat), ∃ (q521 : Blk), ∃ (D517 : Snap), Env a 30 [] [(0, .int .i64 (y516.1)), (3, .slice A519 (List.length (y516.2)) c520)] ∧ Stp g w0 D0 [] w D517 [q521] ∧ Snap.le D317 D517 ∧ OwnD (kdInt .u8) 5 D517 A519 c520 (y516.2) q521 ∧ wire_Num_l1.l K k y516 = some s572) K ?_ ?_ ?_
      · exact ⟨((Int.fdiv x1 (2 ^ 7)), ([(IntKind.wrap .u8 (Int.tmod x1 128))] : List Int)), A320, 1, q321, D317, hE.weak (by kernel_rfl), hS, Snap.le.refl _, h322, hf⟩
      · clear hE hS hf
        rintro a w ⟨z564, A567, c568, q569, D565, hE, hS, le566, h570, rfl⟩
        have hf := hs573
        clear hs573
        refine wpIn_seq ?_
        refine region_at ?_
        refine segN 1 (j := 1) [(27, .slice A567 (List.length (z564)) c568)] hE (by kernel_rfl) rfl (fun a hE => ?_)
        obtain ⟨r606, h607, hf⟩ := bind_some hf
        refine at_op (op_call rfl rfl rfl rfl hE rfl rfl rfl rfl (by kernel_rfl) (slices_Reverse_byte_byte.calls (g := g) h607 (hS.st.fore (L := [q569])) h570) (fun a v w hR hE => ?_)) rfl
        obtain ⟨D608, q610, rfl, hS1, h611⟩ := hR
        have le613 := hS1.dle
        have hS := hS.callR hS1 rfl (.c .n)
        clear hS1
        have hl612 := slices_Reverse_byte_byte.len h607
        have hE : Env a 30 [] [(3, .slice A567 (List.length (r606)) c568), (27, .slice A567 (List.length (r606)) c568), (28, .tuple #[])] := by have h := hE.weak (E' := [(3, .slice A567 (List.length (z564)) c568), (27, .slice A567 (List.length (z564)) c568), (28, .tuple #[])]) (by kernel_rfl); simpa only [hl612] using h
        clear hl612
        refine at_end rfl ?_
        refine wpIn_seq ?_
        refine region_at ?_
        refine segN 2 (j := 2) [(2, .slice A567 (List.length (r606)) c568)] hE (by kernel_rfl) rfl (fun a hE => ?_)
        refine at_end rfl ?_
        refine wpIn_ret ?_
        obtain rfl := Option.some.inj hf
        repeat (with_reducible first | refine then_ret ?_ | refine block_ret ?_ | refine qx_ret ?_)
        refine ret_gen ([.slice A567 (List.length (r606)) c568]) hE (by rw [show Try.f21.results.toList = [.tmp 2] from rfl]; exact ⟨_, _, rfl, rfl, rfl⟩) ?_
        exact ⟨_, rfl, D608, A567, c568, q610, rfl, hS, h611⟩
      · clear hE hS hf
        rintro k a w ⟨y516, A519, c520, q521, D517, hE, hS, le518, h522, hf⟩
        obtain ⟨k, rfl, hf⟩ := wire_Num_l1.some hf
        refine ⟨k, rfl, ?_⟩
        unfold wire_Num_l1.b at hf
        refine wpIn_seq ?_
        refine wpIn_seq ?_
        refine region_at ?_
        refine segN 2 (j := 2) [(17, .bool ((decide ((0 : Int) < y516.1))))] hE (by kernel_rfl) rfl (fun a hE => ?_)
        refine at_end rfl ?_
        refine cond_split hE (b := (decide ((0 : Int) < y516.1))) rfl (fun hb => ?_) (fun hb => ?_)
        · replace hf := cond_t hb hf
          clear hb
          refine wpIn_skip ?_
          refine wpIn_seq ?_
          refine wpIn_block ?_
          refine region_at ?_
          refine segN 5 (j := 5) [(20, .slice A519 (List.length (y516.2)) c520), (24, .int .u8 ((bor .u8 (IntKind.wrap .u8 (Int.tmod y516.1 128)) (128 : Int))))] hE (by kernel_rfl) rfl (fun a hE => ?_)
          refine at_op (op_buildSlice (K := (kdInt .u8)) (e := 5) (cs := [.int .u8 ((bor .u8 (IntKind.wrap .u8 (Int.tmod y516.1 128)) (128 : Int)))] ++ []) ([(bor .u8 (IntKind.wrap .u8 (Int.tmod y516.1 128)) (128 : Int))] : List Int) rfl rfl rfl rfl hE rfl hS rfl (by kernel_rfl) rfl rfl (by exact (show RL (kdInt .u8) D517 ([(bor .u8 (IntKind.wrap .u8 (Int.tmod y516.1 128)) (128 : Int))] : List Int) ([.int .u8 ((bor .u8 (IntKind.wrap .u8 (Int.tmod y516.1 128)) (128 : Int)))] ++ []) from ⟨_, _, rfl, rfl, rfl⟩)) (fun a A590 q591 w _ hE h592 hS => ?_)) rfl
          obtain ⟨D594, q597, le595, hS, h598, h596⟩ := hS.lent h592
          have hS := hS.pk (.c 1 rfl (.c 0 rfl .n)) rfl
          obtain ⟨l599, h600, hf⟩ := bind_some hf
          refine at_op (g_append (K := (kdInt .u8)) (e := 5) (bytes := 1) (l := y516.2) (m := ([(bor .u8 (IntKind.wrap .u8 (Int.tmod y516.1 128)) (128 : Int))] : List Int)) rfl rfl rfl rfl hE rfl hS rfl rfl (by kernel_rfl) rfl rfl (h522.mono le595) h596 h600 (fun a A601 c602 q603 w _ hE h604 hS => ?_)) rfl
          refine segN 1 (j := 8) [(3, .slice A601 (List.length (l599)) c602)] hE (by kernel_rfl) rfl (fun a hE => ?_)
          refine at_end rfl ?_
          refine region_at ?_
          refine segN 3 (j := 3) [(0, .int .i64 ((Int.fdiv y516.1 (2 ^ 7))))] hE (by kernel_rfl) rfl (fun a hE => ?_)
          refine at_end rfl ?_
          have hS := hS.pk (.c 0 rfl .n) rfl
          exact ⟨((Int.fdiv y516.1 (2 ^ 7)), l599), A601, c602, q603, D594, hE.weak (by kernel_rfl), hS, (Snap.le.trans le518 le595), h604, hf⟩
        · replace hf := cond_f hb hf
          clear hb
          refine wpIn_exit ?_
          obtain rfl := Option.some.inj hf
          exact ⟨y516.2, A519, c520, q521, D517, hE.weak (by kernel_rfl), hS, le518, h522, rfl⟩

set_option maxRecDepth 100000 in
set_option maxHeartbeats 4000000 in
theorem slices_Clone_byte_byte.calls {K : Nat} {g w0 : World} {D0 : Snap} {x1 : (List Int)} {A2 : Option Addr} {c3 : Nat} {r : ((List Int))} (hf : slices_Clone_byte_byte.f K x1 = some r) (hS0 : St g w0 D0 []) (h4 : Sl (kdInt .u8) D0 A2 c3 (x1)) :
    CallsIn (Fw none) 0 Try.prog 54 (List.toArray [.slice A2 (List.length (x1)) c3]) w0 (fun e w' => ∃ v, e = .returned v ∧ ∃ (D1 : Snap) (A16 : Option Addr) (c17 : Nat) (q18 : Blk), v = .slice A16 (List.length (r)) c17 ∧ Stp g w0 D0 [] w' D1 [q18] ∧ OwnD (kdInt .u8) 5 D1 A16 c17 (r) q18) := by
  unfold slices_Clone_byte_byte.f at hf
  have hS := Stp.refl hS0
  clear hS0
  refine calls_body (n := 8) Try.func54 rfl Try.ntmps54 rfl (fun a hE => ?_)
  have hE : Env a 8 [] [(0, .slice A2 (List.length (x1)) c3)] := hE
  refine wpIn_seq ?_
  refine region_at ?_
  refine segN 1 (j := 1) [(2, .slice none 0 0)] hE (by kernel_rfl) rfl (fun a hE => ?_)
  refine at_end rfl ?_
  refine wpIn_seq ?_
  refine wpIn_seq ?_
  refine region_at ?_
  refine segN 1 (j := 1) [(3, .slice A2 (List.length (x1)) c3)] hE (by kernel_rfl) rfl (fun a hE => ?_)
  refine at_op (op_tk hE (tk_bin (r := .bool ((Option.isNone A2))) rfl rfl rfl rfl hE rfl rfl rfl (eqnil_run (by kernel_rfl) _ _ _) (fun a hE => ?_))) rfl
  refine at_end rfl ?_
  refine cond_split hE (b := (Option.isNone A2)) rfl (fun hb => ?_) (fun hb => ?_)
  · have hx := Sl.of_none h4 hb rfl
    clear hb
    rw [hx] at hf
    replace hf : (some ([] : List Int)) = some r := hf
    refine wpIn_seq ?_
    refine region_at ?_
    refine segN 1 (j := 1) [(2, .slice none 0 0)] hE (by kernel_rfl) rfl (fun a hE => ?_)
    refine at_end rfl ?_
    refine wpIn_ret ?_
    have hS := hS.nils
    obtain rfl := Option.some.inj hf
    repeat (with_reducible first | refine then_ret ?_ | refine block_ret ?_ | refine qx_ret ?_)
    refine ret_gen ([.slice none 0 0]) hE (by rw [show Try.f54.results.toList = [.tmp 2] from rfl]; exact ⟨_, _, rfl, rfl, rfl⟩) ?_
    exact ⟨_, rfl, D0, none, 0, none, rfl, hS, (OwnD.nil (kdInt .u8) 5 D0)⟩
  · clear hb
    refine wpIn_skip ?_
    refine wpIn_seq ?_
    refine region_at ?_
    refine at_op (op_buildSlice (K := (kdInt .u8)) (e := 5) (cs := []) ([] : List Int) rfl rfl rfl rfl hE rfl hS rfl (by kernel_rfl) rfl rfl (by exact (show RL (kdInt .u8) D0 ([] : List Int) ([]) from rfl)) (fun a A22 q23 w _ hE h24 hS => ?_)) rfl
    refine segN 1 (j := 2) [(6, .slice A2 (List.length (x1)) c3)] hE (by kernel_rfl) rfl (fun a hE => ?_)
    obtain ⟨l26, h27, hf⟩ := bind_some hf
    refine at_op (g_append (K := (kdInt .u8)) (e := 5) (bytes := 1) (l := ([] : List Int)) (m := x1) rfl rfl rfl rfl hE rfl hS rfl rfl (by kernel_rfl) rfl rfl h24 h4 h27 (fun a A28 c29 q30 w _ hE h31 hS => ?_)) rfl
    refine segN 1 (j := 4) [(2, .slice A28 (List.length (l26)) c29)] hE (by kernel_rfl) rfl (fun a hE => ?_)
    refine at_end rfl ?_
    refine wpIn_ret ?_
    obtain rfl := Option.some.inj hf
    repeat (with_reducible first | refine then_ret ?_ | refine block_ret ?_ | refine qx_ret ?_)
    refine ret_gen ([.slice A28 (List.length (l26)) c29]) hE (by rw [show Try.f54.results.toList = [.tmp 2] from rfl]; exact ⟨_, _, rfl, rfl, rfl⟩) ?_
    exact ⟨_, rfl, D0, A28, c29, q30, rfl, hS, h31⟩

set_option maxRecDepth 100000 in
set_option maxHeartbeats 4000000 in
theorem wire_Hash.calls {K : Nat} {g w0 : World} {D0 : Snap} {x1 : (Vector Int 32)} {r : ((List Int))} (hf : wire_Hash.f K x1 = some r) (hS0 : St g w0 D0 []) :
    CallsIn (Fw none) 0 Try.prog 22 (List.toArray [.agg (List.toArray (acells .u8 32 (x1)))]) w0 (fun e w' => ∃ v, e = .returned v ∧ ∃ (D1 : Snap) (A22 : Option Addr) (c23 : Nat) (q24 : Blk), v = .slice A22 (List.length (r)) c23 ∧ Stp g w0 D0 [] w' D1 [q24] ∧ OwnD (kdInt .u8) 5 D1 A22 c23 (r) q24) := by
  unfold wire_Hash.f at hf
  have hS := Stp.refl hS0
  clear hS0
  refine calls_body (n := 5) Try.func22 rfl Try.ntmps22 rfl (fun a hE => ?_)
  have hE : Env a 5 [] [(0, .agg (List.toArray (acells .u8 32 (x1))))] := hE
  refine wpIn_seq ?_
  refine region_at ?_
  refine at_op (op_box rfl rfl rfl rfl hE rfl hS rfl (fun a b27 w _ hE hS => ?_)) rfl
  refine segN 1 (j := 2) [(2, .slice none 0 0)] hE (by kernel_rfl) rfl (fun a hE => ?_)
  refine at_end rfl ?_
  refine wpIn_seq ?_
  refine region_at ?_
  obtain ⟨D29, le30, e31, hS⟩ := hS.freezeB
  obtain ⟨l32, h33, hf⟩ := bind_some hf
  refine at_op (op_tk hE (g_sliceArr (kk := .u8) (e := 5) (v := x1) rfl rfl rfl rfl hE rfl rfl (by kernel_rfl) rfl rfl e31 rfl h33 (fun a A34 c35 hE h36 => ?_))) rfl
  obtain ⟨r37, h38, hf⟩ := bind_some hf
  refine at_op (op_call rfl rfl rfl rfl hE rfl rfl rfl rfl (by kernel_rfl) (slices_Clone_byte_byte.calls (g := g) h38 (hS.st.fore (L := [])) h36) (fun a v w hR hE => ?_)) rfl
  obtain ⟨D39, A41, c42, q43, rfl, hS1, h44⟩ := hR
  have le46 := hS1.dle
  have hS := hS.callR hS1 rfl (.c .n)
  clear hS1
  refine segN 1 (j := 3) [(2, .slice A41 (List.length (r37)) c42)] hE (by kernel_rfl) rfl (fun a hE => ?_)
  refine at_end rfl ?_
  refine wpIn_ret ?_
  obtain rfl := Option.some.inj hf
  repeat (with_reducible first | refine then_ret ?_ | refine block_ret ?_ | refine qx_ret ?_)
  refine ret_gen ([.slice A41 (List.length (r37)) c42]) hE (by rw [show Try.f22.results.toList = [.tmp 2] from rfl]; exact ⟨_, _, rfl, rfl, rfl⟩) ?_
  exact ⟨_, rfl, D39, A41, c42, q43, rfl, hS, h44⟩

set_option maxRecDepth 100000 in
set_option maxHeartbeats 4000000 in
theorem slices_Grow_byte_byte.calls {K : Nat} {g w0 : World} {D0 : Snap} {x1 : Int} {r : ((List Int))} (hf : slices_Grow_byte_byte.f K x1 = some r) (hS0 : St g w0 D0 []) :
    CallsIn (Fw none) 0 Try.prog 76 (List.toArray [.slice none 0 0, .int .i64 (x1)]) w0 (fun e w' => ∃ v, e = .returned v ∧ ∃ (D1 : Snap) (A22 : Option Addr) (c23 : Nat) (q24 : Blk), v = .slice A22 (List.length (r)) c23 ∧ Stp g w0 D0 [] w' D1 [q24] ∧ OwnD (kdInt .u8) 5 D1 A22 c23 (r) q24) := by
  unfold slices_Grow_byte_byte.f at hf
  have hS := Stp.refl hS0
  clear hS0
  refine calls_body (n := 27) Try.func76 rfl Try.ntmps76 rfl (fun a hE => ?_)
  have hE : Env a 27 [] [(0, .slice none 0 0), (1, .int .i64 (x1))] := hE
  refine wpIn_seq ?_
  refine region_at ?_
  refine segN 1 (j := 1) [(4, .slice none 0 0)] hE (by kernel_rfl) rfl (fun a hE => ?_)
  refine at_end rfl ?_
  refine wpIn_seq ?_
  refine wpIn_seq ?_
  refine region_at ?_
  refine segN 2 (j := 2) [(6, .bool ((decide (x1 < (0 : Int)))))] hE (by kernel_rfl) rfl (fun a hE => ?_)
  refine at_end rfl ?_
  refine cond_split hE (b := (decide (x1 < (0 : Int)))) rfl (fun hb => ?_) (fun hb => ?_)
  · replace hf := cond_t hb hf
    clear hb
    refine region_at ?_
    cases hf
  · replace hf := cond_f hb hf
    clear hb
    refine wpIn_skip ?_
    refine wpIn_seq ?_
    refine wpIn_seq ?_
    refine region_at ?_
    refine segN 2 (j := 2) [(8, .int .i64 (x1)), (9, .slice none 0 0)] hE (by kernel_rfl) rfl (fun a hE => ?_)
    refine at_op (op_tk hE (tk_capNil rfl rfl rfl rfl hE rfl rfl (by kernel_rfl) (fun a hE => ?_))) rfl
    refine segN 5 (j := 8) [(1, .int .i64 ((IntKind.wrap .i64 (x1 - (IntKind.wrap .i64 (((0 : Nat) : Int) - ((0 : Nat) : Int)))))))] hE (by kernel_rfl) rfl (fun a hE => ?_)
    refine at_end rfl ?_
    refine wpIn_seq ?_
    refine region_at ?_
    refine segN 2 (j := 2) [(16, .bool ((decide ((0 : Int) < (IntKind.wrap .i64 (x1 - (IntKind.wrap .i64 (((0 : Nat) : Int) - ((0 : Nat) : Int)))))))))] hE (by kernel_rfl) rfl (fun a hE => ?_)
    refine at_end rfl ?_
    refine cond_split hE (b := (decide ((0 : Int) < (IntKind.wrap .i64 (x1 - (IntKind.wrap .i64 (((0 : Nat) : Int) - ((0 : Nat) : Int)))))))) rfl (fun hb => ?_) (fun hb => ?_)
    · replace hf := cond_t hb hf
      clear hb
      refine region_at ?_
      refine segN 2 (j := 2) [(17, .slice none 0 0), (18, .slice none 0 0)] hE (by kernel_rfl) rfl (fun a hE => ?_)
      refine at_op (op_tk hE (tk_capNil rfl rfl rfl rfl hE rfl rfl (by kernel_rfl) (fun a hE => ?_))) rfl
      refine at_op (op_tk hE (tk_sliceNil (e := 5) (sz := 1) (by_ := 1) (zl := 1) rfl rfl rfl rfl hE rfl rfl (by kernel_rfl) rfl ⟨_, rfl⟩ (fun a hE => ?_))) rfl
      refine segN 1 (j := 5) [(21, .int .i64 ((IntKind.wrap .i64 (x1 - (IntKind.wrap .i64 (((0 : Nat) : Int) - ((0 : Nat) : Int)))))))] hE (by kernel_rfl) rfl (fun a hE => ?_)
      obtain ⟨l37, h38, hf⟩ := bind_some hf
      refine at_op (op_appendZ (K := (kdInt .u8)) (e := 5) (bytes := 1) (z := (0 : Int)) (cz := [.int .u8 ((0 : Int))]) rfl rfl rfl rfl hE rfl hS rfl rfl (by kernel_rfl) (by kernel_rfl) (by kernel_rfl) rfl rfl rfl h38 (fun a A39 c40 q41 w _ hE h42 hS => ?_)) rfl
      refine segN 2 (j := 8) [(24, .int .i64 (((0 : Nat) : Int)))] hE (by kernel_rfl) rfl (fun a hE => ?_)
      obtain ⟨l44, h45, hf⟩ := bind_some hf
      refine at_op (op_tk hE (op_prefixO (K := (kdInt .u8)) (T := 5) (by_ := 1) (zl := 1) rfl rfl rfl rfl hE rfl rfl (by kernel_rfl) ⟨_, rfl⟩ h42 h45 (fun a hE h46 => ?_))) rfl
      refine segN 1 (j := 10) [(0, .slice A39 (List.length (l44)) c40)] hE (by kernel_rfl) rfl (fun a hE => ?_)
      refine at_end rfl ?_
      refine wpIn_seq ?_
      refine region_at ?_
      refine segN 2 (j := 2) [(4, .slice A39 (List.length (l44)) c40)] hE (by kernel_rfl) rfl (fun a hE => ?_)
      refine at_end rfl ?_
      refine wpIn_ret ?_
      obtain rfl := Option.some.inj hf
      repeat (with_reducible first | refine then_ret ?_ | refine block_ret ?_ | refine qx_ret ?_)
      refine ret_gen ([.slice A39 (List.length (l44)) c40]) hE (by rw [show Try.f76.results.toList = [.tmp 4] from rfl]; exact ⟨_, _, rfl, rfl, rfl⟩) ?_
      exact ⟨_, rfl, D0, A39, c40, q41, rfl, hS, h46⟩
    · replace hf := cond_f hb hf
      clear hb
      refine wpIn_skip ?_
      refine wpIn_seq ?_
      refine region_at ?_
      refine segN 2 (j := 2) [(4, .slice none 0 0)] hE (by kernel_rfl) rfl (fun a hE => ?_)
      refine at_end rfl ?_
      refine wpIn_ret ?_
      have hS := hS.nils
      obtain rfl := Option.some.inj hf
      repeat (with_reducible first | refine then_ret ?_ | refine block_ret ?_ | refine qx_ret ?_)
      refine ret_gen ([.slice none 0 0]) hE (by rw [show Try.f76.results.toList = [.tmp 4] from rfl]; exact ⟨_, _, rfl, rfl, rfl⟩) ?_
      exact ⟨_, rfl, D0, none, 0, none, rfl, hS, (OwnD.nil (kdInt .u8) 5 D0)⟩

set_option maxRecDepth 100000 in
set_option maxHeartbeats 4000000 in
theorem slices_Concat_byte_byte.calls {K : Nat} {g w0 : World} {D0 : Snap} {x1 : (List (List Int))} {A2 : Option Addr} {c3 : Nat} {r : ((List Int))} (hf : slices_Concat_byte_byte.f K x1 = some r) (hS0 : St g w0 D0 []) (h4 : Sl (kdSlice (kdInt .u8)) D0 A2 c3 (x1)) :
    CallsIn (Fw none) 0 Try.prog 52 (List.toArray [.slice A2 (List.length (x1)) c3]) w0 (fun e w' => ∃ v, e = .returned v ∧ ∃ (D1 : Snap) (A589 : Option Addr) (c590 : Nat) (q591 : Blk), v = .slice A589 (List.length (r)) c590 ∧ Stp g w0 D0 [] w' D1 [q591] ∧ OwnD (kdInt .u8) 5 D1 A589 c590 (r) q591) := by
  unfold slices_Concat_byte_byte.f at hf
  have hS := Stp.refl hS0
  clear hS0
  refine calls_body (n := 36) Try.func52 rfl Try.ntmps52 rfl (fun a hE => ?_)
  have hE : Env a 36 [] [(0, .slice A2 (List.length (x1)) c3)] := hE
  refine wpIn_seq ?_
  refine region_at ?_
  refine segN 1 (j := 1) [(2, .slice none 0 0)] hE (by kernel_rfl) rfl (fun a hE => ?_)
  refine at_end rfl ?_
  refine wpIn_seq ?_
  refine region_at ?_
  refine segN 1 (j := 1) [(3, .int .i64 ((0 : Int)))] hE (by kernel_rfl) rfl (fun a hE => ?_)
  refine at_end rfl ?_
  refine wpIn_seq ?_
  refine wpIn_seq ?_
  refine region_at ?_
  refine segN 3 (j := 3) [(9, .slice A2 (List.length (x1)) c3), (10, .int .i64 (((List.length (x1) : Nat) : Int))), (11, .int .i64 ((0 : Int)))] hE (by kernel_rfl) rfl (fun a hE => ?_)
  refine at_end rfl ?_
  obtain ⟨s782, hf, hs783⟩ := bind_some hf
  refine block_loop (fun a w => ∃ (z779 : Int), ∃ (D780 : Snap), Env a 36 [] [(0, .slice A2 (List.length (x1)) c3), (3, .int .i64 (z779))] ∧ Stp g w0 D0 [] w D780 [] ∧ Snap.le D0 D780 ∧ z779 = s782) (fun k a w => ∃ (y743 : Int × Int), ∃ (D744 : Snap), Env a 36 [] [(0, .slice A2 (List.length (x1)) c3), (3, .int .i64 (y743.1)), (9, .slice A2 (List.length (x1)) c3), (10, .int .i64 (((List.length (x1) : Nat) : Int))), (11, .int .i64 (y743.2))] ∧ Stp g w0 D0 [] w D744 [] ∧ Snap.le D0 D744 ∧ slices_Concat_byte_byte_l1.l K x1 k y743 = some s782) K ?_ ?_ ?_
  · exact ⟨((0 : Int), (0 : Int)), D0, hE.weak (by kernel_rfl), hS, Snap.le.refl _, hf⟩
  · clear hE hS hf
    rintro a w ⟨z779, D780, hE, hS, le781, rfl⟩
    have hf := hs783
    clear hs783
    refine wpIn_seq ?_
    refine region_at ?_
    refine segN 1 (j := 1) [(23, .int .i64 (z779))] hE (by kernel_rfl) rfl (fun a hE => ?_)
    obtain ⟨r814, h815, hf⟩ := bind_some hf
    refine at_op (op_call rfl rfl rfl rfl hE rfl rfl rfl rfl (by kernel_rfl) (slices_Grow_byte_byte.calls (g := g) h815 (hS.st.fore (L := [])) ) (fun a v w hR hE => ?_)) rfl
    obtain ⟨D816, A818, c819, q820, rfl, hS1, h821⟩ := hR
    have le823 := hS1.dle
    have hS := hS.callR hS1 rfl (.c .n)
    clear hS1
    refine segN 1 (j := 3) [(6, .slice A818 (List.length (r814)) c819)] hE (by kernel_rfl) rfl (fun a hE => ?_)
    refine at_end rfl ?_
    refine wpIn_seq ?_
    refine wpIn_seq ?_
    refine region_at ?_
    refine segN 3 (j := 3) [(25, .slice A2 (List.length (x1)) c3), (26, .int .i64 (((List.length (x1) : Nat) : Int))), (27, .int .i64 ((0 : Int)))] hE (by kernel_rfl) rfl (fun a hE => ?_)
    refine at_end rfl ?_
    obtain ⟨s1132, hf, hs1133⟩ := bind_some hf
    refine block_loop (fun a w => ∃ (z1124 : (List Int)), ∃ (A1127 : Option Addr), ∃ (c1128 : Nat), ∃ (q1129 : Blk), ∃ (D1125 : Snap), Env a 36 [] [(6, .slice A1127 (List.length (z1124)) c1128)] ∧ Stp g w0 D0 [] w D1125 [q1129] ∧ Snap.le D816 D1125 ∧ OwnD (kdInt .u8) 5 D1125 A1127 c1128 (z1124) q1129 ∧ z1124 = s1132) (fun k a w => ∃ (y1064 : (List Int) × Int), ∃ (A1067 : Option Addr), ∃ (c1068 : Nat), ∃ (q1069 : Blk), ∃ (D1065 : Snap), Env a 36 [] [(6, .slice A1067 (List.length (y1064.1)) c1068), (25, .slice A2 (List.length (x1)) c3), (26, .int .i64 (((List.length (x1) : Nat) : Int))), (27, .int .i64 (y1064.2))] ∧ Stp g w0 D0 [] w D1065 [q1069] ∧ Snap.le D816 D1065 ∧ OwnD (kdInt .u8) 5 D1065 A1067 c1068 (y1064.1) q1069 ∧ slices_Concat_byte_byte_l2.l K x1 k y1064 = some s1132) K ?_ ?_ ?_
    · exact ⟨(r814, (0 : Int)), A818, c819, q820, D816, hE.weak (by kernel_rfl), hS, Snap.le.refl _, h821, hf⟩
    · clear hE hS hf
      rintro a w ⟨z1124, A1127, c1128, q1129, D1125, hE, hS, le1126, h1130, rfl⟩
      have hf := hs1133
      clear hs1133
      refine wpIn_seq ?_
      refine region_at ?_
      refine segN 2 (j := 2) [(2, .slice A1127 (List.length (z1124)) c1128)] hE (by kernel_rfl) rfl (fun a hE => ?_)
      refine at_end rfl ?_
      refine wpIn_ret ?_
      obtain rfl := Option.some.inj hf
      repeat (with_reducible first | refine then_ret ?_ | refine block_ret ?_ | refine qx_ret ?_)
      refine ret_gen ([.slice A1127 (List.length (z1124)) c1128]) hE (by rw [show Try.f52.results.toList = [.tmp 2] from rfl]; exact ⟨_, _, rfl, rfl, rfl⟩) ?_
      exact ⟨_, rfl, D1125, A1127, c1128, q1129, rfl, hS, h1130⟩
    · clear hE hS hf
      rintro k a w ⟨y1064, A1067, c1068, q1069, D1065, hE, hS, le1066, h1070, hf⟩
      obtain ⟨k, rfl, hf⟩ := slices_Concat_byte_byte_l2.some _ hf
      refine ⟨k, rfl, ?_⟩
      unfold slices_Concat_byte_byte_l2.b at hf
      refine wpIn_seq ?_
      refine region_at ?_
      refine segN 1 (j := 1) [(28, .bool ((decide (y1064.2 < ((List.length (x1) : Nat) : Int)))))] hE (by kernel_rfl) rfl (fun a hE => ?_)
      refine at_end rfl ?_
      refine wpIn_seq ?_
      refine cond_split hE (b := (decide (y1064.2 < ((List.length (x1) : Nat) : Int)))) rfl (fun hb => ?_) (fun hb => ?_)
      · replace hf := cond_t hb hf
        clear hb
        refine wpIn_skip ?_
        refine wpIn_seq ?_
        refine wpIn_block ?_
        refine wpIn_seq ?_
        refine region_at ?_
        obtain ⟨x1156, h1157, hf⟩ := bind_some hf
        refine at_op (op_tk hE (g_index (K := (kdSlice (kdInt .u8))) (e := 32) (by_ := 24) (zl := 1) rfl rfl rfl rfl hE rfl rfl rfl (by kernel_rfl) rfl (h4.mono (Snap.le.trans (Snap.le.trans le781 le823) le1066)) h1157 (fun a b1158 o1159 hE h1160 => ?_))) rfl
        obtain ⟨cs1161, C1162, T1163, fr1164, hr1165, hb1166, hc1167⟩ := h1160
        obtain ⟨A1168, c1169, rfl, h1170⟩ := hr1165
        refine at_op (op_tk hE (tk_loadX (off0 := o1159) (off := 0) (c := [.slice A1168 (List.length (x1156)) c1169]) (.slice A1168 (List.length (x1156)) c1169) rfl rfl rfl rfl hE rfl hS rfl hb1166 hc1167 (by kernel_rfl) (by kernel_rfl) (kD hS dn_nil) (fun a hE => ?_))) rfl
        refine segN 1 (j := 3) [(8, .slice A1168 (List.length (x1156)) c1169)] hE (by kernel_rfl) rfl (fun a hE => ?_)
        refine at_end rfl ?_
        refine region_at ?_
        refine segN 2 (j := 2) [(31, .slice A1067 (List.length (y1064.1)) c1068), (32, .slice A1168 (List.length (x1156)) c1169)] hE (by kernel_rfl) rfl (fun a hE => ?_)
        obtain ⟨l1171, h1172, hf⟩ := bind_some hf
        refine at_op (g_append (K := (kdInt .u8)) (e := 5) (bytes := 1) (l := y1064.1) (m := x1156) rfl rfl rfl rfl hE rfl hS rfl rfl (by kernel_rfl) rfl rfl h1070 h1170 h1172 (fun a A1173 c1174 q1175 w _ hE h1176 hS => ?_)) rfl
        refine segN 1 (j := 4) [(6, .slice A1173 (List.length (l1171)) c1174)] hE (by kernel_rfl) rfl (fun a hE => ?_)
        refine at_end rfl ?_
        refine region_at ?_
        refine segN 2 (j := 2) [(27, .int .i64 ((IntKind.wrap .i64 (y1064.2 + (1 : Int)))))] hE (by kernel_rfl) rfl (fun a hE => ?_)
        refine at_end rfl ?_
        exact ⟨(l1171, (IntKind.wrap .i64 (y1064.2 + (1 : Int)))), A1173, c1174, q1175, D1065, hE.weak (by kernel_rfl), hS, le1066, h1176, hf⟩
      · replace hf := cond_f hb hf
        clear hb
        refine wpIn_exit ?_
        obtain rfl := Option.some.inj hf
        exact ⟨y1064.1, A1067, c1068, q1069, D1065, hE.weak (by kernel_rfl), hS, le1066, h1070, rfl⟩
  · clear hE hS hf
    rintro k a w ⟨y743, D744, hE, hS, le745, hf⟩
    obtain ⟨k, rfl, hf⟩ := slices_Concat_byte_byte_l1.some _ hf
    refine ⟨k, rfl, ?_⟩
    unfold slices_Concat_byte_byte_l1.b at hf
    refine wpIn_seq ?_
    refine region_at ?_
    refine segN 1 (j := 1) [(12, .bool ((decide (y743.2 < ((List.length (x1) : Nat) : Int)))))] hE (by kernel_rfl) rfl (fun a hE => ?_)
    refine at_end rfl ?_
    refine wpIn_seq ?_
    refine cond_split hE (b := (decide (y743.2 < ((List.length (x1) : Nat) : Int)))) rfl (fun hb => ?_) (fun hb => ?_)
    · replace hf := cond_t hb hf
      clear hb
      refine wpIn_skip ?_
      refine wpIn_seq ?_
      refine wpIn_block ?_
      refine wpIn_seq ?_
      refine region_at ?_
      obtain ⟨x799, h800, hf⟩ := bind_some hf
      refine at_op (op_tk hE (g_index (K := (kdSlice (kdInt .u8))) (e := 32) (by_ := 24) (zl := 1) rfl rfl rfl rfl hE rfl rfl rfl (by kernel_rfl) rfl (h4.mono le745) h800 (fun a b801 o802 hE h803 => ?_))) rfl
      obtain ⟨cs804, C805, T806, fr807, hr808, hb809, hc810⟩ := h803
      obtain ⟨A811, c812, rfl, h813⟩ := hr808
      refine at_op (op_tk hE (tk_loadX (off0 := o802) (off := 0) (c := [.slice A811 (List.length (x799)) c812]) (.slice A811 (List.length (x799)) c812) rfl rfl rfl rfl hE rfl hS rfl hb809 hc810 (by kernel_rfl) (by kernel_rfl) (kD hS dn_nil) (fun a hE => ?_))) rfl
      refine segN 1 (j := 3) [(5, .slice A811 (List.length (x799)) c812)] hE (by kernel_rfl) rfl (fun a hE => ?_)
      refine at_end rfl ?_
      refine wpIn_seq ?_
      refine region_at ?_
      refine segN 5 (j := 5) [(3, .int .i64 ((IntKind.wrap .i64 (y743.1 + ((List.length (x799) : Nat) : Int)))))] hE (by kernel_rfl) rfl (fun a hE => ?_)
      refine at_end rfl ?_
      refine wpIn_seq ?_
      refine region_at ?_
      refine segN 2 (j := 2) [(20, .bool ((decide ((IntKind.wrap .i64 (y743.1 + ((List.length (x799) : Nat) : Int))) < (0 : Int)))))] hE (by kernel_rfl) rfl (fun a hE => ?_)
      refine at_end rfl ?_
      refine cond_split hE (b := (decide ((IntKind.wrap .i64 (y743.1 + ((List.length (x799) : Nat) : Int))) < (0 : Int)))) rfl (fun hb => ?_) (fun hb => ?_)
      · replace hf := cond_t hb hf
        clear hb
        refine region_at ?_
        cases hf
      · replace hf := cond_f hb hf
        clear hb
        refine wpIn_skip ?_
        refine region_at ?_
        refine segN 2 (j := 2) [(11, .int .i64 ((IntKind.wrap .i64 (y743.2 + (1 : Int)))))] hE (by kernel_rfl) rfl (fun a hE => ?_)
        refine at_end rfl ?_
        exact ⟨((IntKind.wrap .i64 (y743.1 + ((List.length (x799) : Nat) : Int))), (IntKind.wrap .i64 (y743.2 + (1 : Int)))), D744, hE.weak (by kernel_rfl), hS, le745, hf⟩
    · replace hf := cond_f hb hf
      clear hb
      refine wpIn_exit ?_
      obtain rfl := Option.some.inj hf
      exact ⟨y743.1, D744, hE.weak (by kernel_rfl), hS, le745, rfl⟩

set_option maxRecDepth 100000 in
set_option maxHeartbeats 4000000 in
theorem wire_All.calls {K : Nat} {g w0 : World} {D0 : Snap} {x1 : (List (List Int))} {A2 : Option Addr} {c3 : Nat} {r : ((List Int))} (hf : wire_All.f K x1 = some r) (hS0 : St g w0 D0 []) (h4 : Sl (kdSlice (kdInt .u8)) D0 A2 c3 (x1)) :
    CallsIn (Fw none) 0 Try.prog 19 (List.toArray [.slice A2 (List.length (x1)) c3]) w0 (fun e w' => ∃ v, e = .returned v ∧ ∃ (D1 : Snap) (A15 : Option Addr) (c16 : Nat) (q17 : Blk), v = .slice A15 (List.length (r)) c16 ∧ Stp g w0 D0 [] w' D1 [q17] ∧ OwnD (kdInt .u8) 5 D1 A15 c16 (r) q17) := by
  unfold wire_All.f at hf
  have hS := Stp.refl hS0
  clear hS0
  refine calls_body (n := 5) Try.func19 rfl Try.ntmps19 rfl (fun a hE => ?_)
  have hE : Env a 5 [] [(0, .slice A2 (List.length (x1)) c3)] := hE
  refine wpIn_seq ?_
  refine region_at ?_
  refine segN 1 (j := 1) [(2, .slice none 0 0)] hE (by kernel_rfl) rfl (fun a hE => ?_)
  refine at_end rfl ?_
  refine wpIn_seq ?_
  refine region_at ?_
  refine segN 1 (j := 1) [(3, .slice A2 (List.length (x1)) c3)] hE (by kernel_rfl) rfl (fun a hE => ?_)
  obtain ⟨r20, h21, hf⟩ := bind_some hf
  refine at_op (op_call rfl rfl rfl rfl hE rfl rfl rfl rfl (by kernel_rfl) (slices_Concat_byte_byte.calls (g := g) h21 (hS.st.fore (L := [])) h4) (fun a v w hR hE => ?_)) rfl
  obtain ⟨D22, A24, c25, q26, rfl, hS1, h27⟩ := hR
  have le29 := hS1.dle
  have hS := hS.callR hS1 rfl (.c .n)
  clear hS1
  refine segN 1 (j := 3) [(2, .slice A24 (List.length (r20)) c25)] hE (by kernel_rfl) rfl (fun a hE => ?_)
  refine at_end rfl ?_
  refine wpIn_ret ?_
  obtain rfl := Option.some.inj hf
  repeat (with_reducible first | refine then_ret ?_ | refine block_ret ?_ | refine qx_ret ?_)
  refine ret_gen ([.slice A24 (List.length (r20)) c25]) hE (by rw [show Try.f19.results.toList = [.tmp 2] from rfl]; exact ⟨_, _, rfl, rfl, rfl⟩) ?_
  exact ⟨_, rfl, D22, A24, c25, q26, rfl, hS, h27⟩

set_option maxRecDepth 100000 in
set_option maxHeartbeats 4000000 in
theorem bundle_Put_1.calls {K : Nat} {g w0 : World} {D0 : Snap} {x1 : T_api_Sig} {r : ((List Int))} (hf : bundle_Put_1.f K x1 = some r) (hS0 : St g w0 D0 []) :
    CallsIn (Fw none) 0 Try.prog 24 (List.toArray [.agg (List.toArray (c_T_api_Sig (x1)))]) w0 (fun e w' => ∃ v, e = .returned v ∧ ∃ (D1 : Snap) (A102 : Option Addr) (c103 : Nat) (q104 : Blk), v = .slice A102 (List.length (r)) c103 ∧ Stp g w0 D0 [] w' D1 [q104] ∧ OwnD (kdInt .u8) 5 D1 A102 c103 (r) q104) := by
  unfold bundle_Put_1.f at hf
  have hS := Stp.refl hS0
  clear hS0
  refine calls_body (n := 11) Try.func24 rfl Try.ntmps24 rfl (fun a hE => ?_)
  have hE : Env a 11 [] [(0, .agg (List.toArray (c_T_api_Sig (x1))))] := hE
  refine wpIn_seq ?_
  refine region_at ?_
  refine at_op (op_box rfl rfl rfl rfl hE rfl hS rfl (fun a b107 w _ hE hS => ?_)) rfl
  refine segN 1 (j := 2) [(2, .slice none 0 0)] hE (by kernel_rfl) rfl (fun a hE => ?_)
  refine at_end rfl ?_
  refine wpIn_seq ?_
  refine region_draw (fun j => Keeps (mfOf [] j)) (by kernel_rfl) ?_
  have hS := hS.drew
  first | generalize w.drew = w at hS ⊢ | generalize w0.drew = w at hS ⊢
  refine tW 0 1 (fuel := 8) (by kernel_rfl) hE (fun M => g_fieldAddr (fo := 0) (ft := 3) 0 rfl rfl rfl rfl hE rfl rfl (by kernel_rfl) rfl (fun a hE => ?_))
  refine tT 1 3 (fuel := 7) (by kernel_rfl) hE (tk_load 0 (.int .i64 (x1.fWit)) rfl rfl rfl rfl hE rfl hS rfl rfl (by kernel_rfl) (kL (j := 0) hS rfl List.not_mem_nil) (fun a hE => ?_))
  refine tW 3 11 (fuel := 6) (by kernel_rfl) hE (fun M => g_fieldAddr (fo := 1) (ft := 23) 1 rfl rfl rfl rfl hE rfl rfl (by kernel_rfl) rfl (fun a hE => ?_))
  refine tT 4 27 (fuel := 5) (by kernel_rfl) hE (tk_load 0 (.agg (List.toArray (acells .u8 32 (x1.fTag)))) rfl rfl rfl rfl hE rfl hS rfl rfl (by kernel_rfl) (kL (j := 0) hS rfl List.not_mem_nil) (fun a hE => ?_))
  obtain ⟨r158, h159, hf⟩ := bind_some hf
  refine oG 2 31 (fuel := 4) (by kernel_rfl) (op_call rfl rfl rfl rfl hE rfl rfl rfl rfl (by kernel_rfl) (wire_Num.calls (g := g) h159 (hS.st.fore (L := [])) ) (fun a v w hR hE => ?_))
  obtain ⟨D160, A162, c163, q164, rfl, hS1, h165⟩ := hR
  refine ⟨(hS1.keeps.sub (M' := []) trivial).mono (fun _ h => h), ?_⟩
  have le167 := hS1.dle
  have hS := hS.callR hS1 rfl (.c .n)
  clear hS1
  obtain ⟨r168, h169, hf⟩ := bind_some hf
  refine oG 5 63 (fuel := 3) (by kernel_rfl) (op_call rfl rfl rfl rfl hE rfl rfl rfl rfl (by kernel_rfl) (wire_Hash.calls (g := g) h169 (hS.st.fore (L := [])) ) (fun a v w hR hE => ?_))
  obtain ⟨D170, A172, c173, q174, rfl, hS1, h175⟩ := hR
  refine ⟨(hS1.keeps.sub (M' := []) trivial).mono (fun _ h => h), ?_⟩
  have le177 := hS1.dle
  have hS := hS.callR hS1 rfl (.c .n)
  clear hS1
  have hS := hS.pk (.c 1 rfl (.c 0 rfl (.c 2 rfl .n))) rfl
  obtain ⟨D178, q181, le179, hS, h182, h180⟩ := hS.lent (h165.mono le177)
  have hS := hS.pk (.c 1 rfl (.c 0 rfl (.c 2 rfl .n))) rfl
  obtain ⟨D183, q186, le184, hS, h187, h185⟩ := hS.lent (h175.mono le179)
  refine oG 6 127 (fuel := 2) (by kernel_rfl) (op_buildSlice (K := (kdSlice (kdInt .u8))) (e := 32) (cs := [.slice A162 (List.length (r158)) c163] ++ ([.slice A172 (List.length (r168)) c173] ++ [])) ([r158, r168] : List (List Int)) rfl rfl rfl rfl hE rfl hS rfl (by kernel_rfl) rfl rfl (by exact (show RL (kdSlice (kdInt .u8)) D183 ([r158, r168] : List (List Int)) ([.slice A162 (List.length (r158)) c163] ++ ([.slice A172 (List.length (r168)) c173] ++ [])) from ⟨_, _, rfl, (kslice (h180.mono le184)), ⟨_, _, rfl, (kslice h185), rfl⟩⟩)) (fun a A188 q189 w hkp hE h190 hS => ⟨hkp.mono (fun _ h => absurd h List.not_mem_nil), ?_⟩))
  clear hkp
  obtain ⟨D192, q195, le193, hS, h196, h194⟩ := hS.lent h190
  obtain ⟨r197, h198, hf⟩ := bind_some hf
  refine oG 7 255 (fuel := 1) (by kernel_rfl) (op_call rfl rfl rfl rfl hE rfl rfl rfl rfl (by kernel_rfl) (wire_All.calls (g := g) h198 (hS.st.fore (L := [])) h194) (fun a v w hR hE => ?_))
  obtain ⟨D199, A201, c202, q203, rfl, hS1, h204⟩ := hR
  refine ⟨(hS1.keeps.sub (M' := []) trivial).mono (fun _ h => h), ?_⟩
  have le206 := hS1.dle
  have hS := hS.callR hS1 rfl (.c .n)
  clear hS1
  refine tW 8 511 (fuel := 0) (by kernel_rfl) hE (fun M => tk_pure (.slice A201 (List.length (r197)) c202) hE rfl rfl rfl rfl (fun _ _ _ e => by cases e) (by kernel_rfl) (fun a hE => ?_))
  refine doneG (by kernel_rfl) ?_
  refine wpIn_ret ?_
  obtain rfl := Option.some.inj hf
  repeat (with_reducible first | refine then_ret ?_ | refine block_ret ?_ | refine qx_ret ?_)
  refine ret_gen ([.slice A201 (List.length (r197)) c202]) hE (by rw [show Try.f24.results.toList = [.tmp 2] from rfl]; exact ⟨_, _, rfl, rfl, rfl⟩) ?_
  have hS := hS.pk (.c 0 rfl .n) rfl
  exact ⟨_, rfl, D199, A201, c202, q203, rfl, hS, h204⟩

set_option maxRecDepth 100000 in
set_option maxHeartbeats 4000000 in
theorem bundle_list_api_Sig.calls {K : Nat} {g w0 : World} {D0 : Snap} {x1 : (List T_api_Sig)} {A2 : Option Addr} {c3 : Nat} {r : ((List Int))} (hf : bundle_list_api_Sig.f K x1 = some r) (hS0 : St g w0 D0 []) (h4 : Sl kd_T_api_Sig D0 A2 c3 (x1)) :
    CallsIn (Fw none) 0 Try.prog 23 (List.toArray [.slice A2 (List.length (x1)) c3, .func (.func 24) #[] #[]]) w0 (fun e w' => ∃ v, e = .returned v ∧ ∃ (D1 : Snap) (A537 : Option Addr) (c538 : Nat) (q539 : Blk), v = .slice A537 (List.length (r)) c538 ∧ Stp g w0 D0 [] w' D1 [q539] ∧ OwnD (kdInt .u8) 5 D1 A537 c538 (r) q539) := by
  unfold bundle_list_api_Sig.f at hf
  have hS := Stp.refl hS0
  clear hS0
  refine calls_body (n := 24) Try.func23 rfl Try.ntmps23 rfl (fun a hE => ?_)
  have hE : Env a 24 [] [(0, .slice A2 (List.length (x1)) c3), (1, .func (.func 24) #[] #[])] := hE
  refine wpIn_seq ?_
  refine region_at ?_
  refine segN 1 (j := 1) [(4, .slice none 0 0)] hE (by kernel_rfl) rfl (fun a hE => ?_)
  refine at_end rfl ?_
  refine wpIn_seq ?_
  refine region_at ?_
  refine segN 2 (j := 2) [(9, .int .i64 (((List.length (x1) : Nat) : Int)))] hE (by kernel_rfl) rfl (fun a hE => ?_)
  obtain ⟨r542, h543, hf⟩ := bind_some hf
  refine at_op (op_call rfl rfl rfl rfl hE rfl rfl rfl rfl (by kernel_rfl) (wire_Num.calls (g := g) h543 (hS.st.fore (L := [])) ) (fun a v w hR hE => ?_)) rfl
  obtain ⟨D544, A546, c547, q548, rfl, hS1, h549⟩ := hR
  have le551 := hS1.dle
  have hS := hS.callR hS1 rfl (.c .n)
  clear hS1
  refine segN 1 (j := 4) [(5, .slice A546 (List.length (r542)) c547)] hE (by kernel_rfl) rfl (fun a hE => ?_)
  refine at_end rfl ?_
  refine wpIn_seq ?_
  refine wpIn_seq ?_
  refine region_at ?_
  refine segN 3 (j := 3) [(11, .slice A2 (List.length (x1)) c3), (12, .int .i64 (((List.length (x1) : Nat) : Int))), (13, .int .i64 ((0 : Int)))] hE (by kernel_rfl) rfl (fun a hE => ?_)
  refine at_end rfl ?_
  obtain ⟨s1000, hf, hs1001⟩ := bind_some hf
  refine block_loop (fun a w => ∃ (z992 : (List Int)), ∃ (A995 : Option Addr), ∃ (c996 : Nat), ∃ (q997 : Blk), ∃ (D993 : Snap), Env a 24 [] [(5, .slice A995 (List.length (z992)) c996)] ∧ Stp g w0 D0 [] w D993 [q997] ∧ Snap.le D544 D993 ∧ OwnD (kdInt .u8) 5 D993 A995 c996 (z992) q997 ∧ z992 = s1000) (fun k a w => ∃ (y904 : (List Int) × Int), ∃ (A907 : Option Addr), ∃ (c908 : Nat), ∃ (q909 : Blk), ∃ (D905 : Snap), Env a 24 [] [(1, .func (.func 24) #[] #[]), (5, .slice A907 (List.length (y904.1)) c908), (11, .slice A2 (List.length (x1)) c3), (12, .int .i64 (((List.length (x1) : Nat) : Int))), (13, .int .i64 (y904.2))] ∧ Stp g w0 D0 [] w D905 [q909] ∧ Snap.le D544 D905 ∧ OwnD (kdInt .u8) 5 D905 A907 c908 (y904.1) q909 ∧ bundle_list_api_Sig_l1.l K x1 k y904 = some s1000) K ?_ ?_ ?_
  · exact ⟨(r542, (0 : Int)), A546, c547, q548, D544, hE.weak (by kernel_rfl), hS, Snap.le.refl _, h549, hf⟩
  · clear hE hS hf
    rintro a w ⟨z992, A995, c996, q997, D993, hE, hS, le994, h998, rfl⟩
    have hf := hs1001
    clear hs1001
    refine wpIn_seq ?_
    refine region_at ?_
    refine segN 2 (j := 2) [(4, .slice A995 (List.length (z992)) c996)] hE (by kernel_rfl) rfl (fun a hE => ?_)
    refine at_end rfl ?_
    refine wpIn_ret ?_
    obtain rfl := Option.some.inj hf
    repeat (with_reducible first | refine then_ret ?_ | refine block_ret ?_ | refine qx_ret ?_)
    refine ret_gen ([.slice A995 (List.length (z992)) c996]) hE (by rw [show Try.f23.results.toList = [.tmp 4] from rfl]; exact ⟨_, _, rfl, rfl, rfl⟩) ?_
    exact ⟨_, rfl, D993, A995, c996, q997, rfl, hS, h998⟩
  · clear hE hS hf
    rintro k a w ⟨y904, A907, c908, q909, D905, hE, hS, le906, h910, hf⟩
    obtain ⟨k, rfl, hf⟩ := bundle_list_api_Sig_l1.some _ hf
    refine ⟨k, rfl, ?_⟩
    unfold bundle_list_api_Sig_l1.b at hf
    refine wpIn_seq ?_
    refine region_at ?_
    refine segN 1 (j := 1) [(14, .bool ((decide (y904.2 < ((List.length (x1) : Nat) : Int)))))] hE (by kernel_rfl) rfl (fun a hE => ?_)
    refine at_end rfl ?_
    refine wpIn_seq ?_
    refine cond_split hE (b := (decide (y904.2 < ((List.length (x1) : Nat) : Int)))) rfl (fun hb => ?_) (fun hb => ?_)
    · replace hf := cond_t hb hf
      clear hb
      refine wpIn_skip ?_
      refine wpIn_seq ?_
      refine wpIn_block ?_
      refine wpIn_seq ?_
      refine region_at ?_
      obtain ⟨x1038, h1039, hf⟩ := bind_some hf
      refine at_op (op_tk hE (g_index (K := kd_T_api_Sig) (e := 43) (by_ := 40) (zl := 33) rfl rfl rfl rfl hE rfl rfl rfl (by kernel_rfl) rfl (h4.mono (Snap.le.trans le551 le906)) h1039 (fun a b1040 o1041 hE h1042 => ?_))) rfl
      obtain ⟨cs1043, C1044, T1045, fr1046, hr1047, hb1048, hc1049⟩ := h1042
      obtain ⟨rfl⟩ := kd_T_api_Sig_el hr1047
      refine at_op (op_tk hE (tk_loadX (off0 := o1041) (off := 0) (c := c_T_api_Sig (x1038)) (.agg (List.toArray (c_T_api_Sig (x1038)))) rfl rfl rfl rfl hE rfl hS rfl hb1048 hc1049 (by kernel_rfl) (by kernel_rfl) (kD hS dn_nil) (fun a hE => ?_))) rfl
      refine at_op (op_alloc (z := .agg (List.toArray (c_T_api_Sig ((T_api_Sig.mk ((0 : Int)) ((Vector.replicate 32 (0 : Int)))))))) rfl rfl rfl rfl hE rfl hS (by kernel_rfl) (fun a b1050 w _ hE hS => ?_)) rfl
      refine at_op (op_store (v := .agg (List.toArray (c_T_api_Sig (x1038)))) (c_T_api_Sig (x1038)) rfl rfl rfl rfl hE hS rfl rfl (by kernel_rfl) (by kernel_rfl) (by kernel_rfl) (by kernel_rfl) (by kernel_rfl) (fun a w _ hE hS => ?_)) rfl
      refine at_end rfl ?_
      refine region_at ?_
      refine segN 2 (j := 2) [(17, .slice A907 (List.length (y904.1)) c908), (18, .func (.func 24) #[] #[])] hE (by kernel_rfl) rfl (fun a hE => ?_)
      refine at_op (op_tk hE (tk_load 0 (.agg (List.toArray (c_T_api_Sig (x1038)))) rfl rfl rfl rfl hE rfl hS rfl rfl (by kernel_rfl) (kL (j := 0) hS rfl List.not_mem_nil) (fun a hE => ?_))) rfl
      obtain ⟨r1052, h1053, hf⟩ := bind_some hf
      refine at_op (op_call rfl rfl rfl rfl hE rfl rfl rfl rfl (by kernel_rfl) (bundle_Put_1.calls (g := g) h1053 (hS.st.fore (L := [])) ) (fun a v w hR hE => ?_)) rfl
      obtain ⟨D1054, A1056, c1057, q1058, rfl, hS1, h1059⟩ := hR
      have le1061 := hS1.dle
      have hS := hS.callR hS1 rfl (.c .n)
      clear hS1
      obtain ⟨D1062, q1065, le1063, hS, h1066, h1064⟩ := hS.lent h1059
      have hS := hS.pk (.c 2 rfl (.c 0 rfl (.c 1 rfl .n))) rfl
      obtain ⟨l1067, h1068, hf⟩ := bind_some hf
      refine at_op (g_append (K := (kdInt .u8)) (e := 5) (bytes := 1) (l := y904.1) (m := r1052) rfl rfl rfl rfl hE rfl hS rfl rfl (by kernel_rfl) rfl rfl (h910.mono (Snap.le.trans le1061 le1063)) h1064 h1068 (fun a A1069 c1070 q1071 w _ hE h1072 hS => ?_)) rfl
      refine segN 1 (j := 6) [(5, .slice A1069 (List.length (l1067)) c1070)] hE (by kernel_rfl) rfl (fun a hE => ?_)
      refine at_end rfl ?_
      refine region_at ?_
      refine segN 2 (j := 2) [(13, .int .i64 ((IntKind.wrap .i64 (y904.2 + (1 : Int)))))] hE (by kernel_rfl) rfl (fun a hE => ?_)
      refine at_end rfl ?_
      have hS := hS.pk (.c 0 rfl .n) rfl
      exact ⟨(l1067, (IntKind.wrap .i64 (y904.2 + (1 : Int)))), A1069, c1070, q1071, D1062, hE.weak (by kernel_rfl), hS, (Snap.le.trans (Snap.le.trans le906 le1061) le1063), h1072, hf⟩
    · replace hf := cond_f hb hf
      clear hb
      refine wpIn_exit ?_
      obtain rfl := Option.some.inj hf
      exact ⟨y904.1, A907, c908, q909, D905, hE.weak (by kernel_rfl), hS, le906, h910, rfl⟩

set_option maxRecDepth 100000 in
set_option maxHeartbeats 4000000 in
theorem rec_forms.calls {K : Nat} {g w0 : World} {D0 : Snap} {r : Unit} (hf : rec_forms.f K = some r) (hS0 : St g w0 D0 []) :
    CallsIn (Fw none) 0 Try.prog 77 (List.toArray []) w0 (fun e w' => ∃ v, e = .returned v ∧ ∃ (D1 : Snap), v = .agg (List.toArray (([.nilFunc]) ++ (([.func (.func 81) #[] #[]]) ++ (([.func (.func 82) #[] #[]]) ++ (([.func (.func 83) #[] #[]]) ++ (([.func (.func 82) #[] #[]]) ++ (([.func (.func 85) #[] #[]]) ++ (([.func (.func 86) #[] #[]]))))))))) ∧ Stp g w0 D0 [] w' D1 []) := by
  unfold rec_forms.f at hf
  have hS := Stp.refl hS0
  clear hS0
  refine calls_body (n := 8) Try.func77 rfl Try.ntmps77 rfl (fun a hE => ?_)
  have hE : Env a 8 [] [] := hE
  refine wpIn_seq ?_
  refine region_at ?_
  refine at_op (op_alloc (z := .agg (List.toArray (([.nilFunc]) ++ (([.nilFunc]) ++ (([.nilFunc]) ++ (([.nilFunc]) ++ (([.nilFunc]) ++ (([.nilFunc]) ++ (([.nilFunc])))))))))) rfl rfl rfl rfl hE rfl hS (by kernel_rfl) (fun a b3 w _ hE hS => ?_)) rfl
  refine at_end rfl ?_
  refine wpIn_seq ?_
  refine region_at ?_
  refine at_op (op_tk hE (tk_build ([.func (.func 81) #[] #[]]) rfl rfl rfl rfl hE rfl rfl (by kernel_rfl) (fun a hE => ?_))) rfl
  refine at_op (op_tk hE (tk_build ([.func (.func 82) #[] #[]]) rfl rfl rfl rfl hE rfl rfl (by kernel_rfl) (fun a hE => ?_))) rfl
  refine at_op (op_tk hE (tk_build ([.func (.func 82) #[] #[]]) rfl rfl rfl rfl hE rfl rfl (by kernel_rfl) (fun a hE => ?_))) rfl
  refine at_op (op_tk hE (tk_build ([.func (.func 83) #[] #[]]) rfl rfl rfl rfl hE rfl rfl (by kernel_rfl) (fun a hE => ?_))) rfl
  refine at_op (op_tk hE (tk_build ([.func (.func 85) #[] #[]]) rfl rfl rfl rfl hE rfl rfl (by kernel_rfl) (fun a hE => ?_))) rfl
  refine at_op (op_tk hE (tk_build ([.func (.func 86) #[] #[]]) rfl rfl rfl rfl hE rfl rfl (by kernel_rfl) (fun a hE => ?_))) rfl
  refine at_op (op_tk hE (tk_build (([.nilFunc]) ++ (([.func (.func 81) #[] #[]]) ++ (([.func (.func 82) #[] #[]]) ++ (([.func (.func 83) #[] #[]]) ++ (([.func (.func 82) #[] #[]]) ++ (([.func (.func 85) #[] #[]]) ++ (([.func (.func 86) #[] #[]])))))))) rfl rfl rfl rfl hE rfl rfl (by kernel_rfl) (fun a hE => ?_))) rfl
  refine at_op (op_store (v := .agg (List.toArray (([.nilFunc]) ++ (([.func (.func 81) #[] #[]]) ++ (([.func (.func 82) #[] #[]]) ++ (([.func (.func 83) #[] #[]]) ++ (([.func (.func 82) #[] #[]]) ++ (([.func (.func 85) #[] #[]]) ++ (([.func (.func 86) #[] #[]])))))))))) (([.nilFunc]) ++ (([.func (.func 81) #[] #[]]) ++ (([.func (.func 82) #[] #[]]) ++ (([.func (.func 83) #[] #[]]) ++ (([.func (.func 82) #[] #[]]) ++ (([.func (.func 85) #[] #[]]) ++ (([.func (.func 86) #[] #[]])))))))) rfl rfl rfl rfl hE hS rfl rfl (by kernel_rfl) (by kernel_rfl) (by kernel_rfl) (by kernel_rfl) (by kernel_rfl) (fun a w _ hE hS => ?_)) rfl
  refine at_end rfl ?_
  refine wpIn_ret ?_
  obtain rfl := Option.some.inj hf
  repeat (with_reducible first | refine then_ret ?_ | refine block_ret ?_ | refine qx_ret ?_)
  refine ret_gen ([.agg (List.toArray (([.nilFunc]) ++ (([.func (.func 81) #[] #[]]) ++ (([.func (.func 82) #[] #[]]) ++ (([.func (.func 83) #[] #[]]) ++ (([.func (.func 82) #[] #[]]) ++ (([.func (.func 85) #[] #[]]) ++ (([.func (.func 86) #[] #[]])))))))))]) hE (by rw [show Try.f77.results.toList = [.cell 0 114] from rfl]; exact ⟨_, _, _, 0, _, _, rfl, rfl, hS.heapAt (j := 0) rfl, by kernel_rfl, rfl⟩) ?_
  have hS := hS.pk .n rfl
  exact ⟨_, rfl, D0, rfl, hS⟩

set_option maxRecDepth 100000 in
set_option maxHeartbeats 4000000 in
theorem rec_numbers.calls {K : Nat} {g w0 : World} {D0 : Snap} {x1 : (List Int)} {A2 : Option Addr} {c3 : Nat} {r : ((List Int))} (hf : rec_numbers.f K x1 = some r) (hS0 : St g w0 D0 []) (h4 : Sl (kdInt .i64) D0 A2 c3 (x1)) :
    CallsIn (Fw none) 0 Try.prog 84 (List.toArray [.slice A2 (List.length (x1)) c3]) w0 (fun e w' => ∃ v, e = .returned v ∧ ∃ (D1 : Snap) (A505 : Option Addr) (c506 : Nat) (q507 : Blk), v = .slice A505 (List.length (r)) c506 ∧ Stp g w0 D0 [] w' D1 [q507] ∧ OwnD (kdInt .u8) 5 D1 A505 c506 (r) q507) := by
  unfold rec_numbers.f at hf
  have hS := Stp.refl hS0
  clear hS0
  refine calls_body (n := 18) Try.func84 rfl Try.ntmps84 rfl (fun a hE => ?_)
  have hE : Env a 18 [] [(0, .slice A2 (List.length (x1)) c3)] := hE
  refine wpIn_seq ?_
  refine region_at ?_
  refine segN 1 (j := 1) [(2, .slice none 0 0)] hE (by kernel_rfl) rfl (fun a hE => ?_)
  refine at_end rfl ?_
  refine wpIn_seq ?_
  refine region_at ?_
  refine segN 1 (j := 1) [(3, .slice none 0 0)] hE (by kernel_rfl) rfl (fun a hE => ?_)
  refine at_end rfl ?_
  refine wpIn_seq ?_
  refine wpIn_seq ?_
  refine region_at ?_
  refine segN 3 (j := 3) [(6, .slice A2 (List.length (x1)) c3), (7, .int .i64 (((List.length (x1) : Nat) : Int))), (8, .int .i64 ((0 : Int)))] hE (by kernel_rfl) rfl (fun a hE => ?_)
  refine at_end rfl ?_
  obtain ⟨s939, hf, hs940⟩ := bind_some hf
  have hS := hS.nils
  refine block_loop (fun a w => ∃ (z931 : (List Int)), ∃ (A934 : Option Addr), ∃ (c935 : Nat), ∃ (q936 : Blk), ∃ (D932 : Snap), Env a 18 [] [(3, .slice A934 (List.length (z931)) c935)] ∧ Stp g w0 D0 [] w D932 [q936] ∧ Snap.le D0 D932 ∧ OwnD (kdInt .u8) 5 D932 A934 c935 (z931) q936 ∧ z931 = s939) (fun k a w => ∃ (y847 : (List Int) × Int), ∃ (A850 : Option Addr), ∃ (c851 : Nat), ∃ (q852 : Blk), ∃ (D848 : Snap), Env a 18 [] [(3, .slice A850 (List.length (y847.1)) c851), (6, .slice A2 (List.length (x1)) c3), (7, .int .i64 (((List.length (x1) : Nat) : Int))), (8, .int .i64 (y847.2))] ∧ Stp g w0 D0 [] w D848 [q852] ∧ Snap.le D0 D848 ∧ OwnD (kdInt .u8) 5 D848 A850 c851 (y847.1) q852 ∧ rec_numbers_l1.l K x1 k y847 = some s939) K ?_ ?_ ?_
  · exact ⟨(([] : List Int), (0 : Int)), none, 0, none, D0, hE.weak (by kernel_rfl), hS, Snap.le.refl _, (OwnD.nil (kdInt .u8) 5 D0), hf⟩
  · clear hE hS hf
    rintro a w ⟨z931, A934, c935, q936, D932, hE, hS, le933, h937, rfl⟩
    have hf := hs940
    clear hs940
    refine wpIn_seq ?_
    refine region_at ?_
    refine segN 2 (j := 2) [(2, .slice A934 (List.length (z931)) c935)] hE (by kernel_rfl) rfl (fun a hE => ?_)
    refine at_end rfl ?_
    refine wpIn_ret ?_
    obtain rfl := Option.some.inj hf
    repeat (with_reducible first | refine then_ret ?_ | refine block_ret ?_ | refine qx_ret ?_)
    refine ret_gen ([.slice A934 (List.length (z931)) c935]) hE (by rw [show Try.f84.results.toList = [.tmp 2] from rfl]; exact ⟨_, _, rfl, rfl, rfl⟩) ?_
    exact ⟨_, rfl, D932, A934, c935, q936, rfl, hS, h937⟩
  · clear hE hS hf
    rintro k a w ⟨y847, A850, c851, q852, D848, hE, hS, le849, h853, hf⟩
    obtain ⟨k, rfl, hf⟩ := rec_numbers_l1.some _ hf
    refine ⟨k, rfl, ?_⟩
    unfold rec_numbers_l1.b at hf
    refine wpIn_seq ?_
    refine region_at ?_
    refine segN 1 (j := 1) [(9, .bool ((decide (y847.2 < ((List.length (x1) : Nat) : Int)))))] hE (by kernel_rfl) rfl (fun a hE => ?_)
    refine at_end rfl ?_
    refine wpIn_seq ?_
    refine cond_split hE (b := (decide (y847.2 < ((List.length (x1) : Nat) : Int)))) rfl (fun hb => ?_) (fun hb => ?_)
    · replace hf := cond_t hb hf
      clear hb
      refine wpIn_skip ?_
      refine wpIn_seq ?_
      refine wpIn_block ?_
      refine wpIn_seq ?_
      refine region_at ?_
      obtain ⟨x975, h976, hf⟩ := bind_some hf
      refine at_op (op_tk hE (g_index (K := (kdInt .i64)) (e := 3) (by_ := 8) (zl := 1) rfl rfl rfl rfl hE rfl rfl rfl (by kernel_rfl) rfl (h4.mono le849) h976 (fun a b977 o978 hE h979 => ?_))) rfl
      obtain ⟨cs980, C981, T982, fr983, hr984, hb985, hc986⟩ := h979
      obtain rfl := hr984
      refine at_op (op_tk hE (tk_loadX (off0 := o978) (off := 0) (c := [.int .i64 (x975)]) (.int .i64 (x975)) rfl rfl rfl rfl hE rfl hS rfl hb985 hc986 (by kernel_rfl) (by kernel_rfl) (kD hS dn_nil) (fun a hE => ?_))) rfl
      refine segN 1 (j := 3) [(5, .int .i64 (x975))] hE (by kernel_rfl) rfl (fun a hE => ?_)
      refine at_end rfl ?_
      refine region_at ?_
      refine segN 2 (j := 2) [(12, .slice A850 (List.length (y847.1)) c851), (13, .int .i64 (x975))] hE (by kernel_rfl) rfl (fun a hE => ?_)
      obtain ⟨r987, h988, hf⟩ := bind_some hf
      refine at_op (op_call rfl rfl rfl rfl hE rfl rfl rfl rfl (by kernel_rfl) (wire_Num.calls (g := g) h988 (hS.st.fore (L := [])) ) (fun a v w hR hE => ?_)) rfl
      obtain ⟨D989, A991, c992, q993, rfl, hS1, h994⟩ := hR
      have le996 := hS1.dle
      have hS := hS.callR hS1 rfl (.c .n)
      clear hS1
      obtain ⟨D997, q1000, le998, hS, h1001, h999⟩ := hS.lent h994
      have hS := hS.pk (.c 1 rfl (.c 0 rfl .n)) rfl
      obtain ⟨l1002, h1003, hf⟩ := bind_some hf
      refine at_op (g_append (K := (kdInt .u8)) (e := 5) (bytes := 1) (l := y847.1) (m := r987) rfl rfl rfl rfl hE rfl hS rfl rfl (by kernel_rfl) rfl rfl (h853.mono (Snap.le.trans le996 le998)) h999 h1003 (fun a A1004 c1005 q1006 w _ hE h1007 hS => ?_)) rfl
      refine segN 1 (j := 5) [(3, .slice A1004 (List.length (l1002)) c1005)] hE (by kernel_rfl) rfl (fun a hE => ?_)
      refine at_end rfl ?_
      refine region_at ?_
      refine segN 2 (j := 2) [(8, .int .i64 ((IntKind.wrap .i64 (y847.2 + (1 : Int)))))] hE (by kernel_rfl) rfl (fun a hE => ?_)
      refine at_end rfl ?_
      have hS := hS.pk (.c 0 rfl .n) rfl
      exact ⟨(l1002, (IntKind.wrap .i64 (y847.2 + (1 : Int)))), A1004, c1005, q1006, D997, hE.weak (by kernel_rfl), hS, (Snap.le.trans (Snap.le.trans le849 le996) le998), h1007, hf⟩
    · replace hf := cond_f hb hf
      clear hb
      refine wpIn_exit ?_
      obtain rfl := Option.some.inj hf
      exact ⟨y847.1, A850, c851, q852, D848, hE.weak (by kernel_rfl), hS, le849, h853, rfl⟩

end Go.Proofs.Ytnnhkfmknlfpbaa
