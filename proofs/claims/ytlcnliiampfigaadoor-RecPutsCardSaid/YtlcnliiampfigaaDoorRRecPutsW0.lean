/-
  Proved, text by text: a call of a function of the cut comes to what its plain function computes.
  Conditions: those that each theorem names.
-/
import Derived.Test.YtlcnliiampfigaaDoorProg
import Derived.Test.YtlcnliiampfigaaDoorSepN
import Derived.Test.YtlcnliiampfigaaDoorRRecPutsDef
set_option linter.unusedVariables false
namespace Go.Proofs.YtlcnliiampfigaaDoor
open Go Go.Sep
set_option maxRecDepth 100000 in
set_option maxHeartbeats 4000000 in
theorem rec_within.calls {K : Nat} {g w0 : World} {D0 : Snap} {x1 : Int} {x2 : Int} {x3 : Int} {r : (Bool)} (hf : rec_within.f K x1 x2 x3 = some r) (hS0 : St g w0 D0 []) :
  CallsIn (Fw none) 0 Tryd.prog 57 (List.toArray [.int .i64 (x1), .int .i64 (x2), .int .i64 (x3)]) w0 (fun e w' => ∃ v, e = .returned v ∧ ∃ (D1 : Snap), v = .bool (r) ∧ Stp g w0 D0 [] w' D1 []) := by
 unfold rec_within.f at hf
 have hS := Stp.refl hS0
 clear hS0
 refine calls_body (n := 15) Tryd.func57 rfl Tryd.ntmps57 rfl (fun a hE => ?_)
 have hE : Env a 15 [] [(0, .int .i64 (x1)), (1, .int .i64 (x2)), (2, .int .i64 (x3))] := hE
 refine wpIn_seq ?_
 refine region_at ?_
 refine sN 1 1 [(6, .bool false)] hE (fun a hE => ?_)
 refine at_end rfl ?_
 refine wpIn_seq ?_
 refine region_at ?_
 refine sN 4 4 [(10, .bool ((decide (x2 ≤ x1))))] hE (fun a hE => ?_)
 refine Or.elim (Bool.eq_false_or_eq_true ((decide (x2 ≤ x1)))).symm (fun hb => ?_) (fun hb => ?_)
 ·replace hf := cond_f hb hf
  have hE := hE.know (t := 10) (b := (decide (x2 ≤ x1))) (b' := false) rfl hb
  clear hb
  refine sN 5 9 [(6, .bool false)] hE (fun a hE => ?_)
  refine at_end rfl ?_
  refine wpIn_ret ?_
  obtain rfl := Option.some.inj hf
  repeat (with_reducible first | refine then_ret ?_ | refine block_ret ?_ | refine qx_ret ?_)
  refine ret_gen ([.bool false]) hE (by rw [show Tryd.f57.results.toList = [.tmp 6] from rfl]; exact ⟨_, _, rfl, rfl, rfl⟩) ?_
  exact ⟨_, rfl, D0, rfl, hS⟩
 ·replace hf := cond_t hb hf
  have hE := hE.know (t := 10) (b := (decide (x2 ≤ x1))) (b' := true) rfl hb
  clear hb
  refine sN 5 9 [(6, .bool ((decide (x1 ≤ x3))))] hE (fun a hE => ?_)
  refine at_end rfl ?_
  refine wpIn_ret ?_
  obtain rfl := Option.some.inj hf
  repeat (with_reducible first | refine then_ret ?_ | refine block_ret ?_ | refine qx_ret ?_)
  refine ret_gen ([.bool ((decide (x1 ≤ x3)))]) hE (by rw [show Tryd.f57.results.toList = [.tmp 6] from rfl]; exact ⟨_, _, rfl, rfl, rfl⟩) ?_
  exact ⟨_, rfl, D0, rfl, hS⟩
set_option maxRecDepth 100000 in
set_option maxHeartbeats 4000000 in
theorem rec_ranges_1.calls {K : Nat} {g w0 : World} {D0 : Snap} {x1 : T_api_Step} {r : (Bool)} (hf : rec_ranges_1.f K x1 = some r) (hS0 : St g w0 D0 []) :
  CallsIn (Fw none) 0 Tryd.prog 58 (List.toArray [.agg (List.toArray (c_T_api_Step (x1)))]) w0 (fun e w' => ∃ v, e = .returned v ∧ ∃ (D1 : Snap), v = .bool (r) ∧ Stp g w0 D0 [] w' D1 []) := by
 unfold rec_ranges_1.f at hf
 have hS := Stp.refl hS0
 clear hS0
 refine calls_body (n := 13) Tryd.func58 rfl Tryd.ntmps58 rfl (fun a hE => ?_)
 have hE : Env a 13 [] [(0, .agg (List.toArray (c_T_api_Step (x1))))] := hE
 refine wpIn_seq ?_
 refine region_at ?_
 refine at_op (op_box rfl rfl rfl rfl hE rfl hS rfl (fun a b24 w _ hE hS => ?_)) rfl
 refine sN 1 2 [(2, .bool false)] hE (fun a hE => ?_)
 refine at_end rfl ?_
 refine wpIn_seq ?_
 refine region_at ?_
 refine aF 0 3 0 hE (fun a hE => ?_)
 refine aL 0 (.int .i64 (x1.fPart)) hE hS (fun a hE => ?_)
 obtain ⟨r36, h37, hf⟩ := bind_some hf
 refine aC rfl rfl rfl rfl hE rfl rfl rfl rfl (rec_within.calls (g := g) h37 (hS.st.fore (L := [])) ) (fun a v w hR hE => ?_)
 obtain ⟨D38, rfl, hS1⟩ := hR
 have le40 := hS1.dle
 have hS := hS.callR hS1 rfl .n
 clear hS1
 refine sN 2 5 [(7, .bool ((!r36)))] hE (fun a hE => ?_)
 refine Or.elim (Bool.eq_false_or_eq_true ((!r36))).symm (fun hb => ?_) (fun hb => ?_)
 ·replace hf := cond_f hb hf
  have hE := hE.know (t := 7) (b := (!r36)) (b' := false) rfl hb
  clear hb
  refine aF 1 3 1 hE (fun a hE => ?_)
  refine aL 0 (.int .i64 (x1.fKind)) hE hS (fun a hE => ?_)
  obtain ⟨r41, h42, hf⟩ := bind_some hf
  refine aC rfl rfl rfl rfl hE rfl rfl rfl rfl (rec_within.calls (g := g) h42 (hS.st.fore (L := [])) ) (fun a v w hR hE => ?_)
  obtain ⟨D43, rfl, hS1⟩ := hR
  have le45 := hS1.dle
  have hS := hS.callR hS1 rfl .n
  clear hS1
  refine sN 3 11 [(2, .bool ((!r41)))] hE (fun a hE => ?_)
  refine at_end rfl ?_
  refine wpIn_ret ?_
  obtain rfl := Option.some.inj hf
  repeat (with_reducible first | refine then_ret ?_ | refine block_ret ?_ | refine qx_ret ?_)
  refine ret_gen ([.bool ((!r41))]) hE (by rw [show Tryd.f58.results.toList = [.tmp 2] from rfl]; exact ⟨_, _, rfl, rfl, rfl⟩) ?_
  have hS := hS.pk .n rfl
  exact ⟨_, rfl, D43, rfl, hS⟩
 ·replace hf := cond_t hb hf
  have hE := hE.know (t := 7) (b := (!r36)) (b' := true) rfl hb
  clear hb
  refine sN 6 11 [(2, .bool true)] hE (fun a hE => ?_)
  refine at_end rfl ?_
  refine wpIn_ret ?_
  obtain rfl := Option.some.inj hf
  repeat (with_reducible first | refine then_ret ?_ | refine block_ret ?_ | refine qx_ret ?_)
  refine ret_gen ([.bool true]) hE (by rw [show Tryd.f58.results.toList = [.tmp 2] from rfl]; exact ⟨_, _, rfl, rfl, rfl⟩) ?_
  have hS := hS.pk .n rfl
  exact ⟨_, rfl, D38, rfl, hS⟩
set_option maxRecDepth 100000 in
set_option maxHeartbeats 4000000 in
theorem slices_IndexFunc_api_Step_api_Step.calls {K : Nat} {g w0 : World} {D0 : Snap} {x1 : (List T_api_Step)} {A2 : Option Addr} {c3 : Nat} {r : (Int)} (hf : slices_IndexFunc_api_Step_api_Step.f K x1 = some r) (hS0 : St g w0 D0 []) (h4 : Sl kd_T_api_Step D0 A2 c3 (x1)) :
  CallsIn (Fw none) 0 Tryd.prog 77 (List.toArray [.slice A2 (List.length (x1)) c3, .func (.func 58) #[] #[]]) w0 (fun e w' => ∃ v, e = .returned v ∧ ∃ (D1 : Snap), v = .int .i64 (r) ∧ Stp g w0 D0 [] w' D1 []) := by
 unfold slices_IndexFunc_api_Step_api_Step.f at hf
 have hS := Stp.refl hS0
 clear hS0
 refine calls_body (n := 19) Tryd.func77 rfl Tryd.ntmps77 rfl (fun a hE => ?_)
 have hE : Env a 19 [] [(0, .slice A2 (List.length (x1)) c3), (1, .func (.func 58) #[] #[])] := hE
 refine wpIn_seq ?_
 refine region_at ?_
 refine sN 1 1 [(4, .int .i64 ((0 : Int)))] hE (fun a hE => ?_)
 refine at_end rfl ?_
 refine wpIn_seq ?_
 refine wpIn_seq ?_
 refine region_at ?_
 refine sN 3 3 [(7, .int .i64 (((List.length (x1) : Nat) : Int))), (8, .int .i64 ((0 : Int)))] hE (fun a hE => ?_)
 refine at_end rfl ?_
 obtain ⟨s466, hf, hs467⟩ := bind_some hf
 refine block_loop (fun a w => ∃ (z463 : Unit), ∃ (D464 : Snap), Env a 19 [] [] ∧ Stp g w0 D0 [] w D464 [] ∧ Snap.le D0 D464 ∧ (Sum.inr z463) = s466) (fun k a w => ∃ (y423 : Int), ∃ (D424 : Snap), Env a 19 [] [(0, .slice A2 (List.length (x1)) c3), (1, .func (.func 58) #[] #[]), (7, .int .i64 (((List.length (x1) : Nat) : Int))), (8, .int .i64 (y423))] ∧ Stp g w0 D0 [] w D424 [] ∧ Snap.le D0 D424 ∧ slices_IndexFunc_api_Step_api_Step_l1.l K x1 k y423 = some s466) K ?_ ?_ ?_
 ·exact ⟨(0 : Int), D0, hE.weak (by kernel_rfl), hS, Snap.le.refl _, hf⟩
 ·clear hE hS hf
  rintro a w ⟨z463, D464, hE, hS, le465, rfl⟩
  have hf := hs467
  clear hs467
  refine wpIn_seq ?_
  refine region_at ?_
  refine sN 1 1 [(4, .int .i64 ((-1 : Int)))] hE (fun a hE => ?_)
  refine at_end rfl ?_
  refine wpIn_ret ?_
  obtain rfl := Option.some.inj hf
  repeat (with_reducible first | refine then_ret ?_ | refine block_ret ?_ | refine qx_ret ?_)
  refine ret_gen ([.int .i64 ((-1 : Int))]) hE (by rw [show Tryd.f77.results.toList = [.tmp 4] from rfl]; exact ⟨_, _, rfl, rfl, rfl⟩) ?_
  exact ⟨_, rfl, D464, rfl, hS⟩
 ·clear hE hS hf
  rintro k a w ⟨y423, D424, hE, hS, le425, hf⟩
  obtain ⟨k, rfl, hf⟩ := slices_IndexFunc_api_Step_api_Step_l1.some _ hf
  refine ⟨k, rfl, ?_⟩
  unfold slices_IndexFunc_api_Step_api_Step_l1.b at hf
  refine wpIn_seq ?_
  refine region_at ?_
  refine sN 1 1 [(9, .bool ((decide (y423 < ((List.length (x1) : Nat) : Int)))))] hE (fun a hE => ?_)
  refine at_end rfl ?_
  refine wpIn_seq ?_
  refine cond_split hE (b := (decide (y423 < ((List.length (x1) : Nat) : Int)))) rfl (fun hb => ?_) (fun hb => ?_)
  ·replace hf := cond_t hb hf
   clear hb
   refine wpIn_skip ?_
   refine wpIn_seq ?_
   refine wpIn_block ?_
   refine wpIn_seq ?_
   refine region_at ?_
   refine sN 2 2 [(5, .int .i64 (y423))] hE (fun a hE => ?_)
   refine at_end rfl ?_
   refine wpIn_seq ?_
   refine region_at ?_
   refine sN 3 3 [(11, .func (.func 58) #[] #[]), (12, .slice A2 (List.length (x1)) c3), (13, .int .i64 (y423))] hE (fun a hE => ?_)
   obtain ⟨x485, h486, hf⟩ := bind_some hf
   refine at_op (op_tk hE (g_index (K := kd_T_api_Step) (e := 37) (by_ := 16) (zl := 2) rfl rfl rfl rfl hE rfl rfl rfl (by kernel_rfl) rfl (h4.mono le425) h486 (fun a b487 o488 hE h489 => ?_))) rfl
   obtain ⟨cs490, C491, T492, fr493, hr494, hb495, hc496⟩ := h489
   obtain ⟨rfl⟩ := kd_T_api_Step_el hr494
   refine at_op (op_tk hE (tk_loadX (off0 := o488) (off := 0) (c := c_T_api_Step (x485)) (.agg (List.toArray (c_T_api_Step (x485)))) rfl rfl rfl rfl hE rfl hS rfl hb495 hc496 (by kernel_rfl) (by kernel_rfl) (kD hS dn_nil) (fun a hE => ?_))) rfl
   obtain ⟨r497, h498, hf⟩ := bind_some hf
   refine aC rfl rfl rfl rfl hE rfl rfl rfl rfl (rec_ranges_1.calls (g := g) h498 (hS.st.fore (L := [])) ) (fun a v w hR hE => ?_)
   obtain ⟨D499, rfl, hS1⟩ := hR
   have le501 := hS1.dle
   have hS := hS.callR hS1 rfl .n
   clear hS1
   refine at_end rfl ?_
   refine cond_split hE (b := r497) rfl (fun hb => ?_) (fun hb => ?_)
   ·replace hf := cond_t hb hf
    clear hb
    refine wpIn_seq ?_
    refine region_at ?_
    refine sN 2 2 [(4, .int .i64 (y423))] hE (fun a hE => ?_)
    refine at_end rfl ?_
    refine wpIn_ret ?_
    obtain rfl := Option.some.inj hf
    replace hf := hs467
    obtain rfl := Option.some.inj hf
    repeat (with_reducible first | refine then_ret ?_ | refine block_ret ?_ | refine qx_ret ?_)
    refine ret_gen ([.int .i64 (y423)]) hE (by rw [show Tryd.f77.results.toList = [.tmp 4] from rfl]; exact ⟨_, _, rfl, rfl, rfl⟩) ?_
    exact ⟨_, rfl, D499, rfl, hS⟩
   ·replace hf := cond_f hb hf
    clear hb
    refine wpIn_skip ?_
    refine region_at ?_
    refine sN 2 2 [(8, .int .i64 ((IntKind.wrap .i64 (y423 + (1 : Int)))))] hE (fun a hE => ?_)
    refine at_end rfl ?_
    exact ⟨(IntKind.wrap .i64 (y423 + (1 : Int))), D499, hE.weak (by kernel_rfl), hS, (le2 le425 le501), hf⟩
  ·replace hf := cond_f hb hf
   clear hb
   refine wpIn_exit ?_
   obtain rfl := Option.some.inj hf
   exact ⟨(), D424, hE.weak (by kernel_rfl), hS, le425, rfl⟩
set_option maxRecDepth 100000 in
set_option maxHeartbeats 4000000 in
theorem slices_ContainsFunc_api_Step_api_Step.calls {K : Nat} {g w0 : World} {D0 : Snap} {x1 : (List T_api_Step)} {A2 : Option Addr} {c3 : Nat} {r : (Bool)} (hf : slices_ContainsFunc_api_Step_api_Step.f K x1 = some r) (hS0 : St g w0 D0 []) (h4 : Sl kd_T_api_Step D0 A2 c3 (x1)) :
  CallsIn (Fw none) 0 Tryd.prog 59 (List.toArray [.slice A2 (List.length (x1)) c3, .func (.func 58) #[] #[]]) w0 (fun e w' => ∃ v, e = .returned v ∧ ∃ (D1 : Snap), v = .bool (r) ∧ Stp g w0 D0 [] w' D1 []) := by
 unfold slices_ContainsFunc_api_Step_api_Step.f at hf
 have hS := Stp.refl hS0
 clear hS0
 refine calls_body (n := 9) Tryd.func59 rfl Tryd.ntmps59 rfl (fun a hE => ?_)
 have hE : Env a 9 [] [(0, .slice A2 (List.length (x1)) c3), (1, .func (.func 58) #[] #[])] := hE
 refine wpIn_seq ?_
 refine region_at ?_
 refine sN 1 1 [(4, .bool false)] hE (fun a hE => ?_)
 refine at_end rfl ?_
 refine wpIn_seq ?_
 refine region_at ?_
 refine sN 2 2 [(5, .slice A2 (List.length (x1)) c3), (6, .func (.func 58) #[] #[])] hE (fun a hE => ?_)
 obtain ⟨r10, h11, hf⟩ := bind_some hf
 refine aC rfl rfl rfl rfl hE rfl rfl rfl rfl (slices_IndexFunc_api_Step_api_Step.calls (g := g) h11 (hS.st.fore (L := [])) h4) (fun a v w hR hE => ?_)
 obtain ⟨D12, rfl, hS1⟩ := hR
 have le14 := hS1.dle
 have hS := hS.callR hS1 rfl .n
 clear hS1
 refine sN 2 5 [(4, .bool ((decide ((0 : Int) ≤ r10))))] hE (fun a hE => ?_)
 refine at_end rfl ?_
 refine wpIn_ret ?_
 obtain rfl := Option.some.inj hf
 repeat (with_reducible first | refine then_ret ?_ | refine block_ret ?_ | refine qx_ret ?_)
 refine ret_gen ([.bool ((decide ((0 : Int) ≤ r10)))]) hE (by rw [show Tryd.f59.results.toList = [.tmp 4] from rfl]; exact ⟨_, _, rfl, rfl, rfl⟩) ?_
 exact ⟨_, rfl, D12, rfl, hS⟩
set_option maxRecDepth 100000 in
set_option maxHeartbeats 4000000 in
theorem rec_ranges.calls {K : Nat} {g w0 : World} {D0 : Snap} {x1 : T_api_Rec} {A2 : Option Addr} {c3 : Nat} {A5 : Option Addr} {c6 : Nat} {r : (Bool)} (hf : rec_ranges.f K x1 = some r) (hS0 : St g w0 D0 []) (h4 : Sl kd_T_api_Step D0 A2 c3 (x1.fSteps)) (h7 : Sl (kdInt .u8) D0 A5 c6 (x1.fData)) :
  CallsIn (Fw none) 0 Tryd.prog 28 (List.toArray [.agg (List.toArray (c_T_api_Rec (x1) A2 c3 A5 c6))]) w0 (fun e w' => ∃ v, e = .returned v ∧ ∃ (D1 : Snap), v = .bool (r) ∧ Stp g w0 D0 [] w' D1 []) := by
 unfold rec_ranges.f at hf
 have hS := Stp.refl hS0
 clear hS0
 refine calls_body (n := 76) Tryd.func28 rfl Tryd.ntmps28 rfl (fun a hE => ?_)
 have hE : Env a 76 [] [(0, .agg (List.toArray (c_T_api_Rec (x1) A2 c3 A5 c6)))] := hE
 refine wpIn_seq ?_
 refine region_at ?_
 refine at_op (op_box rfl rfl rfl rfl hE rfl hS rfl (fun a b230 w _ hE hS => ?_)) rfl
 refine sN 1 2 [(2, .bool false)] hE (fun a hE => ?_)
 refine at_end rfl ?_
 refine wpIn_seq ?_
 obtain ⟨j435, hj436, hf⟩ := jn_elim hf
 refine seq_join (fun a w => ∃ (y282 : Bool), ∃ (D283 : Snap), Env a 76 [] [(1, .pointer (some ⟨b230, 0, none⟩)), (19, .bool (y282))] ∧ Stp g w0 D0 [] w D283 [bx b230 27 (c_T_api_Rec (x1) A2 c3 A5 c6)] ∧ Snap.le D0 D283 ∧ j435 y282 = some r) ?_ ?_
 ·clear hj436
  refine region_at ?_
  refine aF 1 3 1 hE (fun a hE => ?_)
  refine aL 0 (.int .i64 (x1.fSaga)) hE hS (fun a hE => ?_)
  obtain ⟨r437, h438, hf⟩ := bind_some hf
  refine aC rfl rfl rfl rfl hE rfl rfl rfl rfl (rec_within.calls (g := g) h438 (hS.st.fore (L := [])) ) (fun a v w hR hE => ?_)
  obtain ⟨D439, rfl, hS1⟩ := hR
  have le441 := hS1.dle
  have hS := hS.callR hS1 rfl .n
  clear hS1
  refine sN 2 5 [(8, .bool ((!r437)))] hE (fun a hE => ?_)
  refine Or.elim (Bool.eq_false_or_eq_true ((!r437))).symm (fun hb => ?_) (fun hb => ?_)
  ·replace hf := cond_f hb hf
   have hE := hE.know (t := 8) (b := (!r437)) (b' := false) rfl hb
   clear hb
   refine aF 8 3 8 hE (fun a hE => ?_)
   refine aL 0 (.int .i64 (x1.fPart)) hE hS (fun a hE => ?_)
   obtain ⟨r442, h443, hf⟩ := bind_some hf
   refine aC rfl rfl rfl rfl hE rfl rfl rfl rfl (rec_within.calls (g := g) h443 (hS.st.fore (L := [])) ) (fun a v w hR hE => ?_)
   obtain ⟨D444, rfl, hS1⟩ := hR
   have le446 := hS1.dle
   have hS := hS.callR hS1 rfl .n
   clear hS1
   refine sN 3 11 [(14, .bool ((!r442)))] hE (fun a hE => ?_)
   refine Or.elim (Bool.eq_false_or_eq_true ((!r442))).symm (fun hb => ?_) (fun hb => ?_)
   ·replace hf := cond_f hb hf
    have hE := hE.know (t := 14) (b := (!r442)) (b' := false) rfl hb
    clear hb
    refine aF 9 3 9 hE (fun a hE => ?_)
    refine aL 0 (.int .i64 (x1.fEpoch)) hE hS (fun a hE => ?_)
    obtain ⟨r447, h448, hf⟩ := bind_some hf
    refine aC rfl rfl rfl rfl hE rfl rfl rfl rfl (rec_within.calls (g := g) h448 (hS.st.fore (L := [])) ) (fun a v w hR hE => ?_)
    obtain ⟨D449, rfl, hS1⟩ := hR
    have le451 := hS1.dle
    have hS := hS.callR hS1 rfl .n
    clear hS1
    refine sN 2 16 [(19, .bool ((!r447)))] hE (fun a hE => ?_)
    refine at_end rfl ?_
    exact ⟨(!r447), D449, hE.weak (by kernel_rfl), hS, (le2 (le2 le441 le446) le451), hf⟩
   ·replace hf := cond_t hb hf
    have hE := hE.know (t := 14) (b := (!r442)) (b' := true) rfl hb
    clear hb
    refine sN 5 16 [(19, .bool true)] hE (fun a hE => ?_)
    refine at_end rfl ?_
    exact ⟨true, D444, hE.weak (by kernel_rfl), hS, (le2 le441 le446), hf⟩
  ·replace hf := cond_t hb hf
   have hE := hE.know (t := 8) (b := (!r437)) (b' := true) rfl hb
   clear hb
   refine sN 11 16 [(19, .bool true)] hE (fun a hE => ?_)
   refine at_end rfl ?_
   exact ⟨true, D439, hE.weak (by kernel_rfl), hS, le441, hf⟩
 ·clear hE hS
  rintro a w ⟨y282, D283, hE, hS, le284, hf⟩
  replace hf := hj436 _ hf
  clear hj436
  refine cond_split hE (b := y282) rfl (fun hb => ?_) (fun hb => ?_)
  ·replace hf := cond_t hb hf
   clear hb
   refine wpIn_seq ?_
   refine region_at ?_
   refine sN 1 1 [(2, .bool false)] hE (fun a hE => ?_)
   refine at_end rfl ?_
   refine wpIn_ret ?_
   obtain rfl := Option.some.inj hf
   repeat (with_reducible first | refine then_ret ?_ | refine block_ret ?_ | refine qx_ret ?_)
   refine ret_gen ([.bool false]) hE (by rw [show Tryd.f28.results.toList = [.tmp 2] from rfl]; exact ⟨_, _, rfl, rfl, rfl⟩) ?_
   have hS := hS.pk .n rfl
   exact ⟨_, rfl, D283, rfl, hS⟩
  ·replace hf := cond_f hb hf
   clear hb
   refine wpIn_skip ?_
   refine wpIn_seq ?_
   refine wpIn_seq ?_
   refine region_at ?_
   refine aF 0 3 0 hE (fun a hE => ?_)
   refine aL 0 (.int .i64 (x1.fKind)) hE hS (fun a hE => ?_)
   refine at_end rfl ?_
   refine wpIn_block ?_
   refine wpIn_seq ?_
   refine region_at ?_
   refine sN 2 2 [(22, .bool ((decide (x1.fKind = (1 : Int)))))] hE (fun a hE => ?_)
   refine at_end rfl ?_
   refine cond_split hE (b := (decide (x1.fKind = (1 : Int)))) rfl (fun hb => ?_) (fun hb => ?_)
   ·replace hf := cond_t hb hf
    clear hb
    refine wpIn_seq ?_
    refine region_at ?_
    refine sN 1 1 [(3, .func (.func 58) #[] #[])] hE (fun a hE => ?_)
    refine at_end rfl ?_
    refine wpIn_seq ?_
    refine region_at ?_
    refine aF 42 24 42 hE (fun a hE => ?_)
    refine aL 0 (.slice A2 (List.length (x1.fSteps)) c3) hE hS (fun a hE => ?_)
    refine sN 1 3 [(26, .int .i64 (((List.length (x1.fSteps) : Nat) : Int)))] hE (fun a hE => ?_)
    obtain ⟨r370, h371, hf⟩ := bind_some hf
    refine aC rfl rfl rfl rfl hE rfl rfl rfl rfl (rec_within.calls (g := g) h371 (hS.st.fore (L := [])) ) (fun a v w hR hE => ?_)
    obtain ⟨D372, rfl, hS1⟩ := hR
    have le374 := hS1.dle
    have hS := hS.callR hS1 rfl .n
    clear hS1
    refine sN 1 5 [(28, .bool (r370))] hE (fun a hE => ?_)
    refine Or.elim (Bool.eq_false_or_eq_true (r370)).symm (fun hb => ?_) (fun hb => ?_)
    ·replace hf := cond_f hb hf
     have hE := hE.know (t := 28) (b := r370) (b' := false) rfl hb
     clear hb
     refine sN 13 18 [(2, .bool false)] hE (fun a hE => ?_)
     refine at_end rfl ?_
     refine wpIn_ret ?_
     obtain rfl := Option.some.inj hf
     repeat (with_reducible first | refine then_ret ?_ | refine block_ret ?_ | refine qx_ret ?_)
     refine ret_gen ([.bool false]) hE (by rw [show Tryd.f28.results.toList = [.tmp 2] from rfl]; exact ⟨_, _, rfl, rfl, rfl⟩) ?_
     have hS := hS.pk .n rfl
     exact ⟨_, rfl, D372, rfl, hS⟩
    ·replace hf := cond_t hb hf
     have hE := hE.know (t := 28) (b := r370) (b' := true) rfl hb
     clear hb
     refine aF 42 24 42 hE (fun a hE => ?_)
     refine aL 0 (.slice A2 (List.length (x1.fSteps)) c3) hE hS (fun a hE => ?_)
     refine sN 1 8 [(31, .func (.func 58) #[] #[])] hE (fun a hE => ?_)
     obtain ⟨r375, h376, hf⟩ := bind_some hf
     refine aC rfl rfl rfl rfl hE rfl rfl rfl rfl (slices_ContainsFunc_api_Step_api_Step.calls (g := g) h376 (hS.st.fore (L := [])) (h4.mono (le2 le284 le374))) (fun a v w hR hE => ?_)
     obtain ⟨D377, rfl, hS1⟩ := hR
     have le379 := hS1.dle
     have hS := hS.callR hS1 rfl .n
     clear hS1
     refine sN 3 12 [(35, .bool ((!r375)))] hE (fun a hE => ?_)
     refine Or.elim (Bool.eq_false_or_eq_true ((!r375))).symm (fun hb => ?_) (fun hb => ?_)
     ·replace hf := cond_f hb hf
      have hE := hE.know (t := 35) (b := (!r375)) (b' := false) rfl hb
      clear hb
      refine sN 6 18 [(2, .bool false)] hE (fun a hE => ?_)
      refine at_end rfl ?_
      refine wpIn_ret ?_
      obtain rfl := Option.some.inj hf
      repeat (with_reducible first | refine then_ret ?_ | refine block_ret ?_ | refine qx_ret ?_)
      refine ret_gen ([.bool false]) hE (by rw [show Tryd.f28.results.toList = [.tmp 2] from rfl]; exact ⟨_, _, rfl, rfl, rfl⟩) ?_
      have hS := hS.pk .n rfl
      exact ⟨_, rfl, D377, rfl, hS⟩
     ·replace hf := cond_t hb hf
      have hE := hE.know (t := 35) (b := (!r375)) (b' := true) rfl hb
      clear hb
      refine aF 43 25 43 hE (fun a hE => ?_)
      refine aL 0 (.slice A5 (List.length (x1.fData)) c6) hE hS (fun a hE => ?_)
      refine sN 4 18 [(2, .bool ((decide (((List.length (x1.fData) : Nat) : Int) ≤ (60 : Int)))))] hE (fun a hE => ?_)
      refine at_end rfl ?_
      refine wpIn_ret ?_
      obtain rfl := Option.some.inj hf
      repeat (with_reducible first | refine then_ret ?_ | refine block_ret ?_ | refine qx_ret ?_)
      refine ret_gen ([.bool ((decide (((List.length (x1.fData) : Nat) : Int) ≤ (60 : Int))))]) hE (by rw [show Tryd.f28.results.toList = [.tmp 2] from rfl]; exact ⟨_, _, rfl, rfl, rfl⟩) ?_
      have hS := hS.pk .n rfl
      exact ⟨_, rfl, D377, rfl, hS⟩
   ·replace hf := cond_f hb hf
    clear hb
    obtain ⟨j433, hj434, hf⟩ := jn_elim hf
    refine seq_join (fun a w => ∃ (y380 : Bool), ∃ (D381 : Snap), Env a 76 [] [(1, .pointer (some ⟨b230, 0, none⟩)), (21, .int .i64 (x1.fKind)), (41, .bool (y380))] ∧ Stp g w0 D0 [] w D381 [bx b230 27 (c_T_api_Rec (x1) A2 c3 A5 c6)] ∧ Snap.le D283 D381 ∧ j433 y380 = some r) ?_ ?_
    ·clear hj434
     refine wpIn_seq ?_
     refine region_at ?_
     refine sN 2 2 [(41, .bool ((decide (x1.fKind = (2 : Int)))))] hE (fun a hE => ?_)
     refine at_end rfl ?_
     refine cond_split hE (b := (decide (x1.fKind = (2 : Int)))) rfl (fun hb => ?_) (fun hb => ?_)
     ·replace hf := cond_t hb hf
      clear hb
      refine wpIn_skip ?_
      exact ⟨(decide (x1.fKind = (2 : Int))), D283, hE.weak (by kernel_rfl), hS, Snap.le.refl _, hf⟩
     ·replace hf := cond_f hb hf
      clear hb
      refine wpIn_seq ?_
      refine region_at ?_
      refine sN 2 2 [(41, .bool ((decide (x1.fKind = (4 : Int)))))] hE (fun a hE => ?_)
      refine at_end rfl ?_
      refine cond_split hE (b := (decide (x1.fKind = (4 : Int)))) rfl (fun hb => ?_) (fun hb => ?_)
      ·replace hf := cond_t hb hf
       clear hb
       refine wpIn_skip ?_
       exact ⟨(decide (x1.fKind = (4 : Int))), D283, hE.weak (by kernel_rfl), hS, Snap.le.refl _, hf⟩
      ·replace hf := cond_f hb hf
       clear hb
       refine region_at ?_
       refine sN 2 2 [(41, .bool ((decide (x1.fKind = (3 : Int)))))] hE (fun a hE => ?_)
       refine at_end rfl ?_
       exact ⟨(decide (x1.fKind = (3 : Int))), D283, hE.weak (by kernel_rfl), hS, Snap.le.refl _, hf⟩
    ·clear hE hS
     rintro a w ⟨y380, D381, hE, hS, le382, hf⟩
     replace hf := hj434 _ hf
     clear hj434
     refine cond_split hE (b := y380) rfl (fun hb => ?_) (fun hb => ?_)
     ·replace hf := cond_t hb hf
      clear hb
      refine wpIn_seq ?_
      refine region_at ?_
      refine aF 2 3 2 hE (fun a hE => ?_)
      refine aL 0 (.int .i64 (x1.fSeq)) hE hS (fun a hE => ?_)
      obtain ⟨r398, h399, hf⟩ := bind_some hf
      refine aC rfl rfl rfl rfl hE rfl rfl rfl rfl (rec_within.calls (g := g) h399 (hS.st.fore (L := [])) ) (fun a v w hR hE => ?_)
      obtain ⟨D400, rfl, hS1⟩ := hR
      have le402 := hS1.dle
      have hS := hS.callR hS1 rfl .n
      clear hS1
      refine sN 1 4 [(48, .bool (r398))] hE (fun a hE => ?_)
      refine Or.elim (Bool.eq_false_or_eq_true (r398)).symm (fun hb => ?_) (fun hb => ?_)
      ·replace hf := cond_f hb hf
       have hE := hE.know (t := 48) (b := r398) (b' := false) rfl hb
       clear hb
       refine sN 10 14 [(2, .bool false)] hE (fun a hE => ?_)
       refine at_end rfl ?_
       refine wpIn_ret ?_
       obtain rfl := Option.some.inj hf
       repeat (with_reducible first | refine then_ret ?_ | refine block_ret ?_ | refine qx_ret ?_)
       refine ret_gen ([.bool false]) hE (by rw [show Tryd.f28.results.toList = [.tmp 2] from rfl]; exact ⟨_, _, rfl, rfl, rfl⟩) ?_
       have hS := hS.pk .n rfl
       exact ⟨_, rfl, D400, rfl, hS⟩
      ·replace hf := cond_t hb hf
       have hE := hE.know (t := 48) (b := r398) (b' := true) rfl hb
       clear hb
       refine aF 3 3 3 hE (fun a hE => ?_)
       refine aL 0 (.int .i64 (x1.fStep)) hE hS (fun a hE => ?_)
       obtain ⟨r403, h404, hf⟩ := bind_some hf
       refine aC rfl rfl rfl rfl hE rfl rfl rfl rfl (rec_within.calls (g := g) h404 (hS.st.fore (L := [])) ) (fun a v w hR hE => ?_)
       obtain ⟨D405, rfl, hS1⟩ := hR
       have le407 := hS1.dle
       have hS := hS.callR hS1 rfl .n
       clear hS1
       refine sN 2 9 [(53, .bool (r403))] hE (fun a hE => ?_)
       refine Or.elim (Bool.eq_false_or_eq_true (r403)).symm (fun hb => ?_) (fun hb => ?_)
       ·replace hf := cond_f hb hf
        have hE := hE.know (t := 53) (b := r403) (b' := false) rfl hb
        clear hb
        refine sN 5 14 [(2, .bool false)] hE (fun a hE => ?_)
        refine at_end rfl ?_
        refine wpIn_ret ?_
        obtain rfl := Option.some.inj hf
        repeat (with_reducible first | refine then_ret ?_ | refine block_ret ?_ | refine qx_ret ?_)
        refine ret_gen ([.bool false]) hE (by rw [show Tryd.f28.results.toList = [.tmp 2] from rfl]; exact ⟨_, _, rfl, rfl, rfl⟩) ?_
        have hS := hS.pk .n rfl
        exact ⟨_, rfl, D405, rfl, hS⟩
       ·replace hf := cond_t hb hf
        have hE := hE.know (t := 53) (b := r403) (b' := true) rfl hb
        clear hb
        refine aF 4 3 4 hE (fun a hE => ?_)
        refine aL 0 (.int .i64 (x1.fTry)) hE hS (fun a hE => ?_)
        obtain ⟨r408, h409, hf⟩ := bind_some hf
        refine aC rfl rfl rfl rfl hE rfl rfl rfl rfl (rec_within.calls (g := g) h409 (hS.st.fore (L := [])) ) (fun a v w hR hE => ?_)
        obtain ⟨D410, rfl, hS1⟩ := hR
        have le412 := hS1.dle
        have hS := hS.callR hS1 rfl .n
        clear hS1
        refine sN 2 14 [(2, .bool (r408))] hE (fun a hE => ?_)
        refine at_end rfl ?_
        refine wpIn_ret ?_
        obtain rfl := Option.some.inj hf
        repeat (with_reducible first | refine then_ret ?_ | refine block_ret ?_ | refine qx_ret ?_)
        refine ret_gen ([.bool (r408)]) hE (by rw [show Tryd.f28.results.toList = [.tmp 2] from rfl]; exact ⟨_, _, rfl, rfl, rfl⟩) ?_
        have hS := hS.pk .n rfl
        exact ⟨_, rfl, D410, rfl, hS⟩
     ·replace hf := cond_f hb hf
      clear hb
      refine wpIn_seq ?_
      refine region_at ?_
      refine sN 2 2 [(58, .bool ((decide (x1.fKind = (5 : Int)))))] hE (fun a hE => ?_)
      refine at_end rfl ?_
      refine cond_split hE (b := (decide (x1.fKind = (5 : Int)))) rfl (fun hb => ?_) (fun hb => ?_)
      ·replace hf := cond_t hb hf
       clear hb
       refine wpIn_seq ?_
       refine region_at ?_
       refine aF 2 3 2 hE (fun a hE => ?_)
       refine aL 0 (.int .i64 (x1.fSeq)) hE hS (fun a hE => ?_)
       obtain ⟨r423, h424, hf⟩ := bind_some hf
       refine aC rfl rfl rfl rfl hE rfl rfl rfl rfl (rec_within.calls (g := g) h424 (hS.st.fore (L := [])) ) (fun a v w hR hE => ?_)
       obtain ⟨D425, rfl, hS1⟩ := hR
       have le427 := hS1.dle
       have hS := hS.callR hS1 rfl .n
       clear hS1
       refine sN 1 4 [(63, .bool (r423))] hE (fun a hE => ?_)
       refine Or.elim (Bool.eq_false_or_eq_true (r423)).symm (fun hb => ?_) (fun hb => ?_)
       ·replace hf := cond_f hb hf
        have hE := hE.know (t := 63) (b := r423) (b' := false) rfl hb
        clear hb
        refine sN 5 9 [(2, .bool false)] hE (fun a hE => ?_)
        refine at_end rfl ?_
        refine wpIn_ret ?_
        obtain rfl := Option.some.inj hf
        repeat (with_reducible first | refine then_ret ?_ | refine block_ret ?_ | refine qx_ret ?_)
        refine ret_gen ([.bool false]) hE (by rw [show Tryd.f28.results.toList = [.tmp 2] from rfl]; exact ⟨_, _, rfl, rfl, rfl⟩) ?_
        have hS := hS.pk .n rfl
        exact ⟨_, rfl, D425, rfl, hS⟩
       ·replace hf := cond_t hb hf
        have hE := hE.know (t := 63) (b := r423) (b' := true) rfl hb
        clear hb
        refine aF 7 3 7 hE (fun a hE => ?_)
        refine aL 0 (.int .i64 (x1.fEnd)) hE hS (fun a hE => ?_)
        obtain ⟨r428, h429, hf⟩ := bind_some hf
        refine aC rfl rfl rfl rfl hE rfl rfl rfl rfl (rec_within.calls (g := g) h429 (hS.st.fore (L := [])) ) (fun a v w hR hE => ?_)
        obtain ⟨D430, rfl, hS1⟩ := hR
        have le432 := hS1.dle
        have hS := hS.callR hS1 rfl .n
        clear hS1
        refine sN 2 9 [(2, .bool (r428))] hE (fun a hE => ?_)
        refine at_end rfl ?_
        refine wpIn_ret ?_
        obtain rfl := Option.some.inj hf
        repeat (with_reducible first | refine then_ret ?_ | refine block_ret ?_ | refine qx_ret ?_)
        refine ret_gen ([.bool (r428)]) hE (by rw [show Tryd.f28.results.toList = [.tmp 2] from rfl]; exact ⟨_, _, rfl, rfl, rfl⟩) ?_
        have hS := hS.pk .n rfl
        exact ⟨_, rfl, D430, rfl, hS⟩
      ·replace hf := cond_f hb hf
       clear hb
       refine wpIn_skip ?_
       refine wpIn_seq ?_
       refine region_at ?_
       refine aF 0 3 0 hE (fun a hE => ?_)
       refine aL 0 (.int .i64 (x1.fKind)) hE hS (fun a hE => ?_)
       refine sN 2 4 [(71, .bool ((decide (x1.fKind = (6 : Int)))))] hE (fun a hE => ?_)
       refine Or.elim (Bool.eq_false_or_eq_true ((decide (x1.fKind = (6 : Int))))).symm (fun hb => ?_) (fun hb => ?_)
       ·replace hf := cond_f hb hf
        have hE := hE.know (t := 71) (b := (decide (x1.fKind = (6 : Int)))) (b' := false) rfl hb
        clear hb
        refine sN 5 9 [(2, .bool false)] hE (fun a hE => ?_)
        refine at_end rfl ?_
        refine wpIn_ret ?_
        obtain rfl := Option.some.inj hf
        repeat (with_reducible first | refine then_ret ?_ | refine block_ret ?_ | refine qx_ret ?_)
        refine ret_gen ([.bool false]) hE (by rw [show Tryd.f28.results.toList = [.tmp 2] from rfl]; exact ⟨_, _, rfl, rfl, rfl⟩) ?_
        have hS := hS.pk .n rfl
        exact ⟨_, rfl, D381, rfl, hS⟩
       ·replace hf := cond_t hb hf
        have hE := hE.know (t := 71) (b := (decide (x1.fKind = (6 : Int)))) (b' := true) rfl hb
        clear hb
        refine aF 9 3 9 hE (fun a hE => ?_)
        refine aL 0 (.int .i64 (x1.fEpoch)) hE hS (fun a hE => ?_)
        refine sN 3 9 [(2, .bool ((decide ((1 : Int) ≤ x1.fEpoch))))] hE (fun a hE => ?_)
        refine at_end rfl ?_
        refine wpIn_ret ?_
        obtain rfl := Option.some.inj hf
        repeat (with_reducible first | refine then_ret ?_ | refine block_ret ?_ | refine qx_ret ?_)
        refine ret_gen ([.bool ((decide ((1 : Int) ≤ x1.fEpoch)))]) hE (by rw [show Tryd.f28.results.toList = [.tmp 2] from rfl]; exact ⟨_, _, rfl, rfl, rfl⟩) ?_
        have hS := hS.pk .n rfl
        exact ⟨_, rfl, D381, rfl, hS⟩
set_option maxRecDepth 100000 in
set_option maxHeartbeats 4000000 in
theorem rec_kept.calls {K : Nat} {g w0 : World} {D0 : Snap} {x1 : T_api_Rec} {A2 : Option Addr} {c3 : Nat} {A5 : Option Addr} {c6 : Nat} {r : (T_api_Rec)} (hf : rec_kept.f K x1 = some r) (hS0 : St g w0 D0 []) (h4 : Sl kd_T_api_Step D0 A2 c3 (x1.fSteps)) (h7 : Sl (kdInt .u8) D0 A5 c6 (x1.fData)) :
  CallsIn (Fw none) 0 Tryd.prog 29 (List.toArray [.agg (List.toArray (c_T_api_Rec (x1) A2 c3 A5 c6))]) w0 (fun e w' => ∃ v, e = .returned v ∧ ∃ (D1 : Snap) (A5173 : Option Addr) (c5174 : Nat) (A5176 : Option Addr) (c5177 : Nat), v = .agg (List.toArray (c_T_api_Rec ((T_api_Rec.mk (r.fKind) (r.fSaga) (r.fSeq) (r.fStep) (r.fTry) (r.fBack) (r.fGood) (r.fEnd) (r.fPart) (r.fEpoch) (r.fTag) (r.fSteps) (r.fData) (r.fSalt) (r.fGone) (r.fCom))) A5173 c5174 A5176 c5177)) ∧ Stp g w0 D0 [] w' D1 [] ∧ Sl kd_T_api_Step D1 A5173 c5174 (r.fSteps) ∧ Sl (kdInt .u8) D1 A5176 c5177 (r.fData)) := by
 unfold rec_kept.f at hf
 have hS := Stp.refl hS0
 clear hS0
 refine calls_body (n := 83) Tryd.func29 rfl Tryd.ntmps29 rfl (fun a hE => ?_)
 have hE : Env a 83 [] [(0, .agg (List.toArray (c_T_api_Rec (x1) A2 c3 A5 c6)))] := hE
 refine wpIn_seq ?_
 refine region_at ?_
 refine at_op (op_box rfl rfl rfl rfl hE rfl hS rfl (fun a b5179 w _ hE hS => ?_)) rfl
 refine at_op (op_alloc (z := .agg (List.toArray (c_T_api_Rec (z_T_api_Rec) none 0 none 0))) rfl rfl rfl rfl hE rfl hS (by kernel_rfl) (fun a b5181 w _ hE hS => ?_)) rfl
 refine at_end rfl ?_
 refine wpIn_seq ?_
 refine region_at ?_
 refine aF 0 3 0 hE (fun a hE => ?_)
 refine aL 1 (.int .i64 (x1.fKind)) hE hS (fun a hE => ?_)
 refine at_op (op_tk hE (tk_build (c_T_api_Rec ({ z_T_api_Rec with fKind := x1.fKind }) none 0 none 0) rfl rfl rfl rfl hE rfl rfl (by kernel_rfl) (fun a hE => ?_))) rfl
 refine at_op (op_alloc (z := .agg (List.toArray (c_T_api_Rec (z_T_api_Rec) none 0 none 0))) rfl rfl rfl rfl hE rfl hS (by kernel_rfl) (fun a b5183 w _ hE hS => ?_)) rfl
 obtain ⟨v5185, hv5186, hf⟩ := bind_some hf
 replace hv5186 := Option.some.inj hv5186
 refine at_op (op_store (v := .agg (List.toArray (c_T_api_Rec ({ z_T_api_Rec with fKind := x1.fKind }) none 0 none 0))) (c_T_api_Rec (v5185) none 0 none 0) rfl rfl rfl rfl hE hS rfl rfl (by kernel_rfl) (by kernel_rfl) (by kernel_rfl) (by kernel_rfl) (by rw [← hv5186]; kernel_rfl) (fun a w _ hE hS => ?_)) rfl
 have h5187 : Sl kd_T_api_Step D0 none 0 (v5185.fSteps) := by rw [← hv5186]; exact (Sl.nil kd_T_api_Step D0)
 have h5188 : Sl (kdInt .u8) D0 none 0 (v5185.fData) := by rw [← hv5186]; exact (Sl.nil (kdInt .u8) D0)
 refine at_end rfl ?_
 obtain ⟨j7770, hj7771, hf⟩ := jn_elim hf
 refine seq_join (fun a w => ∃ (y7761 : T_api_Rec), ∃ (A7764 : Option Addr), ∃ (c7765 : Nat), ∃ (A7767 : Option Addr), ∃ (c7768 : Nat), ∃ (D7762 : Snap), Env a 83 [] [(2, .pointer (some ⟨b5181, 0, none⟩)), (3, .pointer (some ⟨b5183, 0, none⟩))] ∧ Stp g w0 D0 [] w D7762 [bx b5181 27 (c_T_api_Rec (z_T_api_Rec) none 0 none 0), bx b5183 27 (c_T_api_Rec (y7761) A7764 c7765 A7767 c7768)] ∧ Snap.le D0 D7762 ∧ Sl kd_T_api_Step D7762 A7764 c7765 (y7761.fSteps) ∧ Sl (kdInt .u8) D7762 A7767 c7768 (y7761.fData) ∧ j7770 y7761 = some r) ?_ ?_
 ·clear hj7771
  refine wpIn_seq ?_
  refine region_at ?_
  refine aF 0 3 0 hE (fun a hE => ?_)
  refine aL 2 (.int .i64 (x1.fKind)) hE hS (fun a hE => ?_)
  refine at_end rfl ?_
  refine wpIn_block ?_
  refine wpIn_seq ?_
  refine wpIn_block ?_
  refine wpIn_seq ?_
  refine wpIn_block ?_
  obtain ⟨j10014, hj10015, hf⟩ := jn_elim hf
  refine seq_join (fun a w => ∃ (y9965 : T_api_Rec), ∃ (A9968 : Option Addr), ∃ (c9969 : Nat), ∃ (A9971 : Option Addr), ∃ (c9972 : Nat), ∃ (D9966 : Snap), Env a 83 [] [(1, .pointer (some ⟨b5179, 0, none⟩)), (2, .pointer (some ⟨b5181, 0, none⟩)), (3, .pointer (some ⟨b5183, 0, none⟩))] ∧ Stp g w0 D0 [] w D9966 [bx b5179 27 (c_T_api_Rec (x1) A2 c3 A5 c6), bx b5181 27 (c_T_api_Rec (z_T_api_Rec) none 0 none 0), bx b5183 27 (c_T_api_Rec (y9965) A9968 c9969 A9971 c9972)] ∧ Snap.le D0 D9966 ∧ Sl kd_T_api_Step D9966 A9968 c9969 (y9965.fSteps) ∧ Sl (kdInt .u8) D9966 A9971 c9972 (y9965.fData) ∧ j10014 y9965 = some r) ?_ ?_
  ·clear hj10015
   refine wpIn_block ?_
   refine wpIn_seq ?_
   refine wpIn_block ?_
   refine wpIn_seq ?_
   refine wpIn_block ?_
   refine wpIn_seq ?_
   refine wpIn_seq ?_
   refine wpIn_seq ?_
   refine region_at ?_
   refine sN 2 2 [(9, .bool ((decide (x1.fKind = (1 : Int)))))] hE (fun a hE => ?_)
   refine at_end rfl ?_
   refine cond_split hE (b := (decide (x1.fKind = (1 : Int)))) rfl (fun hb => ?_) (fun hb => ?_)
   ·replace hf := cond_t hb hf
    clear hb
    refine wpIn_exit ?_
    refine wpIn_seq ?_
    refine wpIn_seq ?_
    refine region_draw (fun j => Keeps (mfOf [(7, [b5183]), (9, [b5183]), (11, [b5183])] j)) (by kernel_rfl) ?_
    have hS := hS.drew
    first | generalize w.drew = w at hS ⊢ | generalize w0.drew = w at hS ⊢
    refine wF 0 1 11 1 3 1 hE (fun a hE => ?_)
    refine tT 1 3 (fuel := 10) (by kernel_rfl) hE (tk_load 2 (.int .i64 (x1.fSaga)) rfl rfl rfl rfl hE rfl hS rfl rfl (by kernel_rfl) (kL (j := 2) hS rfl List.not_mem_nil) (fun a hE => ?_))
    refine wF 2 7 9 42 24 42 hE (fun a hE => ?_)
    refine tN (T := [(7, [b5183]), (9, [b5183]), (11, [b5183])]) [7] 3 15 (fuel := 8) (by kernel_rfl) hE (tk_load 2 (.slice A2 (List.length (x1.fSteps)) c3) rfl rfl rfl rfl hE rfl hS rfl rfl (by kernel_rfl) (kL (j := 2) hS rfl (show b5179 ∉ [b5183] from (nm_cons (hS.ne (i := 2) (j := 0) (by decide) rfl rfl) List.not_mem_nil))) (fun a hE => ?_))
    refine wF 4 31 7 76 4 76 hE (fun a hE => ?_)
    refine tN (T := [(7, [b5183]), (9, [b5183]), (11, [b5183])]) [7, 9] 5 63 (fuel := 6) (by kernel_rfl) hE (tk_load 2 (.bool (x1.fGone)) rfl rfl rfl rfl hE rfl hS rfl rfl (by kernel_rfl) (kL (j := 2) hS rfl (show b5179 ∉ [b5183, b5183] from (nm_cons (hS.ne (i := 2) (j := 0) (by decide) rfl rfl) (nm_cons (hS.ne (i := 2) (j := 0) (by decide) rfl rfl) List.not_mem_nil)))) (fun a hE => ?_))
    refine wF 6 127 5 1 3 1 hE (fun a hE => ?_)
    obtain ⟨v10230, hv10231, hf⟩ := bind_some hf
    replace hv10231 := Option.some.inj hv10231
    refine oG 7 255 (fuel := 4) (by kernel_rfl) (op_store (v := .int .i64 (x1.fSaga)) (c_T_api_Rec (v10230) none 0 none 0) rfl rfl rfl rfl hE hS rfl rfl (by kernel_rfl) (by kernel_rfl) (by kernel_rfl) (by kernel_rfl) (by rw [← hv10231]; kernel_rfl) (fun a w hkp hE hS => ⟨hkp.mono (fun _ h => h), ?_⟩))
    clear hkp
    have h10232 : Sl kd_T_api_Step D0 none 0 (v10230.fSteps) := by rw [← hv10231]; exact h5187
    have h10233 : Sl (kdInt .u8) D0 none 0 (v10230.fData) := by rw [← hv10231]; exact h5188
    refine wF 8 511 3 42 24 42 hE (fun a hE => ?_)
    obtain ⟨v10234, hv10235, hf⟩ := bind_some hf
    replace hv10235 := Option.some.inj hv10235
    refine oG 9 1023 (fuel := 2) (by kernel_rfl) (op_store (v := .slice A2 (List.length (x1.fSteps)) c3) (c_T_api_Rec (v10234) A2 c3 none 0) rfl rfl rfl rfl hE hS rfl rfl (by kernel_rfl) (by kernel_rfl) (by kernel_rfl) (by kernel_rfl) (by rw [← hv10235]; kernel_rfl) (fun a w hkp hE hS => ⟨hkp.mono (fun _ h => h), ?_⟩))
    clear hkp
    have h10236 : Sl kd_T_api_Step D0 A2 c3 (v10234.fSteps) := by rw [← hv10235]; exact h4
    have h10237 : Sl (kdInt .u8) D0 none 0 (v10234.fData) := by rw [← hv10235]; exact h10233
    refine wF 10 2047 1 76 4 76 hE (fun a hE => ?_)
    obtain ⟨v10238, hv10239, hf⟩ := bind_some hf
    replace hv10239 := Option.some.inj hv10239
    refine oG 11 4095 (fuel := 0) (by kernel_rfl) (op_store (v := .bool (x1.fGone)) (c_T_api_Rec (v10238) A2 c3 none 0) rfl rfl rfl rfl hE hS rfl rfl (by kernel_rfl) (by kernel_rfl) (by kernel_rfl) (by kernel_rfl) (by rw [← hv10239]; kernel_rfl) (fun a w hkp hE hS => ⟨hkp.mono (fun _ h => h), ?_⟩))
    clear hkp
    have h10240 : Sl kd_T_api_Step D0 A2 c3 (v10238.fSteps) := by rw [← hv10239]; exact h10236
    have h10241 : Sl (kdInt .u8) D0 none 0 (v10238.fData) := by rw [← hv10239]; exact h10237
    refine doneG (by kernel_rfl) ?_
    refine wpIn_seq ?_
    refine region_at ?_
    refine aF 76 4 76 hE (fun a hE => ?_)
    refine aL 2 (.bool (x1.fGone)) hE hS (fun a hE => ?_)
    refine at_end rfl ?_
    refine cond_split hE (b := x1.fGone) rfl (fun hb => ?_) (fun hb => ?_)
    ·replace hf := cond_t hb hf
     clear hb
     refine region_at ?_
     refine aF 77 23 77 hE (fun a hE => ?_)
     refine aL 2 (.agg (List.toArray (acells .u8 32 (x1.fCom)))) hE hS (fun a hE => ?_)
     refine aF 77 23 77 hE (fun a hE => ?_)
     obtain ⟨v10242, hv10243, hf⟩ := bind_some hf
     replace hv10243 := Option.some.inj hv10243
     refine at_op (op_store (v := .agg (List.toArray (acells .u8 32 (x1.fCom)))) (c_T_api_Rec (v10242) A2 c3 none 0) rfl rfl rfl rfl hE hS rfl rfl (by kernel_rfl) (by kernel_rfl) (by kernel_rfl) (by kernel_rfl) (by rw [← hv10243]; kernel_rfl) (fun a w _ hE hS => ?_)) rfl
     have h10244 : Sl kd_T_api_Step D0 A2 c3 (v10242.fSteps) := by rw [← hv10243]; exact h10240
     have h10245 : Sl (kdInt .u8) D0 none 0 (v10242.fData) := by rw [← hv10243]; exact h10241
     refine at_end rfl ?_
     refine wpIn_exit ?_
     have hS := hS.pk (.c 1 rfl (.c 0 rfl .n)) rfl
     exact ⟨v10242, A2, c3, none, 0, D0, hE.weak (by kernel_rfl), hS, Snap.le.refl _, h10244, h10245, hf⟩
    ·replace hf := cond_f hb hf
     clear hb
     refine region_draw (fun j => Keeps (mfOf [(5, [b5183]), (7, [b5183])] j)) (by kernel_rfl) ?_
     have hS := hS.drew
     first | generalize w.drew = w at hS ⊢ | generalize w0.drew = w at hS ⊢
     refine wF 0 1 7 43 25 43 hE (fun a hE => ?_)
     refine tT 1 3 (fuel := 6) (by kernel_rfl) hE (tk_load 2 (.slice A5 (List.length (x1.fData)) c6) rfl rfl rfl rfl hE rfl hS rfl rfl (by kernel_rfl) (kL (j := 2) hS rfl List.not_mem_nil) (fun a hE => ?_))
     refine wF 2 7 5 44 23 44 hE (fun a hE => ?_)
     refine tN (T := [(5, [b5183]), (7, [b5183])]) [5] 3 15 (fuel := 4) (by kernel_rfl) hE (tk_load 2 (.agg (List.toArray (acells .u8 32 (x1.fSalt)))) rfl rfl rfl rfl hE rfl hS rfl rfl (by kernel_rfl) (kL (j := 2) hS rfl (show b5179 ∉ [b5183] from (nm_cons (hS.ne (i := 2) (j := 0) (by decide) rfl rfl) List.not_mem_nil))) (fun a hE => ?_))
     refine wF 4 31 3 43 25 43 hE (fun a hE => ?_)
     obtain ⟨v10254, hv10255, hf⟩ := bind_some hf
     replace hv10255 := Option.some.inj hv10255
     refine oG 5 63 (fuel := 2) (by kernel_rfl) (op_store (v := .slice A5 (List.length (x1.fData)) c6) (c_T_api_Rec (v10254) A2 c3 A5 c6) rfl rfl rfl rfl hE hS rfl rfl (by kernel_rfl) (by kernel_rfl) (by kernel_rfl) (by kernel_rfl) (by rw [← hv10255]; kernel_rfl) (fun a w hkp hE hS => ⟨hkp.mono (fun _ h => h), ?_⟩))
     clear hkp
     have h10256 : Sl kd_T_api_Step D0 A2 c3 (v10254.fSteps) := by rw [← hv10255]; exact h10240
     have h10257 : Sl (kdInt .u8) D0 A5 c6 (v10254.fData) := by rw [← hv10255]; exact h7
     refine wF 6 127 1 44 23 44 hE (fun a hE => ?_)
     obtain ⟨v10258, hv10259, hf⟩ := bind_some hf
     replace hv10259 := Option.some.inj hv10259
     refine oG 7 255 (fuel := 0) (by kernel_rfl) (op_store (v := .agg (List.toArray (acells .u8 32 (x1.fSalt)))) (c_T_api_Rec (v10258) A2 c3 A5 c6) rfl rfl rfl rfl hE hS rfl rfl (by kernel_rfl) (by kernel_rfl) (by kernel_rfl) (by kernel_rfl) (by rw [← hv10259]; kernel_rfl) (fun a w hkp hE hS => ⟨hkp.mono (fun _ h => h), ?_⟩))
     clear hkp
     have h10260 : Sl kd_T_api_Step D0 A2 c3 (v10258.fSteps) := by rw [← hv10259]; exact h10256
     have h10261 : Sl (kdInt .u8) D0 A5 c6 (v10258.fData) := by rw [← hv10259]; exact h10257
     refine doneG (by kernel_rfl) ?_
     refine wpIn_exit ?_
     have hS := hS.pk (.c 1 rfl (.c 0 rfl .n)) rfl
     exact ⟨v10258, A2, c3, A5, c6, D0, hE.weak (by kernel_rfl), hS, Snap.le.refl _, h10260, h10261, hf⟩
   ·replace hf := cond_f hb hf
    clear hb
    refine wpIn_skip ?_
    refine wpIn_seq ?_
    refine wpIn_seq ?_
    refine region_at ?_
    refine sN 2 2 [(11, .bool ((decide (x1.fKind = (3 : Int)))))] hE (fun a hE => ?_)
    refine at_end rfl ?_
    refine cond_split hE (b := (decide (x1.fKind = (3 : Int)))) rfl (fun hb => ?_) (fun hb => ?_)
    ·replace hf := cond_t hb hf
     clear hb
     refine wpIn_exit ?_
     refine region_draw (fun j => Keeps (mfOf [(9, [b5183]), (11, [b5183]), (13, [b5183]), (15, [b5183])] j)) (by kernel_rfl) ?_
     have hS := hS.drew
     first | generalize w.drew = w at hS ⊢ | generalize w0.drew = w at hS ⊢
     refine wF 0 1 15 6 4 6 hE (fun a hE => ?_)
     refine tT 1 3 (fuel := 14) (by kernel_rfl) hE (tk_load 2 (.bool (x1.fGood)) rfl rfl rfl rfl hE rfl hS rfl rfl (by kernel_rfl) (kL (j := 2) hS rfl List.not_mem_nil) (fun a hE => ?_))
     refine wF 2 7 13 8 3 8 hE (fun a hE => ?_)
     refine tN (T := [(9, [b5183]), (11, [b5183]), (13, [b5183]), (15, [b5183])]) [9] 3 15 (fuel := 12) (by kernel_rfl) hE (tk_load 2 (.int .i64 (x1.fPart)) rfl rfl rfl rfl hE rfl hS rfl rfl (by kernel_rfl) (kL (j := 2) hS rfl (show b5179 ∉ [b5183] from (nm_cons (hS.ne (i := 2) (j := 0) (by decide) rfl rfl) List.not_mem_nil))) (fun a hE => ?_))
     refine wF 4 31 11 9 3 9 hE (fun a hE => ?_)
     refine tN (T := [(9, [b5183]), (11, [b5183]), (13, [b5183]), (15, [b5183])]) [9, 11] 5 63 (fuel := 10) (by kernel_rfl) hE (tk_load 2 (.int .i64 (x1.fEpoch)) rfl rfl rfl rfl hE rfl hS rfl rfl (by kernel_rfl) (kL (j := 2) hS rfl (show b5179 ∉ [b5183, b5183] from (nm_cons (hS.ne (i := 2) (j := 0) (by decide) rfl rfl) (nm_cons (hS.ne (i := 2) (j := 0) (by decide) rfl rfl) List.not_mem_nil)))) (fun a hE => ?_))
     refine wF 6 127 9 10 23 10 hE (fun a hE => ?_)
     refine tN (T := [(9, [b5183]), (11, [b5183]), (13, [b5183]), (15, [b5183])]) [9, 11, 13] 7 255 (fuel := 8) (by kernel_rfl) hE (tk_load 2 (.agg (List.toArray (acells .u8 32 (x1.fTag)))) rfl rfl rfl rfl hE rfl hS rfl rfl (by kernel_rfl) (kL (j := 2) hS rfl (show b5179 ∉ [b5183, b5183, b5183] from (nm_cons (hS.ne (i := 2) (j := 0) (by decide) rfl rfl) (nm_cons (hS.ne (i := 2) (j := 0) (by decide) rfl rfl) (nm_cons (hS.ne (i := 2) (j := 0) (by decide) rfl rfl) List.not_mem_nil))))) (fun a hE => ?_))
     refine wF 8 511 7 6 4 6 hE (fun a hE => ?_)
     obtain ⟨v10278, hv10279, hf⟩ := bind_some hf
     replace hv10279 := Option.some.inj hv10279
     refine oG 9 1023 (fuel := 6) (by kernel_rfl) (op_store (v := .bool (x1.fGood)) (c_T_api_Rec (v10278) none 0 none 0) rfl rfl rfl rfl hE hS rfl rfl (by kernel_rfl) (by kernel_rfl) (by kernel_rfl) (by kernel_rfl) (by rw [← hv10279]; kernel_rfl) (fun a w hkp hE hS => ⟨hkp.mono (fun _ h => h), ?_⟩))
     clear hkp
     have h10280 : Sl kd_T_api_Step D0 none 0 (v10278.fSteps) := by rw [← hv10279]; exact h5187
     have h10281 : Sl (kdInt .u8) D0 none 0 (v10278.fData) := by rw [← hv10279]; exact h5188
     refine wF 10 2047 5 8 3 8 hE (fun a hE => ?_)
     obtain ⟨v10282, hv10283, hf⟩ := bind_some hf
     replace hv10283 := Option.some.inj hv10283
     refine oG 11 4095 (fuel := 4) (by kernel_rfl) (op_store (v := .int .i64 (x1.fPart)) (c_T_api_Rec (v10282) none 0 none 0) rfl rfl rfl rfl hE hS rfl rfl (by kernel_rfl) (by kernel_rfl) (by kernel_rfl) (by kernel_rfl) (by rw [← hv10283]; kernel_rfl) (fun a w hkp hE hS => ⟨hkp.mono (fun _ h => h), ?_⟩))
     clear hkp
     have h10284 : Sl kd_T_api_Step D0 none 0 (v10282.fSteps) := by rw [← hv10283]; exact h10280
     have h10285 : Sl (kdInt .u8) D0 none 0 (v10282.fData) := by rw [← hv10283]; exact h10281
     refine wF 12 8191 3 9 3 9 hE (fun a hE => ?_)
     obtain ⟨v10286, hv10287, hf⟩ := bind_some hf
     replace hv10287 := Option.some.inj hv10287
     refine oG 13 16383 (fuel := 2) (by kernel_rfl) (op_store (v := .int .i64 (x1.fEpoch)) (c_T_api_Rec (v10286) none 0 none 0) rfl rfl rfl rfl hE hS rfl rfl (by kernel_rfl) (by kernel_rfl) (by kernel_rfl) (by kernel_rfl) (by rw [← hv10287]; kernel_rfl) (fun a w hkp hE hS => ⟨hkp.mono (fun _ h => h), ?_⟩))
     clear hkp
     have h10288 : Sl kd_T_api_Step D0 none 0 (v10286.fSteps) := by rw [← hv10287]; exact h10284
     have h10289 : Sl (kdInt .u8) D0 none 0 (v10286.fData) := by rw [← hv10287]; exact h10285
     refine wF 14 32767 1 10 23 10 hE (fun a hE => ?_)
     obtain ⟨v10290, hv10291, hf⟩ := bind_some hf
     replace hv10291 := Option.some.inj hv10291
     refine oG 15 65535 (fuel := 0) (by kernel_rfl) (op_store (v := .agg (List.toArray (acells .u8 32 (x1.fTag)))) (c_T_api_Rec (v10290) none 0 none 0) rfl rfl rfl rfl hE hS rfl rfl (by kernel_rfl) (by kernel_rfl) (by kernel_rfl) (by kernel_rfl) (by rw [← hv10291]; kernel_rfl) (fun a w hkp hE hS => ⟨hkp.mono (fun _ h => h), ?_⟩))
     clear hkp
     have h10292 : Sl kd_T_api_Step D0 none 0 (v10290.fSteps) := by rw [← hv10291]; exact h10288
     have h10293 : Sl (kdInt .u8) D0 none 0 (v10290.fData) := by rw [← hv10291]; exact h10289
     refine doneG (by kernel_rfl) ?_
     have hS := hS.pk (.c 2 rfl (.c 1 rfl (.c 0 rfl .n))) rfl
     exact ⟨v10290, none, 0, none, 0, D0, hE.weak (by kernel_rfl), hS, Snap.le.refl _, h10292, h10293, hf⟩
    ·replace hf := cond_f hb hf
     clear hb
     refine wpIn_skip ?_
     refine wpIn_seq ?_
     obtain ⟨j10342, hj10343, hf⟩ := jn_elim hf
     refine seq_join (fun a w => ∃ (y10299 : Bool), ∃ (D10300 : Snap), Env a 83 [] [(1, .pointer (some ⟨b5179, 0, none⟩)), (2, .pointer (some ⟨b5181, 0, none⟩)), (3, .pointer (some ⟨b5183, 0, none⟩)), (8, .int .i64 (x1.fKind)), (13, .bool (y10299))] ∧ Stp g w0 D0 [] w D10300 [bx b5179 27 (c_T_api_Rec (x1) A2 c3 A5 c6), bx b5181 27 (c_T_api_Rec (z_T_api_Rec) none 0 none 0), bx b5183 27 (c_T_api_Rec (v5185) none 0 none 0)] ∧ Snap.le D0 D10300 ∧ j10342 y10299 = some r) ?_ ?_
     ·clear hj10343
      refine wpIn_seq ?_
      refine region_at ?_
      refine sN 2 2 [(13, .bool ((decide (x1.fKind = (2 : Int)))))] hE (fun a hE => ?_)
      refine at_end rfl ?_
      refine cond_split hE (b := (decide (x1.fKind = (2 : Int)))) rfl (fun hb => ?_) (fun hb => ?_)
      ·replace hf := cond_t hb hf
       clear hb
       refine wpIn_skip ?_
       have hS := hS.pk (.c 2 rfl (.c 1 rfl (.c 0 rfl .n))) rfl
       exact ⟨(decide (x1.fKind = (2 : Int))), D0, hE.weak (by kernel_rfl), hS, Snap.le.refl _, hf⟩
      ·replace hf := cond_f hb hf
       clear hb
       refine region_at ?_
       refine sN 2 2 [(13, .bool ((decide (x1.fKind = (4 : Int)))))] hE (fun a hE => ?_)
       refine at_end rfl ?_
       have hS := hS.pk (.c 2 rfl (.c 1 rfl (.c 0 rfl .n))) rfl
       exact ⟨(decide (x1.fKind = (4 : Int))), D0, hE.weak (by kernel_rfl), hS, Snap.le.refl _, hf⟩
     ·clear hE hS
      rintro a w ⟨y10299, D10300, hE, hS, le10301, hf⟩
      replace hf := hj10343 _ hf
      clear hj10343
      refine cond_split hE (b := y10299) rfl (fun hb => ?_) (fun hb => ?_)
      ·replace hf := cond_t hb hf
       clear hb
       refine wpIn_exit ?_
       exact ⟨v5185, none, 0, none, 0, D10300, hE.weak (by kernel_rfl), hS, le10301, (h5187.mono le10301), (h5188.mono le10301), hf⟩
      ·replace hf := cond_f hb hf
       clear hb
       refine wpIn_skip ?_
       refine wpIn_seq ?_
       refine wpIn_seq ?_
       refine region_at ?_
       refine sN 2 2 [(16, .bool ((decide (x1.fKind = (5 : Int)))))] hE (fun a hE => ?_)
       refine at_end rfl ?_
       refine cond_split hE (b := (decide (x1.fKind = (5 : Int)))) rfl (fun hb => ?_) (fun hb => ?_)
       ·replace hf := cond_t hb hf
        clear hb
        refine wpIn_exit ?_
        refine wpIn_seq ?_
        refine region_draw (fun j => Keeps (mfOf [(7, [b5183]), (9, [b5183]), (11, [b5183])] j)) (by kernel_rfl) ?_
        have hS := hS.drew
        first | generalize w.drew = w at hS ⊢ | generalize w0.drew = w at hS ⊢
        refine wF 0 1 11 1 3 1 hE (fun a hE => ?_)
        refine tT 1 3 (fuel := 10) (by kernel_rfl) hE (tk_load 0 (.int .i64 (x1.fSaga)) rfl rfl rfl rfl hE rfl hS rfl rfl (by kernel_rfl) (kL (j := 0) hS rfl List.not_mem_nil) (fun a hE => ?_))
        refine wF 2 7 9 2 3 2 hE (fun a hE => ?_)
        refine tN (T := [(7, [b5183]), (9, [b5183]), (11, [b5183])]) [7] 3 15 (fuel := 8) (by kernel_rfl) hE (tk_load 0 (.int .i64 (x1.fSeq)) rfl rfl rfl rfl hE rfl hS rfl rfl (by kernel_rfl) (kL (j := 0) hS rfl (show b5179 ∉ [b5183] from (nm_cons (hS.ne (i := 0) (j := 2) (by decide) rfl rfl) List.not_mem_nil))) (fun a hE => ?_))
        refine wF 4 31 7 7 3 7 hE (fun a hE => ?_)
        refine tN (T := [(7, [b5183]), (9, [b5183]), (11, [b5183])]) [7, 9] 5 63 (fuel := 6) (by kernel_rfl) hE (tk_load 0 (.int .i64 (x1.fEnd)) rfl rfl rfl rfl hE rfl hS rfl rfl (by kernel_rfl) (kL (j := 0) hS rfl (show b5179 ∉ [b5183, b5183] from (nm_cons (hS.ne (i := 0) (j := 2) (by decide) rfl rfl) (nm_cons (hS.ne (i := 0) (j := 2) (by decide) rfl rfl) List.not_mem_nil)))) (fun a hE => ?_))
        refine wF 6 127 5 1 3 1 hE (fun a hE => ?_)
        have hS := hS.pk (.c 2 rfl (.c 0 rfl (.c 1 rfl .n))) rfl
        obtain ⟨v10314, hv10315, hf⟩ := bind_some hf
        replace hv10315 := Option.some.inj hv10315
        refine oG 7 255 (fuel := 4) (by kernel_rfl) (op_store (v := .int .i64 (x1.fSaga)) (c_T_api_Rec (v10314) none 0 none 0) rfl rfl rfl rfl hE hS rfl rfl (by kernel_rfl) (by kernel_rfl) (by kernel_rfl) (by kernel_rfl) (by rw [← hv10315]; kernel_rfl) (fun a w hkp hE hS => ⟨hkp.mono (fun _ h => h), ?_⟩))
        clear hkp
        have h10316 : Sl kd_T_api_Step D0 none 0 (v10314.fSteps) := by rw [← hv10315]; exact h5187
        have h10317 : Sl (kdInt .u8) D0 none 0 (v10314.fData) := by rw [← hv10315]; exact h5188
        refine wF 8 511 3 2 3 2 hE (fun a hE => ?_)
        obtain ⟨v10318, hv10319, hf⟩ := bind_some hf
        replace hv10319 := Option.some.inj hv10319
        refine oG 9 1023 (fuel := 2) (by kernel_rfl) (op_store (v := .int .i64 (x1.fSeq)) (c_T_api_Rec (v10318) none 0 none 0) rfl rfl rfl rfl hE hS rfl rfl (by kernel_rfl) (by kernel_rfl) (by kernel_rfl) (by kernel_rfl) (by rw [← hv10319]; kernel_rfl) (fun a w hkp hE hS => ⟨hkp.mono (fun _ h => h), ?_⟩))
        clear hkp
        have h10320 : Sl kd_T_api_Step D0 none 0 (v10318.fSteps) := by rw [← hv10319]; exact h10316
        have h10321 : Sl (kdInt .u8) D0 none 0 (v10318.fData) := by rw [← hv10319]; exact h10317
        refine wF 10 2047 1 7 3 7 hE (fun a hE => ?_)
        obtain ⟨v10322, hv10323, hf⟩ := bind_some hf
        replace hv10323 := Option.some.inj hv10323
        refine oG 11 4095 (fuel := 0) (by kernel_rfl) (op_store (v := .int .i64 (x1.fEnd)) (c_T_api_Rec (v10322) none 0 none 0) rfl rfl rfl rfl hE hS rfl rfl (by kernel_rfl) (by kernel_rfl) (by kernel_rfl) (by kernel_rfl) (by rw [← hv10323]; kernel_rfl) (fun a w hkp hE hS => ⟨hkp.mono (fun _ h => h), ?_⟩))
        clear hkp
        have h10324 : Sl kd_T_api_Step D0 none 0 (v10322.fSteps) := by rw [← hv10323]; exact h10320
        have h10325 : Sl (kdInt .u8) D0 none 0 (v10322.fData) := by rw [← hv10323]; exact h10321
        refine doneG (by kernel_rfl) ?_
        refine wpIn_exit ?_
        have hS := hS.pk (.c 2 rfl (.c 0 rfl .n)) rfl
        exact ⟨v10322, none, 0, none, 0, D10300, hE.weak (by kernel_rfl), hS, le10301, (h10324.mono le10301), (h10325.mono le10301), hf⟩
       ·replace hf := cond_f hb hf
        clear hb
        refine wpIn_skip ?_
        refine wpIn_seq ?_
        refine region_at ?_
        refine sN 2 2 [(18, .bool ((decide (x1.fKind = (6 : Int)))))] hE (fun a hE => ?_)
        refine at_end rfl ?_
        refine cond_split hE (b := (decide (x1.fKind = (6 : Int)))) rfl (fun hb => ?_) (fun hb => ?_)
        ·replace hf := cond_t hb hf
         clear hb
         refine wpIn_exit ?_
         refine wpIn_seq ?_
         refine region_draw (fun j => Keeps (mfOf [(5, [b5183]), (7, [b5183])] j)) (by kernel_rfl) ?_
         have hS := hS.drew
         first | generalize w.drew = w at hS ⊢ | generalize w0.drew = w at hS ⊢
         refine wF 0 1 7 8 3 8 hE (fun a hE => ?_)
         refine tT 1 3 (fuel := 6) (by kernel_rfl) hE (tk_load 0 (.int .i64 (x1.fPart)) rfl rfl rfl rfl hE rfl hS rfl rfl (by kernel_rfl) (kL (j := 0) hS rfl List.not_mem_nil) (fun a hE => ?_))
         refine wF 2 7 5 9 3 9 hE (fun a hE => ?_)
         refine tN (T := [(5, [b5183]), (7, [b5183])]) [5] 3 15 (fuel := 4) (by kernel_rfl) hE (tk_load 0 (.int .i64 (x1.fEpoch)) rfl rfl rfl rfl hE rfl hS rfl rfl (by kernel_rfl) (kL (j := 0) hS rfl (show b5179 ∉ [b5183] from (nm_cons (hS.ne (i := 0) (j := 2) (by decide) rfl rfl) List.not_mem_nil))) (fun a hE => ?_))
         refine wF 4 31 3 8 3 8 hE (fun a hE => ?_)
         have hS := hS.pk (.c 2 rfl (.c 0 rfl (.c 1 rfl .n))) rfl
         obtain ⟨v10334, hv10335, hf⟩ := bind_some hf
         replace hv10335 := Option.some.inj hv10335
         refine oG 5 63 (fuel := 2) (by kernel_rfl) (op_store (v := .int .i64 (x1.fPart)) (c_T_api_Rec (v10334) none 0 none 0) rfl rfl rfl rfl hE hS rfl rfl (by kernel_rfl) (by kernel_rfl) (by kernel_rfl) (by kernel_rfl) (by rw [← hv10335]; kernel_rfl) (fun a w hkp hE hS => ⟨hkp.mono (fun _ h => h), ?_⟩))
         clear hkp
         have h10336 : Sl kd_T_api_Step D0 none 0 (v10334.fSteps) := by rw [← hv10335]; exact h5187
         have h10337 : Sl (kdInt .u8) D0 none 0 (v10334.fData) := by rw [← hv10335]; exact h5188
         refine wF 6 127 1 9 3 9 hE (fun a hE => ?_)
         obtain ⟨v10338, hv10339, hf⟩ := bind_some hf
         replace hv10339 := Option.some.inj hv10339
         refine oG 7 255 (fuel := 0) (by kernel_rfl) (op_store (v := .int .i64 (x1.fEpoch)) (c_T_api_Rec (v10338) none 0 none 0) rfl rfl rfl rfl hE hS rfl rfl (by kernel_rfl) (by kernel_rfl) (by kernel_rfl) (by kernel_rfl) (by rw [← hv10339]; kernel_rfl) (fun a w hkp hE hS => ⟨hkp.mono (fun _ h => h), ?_⟩))
         clear hkp
         have h10340 : Sl kd_T_api_Step D0 none 0 (v10338.fSteps) := by rw [← hv10339]; exact h10336
         have h10341 : Sl (kdInt .u8) D0 none 0 (v10338.fData) := by rw [← hv10339]; exact h10337
         refine doneG (by kernel_rfl) ?_
         refine wpIn_exit ?_
         have hS := hS.pk (.c 2 rfl (.c 0 rfl .n)) rfl
         exact ⟨v10338, none, 0, none, 0, D10300, hE.weak (by kernel_rfl), hS, le10301, (h10340.mono le10301), (h10341.mono le10301), hf⟩
        ·replace hf := cond_f hb hf
         clear hb
         refine wpIn_skip ?_
         refine wpIn_exit ?_
         have hS := hS.pk (.c 1 rfl (.c 2 rfl .n)) rfl
         exact ⟨v5185, none, 0, none, 0, D10300, hE.weak (by kernel_rfl), hS, le10301, (h5187.mono le10301), (h5188.mono le10301), hf⟩
  ·clear hE hS
   rintro a w ⟨y9965, A9968, c9969, A9971, c9972, D9966, hE, hS, le9967, h9970, h9973, hf⟩
   replace hf := hj10015 _ hf
   clear hj10015
   refine wpIn_seq ?_
   refine region_draw (fun j => Keeps (mfOf [(11, [b5183]), (13, [b5183]), (15, [b5183]), (17, [b5183]), (19, [b5183])] j)) (by kernel_rfl) ?_
   have hS := hS.drew
   first | generalize w.drew = w at hS ⊢ | generalize w0.drew = w at hS ⊢
   refine wF 0 1 19 1 3 1 hE (fun a hE => ?_)
   refine tT 1 3 (fuel := 18) (by kernel_rfl) hE (tk_load 0 (.int .i64 (x1.fSaga)) rfl rfl rfl rfl hE rfl hS rfl rfl (by kernel_rfl) (kL (j := 0) hS rfl List.not_mem_nil) (fun a hE => ?_))
   refine wF 2 7 17 2 3 2 hE (fun a hE => ?_)
   refine tN (T := [(11, [b5183]), (13, [b5183]), (15, [b5183]), (17, [b5183]), (19, [b5183])]) [11] 3 15 (fuel := 16) (by kernel_rfl) hE (tk_load 0 (.int .i64 (x1.fSeq)) rfl rfl rfl rfl hE rfl hS rfl rfl (by kernel_rfl) (kL (j := 0) hS rfl (show b5179 ∉ [b5183] from (nm_cons (hS.ne (i := 0) (j := 2) (by decide) rfl rfl) List.not_mem_nil))) (fun a hE => ?_))
   refine wF 4 31 15 3 3 3 hE (fun a hE => ?_)
   refine tN (T := [(11, [b5183]), (13, [b5183]), (15, [b5183]), (17, [b5183]), (19, [b5183])]) [11, 13] 5 63 (fuel := 14) (by kernel_rfl) hE (tk_load 0 (.int .i64 (x1.fStep)) rfl rfl rfl rfl hE rfl hS rfl rfl (by kernel_rfl) (kL (j := 0) hS rfl (show b5179 ∉ [b5183, b5183] from (nm_cons (hS.ne (i := 0) (j := 2) (by decide) rfl rfl) (nm_cons (hS.ne (i := 0) (j := 2) (by decide) rfl rfl) List.not_mem_nil)))) (fun a hE => ?_))
   refine wF 6 127 13 4 3 4 hE (fun a hE => ?_)
   refine tN (T := [(11, [b5183]), (13, [b5183]), (15, [b5183]), (17, [b5183]), (19, [b5183])]) [11, 13, 15] 7 255 (fuel := 12) (by kernel_rfl) hE (tk_load 0 (.int .i64 (x1.fTry)) rfl rfl rfl rfl hE rfl hS rfl rfl (by kernel_rfl) (kL (j := 0) hS rfl (show b5179 ∉ [b5183, b5183, b5183] from (nm_cons (hS.ne (i := 0) (j := 2) (by decide) rfl rfl) (nm_cons (hS.ne (i := 0) (j := 2) (by decide) rfl rfl) (nm_cons (hS.ne (i := 0) (j := 2) (by decide) rfl rfl) List.not_mem_nil))))) (fun a hE => ?_))
   refine wF 8 511 11 5 4 5 hE (fun a hE => ?_)
   refine tN (T := [(11, [b5183]), (13, [b5183]), (15, [b5183]), (17, [b5183]), (19, [b5183])]) [11, 13, 15, 17] 9 1023 (fuel := 10) (by kernel_rfl) hE (tk_load 0 (.bool (x1.fBack)) rfl rfl rfl rfl hE rfl hS rfl rfl (by kernel_rfl) (kL (j := 0) hS rfl (show b5179 ∉ [b5183, b5183, b5183, b5183] from (nm_cons (hS.ne (i := 0) (j := 2) (by decide) rfl rfl) (nm_cons (hS.ne (i := 0) (j := 2) (by decide) rfl rfl) (nm_cons (hS.ne (i := 0) (j := 2) (by decide) rfl rfl) (nm_cons (hS.ne (i := 0) (j := 2) (by decide) rfl rfl) List.not_mem_nil)))))) (fun a hE => ?_))
   refine wF 10 2047 9 1 3 1 hE (fun a hE => ?_)
   have hS := hS.pk (.c 2 rfl (.c 0 rfl (.c 1 rfl .n))) rfl
   obtain ⟨v9994, hv9995, hf⟩ := bind_some hf
   replace hv9995 := Option.some.inj hv9995
   refine oG 11 4095 (fuel := 8) (by kernel_rfl) (op_store (v := .int .i64 (x1.fSaga)) (c_T_api_Rec (v9994) A9968 c9969 A9971 c9972) rfl rfl rfl rfl hE hS rfl rfl (by kernel_rfl) (by kernel_rfl) (by kernel_rfl) (by kernel_rfl) (by rw [← hv9995]; kernel_rfl) (fun a w hkp hE hS => ⟨hkp.mono (fun _ h => h), ?_⟩))
   clear hkp
   have h9996 : Sl kd_T_api_Step D9966 A9968 c9969 (v9994.fSteps) := by rw [← hv9995]; exact h9970
   have h9997 : Sl (kdInt .u8) D9966 A9971 c9972 (v9994.fData) := by rw [← hv9995]; exact h9973
   refine wF 12 8191 7 2 3 2 hE (fun a hE => ?_)
   obtain ⟨v9998, hv9999, hf⟩ := bind_some hf
   replace hv9999 := Option.some.inj hv9999
   refine oG 13 16383 (fuel := 6) (by kernel_rfl) (op_store (v := .int .i64 (x1.fSeq)) (c_T_api_Rec (v9998) A9968 c9969 A9971 c9972) rfl rfl rfl rfl hE hS rfl rfl (by kernel_rfl) (by kernel_rfl) (by kernel_rfl) (by kernel_rfl) (by rw [← hv9999]; kernel_rfl) (fun a w hkp hE hS => ⟨hkp.mono (fun _ h => h), ?_⟩))
   clear hkp
   have h10000 : Sl kd_T_api_Step D9966 A9968 c9969 (v9998.fSteps) := by rw [← hv9999]; exact h9996
   have h10001 : Sl (kdInt .u8) D9966 A9971 c9972 (v9998.fData) := by rw [← hv9999]; exact h9997
   refine wF 14 32767 5 3 3 3 hE (fun a hE => ?_)
   obtain ⟨v10002, hv10003, hf⟩ := bind_some hf
   replace hv10003 := Option.some.inj hv10003
   refine oG 15 65535 (fuel := 4) (by kernel_rfl) (op_store (v := .int .i64 (x1.fStep)) (c_T_api_Rec (v10002) A9968 c9969 A9971 c9972) rfl rfl rfl rfl hE hS rfl rfl (by kernel_rfl) (by kernel_rfl) (by kernel_rfl) (by kernel_rfl) (by rw [← hv10003]; kernel_rfl) (fun a w hkp hE hS => ⟨hkp.mono (fun _ h => h), ?_⟩))
   clear hkp
   have h10004 : Sl kd_T_api_Step D9966 A9968 c9969 (v10002.fSteps) := by rw [← hv10003]; exact h10000
   have h10005 : Sl (kdInt .u8) D9966 A9971 c9972 (v10002.fData) := by rw [← hv10003]; exact h10001
   refine wF 16 131071 3 4 3 4 hE (fun a hE => ?_)
   obtain ⟨v10006, hv10007, hf⟩ := bind_some hf
   replace hv10007 := Option.some.inj hv10007
   refine oG 17 262143 (fuel := 2) (by kernel_rfl) (op_store (v := .int .i64 (x1.fTry)) (c_T_api_Rec (v10006) A9968 c9969 A9971 c9972) rfl rfl rfl rfl hE hS rfl rfl (by kernel_rfl) (by kernel_rfl) (by kernel_rfl) (by kernel_rfl) (by rw [← hv10007]; kernel_rfl) (fun a w hkp hE hS => ⟨hkp.mono (fun _ h => h), ?_⟩))
   clear hkp
   have h10008 : Sl kd_T_api_Step D9966 A9968 c9969 (v10006.fSteps) := by rw [← hv10007]; exact h10004
   have h10009 : Sl (kdInt .u8) D9966 A9971 c9972 (v10006.fData) := by rw [← hv10007]; exact h10005
   refine wF 18 524287 1 5 4 5 hE (fun a hE => ?_)
   obtain ⟨v10010, hv10011, hf⟩ := bind_some hf
   replace hv10011 := Option.some.inj hv10011
   refine oG 19 1048575 (fuel := 0) (by kernel_rfl) (op_store (v := .bool (x1.fBack)) (c_T_api_Rec (v10010) A9968 c9969 A9971 c9972) rfl rfl rfl rfl hE hS rfl rfl (by kernel_rfl) (by kernel_rfl) (by kernel_rfl) (by kernel_rfl) (by rw [← hv10011]; kernel_rfl) (fun a w hkp hE hS => ⟨hkp.mono (fun _ h => h), ?_⟩))
   clear hkp
   have h10012 : Sl kd_T_api_Step D9966 A9968 c9969 (v10010.fSteps) := by rw [← hv10011]; exact h10008
   have h10013 : Sl (kdInt .u8) D9966 A9971 c9972 (v10010.fData) := by rw [← hv10011]; exact h10009
   refine doneG (by kernel_rfl) ?_
   refine wpIn_exit ?_
   have hS := hS.pk (.c 2 rfl (.c 0 rfl .n)) rfl
   exact ⟨v10010, A9968, c9969, A9971, c9972, D9966, hE.weak (by kernel_rfl), hS, le9967, h10012, h10013, hf⟩
 ·clear hE hS
  rintro a w ⟨y7761, A7764, c7765, A7767, c7768, D7762, hE, hS, le7763, h7766, h7769, hf⟩
  replace hf := hj7771 _ hf
  clear hj7771
  refine wpIn_seq ?_
  refine region_at ?_
  refine aL 1 (.agg (List.toArray (c_T_api_Rec (y7761) A7764 c7765 A7767 c7768))) hE hS (fun a hE => ?_)
  refine at_op (op_store (v := .agg (List.toArray (c_T_api_Rec (y7761) A7764 c7765 A7767 c7768))) (c_T_api_Rec (y7761) A7764 c7765 A7767 c7768) rfl rfl rfl rfl hE hS rfl rfl (by kernel_rfl) (by kernel_rfl) (by kernel_rfl) (by kernel_rfl) (by kernel_rfl) (fun a w _ hE hS => ?_)) rfl
  refine at_end rfl ?_
  refine wpIn_ret ?_
  obtain rfl := Option.some.inj hf
  repeat (with_reducible first | refine then_ret ?_ | refine block_ret ?_ | refine qx_ret ?_)
  refine ret_gen ([.agg (List.toArray (c_T_api_Rec (y7761) A7764 c7765 A7767 c7768))]) hE (by rw [show Tryd.f29.results.toList = [.cell 2 27] from rfl]; exact ⟨_, _, _, 0, _, _, rfl, rfl, hS.heapAt (j := 0) rfl, by kernel_rfl, rfl⟩) ?_
  have hS := hS.pk .n rfl
  exact ⟨_, rfl, D7762, A7764, c7765, A7767, c7768, rfl, hS, h7766, h7769⟩
set_option maxRecDepth 100000 in
set_option maxHeartbeats 4000000 in
theorem slices_Equal_api_Step_api_Step.calls {K : Nat} {g w0 : World} {D0 : Snap} {x1 : (List T_api_Step)} {x5 : (List T_api_Step)} {A2 : Option Addr} {c3 : Nat} {A6 : Option Addr} {c7 : Nat} {r : (Bool)} (hf : slices_Equal_api_Step_api_Step.f K x1 x5 = some r) (hS0 : St g w0 D0 []) (h4 : Sl kd_T_api_Step D0 A2 c3 (x1)) (h8 : Sl kd_T_api_Step D0 A6 c7 (x5)) :
  CallsIn (Fw none) 0 Tryd.prog 35 (List.toArray [.slice A2 (List.length (x1)) c3, .slice A6 (List.length (x5)) c7]) w0 (fun e w' => ∃ v, e = .returned v ∧ ∃ (D1 : Snap), v = .bool (r) ∧ Stp g w0 D0 [] w' D1 []) := by
 unfold slices_Equal_api_Step_api_Step.f at hf
 have hS := Stp.refl hS0
 clear hS0
 refine calls_body (n := 26) Tryd.func35 rfl Tryd.ntmps35 rfl (fun a hE => ?_)
 have hE : Env a 26 [] [(0, .slice A2 (List.length (x1)) c3), (1, .slice A6 (List.length (x5)) c7)] := hE
 refine wpIn_seq ?_
 refine region_at ?_
 refine sN 1 1 [(4, .bool false)] hE (fun a hE => ?_)
 refine at_end rfl ?_
 refine wpIn_seq ?_
 refine wpIn_seq ?_
 refine region_at ?_
 refine sN 5 5 [(10, .bool ((!decide (((List.length (x1) : Nat) : Int) = ((List.length (x5) : Nat) : Int)))))] hE (fun a hE => ?_)
 refine at_end rfl ?_
 refine cond_split hE (b := (!decide (((List.length (x1) : Nat) : Int) = ((List.length (x5) : Nat) : Int)))) rfl (fun hb => ?_) (fun hb => ?_)
 ·replace hf := cond_t hb hf
  clear hb
  refine wpIn_seq ?_
  refine region_at ?_
  refine sN 1 1 [(4, .bool false)] hE (fun a hE => ?_)
  refine at_end rfl ?_
  refine wpIn_ret ?_
  obtain rfl := Option.some.inj hf
  repeat (with_reducible first | refine then_ret ?_ | refine block_ret ?_ | refine qx_ret ?_)
  refine ret_gen ([.bool false]) hE (by rw [show Tryd.f35.results.toList = [.tmp 4] from rfl]; exact ⟨_, _, rfl, rfl, rfl⟩) ?_
  exact ⟨_, rfl, D0, rfl, hS⟩
 ·replace hf := cond_f hb hf
  clear hb
  refine wpIn_skip ?_
  refine wpIn_seq ?_
  refine wpIn_seq ?_
  refine region_at ?_
  refine sN 3 3 [(12, .int .i64 (((List.length (x1) : Nat) : Int))), (13, .int .i64 ((0 : Int)))] hE (fun a hE => ?_)
  refine at_end rfl ?_
  obtain ⟨s1152, hf, hs1153⟩ := bind_some hf
  refine block_loop (fun a w => ∃ (z1149 : Unit), ∃ (D1150 : Snap), Env a 26 [] [] ∧ Stp g w0 D0 [] w D1150 [] ∧ Snap.le D0 D1150 ∧ (Sum.inr z1149) = s1152) (fun k a w => ∃ (y1047 : Int), ∃ (D1048 : Snap), Env a 26 [] [(0, .slice A2 (List.length (x1)) c3), (1, .slice A6 (List.length (x5)) c7), (12, .int .i64 (((List.length (x1) : Nat) : Int))), (13, .int .i64 (y1047))] ∧ Stp g w0 D0 [] w D1048 [] ∧ Snap.le D0 D1048 ∧ slices_Equal_api_Step_api_Step_l1.l K x1 x5 k y1047 = some s1152) K ?_ ?_ ?_
  ·exact ⟨(0 : Int), D0, hE.weak (by kernel_rfl), hS, Snap.le.refl _, hf⟩
  ·clear hE hS hf
   rintro a w ⟨z1149, D1150, hE, hS, le1151, rfl⟩
   have hf := hs1153
   clear hs1153
   refine wpIn_seq ?_
   refine region_at ?_
   refine sN 1 1 [(4, .bool true)] hE (fun a hE => ?_)
   refine at_end rfl ?_
   refine wpIn_ret ?_
   obtain rfl := Option.some.inj hf
   repeat (with_reducible first | refine then_ret ?_ | refine block_ret ?_ | refine qx_ret ?_)
   refine ret_gen ([.bool true]) hE (by rw [show Tryd.f35.results.toList = [.tmp 4] from rfl]; exact ⟨_, _, rfl, rfl, rfl⟩) ?_
   exact ⟨_, rfl, D1150, rfl, hS⟩
  ·clear hE hS hf
   rintro k a w ⟨y1047, D1048, hE, hS, le1049, hf⟩
   obtain ⟨k, rfl, hf⟩ := slices_Equal_api_Step_api_Step_l1.some _ _ hf
   refine ⟨k, rfl, ?_⟩
   unfold slices_Equal_api_Step_api_Step_l1.b at hf
   refine wpIn_seq ?_
   refine region_at ?_
   refine sN 1 1 [(14, .bool ((decide (y1047 < ((List.length (x1) : Nat) : Int)))))] hE (fun a hE => ?_)
   refine at_end rfl ?_
   refine wpIn_seq ?_
   refine cond_split hE (b := (decide (y1047 < ((List.length (x1) : Nat) : Int)))) rfl (fun hb => ?_) (fun hb => ?_)
   ·replace hf := cond_t hb hf
    clear hb
    refine wpIn_skip ?_
    refine wpIn_seq ?_
    refine wpIn_block ?_
    refine wpIn_seq ?_
    refine region_at ?_
    refine sN 2 2 [(5, .int .i64 (y1047))] hE (fun a hE => ?_)
    refine at_end rfl ?_
    refine wpIn_seq ?_
    refine region_draw (fun j => Keeps (mfOf [] j)) (by kernel_rfl) ?_
    have hS := hS.drew
    first | generalize w.drew = w at hS ⊢ | generalize w0.drew = w at hS ⊢
    refine wP 0 1 8 (.slice A2 (List.length (x1)) c3) hE (fun a hE => ?_)
    refine wP 1 3 7 (.int .i64 (y1047)) hE (fun a hE => ?_)
    refine wP 4 19 6 (.slice A6 (List.length (x5)) c7) hE (fun a hE => ?_)
    refine wP 5 51 5 (.int .i64 (y1047)) hE (fun a hE => ?_)
    obtain ⟨x1226, h1227, hf⟩ := bind_some hf
    refine tW 2 55 (fuel := 4) (by kernel_rfl) hE (fun M => g_index (K := kd_T_api_Step) (e := 37) (by_ := 16) (zl := 2) rfl rfl rfl rfl hE rfl rfl rfl (by kernel_rfl) rfl (h4.mono le1049) h1227 (fun a b1228 o1229 hE h1230 => ?_))
    obtain ⟨cs1231, C1232, T1233, fr1234, hr1235, hb1236, hc1237⟩ := h1230
    obtain ⟨rfl⟩ := kd_T_api_Step_el hr1235
    refine tT 3 63 (fuel := 3) (by kernel_rfl) hE (tk_loadX (off0 := o1229) (off := 0) (c := c_T_api_Step (x1226)) (.agg (List.toArray (c_T_api_Step (x1226)))) rfl rfl rfl rfl hE rfl hS rfl hb1236 hc1237 (by kernel_rfl) (by kernel_rfl) (kD hS dn_nil) (fun a hE => ?_))
    obtain ⟨x1238, h1239, hf⟩ := bind_some hf
    refine tW 6 127 (fuel := 2) (by kernel_rfl) hE (fun M => g_index (K := kd_T_api_Step) (e := 37) (by_ := 16) (zl := 2) rfl rfl rfl rfl hE rfl rfl rfl (by kernel_rfl) rfl (h8.mono le1049) h1239 (fun a b1240 o1241 hE h1242 => ?_))
    obtain ⟨cs1243, C1244, T1245, fr1246, hr1247, hb1248, hc1249⟩ := h1242
    obtain ⟨rfl⟩ := kd_T_api_Step_el hr1247
    refine tT 7 255 (fuel := 1) (by kernel_rfl) hE (tk_loadX (off0 := o1241) (off := 0) (c := c_T_api_Step (x1238)) (.agg (List.toArray (c_T_api_Step (x1238)))) rfl rfl rfl rfl hE rfl hS rfl hb1248 hc1249 (by kernel_rfl) (by kernel_rfl) (kD hS dn_nil) (fun a hE => ?_))
    refine tW 8 511 (fuel := 0) (by kernel_rfl) hE (fun M => tk_bin (r := .bool ((!((decide (x1226.fPart = x1238.fPart)) && ((decide (x1226.fKind = x1238.fKind)) && true))))) rfl rfl rfl rfl hE rfl rfl rfl (neagg_run (by kernel_rfl) (EqR_struct (fs := structFs Tryd.prog 37) (by kernel_rfl) ⟨.int .i64 (x1226.fPart), .int .i64 (x1238.fPart), (decide (x1226.fPart = x1238.fPart)), _, by kernel_rfl, by kernel_rfl, by kernel_rfl, (EqR_int (by kernel_rfl)), ⟨.int .i64 (x1226.fKind), .int .i64 (x1238.fKind), (decide (x1226.fKind = x1238.fKind)), _, by kernel_rfl, by kernel_rfl, by kernel_rfl, (EqR_int (by kernel_rfl)), rfl, rfl⟩, rfl⟩)) (fun a hE => ?_))
    refine doneG (by kernel_rfl) ?_
    refine cond_split hE (b := (!((decide (x1226.fPart = x1238.fPart)) && ((decide (x1226.fKind = x1238.fKind)) && true)))) rfl (fun hb => ?_) (fun hb => ?_)
    ·replace hf := cond_t hb hf
     clear hb
     refine wpIn_seq ?_
     refine region_at ?_
     refine sN 1 1 [(4, .bool false)] hE (fun a hE => ?_)
     refine at_end rfl ?_
     refine wpIn_ret ?_
     obtain rfl := Option.some.inj hf
     replace hf := hs1153
     obtain rfl := Option.some.inj hf
     repeat (with_reducible first | refine then_ret ?_ | refine block_ret ?_ | refine qx_ret ?_)
     refine ret_gen ([.bool false]) hE (by rw [show Tryd.f35.results.toList = [.tmp 4] from rfl]; exact ⟨_, _, rfl, rfl, rfl⟩) ?_
     exact ⟨_, rfl, D1048, rfl, hS⟩
    ·replace hf := cond_f hb hf
     clear hb
     refine wpIn_skip ?_
     refine region_at ?_
     refine sN 2 2 [(13, .int .i64 ((IntKind.wrap .i64 (y1047 + (1 : Int)))))] hE (fun a hE => ?_)
     refine at_end rfl ?_
     exact ⟨(IntKind.wrap .i64 (y1047 + (1 : Int))), D1048, hE.weak (by kernel_rfl), hS, le1049, hf⟩
   ·replace hf := cond_f hb hf
    clear hb
    refine wpIn_exit ?_
    obtain rfl := Option.some.inj hf
    exact ⟨(), D1048, hE.weak (by kernel_rfl), hS, le1049, rfl⟩
set_option maxRecDepth 100000 in
set_option maxHeartbeats 4000000 in
theorem bytes_Equal.calls {K : Nat} {g w0 : World} {D0 : Snap} {x1 : (List Int)} {x5 : (List Int)} {A2 : Option Addr} {c3 : Nat} {A6 : Option Addr} {c7 : Nat} {r : (Bool)} (hf : bytes_Equal.f K x1 x5 = some r) (hS0 : St g w0 D0 []) (h4 : Sl (kdInt .u8) D0 A2 c3 (x1)) (h8 : Sl (kdInt .u8) D0 A6 c7 (x5)) :
  CallsIn (Fw none) 0 Tryd.prog 36 (List.toArray [.slice A2 (List.length (x1)) c3, .slice A6 (List.length (x5)) c7]) w0 (fun e w' => ∃ v, e = .returned v ∧ ∃ (D1 : Snap), v = .bool (r) ∧ Stp g w0 D0 [] w' D1 []) := by
 unfold bytes_Equal.f at hf
 have hS := Stp.refl hS0
 clear hS0
 refine calls_body (n := 10) Tryd.func36 rfl Tryd.ntmps36 rfl (fun a hE => ?_)
 have hE : Env a 10 [] [(0, .slice A2 (List.length (x1)) c3), (1, .slice A6 (List.length (x5)) c7)] := hE
 refine wpIn_seq ?_
 refine region_at ?_
 refine sN 1 1 [(4, .bool false)] hE (fun a hE => ?_)
 refine at_end rfl ?_
 refine wpIn_seq ?_
 refine region_at ?_
 refine sN 1 1 [(5, .slice A2 (List.length (x1)) c3)] hE (fun a hE => ?_)
 refine at_op (op_tk hE (tk_b2s rfl rfl rfl rfl hE rfl hS rfl (by kernel_rfl) h4 (kD hS dn_nil) (fun a hE => ?_))) rfl
 refine sN 1 3 [(7, .slice A6 (List.length (x5)) c7)] hE (fun a hE => ?_)
 refine at_op (op_tk hE (tk_b2s rfl rfl rfl rfl hE rfl hS rfl (by kernel_rfl) h8 (kD hS dn_nil) (fun a hE => ?_))) rfl
 refine at_op (op_tk hE (tk_bin (r := .bool ((ByteArray.toList (bofL (x1)) == ByteArray.toList (bofL (x5))))) rfl rfl rfl rfl hE rfl rfl rfl (fun w => bstr_run _ _ w _ rfl (by decide)) (fun a hE => ?_))) rfl
 refine sN 1 6 [(4, .bool ((ByteArray.toList (bofL (x1)) == ByteArray.toList (bofL (x5)))))] hE (fun a hE => ?_)
 refine at_end rfl ?_
 refine wpIn_ret ?_
 obtain rfl := Option.some.inj hf
 repeat (with_reducible first | refine then_ret ?_ | refine block_ret ?_ | refine qx_ret ?_)
 refine ret_gen ([.bool ((ByteArray.toList (bofL (x1)) == ByteArray.toList (bofL (x5))))]) hE (by rw [show Tryd.f36.results.toList = [.tmp 4] from rfl]; exact ⟨_, _, rfl, rfl, rfl⟩) ?_
 exact ⟨_, rfl, D0, rfl, hS⟩
set_option maxRecDepth 100000 in
set_option maxHeartbeats 4000000 in
theorem rec_head.calls {K : Nat} {g w0 : World} {D0 : Snap} {x1 : T_api_Rec} {A2 : Option Addr} {c3 : Nat} {A5 : Option Addr} {c6 : Nat} {r : (T_rec_plain)} (hf : rec_head.f K x1 = some r) (hS0 : St g w0 D0 []) (h4 : Sl kd_T_api_Step D0 A2 c3 (x1.fSteps)) (h7 : Sl (kdInt .u8) D0 A5 c6 (x1.fData)) :
  CallsIn (Fw none) 0 Tryd.prog 37 (List.toArray [.agg (List.toArray (c_T_api_Rec (x1) A2 c3 A5 c6))]) w0 (fun e w' => ∃ v, e = .returned v ∧ ∃ (D1 : Snap), v = .agg (List.toArray (c_T_rec_plain ((T_rec_plain.mk (r.fKind) (r.fSaga) (r.fSeq) (r.fStep) (r.fTry) (r.fBack) (r.fGood) (r.fGone) (r.fEnd) (r.fPart) (r.fEpoch))))) ∧ Stp g w0 D0 [] w' D1 []) := by
 unfold rec_head.f at hf
 have hS := Stp.refl hS0
 clear hS0
 refine calls_body (n := 26) Tryd.func37 rfl Tryd.ntmps37 rfl (fun a hE => ?_)
 have hE : Env a 26 [] [(0, .agg (List.toArray (c_T_api_Rec (x1) A2 c3 A5 c6)))] := hE
 refine wpIn_seq ?_
 refine region_at ?_
 refine at_op (op_box rfl rfl rfl rfl hE rfl hS rfl (fun a b14 w _ hE hS => ?_)) rfl
 refine at_op (op_alloc (z := .agg (List.toArray (c_T_rec_plain (z_T_rec_plain)))) rfl rfl rfl rfl hE rfl hS (by kernel_rfl) (fun a b16 w _ hE hS => ?_)) rfl
 refine at_end rfl ?_
 refine wpIn_seq ?_
 refine region_at ?_
 refine aF 0 3 0 hE (fun a hE => ?_)
 refine aL 1 (.int .i64 (x1.fKind)) hE hS (fun a hE => ?_)
 refine aF 1 3 1 hE (fun a hE => ?_)
 refine aL 1 (.int .i64 (x1.fSaga)) hE hS (fun a hE => ?_)
 refine aF 2 3 2 hE (fun a hE => ?_)
 refine aL 1 (.int .i64 (x1.fSeq)) hE hS (fun a hE => ?_)
 refine aF 3 3 3 hE (fun a hE => ?_)
 refine aL 1 (.int .i64 (x1.fStep)) hE hS (fun a hE => ?_)
 refine aF 4 3 4 hE (fun a hE => ?_)
 refine aL 1 (.int .i64 (x1.fTry)) hE hS (fun a hE => ?_)
 refine aF 5 4 5 hE (fun a hE => ?_)
 refine aL 1 (.bool (x1.fBack)) hE hS (fun a hE => ?_)
 refine aF 6 4 6 hE (fun a hE => ?_)
 refine aL 1 (.bool (x1.fGood)) hE hS (fun a hE => ?_)
 refine aF 76 4 76 hE (fun a hE => ?_)
 refine aL 1 (.bool (x1.fGone)) hE hS (fun a hE => ?_)
 refine aF 7 3 7 hE (fun a hE => ?_)
 refine aL 1 (.int .i64 (x1.fEnd)) hE hS (fun a hE => ?_)
 refine aF 8 3 8 hE (fun a hE => ?_)
 refine aL 1 (.int .i64 (x1.fPart)) hE hS (fun a hE => ?_)
 refine aF 9 3 9 hE (fun a hE => ?_)
 refine aL 1 (.int .i64 (x1.fEpoch)) hE hS (fun a hE => ?_)
 refine at_op (op_tk hE (tk_build (c_T_rec_plain ((T_rec_plain.mk (x1.fKind) (x1.fSaga) (x1.fSeq) (x1.fStep) (x1.fTry) (x1.fBack) (x1.fGood) (x1.fGone) (x1.fEnd) (x1.fPart) (x1.fEpoch)))) rfl rfl rfl rfl hE rfl rfl (by kernel_rfl) (fun a hE => ?_))) rfl
 obtain ⟨v18, hv19, hf⟩ := bind_some hf
 replace hv19 := Option.some.inj hv19
 refine at_op (op_store (v := .agg (List.toArray (c_T_rec_plain ((T_rec_plain.mk (x1.fKind) (x1.fSaga) (x1.fSeq) (x1.fStep) (x1.fTry) (x1.fBack) (x1.fGood) (x1.fGone) (x1.fEnd) (x1.fPart) (x1.fEpoch)))))) (c_T_rec_plain (v18)) rfl rfl rfl rfl hE hS rfl rfl (by kernel_rfl) (by kernel_rfl) (by kernel_rfl) (by kernel_rfl) (by rw [← hv19]; kernel_rfl) (fun a w _ hE hS => ?_)) rfl
 refine at_end rfl ?_
 refine wpIn_ret ?_
 obtain rfl := Option.some.inj hf
 repeat (with_reducible first | refine then_ret ?_ | refine block_ret ?_ | refine qx_ret ?_)
 refine ret_gen ([.agg (List.toArray (c_T_rec_plain (v18)))]) hE (by rw [show Tryd.f37.results.toList = [.cell 2 55] from rfl]; exact ⟨_, _, _, 0, _, _, rfl, rfl, hS.heapAt (j := 0) rfl, by kernel_rfl, rfl⟩) ?_
 have hS := hS.pk .n rfl
 exact ⟨_, rfl, D0, rfl, hS⟩
set_option maxRecDepth 100000 in
set_option maxHeartbeats 4000000 in
theorem rec_Same.calls {K : Nat} {g w0 : World} {D0 : Snap} {x1 : T_api_Rec} {x8 : T_api_Rec} {A2 : Option Addr} {c3 : Nat} {A5 : Option Addr} {c6 : Nat} {A9 : Option Addr} {c10 : Nat} {A12 : Option Addr} {c13 : Nat} {r : (Bool)} (hf : rec_Same.f K x1 x8 = some r) (hS0 : St g w0 D0 []) (h4 : Sl kd_T_api_Step D0 A2 c3 (x1.fSteps)) (h7 : Sl (kdInt .u8) D0 A5 c6 (x1.fData)) (h11 : Sl kd_T_api_Step D0 A9 c10 (x8.fSteps)) (h14 : Sl (kdInt .u8) D0 A12 c13 (x8.fData)) :
  CallsIn (Fw none) 0 Tryd.prog 18 (List.toArray [.agg (List.toArray (c_T_api_Rec (x1) A2 c3 A5 c6)), .agg (List.toArray (c_T_api_Rec (x8) A9 c10 A12 c13))]) w0 (fun e w' => ∃ v, e = .returned v ∧ ∃ (D1 : Snap), v = .bool (r) ∧ Stp g w0 D0 [] w' D1 []) := by
 unfold rec_Same.f at hf
 have hS := Stp.refl hS0
 clear hS0
 refine calls_body (n := 45) Tryd.func18 rfl Tryd.ntmps18 rfl (fun a hE => ?_)
 have hE : Env a 45 [] [(0, .agg (List.toArray (c_T_api_Rec (x1) A2 c3 A5 c6))), (1, .agg (List.toArray (c_T_api_Rec (x8) A9 c10 A12 c13)))] := hE
 refine wpIn_seq ?_
 refine region_at ?_
 refine at_op (op_box rfl rfl rfl rfl hE rfl hS rfl (fun a b114 w _ hE hS => ?_)) rfl
 refine at_op (op_box rfl rfl rfl rfl hE rfl hS rfl (fun a b116 w _ hE hS => ?_)) rfl
 refine sN 1 3 [(4, .bool false)] hE (fun a hE => ?_)
 refine at_end rfl ?_
 refine wpIn_seq ?_
 obtain ⟨j201, hj202, hf⟩ := jn_elim hf
 refine seq_join (fun a w => ∃ (y153 : Bool), ∃ (D154 : Snap), Env a 45 [] [(2, .pointer (some ⟨b114, 0, none⟩)), (3, .pointer (some ⟨b116, 0, none⟩)), (18, .bool (y153))] ∧ Stp g w0 D0 [] w D154 [bx b114 27 (c_T_api_Rec (x1) A2 c3 A5 c6), bx b116 27 (c_T_api_Rec (x8) A9 c10 A12 c13)] ∧ Snap.le D0 D154 ∧ j201 y153 = some r) ?_ ?_
 ·clear hj202
  refine region_at ?_
  refine aF 42 24 42 hE (fun a hE => ?_)
  refine aL 1 (.slice A2 (List.length (x1.fSteps)) c3) hE hS (fun a hE => ?_)
  refine aF 42 24 42 hE (fun a hE => ?_)
  refine aL 0 (.slice A9 (List.length (x8.fSteps)) c10) hE hS (fun a hE => ?_)
  obtain ⟨r203, h204, hf⟩ := bind_some hf
  refine aC rfl rfl rfl rfl hE rfl rfl rfl rfl (slices_Equal_api_Step_api_Step.calls (g := g) h204 (hS.st.fore (L := [])) h4 h11) (fun a v w hR hE => ?_)
  obtain ⟨D205, rfl, hS1⟩ := hR
  have le207 := hS1.dle
  have hS := hS.callR hS1 rfl .n
  clear hS1
  refine sN 2 7 [(11, .bool ((!r203)))] hE (fun a hE => ?_)
  refine Or.elim (Bool.eq_false_or_eq_true ((!r203))).symm (fun hb => ?_) (fun hb => ?_)
  ·replace hf := cond_f hb hf
   have hE := hE.know (t := 11) (b := (!r203)) (b' := false) rfl hb
   clear hb
   refine aF 43 25 43 hE (fun a hE => ?_)
   refine aL 1 (.slice A5 (List.length (x1.fData)) c6) hE hS (fun a hE => ?_)
   refine aF 43 25 43 hE (fun a hE => ?_)
   refine aL 0 (.slice A12 (List.length (x8.fData)) c13) hE hS (fun a hE => ?_)
   obtain ⟨r208, h209, hf⟩ := bind_some hf
   refine aC rfl rfl rfl rfl hE rfl rfl rfl rfl (bytes_Equal.calls (g := g) h209 (hS.st.fore (L := [])) (h7.mono le207) (h14.mono le207)) (fun a v w hR hE => ?_)
   obtain ⟨D210, rfl, hS1⟩ := hR
   have le212 := hS1.dle
   have hS := hS.callR hS1 rfl .n
   clear hS1
   refine sN 2 14 [(18, .bool ((!r208)))] hE (fun a hE => ?_)
   refine at_end rfl ?_
   have hS := hS.pk (.c 1 rfl (.c 0 rfl .n)) rfl
   exact ⟨(!r208), D210, hE.weak (by kernel_rfl), hS, (le2 le207 le212), hf⟩
  ·replace hf := cond_t hb hf
   have hE := hE.know (t := 11) (b := (!r203)) (b' := true) rfl hb
   clear hb
   refine sN 7 14 [(18, .bool true)] hE (fun a hE => ?_)
   refine at_end rfl ?_
   have hS := hS.pk (.c 1 rfl (.c 0 rfl .n)) rfl
   exact ⟨true, D205, hE.weak (by kernel_rfl), hS, le207, hf⟩
 ·clear hE hS
  rintro a w ⟨y153, D154, hE, hS, le155, hf⟩
  replace hf := hj202 _ hf
  clear hj202
  refine cond_split hE (b := y153) rfl (fun hb => ?_) (fun hb => ?_)
  ·replace hf := cond_t hb hf
   clear hb
   refine wpIn_seq ?_
   refine region_at ?_
   refine sN 1 1 [(4, .bool false)] hE (fun a hE => ?_)
   refine at_end rfl ?_
   refine wpIn_ret ?_
   obtain rfl := Option.some.inj hf
   repeat (with_reducible first | refine then_ret ?_ | refine block_ret ?_ | refine qx_ret ?_)
   refine ret_gen ([.bool false]) hE (by rw [show Tryd.f18.results.toList = [.tmp 4] from rfl]; exact ⟨_, _, rfl, rfl, rfl⟩) ?_
   have hS := hS.pk .n rfl
   exact ⟨_, rfl, D154, rfl, hS⟩
  ·replace hf := cond_f hb hf
   clear hb
   refine wpIn_skip ?_
   obtain ⟨j179, hj180, hf⟩ := jn_elim hf
   refine seq_join (fun a w => ∃ (y176 : Bool), ∃ (D177 : Snap), Env a 45 [] [(4, .bool (y176))] ∧ Stp g w0 D0 [] w D177 [] ∧ Snap.le D154 D177 ∧ j179 y176 = some r) ?_ ?_
   ·clear hj180
    refine region_draw (fun j => Keeps (mfOf [] j)) (by kernel_rfl) ?_
    have hS := hS.drew
    first | generalize w.drew = w at hS ⊢ | generalize w0.drew = w at hS ⊢
    refine tT 0 1 (fuel := 26) (by kernel_rfl) hE (tk_load 0 (.agg (List.toArray (c_T_api_Rec (x1) A2 c3 A5 c6))) rfl rfl rfl rfl hE rfl hS rfl rfl (by kernel_rfl) (kL (j := 0) hS rfl List.not_mem_nil) (fun a hE => ?_))
    refine tT 2 5 (fuel := 25) (by kernel_rfl) hE (tk_load 1 (.agg (List.toArray (c_T_api_Rec (x8) A9 c10 A12 c13))) rfl rfl rfl rfl hE rfl hS rfl rfl (by kernel_rfl) (kL (j := 1) hS rfl List.not_mem_nil) (fun a hE => ?_))
    obtain ⟨r191, h192, hf⟩ := bind_some hf
    refine oG 1 7 (fuel := 24) (by kernel_rfl) (op_call rfl rfl rfl rfl hE rfl rfl rfl rfl (by kernel_rfl) (rec_head.calls (g := g) h192 (hS.st.fore (L := [])) (h4.mono le155) (h7.mono le155)) (fun a v w hR hE => ?_))
    obtain ⟨D193, rfl, hS1⟩ := hR
    refine ⟨(hS1.keeps.sub (M' := []) trivial).mono (fun _ h => h), ?_⟩
    have le195 := hS1.dle
    have hS := hS.callR hS1 rfl .n
    clear hS1
    obtain ⟨r196, h197, hf⟩ := bind_some hf
    refine oG 3 15 (fuel := 23) (by kernel_rfl) (op_call rfl rfl rfl rfl hE rfl rfl rfl rfl (by kernel_rfl) (rec_head.calls (g := g) h197 (hS.st.fore (L := [])) (h11.mono (le2 le155 le195)) (h14.mono (le2 le155 le195))) (fun a v w hR hE => ?_))
    obtain ⟨D198, rfl, hS1⟩ := hR
    refine ⟨(hS1.keeps.sub (M' := []) trivial).mono (fun _ h => h), ?_⟩
    have le200 := hS1.dle
    have hS := hS.callR hS1 rfl .n
    clear hS1
    refine tW 4 31 (fuel := 22) (by kernel_rfl) hE (fun M => tk_bin (r := .bool (((decide (r191.fKind = r196.fKind)) && ((decide (r191.fSaga = r196.fSaga)) && ((decide (r191.fSeq = r196.fSeq)) && ((decide (r191.fStep = r196.fStep)) && ((decide (r191.fTry = r196.fTry)) && ((r191.fBack == r196.fBack) && ((r191.fGood == r196.fGood) && ((r191.fGone == r196.fGone) && ((decide (r191.fEnd = r196.fEnd)) && ((decide (r191.fPart = r196.fPart)) && ((decide (r191.fEpoch = r196.fEpoch)) && true))))))))))))) rfl rfl rfl rfl hE rfl rfl rfl (eqagg_run (by kernel_rfl) (EqR_struct (fs := structFs Tryd.prog 55) (by kernel_rfl) ⟨.int .i64 (r191.fKind), .int .i64 (r196.fKind), (decide (r191.fKind = r196.fKind)), _, by kernel_rfl, by kernel_rfl, by kernel_rfl, (EqR_int (by kernel_rfl)), ⟨.int .i64 (r191.fSaga), .int .i64 (r196.fSaga), (decide (r191.fSaga = r196.fSaga)), _, by kernel_rfl, by kernel_rfl, by kernel_rfl, (EqR_int (by kernel_rfl)), ⟨.int .i64 (r191.fSeq), .int .i64 (r196.fSeq), (decide (r191.fSeq = r196.fSeq)), _, by kernel_rfl, by kernel_rfl, by kernel_rfl, (EqR_int (by kernel_rfl)), ⟨.int .i64 (r191.fStep), .int .i64 (r196.fStep), (decide (r191.fStep = r196.fStep)), _, by kernel_rfl, by kernel_rfl, by kernel_rfl, (EqR_int (by kernel_rfl)), ⟨.int .i64 (r191.fTry), .int .i64 (r196.fTry), (decide (r191.fTry = r196.fTry)), _, by kernel_rfl, by kernel_rfl, by kernel_rfl, (EqR_int (by kernel_rfl)), ⟨.bool (r191.fBack), .bool (r196.fBack), (r191.fBack == r196.fBack), _, by kernel_rfl, by kernel_rfl, by kernel_rfl, (EqR_bool (by kernel_rfl)), ⟨.bool (r191.fGood), .bool (r196.fGood), (r191.fGood == r196.fGood), _, by kernel_rfl, by kernel_rfl, by kernel_rfl, (EqR_bool (by kernel_rfl)), ⟨.bool (r191.fGone), .bool (r196.fGone), (r191.fGone == r196.fGone), _, by kernel_rfl, by kernel_rfl, by kernel_rfl, (EqR_bool (by kernel_rfl)), ⟨.int .i64 (r191.fEnd), .int .i64 (r196.fEnd), (decide (r191.fEnd = r196.fEnd)), _, by kernel_rfl, by kernel_rfl, by kernel_rfl, (EqR_int (by kernel_rfl)), ⟨.int .i64 (r191.fPart), .int .i64 (r196.fPart), (decide (r191.fPart = r196.fPart)), _, by kernel_rfl, by kernel_rfl, by kernel_rfl, (EqR_int (by kernel_rfl)), ⟨.int .i64 (r191.fEpoch), .int .i64 (r196.fEpoch), (decide (r191.fEpoch = r196.fEpoch)), _, by kernel_rfl, by kernel_rfl, by kernel_rfl, (EqR_int (by kernel_rfl)), rfl, rfl⟩, rfl⟩, rfl⟩, rfl⟩, rfl⟩, rfl⟩, rfl⟩, rfl⟩, rfl⟩, rfl⟩, rfl⟩)) (fun a hE => ?_))
    refine wP 5 63 21 (.bool (((decide (r191.fKind = r196.fKind)) && ((decide (r191.fSaga = r196.fSaga)) && ((decide (r191.fSeq = r196.fSeq)) && ((decide (r191.fStep = r196.fStep)) && ((decide (r191.fTry = r196.fTry)) && ((r191.fBack == r196.fBack) && ((r191.fGood == r196.fGood) && ((r191.fGone == r196.fGone) && ((decide (r191.fEnd = r196.fEnd)) && ((decide (r191.fPart = r196.fPart)) && ((decide (r191.fEpoch = r196.fEpoch)) && true))))))))))))) hE (fun a hE => ?_)
    refine Or.elim (Bool.eq_false_or_eq_true (((decide (r191.fKind = r196.fKind)) && ((decide (r191.fSaga = r196.fSaga)) && ((decide (r191.fSeq = r196.fSeq)) && ((decide (r191.fStep = r196.fStep)) && ((decide (r191.fTry = r196.fTry)) && ((r191.fBack == r196.fBack) && ((r191.fGood == r196.fGood) && ((r191.fGone == r196.fGone) && ((decide (r191.fEnd = r196.fEnd)) && ((decide (r191.fPart = r196.fPart)) && ((decide (r191.fEpoch = r196.fEpoch)) && true))))))))))))).symm (fun hb => ?_) (fun hb => ?_)
    ·replace hf := cond_f hb hf
     have hE := hE.know (t := 24) (b := ((decide (r191.fKind = r196.fKind)) && ((decide (r191.fSaga = r196.fSaga)) && ((decide (r191.fSeq = r196.fSeq)) && ((decide (r191.fStep = r196.fStep)) && ((decide (r191.fTry = r196.fTry)) && ((r191.fBack == r196.fBack) && ((r191.fGood == r196.fGood) && ((r191.fGone == r196.fGone) && ((decide (r191.fEnd = r196.fEnd)) && ((decide (r191.fPart = r196.fPart)) && ((decide (r191.fEpoch = r196.fEpoch)) && true)))))))))))) (b' := false) rfl hb
     clear hb
     refine wS 6 127 20 hE (fun a hE => ?_)
     refine wS 7 255 19 hE (fun a hE => ?_)
     refine wS 8 511 18 hE (fun a hE => ?_)
     refine wS 9 1023 17 hE (fun a hE => ?_)
     refine wS 10 2047 16 hE (fun a hE => ?_)
     refine wP 11 4095 15 (.bool false) hE (fun a hE => ?_)
     refine wP 12 8191 14 (.bool false) hE (fun a hE => ?_)
     refine wS 13 16383 13 hE (fun a hE => ?_)
     refine wS 14 32767 12 hE (fun a hE => ?_)
     refine wS 15 65535 11 hE (fun a hE => ?_)
     refine wS 16 131071 10 hE (fun a hE => ?_)
     refine wS 17 262143 9 hE (fun a hE => ?_)
     refine wP 18 524287 8 (.bool false) hE (fun a hE => ?_)
     refine wP 19 1048575 7 (.bool false) hE (fun a hE => ?_)
     refine wS 20 2097151 6 hE (fun a hE => ?_)
     refine wS 21 4194303 5 hE (fun a hE => ?_)
     refine wS 22 8388607 4 hE (fun a hE => ?_)
     refine wS 23 16777215 3 hE (fun a hE => ?_)
     refine wS 24 33554431 2 hE (fun a hE => ?_)
     refine wP 25 67108863 1 (.bool false) hE (fun a hE => ?_)
     refine wP 26 134217727 0 (.bool false) hE (fun a hE => ?_)
     refine doneG (by kernel_rfl) ?_
     have hS := hS.pk .n rfl
     exact ⟨false, D198, hE.weak (by kernel_rfl), hS, (le2 le195 le200), hf⟩
    ·replace hf := cond_t hb hf
     have hE := hE.know (t := 24) (b := ((decide (r191.fKind = r196.fKind)) && ((decide (r191.fSaga = r196.fSaga)) && ((decide (r191.fSeq = r196.fSeq)) && ((decide (r191.fStep = r196.fStep)) && ((decide (r191.fTry = r196.fTry)) && ((r191.fBack == r196.fBack) && ((r191.fGood == r196.fGood) && ((r191.fGone == r196.fGone) && ((decide (r191.fEnd = r196.fEnd)) && ((decide (r191.fPart = r196.fPart)) && ((decide (r191.fEpoch = r196.fEpoch)) && true)))))))))))) (b' := true) rfl hb
     clear hb
     refine wF 6 127 20 10 23 10 hE (fun a hE => ?_)
     refine tT 7 255 (fuel := 19) (by kernel_rfl) hE (tk_load 0 (.agg (List.toArray (acells .u8 32 (x1.fTag)))) rfl rfl rfl rfl hE rfl hS rfl rfl (by kernel_rfl) (kL (j := 0) hS rfl List.not_mem_nil) (fun a hE => ?_))
     refine wF 8 511 18 10 23 10 hE (fun a hE => ?_)
     refine tT 9 1023 (fuel := 17) (by kernel_rfl) hE (tk_load 1 (.agg (List.toArray (acells .u8 32 (x8.fTag)))) rfl rfl rfl rfl hE rfl hS rfl rfl (by kernel_rfl) (kL (j := 1) hS rfl List.not_mem_nil) (fun a hE => ?_))
     refine tW 10 2047 (fuel := 16) (by kernel_rfl) hE (fun M => tk_bin (r := .bool ((decide (x1.fTag = x8.fTag)))) rfl rfl rfl rfl hE rfl rfl rfl (eqagg_run (by kernel_rfl) (EqR_arr (k := .u8) (N := 32) (by kernel_rfl))) (fun a hE => ?_))
     refine wP 11 4095 15 (.bool ((decide (x1.fTag = x8.fTag)))) hE (fun a hE => ?_)
     refine wP 12 8191 14 (.bool ((decide (x1.fTag = x8.fTag)))) hE (fun a hE => ?_)
     refine Or.elim (Bool.eq_false_or_eq_true ((decide (x1.fTag = x8.fTag)))).symm (fun hb => ?_) (fun hb => ?_)
     ·replace hf := cond_f hb hf
      have hE := hE.know (t := 31) (b := (decide (x1.fTag = x8.fTag))) (b' := false) rfl hb
      clear hb
      refine wS 13 16383 13 hE (fun a hE => ?_)
      refine wS 14 32767 12 hE (fun a hE => ?_)
      refine wS 15 65535 11 hE (fun a hE => ?_)
      refine wS 16 131071 10 hE (fun a hE => ?_)
      refine wS 17 262143 9 hE (fun a hE => ?_)
      refine wP 18 524287 8 (.bool false) hE (fun a hE => ?_)
      refine wP 19 1048575 7 (.bool false) hE (fun a hE => ?_)
      refine wS 20 2097151 6 hE (fun a hE => ?_)
      refine wS 21 4194303 5 hE (fun a hE => ?_)
      refine wS 22 8388607 4 hE (fun a hE => ?_)
      refine wS 23 16777215 3 hE (fun a hE => ?_)
      refine wS 24 33554431 2 hE (fun a hE => ?_)
      refine wP 25 67108863 1 (.bool false) hE (fun a hE => ?_)
      refine wP 26 134217727 0 (.bool false) hE (fun a hE => ?_)
      refine doneG (by kernel_rfl) ?_
      have hS := hS.pk .n rfl
      exact ⟨false, D198, hE.weak (by kernel_rfl), hS, (le2 le195 le200), hf⟩
     ·replace hf := cond_t hb hf
      have hE := hE.know (t := 31) (b := (decide (x1.fTag = x8.fTag))) (b' := true) rfl hb
      clear hb
      refine wF 13 16383 13 44 23 44 hE (fun a hE => ?_)
      refine tT 14 32767 (fuel := 12) (by kernel_rfl) hE (tk_load 0 (.agg (List.toArray (acells .u8 32 (x1.fSalt)))) rfl rfl rfl rfl hE rfl hS rfl rfl (by kernel_rfl) (kL (j := 0) hS rfl List.not_mem_nil) (fun a hE => ?_))
      refine wF 15 65535 11 44 23 44 hE (fun a hE => ?_)
      refine tT 16 131071 (fuel := 10) (by kernel_rfl) hE (tk_load 1 (.agg (List.toArray (acells .u8 32 (x8.fSalt)))) rfl rfl rfl rfl hE rfl hS rfl rfl (by kernel_rfl) (kL (j := 1) hS rfl List.not_mem_nil) (fun a hE => ?_))
      refine tW 17 262143 (fuel := 9) (by kernel_rfl) hE (fun M => tk_bin (r := .bool ((decide (x1.fSalt = x8.fSalt)))) rfl rfl rfl rfl hE rfl rfl rfl (eqagg_run (by kernel_rfl) (EqR_arr (k := .u8) (N := 32) (by kernel_rfl))) (fun a hE => ?_))
      refine wP 18 524287 8 (.bool ((decide (x1.fSalt = x8.fSalt)))) hE (fun a hE => ?_)
      refine wP 19 1048575 7 (.bool ((decide (x1.fSalt = x8.fSalt)))) hE (fun a hE => ?_)
      refine Or.elim (Bool.eq_false_or_eq_true ((decide (x1.fSalt = x8.fSalt)))).symm (fun hb => ?_) (fun hb => ?_)
      ·replace hf := cond_f hb hf
       have hE := hE.know (t := 38) (b := (decide (x1.fSalt = x8.fSalt))) (b' := false) rfl hb
       clear hb
       refine wS 20 2097151 6 hE (fun a hE => ?_)
       refine wS 21 4194303 5 hE (fun a hE => ?_)
       refine wS 22 8388607 4 hE (fun a hE => ?_)
       refine wS 23 16777215 3 hE (fun a hE => ?_)
       refine wS 24 33554431 2 hE (fun a hE => ?_)
       refine wP 25 67108863 1 (.bool false) hE (fun a hE => ?_)
       refine wP 26 134217727 0 (.bool false) hE (fun a hE => ?_)
       refine doneG (by kernel_rfl) ?_
       have hS := hS.pk .n rfl
       exact ⟨false, D198, hE.weak (by kernel_rfl), hS, (le2 le195 le200), hf⟩
      ·replace hf := cond_t hb hf
       have hE := hE.know (t := 38) (b := (decide (x1.fSalt = x8.fSalt))) (b' := true) rfl hb
       clear hb
       refine wF 20 2097151 6 77 23 77 hE (fun a hE => ?_)
       refine tT 21 4194303 (fuel := 5) (by kernel_rfl) hE (tk_load 0 (.agg (List.toArray (acells .u8 32 (x1.fCom)))) rfl rfl rfl rfl hE rfl hS rfl rfl (by kernel_rfl) (kL (j := 0) hS rfl List.not_mem_nil) (fun a hE => ?_))
       refine wF 22 8388607 4 77 23 77 hE (fun a hE => ?_)
       refine tT 23 16777215 (fuel := 3) (by kernel_rfl) hE (tk_load 1 (.agg (List.toArray (acells .u8 32 (x8.fCom)))) rfl rfl rfl rfl hE rfl hS rfl rfl (by kernel_rfl) (kL (j := 1) hS rfl List.not_mem_nil) (fun a hE => ?_))
       refine tW 24 33554431 (fuel := 2) (by kernel_rfl) hE (fun M => tk_bin (r := .bool ((decide (x1.fCom = x8.fCom)))) rfl rfl rfl rfl hE rfl rfl rfl (eqagg_run (by kernel_rfl) (EqR_arr (k := .u8) (N := 32) (by kernel_rfl))) (fun a hE => ?_))
       refine wP 25 67108863 1 (.bool ((decide (x1.fCom = x8.fCom)))) hE (fun a hE => ?_)
       refine wP 26 134217727 0 (.bool ((decide (x1.fCom = x8.fCom)))) hE (fun a hE => ?_)
       refine doneG (by kernel_rfl) ?_
       have hS := hS.pk .n rfl
       exact ⟨(decide (x1.fCom = x8.fCom)), D198, hE.weak (by kernel_rfl), hS, (le2 le195 le200), hf⟩
   ·clear hE hS
    rintro a w ⟨y176, D177, hE, hS, le178, hf⟩
    replace hf := hj180 _ hf
    clear hj180
    refine wpIn_ret ?_
    obtain rfl := Option.some.inj hf
    repeat (with_reducible first | refine then_ret ?_ | refine block_ret ?_ | refine qx_ret ?_)
    refine ret_gen ([.bool (y176)]) hE (by rw [show Tryd.f18.results.toList = [.tmp 4] from rfl]; exact ⟨_, _, rfl, rfl, rfl⟩) ?_
    exact ⟨_, rfl, D177, rfl, hS⟩
set_option maxRecDepth 100000 in
set_option maxHeartbeats 4000000 in
theorem rec_Right.calls {K : Nat} {g w0 : World} {D0 : Snap} {x1 : T_api_Rec} {A2 : Option Addr} {c3 : Nat} {A5 : Option Addr} {c6 : Nat} {r : (Bool)} (hf : rec_Right.f K x1 = some r) (hS0 : St g w0 D0 []) (h4 : Sl kd_T_api_Step D0 A2 c3 (x1.fSteps)) (h7 : Sl (kdInt .u8) D0 A5 c6 (x1.fData)) :
  CallsIn (Fw none) 0 Tryd.prog 11 (List.toArray [.agg (List.toArray (c_T_api_Rec (x1) A2 c3 A5 c6))]) w0 (fun e w' => ∃ v, e = .returned v ∧ ∃ (D1 : Snap), v = .bool (r) ∧ Stp g w0 D0 [] w' D1 []) := by
 unfold rec_Right.f at hf
 have hS := Stp.refl hS0
 clear hS0
 refine calls_body (n := 11) Tryd.func11 rfl Tryd.ntmps11 rfl (fun a hE => ?_)
 have hE : Env a 11 [] [(0, .agg (List.toArray (c_T_api_Rec (x1) A2 c3 A5 c6)))] := hE
 refine wpIn_seq ?_
 refine region_at ?_
 refine at_op (op_box rfl rfl rfl rfl hE rfl hS rfl (fun a b94 w _ hE hS => ?_)) rfl
 refine sN 1 2 [(2, .bool false)] hE (fun a hE => ?_)
 refine at_end rfl ?_
 refine wpIn_seq ?_
 refine region_draw (fun j => Keeps (mfOf [] j)) (by kernel_rfl) ?_
 have hS := hS.drew
 first | generalize w.drew = w at hS ⊢ | generalize w0.drew = w at hS ⊢
 refine tT 0 1 (fuel := 8) (by kernel_rfl) hE (tk_load 0 (.agg (List.toArray (c_T_api_Rec (x1) A2 c3 A5 c6))) rfl rfl rfl rfl hE rfl hS rfl rfl (by kernel_rfl) (kL (j := 0) hS rfl List.not_mem_nil) (fun a hE => ?_))
 obtain ⟨r159, h160, hf⟩ := bind_some hf
 refine oG 1 3 (fuel := 7) (by kernel_rfl) (op_call rfl rfl rfl rfl hE rfl rfl rfl rfl (by kernel_rfl) (rec_ranges.calls (g := g) h160 (hS.st.fore (L := [])) h4 h7) (fun a v w hR hE => ?_))
 obtain ⟨D161, rfl, hS1⟩ := hR
 refine ⟨(hS1.keeps.sub (M' := []) trivial).mono (fun _ h => h), ?_⟩
 have le163 := hS1.dle
 have hS := hS.callR hS1 rfl .n
 clear hS1
 refine wP 2 7 6 (.bool (r159)) hE (fun a hE => ?_)
 refine Or.elim (Bool.eq_false_or_eq_true (r159)).symm (fun hb => ?_) (fun hb => ?_)
 ·replace hf := cond_f hb hf
  have hE := hE.know (t := 5) (b := r159) (b' := false) rfl hb
  clear hb
  refine wS 3 15 5 hE (fun a hE => ?_)
  refine wS 4 31 4 hE (fun a hE => ?_)
  refine wS 5 63 3 hE (fun a hE => ?_)
  refine wS 6 127 2 hE (fun a hE => ?_)
  refine wP 7 255 1 (.bool false) hE (fun a hE => ?_)
  refine wP 8 511 0 (.bool false) hE (fun a hE => ?_)
  refine doneG (by kernel_rfl) ?_
  refine wpIn_ret ?_
  obtain rfl := Option.some.inj hf
  repeat (with_reducible first | refine then_ret ?_ | refine block_ret ?_ | refine qx_ret ?_)
  refine ret_gen ([.bool false]) hE (by rw [show Tryd.f11.results.toList = [.tmp 2] from rfl]; exact ⟨_, _, rfl, rfl, rfl⟩) ?_
  have hS := hS.pk .n rfl
  exact ⟨_, rfl, D161, rfl, hS⟩
 ·replace hf := cond_t hb hf
  have hE := hE.know (t := 5) (b := r159) (b' := true) rfl hb
  clear hb
  refine tT 3 15 (fuel := 5) (by kernel_rfl) hE (tk_load 0 (.agg (List.toArray (c_T_api_Rec (x1) A2 c3 A5 c6))) rfl rfl rfl rfl hE rfl hS rfl rfl (by kernel_rfl) (kL (j := 0) hS rfl List.not_mem_nil) (fun a hE => ?_))
  refine tT 4 31 (fuel := 4) (by kernel_rfl) hE (tk_load 0 (.agg (List.toArray (c_T_api_Rec (x1) A2 c3 A5 c6))) rfl rfl rfl rfl hE rfl hS rfl rfl (by kernel_rfl) (kL (j := 0) hS rfl List.not_mem_nil) (fun a hE => ?_))
  obtain ⟨r164, h165, hf⟩ := bind_some hf
  refine oG 5 63 (fuel := 3) (by kernel_rfl) (op_call rfl rfl rfl rfl hE rfl rfl rfl rfl (by kernel_rfl) (rec_kept.calls (g := g) h165 (hS.st.fore (L := [])) (h4.mono le163) (h7.mono le163)) (fun a v w hR hE => ?_))
  obtain ⟨D166, A168, c169, A171, c172, rfl, hS1, h170, h173⟩ := hR
  refine ⟨(hS1.keeps.sub (M' := []) trivial).mono (fun _ h => h), ?_⟩
  have le174 := hS1.dle
  have hS := hS.callR hS1 rfl .n
  clear hS1
  obtain ⟨r175, h176, hf⟩ := bind_some hf
  refine oG 6 127 (fuel := 2) (by kernel_rfl) (op_call rfl rfl rfl rfl hE rfl rfl rfl rfl (by kernel_rfl) (rec_Same.calls (g := g) h176 (hS.st.fore (L := [])) (h4.mono (le2 le163 le174)) (h7.mono (le2 le163 le174)) h170 h173) (fun a v w hR hE => ?_))
  obtain ⟨D177, rfl, hS1⟩ := hR
  refine ⟨(hS1.keeps.sub (M' := []) trivial).mono (fun _ h => h), ?_⟩
  have le179 := hS1.dle
  have hS := hS.callR hS1 rfl .n
  clear hS1
  refine wP 7 255 1 (.bool (r175)) hE (fun a hE => ?_)
  refine wP 8 511 0 (.bool (r175)) hE (fun a hE => ?_)
  refine doneG (by kernel_rfl) ?_
  refine wpIn_ret ?_
  obtain rfl := Option.some.inj hf
  repeat (with_reducible first | refine then_ret ?_ | refine block_ret ?_ | refine qx_ret ?_)
  refine ret_gen ([.bool (r175)]) hE (by rw [show Tryd.f11.results.toList = [.tmp 2] from rfl]; exact ⟨_, _, rfl, rfl, rfl⟩) ?_
  have hS := hS.pk .n rfl
  exact ⟨_, rfl, D177, rfl, hS⟩
set_option maxRecDepth 100000 in
set_option maxHeartbeats 4000000 in
theorem slices_Reverse_byte_byte.calls {K : Nat} {g w0 : World} {D0 : Snap} {x1 : (List Int)} {A2 : Option Addr} {c3 : Nat} {q4 : Blk} {r : ((List Int))} (hf : slices_Reverse_byte_byte.f K x1 = some r) (hS0 : St g w0 D0 [q4]) (h5 : OwnD (kdInt .u8) 5 D0 A2 c3 (x1) q4) :
  CallsIn (Fw none) 0 Tryd.prog 84 (List.toArray [.slice A2 (List.length (x1)) c3]) w0 (fun e w' => ∃ v, e = .returned v ∧ ∃ (D1 : Snap) (q436 : Blk), v = .tuple #[] ∧ Stp g w0 D0 [q4] w' D1 [q436] ∧ OwnD (kdInt .u8) 5 D1 A2 c3 (r) q436) := by
 unfold slices_Reverse_byte_byte.f at hf
 have hS := Stp.refl hS0
 clear hS0
 refine calls_body (n := 28) Tryd.func84 rfl Tryd.ntmps84 rfl (fun a hE => ?_)
 have hE : Env a 28 [] [(0, .slice A2 (List.length (x1)) c3)] := hE
 refine wpIn_seq ?_
 refine region_at ?_
 refine sN 5 5 [(2, .int .i64 ((0 : Int))), (3, .int .i64 ((IntKind.wrap .i64 (((List.length (x1) : Nat) : Int) - (1 : Int)))))] hE (fun a hE => ?_)
 refine at_end rfl ?_
 obtain ⟨s738, hf, hs739⟩ := bind_some hf
 refine block_loop (fun a w => ∃ (z730 : (List Int)), ∃ (q735 : Blk), ∃ (D731 : Snap), Env a 28 [] [] ∧ Stp g w0 D0 [q4] w D731 [q735] ∧ Snap.le D0 D731 ∧ OwnD (kdInt .u8) 5 D731 A2 c3 (z730) q735 ∧ z730 = s738) (fun k a w => ∃ (y586 : (List Int) × Int × Int), ∃ (q591 : Blk), ∃ (D587 : Snap), Env a 28 [] [(0, .slice A2 (List.length (y586.1)) c3), (2, .int .i64 (y586.2.1)), (3, .int .i64 (y586.2.2))] ∧ Stp g w0 D0 [q4] w D587 [q591] ∧ Snap.le D0 D587 ∧ OwnD (kdInt .u8) 5 D587 A2 c3 (y586.1) q591 ∧ slices_Reverse_byte_byte_l1.l K k y586 = some s738) K ?_ ?_ ?_
 ·exact ⟨(x1, (0 : Int), (IntKind.wrap .i64 (((List.length (x1) : Nat) : Int) - (1 : Int)))), q4, D0, hE.weak (by kernel_rfl), hS, Snap.le.refl _, h5, hf⟩
 ·clear hE hS hf
  rintro a w ⟨z730, q735, D731, hE, hS, le732, h736, rfl⟩
  have hf := hs739
  clear hs739
  obtain rfl := Option.some.inj hf
  repeat (with_reducible first | refine then_ret ?_ | refine block_ret ?_ | refine qx_ret ?_)
  refine ret_genN ([]) hE (by rw [show Tryd.f84.results.toList = [] from rfl]; exact rfl) ?_
  exact ⟨_, rfl, D731, q735, rfl, hS, h736⟩
 ·clear hE hS hf
  rintro k a w ⟨y586, q591, D587, hE, hS, le588, h592, hf⟩
  obtain ⟨k, rfl, hf⟩ := slices_Reverse_byte_byte_l1.some hf
  refine ⟨k, rfl, ?_⟩
  unfold slices_Reverse_byte_byte_l1.b at hf
  refine wpIn_seq ?_
  refine wpIn_seq ?_
  refine region_at ?_
  refine sN 3 3 [(9, .bool ((decide (y586.2.1 < y586.2.2))))] hE (fun a hE => ?_)
  refine at_end rfl ?_
  refine cond_split hE (b := (decide (y586.2.1 < y586.2.2))) rfl (fun hb => ?_) (fun hb => ?_)
  ·replace hf := cond_t hb hf
   clear hb
   refine wpIn_skip ?_
   refine wpIn_seq ?_
   refine wpIn_block ?_
   refine region_draw (fun j => Keeps (mfOf [(13, ids [q591]), (15, ids [q591])] j)) (by kernel_rfl) ?_
   have hS := hS.drew
   first | generalize w.drew = w at hS ⊢ | generalize w0.drew = w at hS ⊢
   refine wP 0 1 15 (.slice A2 (List.length (y586.1)) c3) hE (fun a hE => ?_)
   refine wP 1 3 14 (.int .i64 (y586.2.1)) hE (fun a hE => ?_)
   refine wP 2 7 13 (.slice A2 (List.length (y586.1)) c3) hE (fun a hE => ?_)
   refine wP 3 15 12 (.int .i64 (y586.2.2)) hE (fun a hE => ?_)
   refine wP 4 31 11 (.slice A2 (List.length (y586.1)) c3) hE (fun a hE => ?_)
   refine wP 5 63 10 (.int .i64 (y586.2.2)) hE (fun a hE => ?_)
   refine wP 8 319 9 (.slice A2 (List.length (y586.1)) c3) hE (fun a hE => ?_)
   refine wP 9 831 8 (.int .i64 (y586.2.1)) hE (fun a hE => ?_)
   obtain ⟨x836, h837, hf⟩ := bind_some hf
   refine tW 6 895 (fuel := 7) (by kernel_rfl) hE (fun M => tk_indexO (K := (kdInt .u8)) (T := 5) (by_ := 1) (zl := 1) rfl rfl rfl rfl hE rfl rfl rfl (by kernel_rfl) h592 h837 (fun a b838 u839 hq hE => ?_))
   subst hq
   obtain ⟨cs840, C841, hr842, hb843, hc844⟩ := OwnD.cell h592 h837
   obtain rfl := hr842
   refine tT 7 1023 (fuel := 6) (by kernel_rfl) hE (tk_loadO 0 (off0 := Int.toNat (y586.2.2) * 1) (off := 0) (c := [.int .u8 (x836)]) (Cl := C841) (T := 5) (fr := (0, 0)) (.int .u8 (x836)) rfl rfl rfl rfl hE rfl hS rfl (by rw [hb843]; rfl) hc844 (by kernel_rfl) (kL (j := 0) hS rfl List.not_mem_nil) (fun a hE => ?_))
   obtain ⟨x845, h846, hf⟩ := bind_some hf
   refine tW 10 2047 (fuel := 5) (by kernel_rfl) hE (fun M => tk_indexO (K := (kdInt .u8)) (T := 5) (by_ := 1) (zl := 1) rfl rfl rfl rfl hE rfl rfl rfl (by kernel_rfl) h592 h846 (fun a b847 u848 hq hE => ?_))
   obtain ⟨rfl, rfl⟩ := some_pair hq
   obtain ⟨cs849, C850, hr851, hb852, hc853⟩ := OwnD.cell h592 h846
   obtain rfl := hr851
   refine tT 11 4095 (fuel := 4) (by kernel_rfl) hE (tk_loadO 0 (off0 := Int.toNat (y586.2.1) * 1) (off := 0) (c := [.int .u8 (x845)]) (Cl := C850) (T := 5) (fr := (0, 0)) (.int .u8 (x845)) rfl rfl rfl rfl hE rfl hS rfl (by rw [hb852]; rfl) hc853 (by kernel_rfl) (kL (j := 0) hS rfl List.not_mem_nil) (fun a hE => ?_))
   obtain ⟨x854, h855, hf⟩ := bind_some hf
   refine tW 12 8191 (fuel := 3) (by kernel_rfl) hE (fun M => tk_indexO (K := (kdInt .u8)) (T := 5) (by_ := 1) (zl := 1) rfl rfl rfl rfl hE rfl rfl rfl (by kernel_rfl) h592 h855 (fun a b856 u857 hq hE => ?_))
   obtain ⟨rfl, rfl⟩ := some_pair hq
   refine oG 13 16383 (fuel := 2) (by kernel_rfl) (op_storeO (K := (kdInt .u8)) (T := 5) (l := y586.1) (x836) rfl rfl rfl rfl hE hS h592 rfl rfl (inI_of h855) (rfl) (by kernel_rfl) (by kernel_rfl) (fun a u858 w hkp hE h859 hS => ⟨hkp.mono (fun _ h => h), ?_⟩))
   clear hkp
   have hE : Env a 28 [] [(0, .slice A2 (List.length ((List.set (y586.1) (Int.toNat (y586.2.1)) (x836)))) c3), (2, .int .i64 (y586.2.1)), (3, .int .i64 (y586.2.2)), (9, .bool ((decide (y586.2.1 < y586.2.2)))), (14, .slice A2 (List.length ((List.set (y586.1) (Int.toNat (y586.2.1)) (x836)))) c3), (15, .int .i64 (y586.2.1)), (16, .slice A2 (List.length ((List.set (y586.1) (Int.toNat (y586.2.1)) (x836)))) c3), (17, .int .i64 (y586.2.2)), (18, .slice A2 (List.length ((List.set (y586.1) (Int.toNat (y586.2.1)) (x836)))) c3), (19, .int .i64 (y586.2.2)), (20, .pointer (some ⟨b838, Int.toNat (y586.2.2) * 1, none⟩)), (21, .int .u8 (x836)), (22, .slice A2 (List.length ((List.set (y586.1) (Int.toNat (y586.2.1)) (x836)))) c3), (23, .int .i64 (y586.2.1)), (24, .pointer (some ⟨b838, Int.toNat (y586.2.1) * 1, none⟩)), (25, .int .u8 (x845)), (26, .pointer (some ⟨b838, Int.toNat (y586.2.1) * 1, none⟩))] := by have h := hE.weak (E' := [(0, .slice A2 (List.length (y586.1)) c3), (2, .int .i64 (y586.2.1)), (3, .int .i64 (y586.2.2)), (9, .bool ((decide (y586.2.1 < y586.2.2)))), (14, .slice A2 (List.length (y586.1)) c3), (15, .int .i64 (y586.2.1)), (16, .slice A2 (List.length (y586.1)) c3), (17, .int .i64 (y586.2.2)), (18, .slice A2 (List.length (y586.1)) c3), (19, .int .i64 (y586.2.2)), (20, .pointer (some ⟨b838, Int.toNat (y586.2.2) * 1, none⟩)), (21, .int .u8 (x836)), (22, .slice A2 (List.length (y586.1)) c3), (23, .int .i64 (y586.2.1)), (24, .pointer (some ⟨b838, Int.toNat (y586.2.1) * 1, none⟩)), (25, .int .u8 (x845)), (26, .pointer (some ⟨b838, Int.toNat (y586.2.1) * 1, none⟩))]) (by kernel_rfl); simpa only [List.length_set] using h
   obtain ⟨x861, h862, hf⟩ := bind_some hf
   refine tW 14 32767 (fuel := 1) (by kernel_rfl) hE (fun M => tk_indexO (K := (kdInt .u8)) (T := 5) (by_ := 1) (zl := 1) rfl rfl rfl rfl hE rfl rfl rfl (by kernel_rfl) h859 h862 (fun a b863 u864 hq hE => ?_))
   obtain ⟨rfl, rfl⟩ := some_pair hq
   refine oG 15 65535 (fuel := 0) (by kernel_rfl) (op_storeO (K := (kdInt .u8)) (T := 5) (l := (List.set (y586.1) (Int.toNat (y586.2.1)) (x836))) (x845) rfl rfl rfl rfl hE hS h859 rfl rfl (inI_of h862) (rfl) (by kernel_rfl) (by kernel_rfl) (fun a u865 w hkp hE h866 hS => ⟨hkp.mono (fun _ h => h), ?_⟩))
   clear hkp
   have hE : Env a 28 [] [(0, .slice A2 (List.length ((List.set ((List.set (y586.1) (Int.toNat (y586.2.1)) (x836))) (Int.toNat (y586.2.2)) (x845)))) c3), (2, .int .i64 (y586.2.1)), (3, .int .i64 (y586.2.2)), (9, .bool ((decide (y586.2.1 < y586.2.2)))), (14, .slice A2 (List.length ((List.set ((List.set (y586.1) (Int.toNat (y586.2.1)) (x836))) (Int.toNat (y586.2.2)) (x845)))) c3), (15, .int .i64 (y586.2.1)), (16, .slice A2 (List.length ((List.set ((List.set (y586.1) (Int.toNat (y586.2.1)) (x836))) (Int.toNat (y586.2.2)) (x845)))) c3), (17, .int .i64 (y586.2.2)), (18, .slice A2 (List.length ((List.set ((List.set (y586.1) (Int.toNat (y586.2.1)) (x836))) (Int.toNat (y586.2.2)) (x845)))) c3), (19, .int .i64 (y586.2.2)), (20, .pointer (some ⟨b838, Int.toNat (y586.2.2) * 1, none⟩)), (21, .int .u8 (x836)), (22, .slice A2 (List.length ((List.set ((List.set (y586.1) (Int.toNat (y586.2.1)) (x836))) (Int.toNat (y586.2.2)) (x845)))) c3), (23, .int .i64 (y586.2.1)), (24, .pointer (some ⟨b838, Int.toNat (y586.2.1) * 1, none⟩)), (25, .int .u8 (x845)), (26, .pointer (some ⟨b838, Int.toNat (y586.2.1) * 1, none⟩)), (27, .pointer (some ⟨b838, Int.toNat (y586.2.2) * 1, none⟩))] := by have h := hE.weak (E' := [(0, .slice A2 (List.length ((List.set (y586.1) (Int.toNat (y586.2.1)) (x836)))) c3), (2, .int .i64 (y586.2.1)), (3, .int .i64 (y586.2.2)), (9, .bool ((decide (y586.2.1 < y586.2.2)))), (14, .slice A2 (List.length ((List.set (y586.1) (Int.toNat (y586.2.1)) (x836)))) c3), (15, .int .i64 (y586.2.1)), (16, .slice A2 (List.length ((List.set (y586.1) (Int.toNat (y586.2.1)) (x836)))) c3), (17, .int .i64 (y586.2.2)), (18, .slice A2 (List.length ((List.set (y586.1) (Int.toNat (y586.2.1)) (x836)))) c3), (19, .int .i64 (y586.2.2)), (20, .pointer (some ⟨b838, Int.toNat (y586.2.2) * 1, none⟩)), (21, .int .u8 (x836)), (22, .slice A2 (List.length ((List.set (y586.1) (Int.toNat (y586.2.1)) (x836)))) c3), (23, .int .i64 (y586.2.1)), (24, .pointer (some ⟨b838, Int.toNat (y586.2.1) * 1, none⟩)), (25, .int .u8 (x845)), (26, .pointer (some ⟨b838, Int.toNat (y586.2.1) * 1, none⟩)), (27, .pointer (some ⟨b838, Int.toNat (y586.2.2) * 1, none⟩))]) (by kernel_rfl); simpa only [List.length_set] using h
   refine doneG (by kernel_rfl) ?_
   refine region_at ?_
   refine sN 6 6 [(2, .int .i64 ((IntKind.wrap .i64 (y586.2.1 + (1 : Int))))), (3, .int .i64 ((IntKind.wrap .i64 (y586.2.2 - (1 : Int)))))] hE (fun a hE => ?_)
   refine at_end rfl ?_
   exact ⟨((List.set ((List.set (y586.1) (Int.toNat (y586.2.1)) (x836))) (Int.toNat (y586.2.2)) (x845)), (IntKind.wrap .i64 (y586.2.1 + (1 : Int))), (IntKind.wrap .i64 (y586.2.2 - (1 : Int)))), (some (b838, u865)), D587, hE.weak (by kernel_rfl), hS, le588, h866, hf⟩
  ·replace hf := cond_f hb hf
   clear hb
   refine wpIn_exit ?_
   obtain rfl := Option.some.inj hf
   exact ⟨y586.1, q591, D587, hE.weak (by kernel_rfl), hS, le588, h592, rfl⟩
set_option maxRecDepth 100000 in
set_option maxHeartbeats 4000000 in
theorem wire_Num.calls {K : Nat} {g w0 : World} {D0 : Snap} {x1 : Int} {r : ((List Int))} (hf : wire_Num.f K x1 = some r) (hS0 : St g w0 D0 []) :
  CallsIn (Fw none) 0 Tryd.prog 66 (List.toArray [.int .i64 (x1)]) w0 (fun e w' => ∃ v, e = .returned v ∧ ∃ (D1 : Snap) (A306 : Option Addr) (c307 : Nat) (q308 : Blk), v = .slice A306 (List.length (r)) c307 ∧ Stp g w0 D0 [] w' D1 [q308] ∧ OwnD (kdInt .u8) 5 D1 A306 c307 (r) q308) := by
 unfold wire_Num.f at hf
 have hS := Stp.refl hS0
 clear hS0
 refine calls_body (n := 30) Tryd.func66 rfl Tryd.ntmps66 rfl (fun a hE => ?_)
 have hE : Env a 30 [] [(0, .int .i64 (x1))] := hE
 refine wpIn_seq ?_
 refine region_at ?_
 refine sN 1 1 [(2, .slice none 0 0)] hE (fun a hE => ?_)
 refine at_end rfl ?_
 refine wpIn_seq ?_
 obtain ⟨j614, hj615, hf⟩ := jn_elim hf
 refine seq_join (fun a w => ∃ (y316 : Bool), ∃ (D317 : Snap), Env a 30 [] [(0, .int .i64 (x1)), (9, .bool (y316))] ∧ Stp g w0 D0 [] w D317 [] ∧ Snap.le D0 D317 ∧ j614 y316 = some r) ?_ ?_
 ·clear hj615
  refine region_at ?_
  refine sN 3 3 [(6, .bool ((decide (x1 < (0 : Int)))))] hE (fun a hE => ?_)
  refine Or.elim (Bool.eq_false_or_eq_true ((decide (x1 < (0 : Int))))).symm (fun hb => ?_) (fun hb => ?_)
  ·replace hf := cond_f hb hf
   have hE := hE.know (t := 6) (b := (decide (x1 < (0 : Int)))) (b' := false) rfl hb
   clear hb
   refine sN 3 6 [(9, .bool ((decide ((2147483647 : Int) < x1))))] hE (fun a hE => ?_)
   refine at_end rfl ?_
   exact ⟨(decide ((2147483647 : Int) < x1)), D0, hE.weak (by kernel_rfl), hS, Snap.le.refl _, hf⟩
  ·replace hf := cond_t hb hf
   have hE := hE.know (t := 6) (b := (decide (x1 < (0 : Int)))) (b' := true) rfl hb
   clear hb
   refine sN 3 6 [(9, .bool true)] hE (fun a hE => ?_)
   refine at_end rfl ?_
   exact ⟨true, D0, hE.weak (by kernel_rfl), hS, Snap.le.refl _, hf⟩
 ·clear hE hS
  rintro a w ⟨y316, D317, hE, hS, le318, hf⟩
  replace hf := hj615 _ hf
  clear hj615
  refine cond_split hE (b := y316) rfl (fun hb => ?_) (fun hb => ?_)
  ·replace hf := cond_t hb hf
   clear hb
   refine wpIn_seq ?_
   refine region_at ?_
   refine sN 1 1 [(2, .slice none 0 0)] hE (fun a hE => ?_)
   refine at_end rfl ?_
   refine wpIn_ret ?_
   have hS := hS.nils
   obtain rfl := Option.some.inj hf
   repeat (with_reducible first | refine then_ret ?_ | refine block_ret ?_ | refine qx_ret ?_)
   refine ret_gen ([.slice none 0 0]) hE (by rw [show Tryd.f66.results.toList = [.tmp 2] from rfl]; exact ⟨_, _, rfl, rfl, rfl⟩) ?_
   exact ⟨_, rfl, D317, none, 0, none, rfl, hS, (OwnD.nil (kdInt .u8) 5 D317)⟩
  ·replace hf := cond_f hb hf
   clear hb
   refine wpIn_skip ?_
   refine wpIn_seq ?_
   refine region_at ?_
   refine sN 3 3 [(12, .int .u8 ((IntKind.wrap .u8 (Int.tmod x1 128))))] hE (fun a hE => ?_)
   refine at_op (op_buildSlice (K := (kdInt .u8)) (e := 5) (cs := [.int .u8 ((IntKind.wrap .u8 (Int.tmod x1 128)))] ++ []) ([(IntKind.wrap .u8 (Int.tmod x1 128))] : List Int) rfl rfl rfl rfl hE rfl hS rfl (by kernel_rfl) rfl rfl (by exact (show RL (kdInt .u8) D317 ([(IntKind.wrap .u8 (Int.tmod x1 128))] : List Int) ([.int .u8 ((IntKind.wrap .u8 (Int.tmod x1 128)))] ++ []) from ⟨_, _, rfl, rfl, rfl⟩)) (fun a A320 q321 w _ hE h322 hS => ?_)) rfl
   refine sN 1 5 [(3, .slice A320 (List.length (([(IntKind.wrap .u8 (Int.tmod x1 128))] : List Int))) 1)] hE (fun a hE => ?_)
   refine at_end rfl ?_
   refine wpIn_seq ?_
   refine wpIn_seq ?_
   refine region_at ?_
   refine sN 3 3 [(0, .int .i64 ((Int.fdiv x1 (2 ^ 7))))] hE (fun a hE => ?_)
   refine at_end rfl ?_
   obtain ⟨s572, hf, hs573⟩ := bind_some hf
   refine block_loop (fun a w => ∃ (z564 : (List Int)), ∃ (A567 : Option Addr), ∃ (c568 : Nat), ∃ (q569 : Blk), ∃ (D565 : Snap), Env a 30 [] [(3, .slice A567 (List.length (z564)) c568)] ∧ Stp g w0 D0 [] w D565 [q569] ∧ Snap.le D317 D565 ∧ OwnD (kdInt .u8) 5 D565 A567 c568 (z564) q569 ∧ z564 = s572) (fun k a w => ∃ (y516 : Int × (List Int)), ∃ (A519 : Option Addr), ∃ (c520 : Nat), ∃ (q521 : Blk), ∃ (D517 : Snap), Env a 30 [] [(0, .int .i64 (y516.1)), (3, .slice A519 (List.length (y516.2)) c520)] ∧ Stp g w0 D0 [] w D517 [q521] ∧ Snap.le D317 D517 ∧ OwnD (kdInt .u8) 5 D517 A519 c520 (y516.2) q521 ∧ wire_Num_l1.l K k y516 = some s572) K ?_ ?_ ?_
   ·exact ⟨((Int.fdiv x1 (2 ^ 7)), ([(IntKind.wrap .u8 (Int.tmod x1 128))] : List Int)), A320, 1, q321, D317, hE.weak (by kernel_rfl), hS, Snap.le.refl _, h322, hf⟩
   ·clear hE hS hf
    rintro a w ⟨z564, A567, c568, q569, D565, hE, hS, le566, h570, rfl⟩
    have hf := hs573
    clear hs573
    refine wpIn_seq ?_
    refine region_at ?_
    refine sN 1 1 [(27, .slice A567 (List.length (z564)) c568)] hE (fun a hE => ?_)
    obtain ⟨r606, h607, hf⟩ := bind_some hf
    refine aC rfl rfl rfl rfl hE rfl rfl rfl rfl (slices_Reverse_byte_byte.calls (g := g) h607 (hS.st.fore (L := [q569])) h570) (fun a v w hR hE => ?_)
    obtain ⟨D608, q610, rfl, hS1, h611⟩ := hR
    have le613 := hS1.dle
    have hS := hS.callR hS1 rfl (.c .n)
    clear hS1
    have hl612 := slices_Reverse_byte_byte.len h607
    have hE : Env a 30 [] [(3, .slice A567 (List.length (r606)) c568), (27, .slice A567 (List.length (r606)) c568), (28, .tuple #[])] := by have h := hE.weak (E' := [(3, .slice A567 (List.length (z564)) c568), (27, .slice A567 (List.length (z564)) c568), (28, .tuple #[])]) (by kernel_rfl); simpa only [hl612] using h
    clear hl612
    refine at_end rfl ?_
    refine wpIn_seq ?_
    refine region_at ?_
    refine sN 2 2 [(2, .slice A567 (List.length (r606)) c568)] hE (fun a hE => ?_)
    refine at_end rfl ?_
    refine wpIn_ret ?_
    obtain rfl := Option.some.inj hf
    repeat (with_reducible first | refine then_ret ?_ | refine block_ret ?_ | refine qx_ret ?_)
    refine ret_gen ([.slice A567 (List.length (r606)) c568]) hE (by rw [show Tryd.f66.results.toList = [.tmp 2] from rfl]; exact ⟨_, _, rfl, rfl, rfl⟩) ?_
    exact ⟨_, rfl, D608, A567, c568, q610, rfl, hS, h611⟩
   ·clear hE hS hf
    rintro k a w ⟨y516, A519, c520, q521, D517, hE, hS, le518, h522, hf⟩
    obtain ⟨k, rfl, hf⟩ := wire_Num_l1.some hf
    refine ⟨k, rfl, ?_⟩
    unfold wire_Num_l1.b at hf
    refine wpIn_seq ?_
    refine wpIn_seq ?_
    refine region_at ?_
    refine sN 2 2 [(17, .bool ((decide ((0 : Int) < y516.1))))] hE (fun a hE => ?_)
    refine at_end rfl ?_
    refine cond_split hE (b := (decide ((0 : Int) < y516.1))) rfl (fun hb => ?_) (fun hb => ?_)
    ·replace hf := cond_t hb hf
     clear hb
     refine wpIn_skip ?_
     refine wpIn_seq ?_
     refine wpIn_block ?_
     refine region_at ?_
     refine sN 5 5 [(20, .slice A519 (List.length (y516.2)) c520), (24, .int .u8 ((bor .u8 (IntKind.wrap .u8 (Int.tmod y516.1 128)) (128 : Int))))] hE (fun a hE => ?_)
     refine at_op (op_buildSlice (K := (kdInt .u8)) (e := 5) (cs := [.int .u8 ((bor .u8 (IntKind.wrap .u8 (Int.tmod y516.1 128)) (128 : Int)))] ++ []) ([(bor .u8 (IntKind.wrap .u8 (Int.tmod y516.1 128)) (128 : Int))] : List Int) rfl rfl rfl rfl hE rfl hS rfl (by kernel_rfl) rfl rfl (by exact (show RL (kdInt .u8) D517 ([(bor .u8 (IntKind.wrap .u8 (Int.tmod y516.1 128)) (128 : Int))] : List Int) ([.int .u8 ((bor .u8 (IntKind.wrap .u8 (Int.tmod y516.1 128)) (128 : Int)))] ++ []) from ⟨_, _, rfl, rfl, rfl⟩)) (fun a A590 q591 w _ hE h592 hS => ?_)) rfl
     obtain ⟨D594, q597, le595, hS, h598, h596⟩ := hS.lent h592
     have hS := hS.pk (.c 1 rfl (.c 0 rfl .n)) rfl
     obtain ⟨l599, h600, hf⟩ := bind_some hf
     refine at_op (g_append (K := (kdInt .u8)) (e := 5) (bytes := 1) (l := y516.2) (m := ([(bor .u8 (IntKind.wrap .u8 (Int.tmod y516.1 128)) (128 : Int))] : List Int)) rfl rfl rfl rfl hE rfl hS rfl rfl (by kernel_rfl) rfl rfl (h522.mono le595) h596 h600 (fun a A601 c602 q603 w _ hE h604 hS => ?_)) rfl
     refine sN 1 8 [(3, .slice A601 (List.length (l599)) c602)] hE (fun a hE => ?_)
     refine at_end rfl ?_
     refine region_at ?_
     refine sN 3 3 [(0, .int .i64 ((Int.fdiv y516.1 (2 ^ 7))))] hE (fun a hE => ?_)
     refine at_end rfl ?_
     have hS := hS.pk (.c 0 rfl .n) rfl
     exact ⟨((Int.fdiv y516.1 (2 ^ 7)), l599), A601, c602, q603, D594, hE.weak (by kernel_rfl), hS, (le2 le518 le595), h604, hf⟩
    ·replace hf := cond_f hb hf
     clear hb
     refine wpIn_exit ?_
     obtain rfl := Option.some.inj hf
     exact ⟨y516.2, A519, c520, q521, D517, hE.weak (by kernel_rfl), hS, le518, h522, rfl⟩
set_option maxRecDepth 100000 in
set_option maxHeartbeats 4000000 in
theorem rec_forms.calls {K : Nat} {g w0 : World} {D0 : Snap} {r : Unit} (hf : rec_forms.f K = some r) (hS0 : St g w0 D0 []) :
  CallsIn (Fw none) 0 Tryd.prog 67 (List.toArray []) w0 (fun e w' => ∃ v, e = .returned v ∧ ∃ (D1 : Snap), v = .agg (List.toArray (([.nilFunc]) ++ (([.func (.func 85) #[] #[]]) ++ (([.func (.func 86) #[] #[]]) ++ (([.func (.func 87) #[] #[]]) ++ (([.func (.func 86) #[] #[]]) ++ (([.func (.func 89) #[] #[]]) ++ (([.func (.func 90) #[] #[]]))))))))) ∧ Stp g w0 D0 [] w' D1 []) := by
 unfold rec_forms.f at hf
 have hS := Stp.refl hS0
 clear hS0
 refine calls_body (n := 8) Tryd.func67 rfl Tryd.ntmps67 rfl (fun a hE => ?_)
 have hE : Env a 8 [] [] := hE
 refine wpIn_seq ?_
 refine region_at ?_
 refine at_op (op_alloc (z := .agg (List.toArray (([.nilFunc]) ++ (([.nilFunc]) ++ (([.nilFunc]) ++ (([.nilFunc]) ++ (([.nilFunc]) ++ (([.nilFunc]) ++ (([.nilFunc])))))))))) rfl rfl rfl rfl hE rfl hS (by kernel_rfl) (fun a b3 w _ hE hS => ?_)) rfl
 refine at_end rfl ?_
 refine wpIn_seq ?_
 refine region_at ?_
 refine at_op (op_tk hE (tk_build ([.func (.func 85) #[] #[]]) rfl rfl rfl rfl hE rfl rfl (by kernel_rfl) (fun a hE => ?_))) rfl
 refine at_op (op_tk hE (tk_build ([.func (.func 86) #[] #[]]) rfl rfl rfl rfl hE rfl rfl (by kernel_rfl) (fun a hE => ?_))) rfl
 refine at_op (op_tk hE (tk_build ([.func (.func 86) #[] #[]]) rfl rfl rfl rfl hE rfl rfl (by kernel_rfl) (fun a hE => ?_))) rfl
 refine at_op (op_tk hE (tk_build ([.func (.func 87) #[] #[]]) rfl rfl rfl rfl hE rfl rfl (by kernel_rfl) (fun a hE => ?_))) rfl
 refine at_op (op_tk hE (tk_build ([.func (.func 89) #[] #[]]) rfl rfl rfl rfl hE rfl rfl (by kernel_rfl) (fun a hE => ?_))) rfl
 refine at_op (op_tk hE (tk_build ([.func (.func 90) #[] #[]]) rfl rfl rfl rfl hE rfl rfl (by kernel_rfl) (fun a hE => ?_))) rfl
 refine at_op (op_tk hE (tk_build (([.nilFunc]) ++ (([.func (.func 85) #[] #[]]) ++ (([.func (.func 86) #[] #[]]) ++ (([.func (.func 87) #[] #[]]) ++ (([.func (.func 86) #[] #[]]) ++ (([.func (.func 89) #[] #[]]) ++ (([.func (.func 90) #[] #[]])))))))) rfl rfl rfl rfl hE rfl rfl (by kernel_rfl) (fun a hE => ?_))) rfl
 refine at_op (op_store (v := .agg (List.toArray (([.nilFunc]) ++ (([.func (.func 85) #[] #[]]) ++ (([.func (.func 86) #[] #[]]) ++ (([.func (.func 87) #[] #[]]) ++ (([.func (.func 86) #[] #[]]) ++ (([.func (.func 89) #[] #[]]) ++ (([.func (.func 90) #[] #[]])))))))))) (([.nilFunc]) ++ (([.func (.func 85) #[] #[]]) ++ (([.func (.func 86) #[] #[]]) ++ (([.func (.func 87) #[] #[]]) ++ (([.func (.func 86) #[] #[]]) ++ (([.func (.func 89) #[] #[]]) ++ (([.func (.func 90) #[] #[]])))))))) rfl rfl rfl rfl hE hS rfl rfl (by kernel_rfl) (by kernel_rfl) (by kernel_rfl) (by kernel_rfl) (by kernel_rfl) (fun a w _ hE hS => ?_)) rfl
 refine at_end rfl ?_
 refine wpIn_ret ?_
 obtain rfl := Option.some.inj hf
 repeat (with_reducible first | refine then_ret ?_ | refine block_ret ?_ | refine qx_ret ?_)
 refine ret_gen ([.agg (List.toArray (([.nilFunc]) ++ (([.func (.func 85) #[] #[]]) ++ (([.func (.func 86) #[] #[]]) ++ (([.func (.func 87) #[] #[]]) ++ (([.func (.func 86) #[] #[]]) ++ (([.func (.func 89) #[] #[]]) ++ (([.func (.func 90) #[] #[]])))))))))]) hE (by rw [show Tryd.f67.results.toList = [.cell 0 80] from rfl]; exact ⟨_, _, _, 0, _, _, rfl, rfl, hS.heapAt (j := 0) rfl, by kernel_rfl, rfl⟩) ?_
 have hS := hS.pk .n rfl
 exact ⟨_, rfl, D0, rfl, hS⟩
set_option maxRecDepth 100000 in
set_option maxHeartbeats 4000000 in
theorem rec_numbers.calls {K : Nat} {g w0 : World} {D0 : Snap} {x1 : (List Int)} {A2 : Option Addr} {c3 : Nat} {r : ((List Int))} (hf : rec_numbers.f K x1 = some r) (hS0 : St g w0 D0 []) (h4 : Sl (kdInt .i64) D0 A2 c3 (x1)) :
  CallsIn (Fw none) 0 Tryd.prog 88 (List.toArray [.slice A2 (List.length (x1)) c3]) w0 (fun e w' => ∃ v, e = .returned v ∧ ∃ (D1 : Snap) (A505 : Option Addr) (c506 : Nat) (q507 : Blk), v = .slice A505 (List.length (r)) c506 ∧ Stp g w0 D0 [] w' D1 [q507] ∧ OwnD (kdInt .u8) 5 D1 A505 c506 (r) q507) := by
 unfold rec_numbers.f at hf
 have hS := Stp.refl hS0
 clear hS0
 refine calls_body (n := 18) Tryd.func88 rfl Tryd.ntmps88 rfl (fun a hE => ?_)
 have hE : Env a 18 [] [(0, .slice A2 (List.length (x1)) c3)] := hE
 refine wpIn_seq ?_
 refine region_at ?_
 refine sN 1 1 [(2, .slice none 0 0)] hE (fun a hE => ?_)
 refine at_end rfl ?_
 refine wpIn_seq ?_
 refine region_at ?_
 refine sN 1 1 [(3, .slice none 0 0)] hE (fun a hE => ?_)
 refine at_end rfl ?_
 refine wpIn_seq ?_
 refine wpIn_seq ?_
 refine region_at ?_
 refine sN 3 3 [(6, .slice A2 (List.length (x1)) c3), (7, .int .i64 (((List.length (x1) : Nat) : Int))), (8, .int .i64 ((0 : Int)))] hE (fun a hE => ?_)
 refine at_end rfl ?_
 obtain ⟨s939, hf, hs940⟩ := bind_some hf
 have hS := hS.nils
 refine block_loop (fun a w => ∃ (z931 : (List Int)), ∃ (A934 : Option Addr), ∃ (c935 : Nat), ∃ (q936 : Blk), ∃ (D932 : Snap), Env a 18 [] [(3, .slice A934 (List.length (z931)) c935)] ∧ Stp g w0 D0 [] w D932 [q936] ∧ Snap.le D0 D932 ∧ OwnD (kdInt .u8) 5 D932 A934 c935 (z931) q936 ∧ z931 = s939) (fun k a w => ∃ (y847 : (List Int) × Int), ∃ (A850 : Option Addr), ∃ (c851 : Nat), ∃ (q852 : Blk), ∃ (D848 : Snap), Env a 18 [] [(3, .slice A850 (List.length (y847.1)) c851), (6, .slice A2 (List.length (x1)) c3), (7, .int .i64 (((List.length (x1) : Nat) : Int))), (8, .int .i64 (y847.2))] ∧ Stp g w0 D0 [] w D848 [q852] ∧ Snap.le D0 D848 ∧ OwnD (kdInt .u8) 5 D848 A850 c851 (y847.1) q852 ∧ rec_numbers_l1.l K x1 k y847 = some s939) K ?_ ?_ ?_
 ·exact ⟨(([] : List Int), (0 : Int)), none, 0, none, D0, hE.weak (by kernel_rfl), hS, Snap.le.refl _, (OwnD.nil (kdInt .u8) 5 D0), hf⟩
 ·clear hE hS hf
  rintro a w ⟨z931, A934, c935, q936, D932, hE, hS, le933, h937, rfl⟩
  have hf := hs940
  clear hs940
  refine wpIn_seq ?_
  refine region_at ?_
  refine sN 2 2 [(2, .slice A934 (List.length (z931)) c935)] hE (fun a hE => ?_)
  refine at_end rfl ?_
  refine wpIn_ret ?_
  obtain rfl := Option.some.inj hf
  repeat (with_reducible first | refine then_ret ?_ | refine block_ret ?_ | refine qx_ret ?_)
  refine ret_gen ([.slice A934 (List.length (z931)) c935]) hE (by rw [show Tryd.f88.results.toList = [.tmp 2] from rfl]; exact ⟨_, _, rfl, rfl, rfl⟩) ?_
  exact ⟨_, rfl, D932, A934, c935, q936, rfl, hS, h937⟩
 ·clear hE hS hf
  rintro k a w ⟨y847, A850, c851, q852, D848, hE, hS, le849, h853, hf⟩
  obtain ⟨k, rfl, hf⟩ := rec_numbers_l1.some _ hf
  refine ⟨k, rfl, ?_⟩
  unfold rec_numbers_l1.b at hf
  refine wpIn_seq ?_
  refine region_at ?_
  refine sN 1 1 [(9, .bool ((decide (y847.2 < ((List.length (x1) : Nat) : Int)))))] hE (fun a hE => ?_)
  refine at_end rfl ?_
  refine wpIn_seq ?_
  refine cond_split hE (b := (decide (y847.2 < ((List.length (x1) : Nat) : Int)))) rfl (fun hb => ?_) (fun hb => ?_)
  ·replace hf := cond_t hb hf
   clear hb
   refine wpIn_skip ?_
   refine wpIn_seq ?_
   refine wpIn_block ?_
   refine wpIn_seq ?_
   refine region_at ?_
   obtain ⟨x975, h976, hf⟩ := bind_some hf
   refine at_op (op_tk hE (g_index (K := (kdInt .i64)) (e := 3) (by_ := 8) (zl := 1) rfl rfl rfl rfl hE rfl rfl rfl (by kernel_rfl) rfl (h4.mono le849) h976 (fun a b977 o978 hE h979 => ?_))) rfl
   obtain ⟨cs980, C981, T982, fr983, hr984, hb985, hc986⟩ := h979
   obtain rfl := hr984
   refine at_op (op_tk hE (tk_loadX (off0 := o978) (off := 0) (c := [.int .i64 (x975)]) (.int .i64 (x975)) rfl rfl rfl rfl hE rfl hS rfl hb985 hc986 (by kernel_rfl) (by kernel_rfl) (kD hS dn_nil) (fun a hE => ?_))) rfl
   refine sN 1 3 [(5, .int .i64 (x975))] hE (fun a hE => ?_)
   refine at_end rfl ?_
   refine region_at ?_
   refine sN 2 2 [(12, .slice A850 (List.length (y847.1)) c851), (13, .int .i64 (x975))] hE (fun a hE => ?_)
   obtain ⟨r987, h988, hf⟩ := bind_some hf
   refine aC rfl rfl rfl rfl hE rfl rfl rfl rfl (wire_Num.calls (g := g) h988 (hS.st.fore (L := [])) ) (fun a v w hR hE => ?_)
   obtain ⟨D989, A991, c992, q993, rfl, hS1, h994⟩ := hR
   have le996 := hS1.dle
   have hS := hS.callR hS1 rfl (.c .n)
   clear hS1
   obtain ⟨D997, q1000, le998, hS, h1001, h999⟩ := hS.lent h994
   have hS := hS.pk (.c 1 rfl (.c 0 rfl .n)) rfl
   obtain ⟨l1002, h1003, hf⟩ := bind_some hf
   refine at_op (g_append (K := (kdInt .u8)) (e := 5) (bytes := 1) (l := y847.1) (m := r987) rfl rfl rfl rfl hE rfl hS rfl rfl (by kernel_rfl) rfl rfl (h853.mono (le2 le996 le998)) h999 h1003 (fun a A1004 c1005 q1006 w _ hE h1007 hS => ?_)) rfl
   refine sN 1 5 [(3, .slice A1004 (List.length (l1002)) c1005)] hE (fun a hE => ?_)
   refine at_end rfl ?_
   refine region_at ?_
   refine sN 2 2 [(8, .int .i64 ((IntKind.wrap .i64 (y847.2 + (1 : Int)))))] hE (fun a hE => ?_)
   refine at_end rfl ?_
   have hS := hS.pk (.c 0 rfl .n) rfl
   exact ⟨(l1002, (IntKind.wrap .i64 (y847.2 + (1 : Int)))), A1004, c1005, q1006, D997, hE.weak (by kernel_rfl), hS, (le2 (le2 le849 le996) le998), h1007, hf⟩
  ·replace hf := cond_f hb hf
   clear hb
   refine wpIn_exit ?_
   obtain rfl := Option.some.inj hf
   exact ⟨y847.1, A850, c851, q852, D848, hE.weak (by kernel_rfl), hS, le849, h853, rfl⟩
set_option maxRecDepth 100000 in
set_option maxHeartbeats 4000000 in
theorem rec_begin.calls {K : Nat} {g w0 : World} {D0 : Snap} {x1 : T_api_Rec} {A2 : Option Addr} {c3 : Nat} {A5 : Option Addr} {c6 : Nat} {r : ((List Int))} (hf : rec_begin.f K x1 = some r) (hS0 : St g w0 D0 []) (h4 : Sl kd_T_api_Step D0 A2 c3 (x1.fSteps)) (h7 : Sl (kdInt .u8) D0 A5 c6 (x1.fData)) :
  CallsIn (Fw none) 0 Tryd.prog 85 (List.toArray [.agg (List.toArray (c_T_api_Rec (x1) A2 c3 A5 c6))]) w0 (fun e w' => ∃ v, e = .returned v ∧ ∃ (D1 : Snap) (A659 : Option Addr) (c660 : Nat) (q661 : Blk), v = .slice A659 (List.length (r)) c660 ∧ Stp g w0 D0 [] w' D1 [q661] ∧ OwnD (kdInt .u8) 5 D1 A659 c660 (r) q661) := by
 unfold rec_begin.f at hf
 have hS := Stp.refl hS0
 clear hS0
 refine calls_body (n := 30) Tryd.func85 rfl Tryd.ntmps85 rfl (fun a hE => ?_)
 have hE : Env a 30 [] [(0, .agg (List.toArray (c_T_api_Rec (x1) A2 c3 A5 c6)))] := hE
 refine wpIn_seq ?_
 refine region_at ?_
 refine at_op (op_box rfl rfl rfl rfl hE rfl hS rfl (fun a b664 w _ hE hS => ?_)) rfl
 refine sN 1 2 [(2, .slice none 0 0)] hE (fun a hE => ?_)
 refine at_end rfl ?_
 refine wpIn_seq ?_
 refine region_at ?_
 refine aF 1 3 1 hE (fun a hE => ?_)
 refine aL 0 (.int .i64 (x1.fSaga)) hE hS (fun a hE => ?_)
 refine aF 42 24 42 hE (fun a hE => ?_)
 refine aL 0 (.slice A2 (List.length (x1.fSteps)) c3) hE hS (fun a hE => ?_)
 refine sN 1 5 [(10, .int .i64 (((List.length (x1.fSteps) : Nat) : Int)))] hE (fun a hE => ?_)
 refine at_op (op_buildSlice (K := (kdInt .i64)) (e := 3) (cs := [.int .i64 (x1.fSaga)] ++ ([.int .i64 (((List.length (x1.fSteps) : Nat) : Int))] ++ [])) ([x1.fSaga, ((List.length (x1.fSteps) : Nat) : Int)] : List Int) rfl rfl rfl rfl hE rfl hS rfl (by kernel_rfl) rfl rfl (by exact (show RL (kdInt .i64) D0 ([x1.fSaga, ((List.length (x1.fSteps) : Nat) : Int)] : List Int) ([.int .i64 (x1.fSaga)] ++ ([.int .i64 (((List.length (x1.fSteps) : Nat) : Int))] ++ [])) from ⟨_, _, rfl, rfl, ⟨_, _, rfl, rfl, rfl⟩⟩)) (fun a A666 q667 w _ hE h668 hS => ?_)) rfl
 obtain ⟨D670, q673, le671, hS, h674, h672⟩ := hS.lent h668
 obtain ⟨r675, h676, hf⟩ := bind_some hf
 refine aC rfl rfl rfl rfl hE rfl rfl rfl rfl (rec_numbers.calls (g := g) h676 (hS.st.fore (L := [])) h672) (fun a v w hR hE => ?_)
 obtain ⟨D677, A679, c680, q681, rfl, hS1, h682⟩ := hR
 have le684 := hS1.dle
 have hS := hS.callR hS1 rfl (.c .n)
 clear hS1
 refine sN 1 8 [(3, .slice A679 (List.length (r675)) c680)] hE (fun a hE => ?_)
 refine at_end rfl ?_
 refine wpIn_seq ?_
 refine wpIn_seq ?_
 refine region_at ?_
 refine aF 42 24 42 hE (fun a hE => ?_)
 refine aL 2 (.slice A2 (List.length (x1.fSteps)) c3) hE hS (fun a hE => ?_)
 refine sN 2 4 [(15, .int .i64 (((List.length (x1.fSteps) : Nat) : Int))), (16, .int .i64 ((0 : Int)))] hE (fun a hE => ?_)
 refine at_end rfl ?_
 obtain ⟨s1223, hf, hs1224⟩ := bind_some hf
 have hS := hS.pk (.c 0 rfl .n) rfl
 refine block_loop (fun a w => ∃ (z1215 : (List Int)), ∃ (A1218 : Option Addr), ∃ (c1219 : Nat), ∃ (q1220 : Blk), ∃ (D1216 : Snap), Env a 30 [] [(3, .slice A1218 (List.length (z1215)) c1219)] ∧ Stp g w0 D0 [] w D1216 [q1220] ∧ Snap.le D677 D1216 ∧ OwnD (kdInt .u8) 5 D1216 A1218 c1219 (z1215) q1220 ∧ z1215 = s1223) (fun k a w => ∃ (y1109 : (List Int) × Int), ∃ (A1112 : Option Addr), ∃ (c1113 : Nat), ∃ (q1114 : Blk), ∃ (D1110 : Snap), Env a 30 [] [(3, .slice A1112 (List.length (y1109.1)) c1113), (14, .slice A2 (List.length (x1.fSteps)) c3), (15, .int .i64 (((List.length (x1.fSteps) : Nat) : Int))), (16, .int .i64 (y1109.2))] ∧ Stp g w0 D0 [] w D1110 [q1114] ∧ Snap.le D677 D1110 ∧ OwnD (kdInt .u8) 5 D1110 A1112 c1113 (y1109.1) q1114 ∧ rec_begin_l1.l K x1 k y1109 = some s1223) K ?_ ?_ ?_
 ·exact ⟨(r675, (0 : Int)), A679, c680, q681, D677, hE.weak (by kernel_rfl), hS, Snap.le.refl _, h682, hf⟩
 ·clear hE hS hf
  rintro a w ⟨z1215, A1218, c1219, q1220, D1216, hE, hS, le1217, h1221, rfl⟩
  have hf := hs1224
  clear hs1224
  refine wpIn_seq ?_
  refine region_at ?_
  refine sN 2 2 [(2, .slice A1218 (List.length (z1215)) c1219)] hE (fun a hE => ?_)
  refine at_end rfl ?_
  refine wpIn_ret ?_
  obtain rfl := Option.some.inj hf
  repeat (with_reducible first | refine then_ret ?_ | refine block_ret ?_ | refine qx_ret ?_)
  refine ret_gen ([.slice A1218 (List.length (z1215)) c1219]) hE (by rw [show Tryd.f85.results.toList = [.tmp 2] from rfl]; exact ⟨_, _, rfl, rfl, rfl⟩) ?_
  exact ⟨_, rfl, D1216, A1218, c1219, q1220, rfl, hS, h1221⟩
 ·clear hE hS hf
  rintro k a w ⟨y1109, A1112, c1113, q1114, D1110, hE, hS, le1111, h1115, hf⟩
  obtain ⟨k, rfl, hf⟩ := rec_begin_l1.some _ hf
  refine ⟨k, rfl, ?_⟩
  unfold rec_begin_l1.b at hf
  refine wpIn_seq ?_
  refine region_at ?_
  refine sN 1 1 [(17, .bool ((decide (y1109.2 < ((List.length (x1.fSteps) : Nat) : Int)))))] hE (fun a hE => ?_)
  refine at_end rfl ?_
  refine wpIn_seq ?_
  refine cond_split hE (b := (decide (y1109.2 < ((List.length (x1.fSteps) : Nat) : Int)))) rfl (fun hb => ?_) (fun hb => ?_)
  ·replace hf := cond_t hb hf
   clear hb
   refine wpIn_skip ?_
   refine wpIn_seq ?_
   refine wpIn_block ?_
   refine wpIn_seq ?_
   refine region_at ?_
   obtain ⟨x1270, h1271, hf⟩ := bind_some hf
   refine at_op (op_tk hE (g_index (K := kd_T_api_Step) (e := 37) (by_ := 16) (zl := 2) rfl rfl rfl rfl hE rfl rfl rfl (by kernel_rfl) rfl (h4.mono (le2 (le2 le671 le684) le1111)) h1271 (fun a b1272 o1273 hE h1274 => ?_))) rfl
   obtain ⟨cs1275, C1276, T1277, fr1278, hr1279, hb1280, hc1281⟩ := h1274
   obtain ⟨rfl⟩ := kd_T_api_Step_el hr1279
   refine at_op (op_tk hE (tk_loadX (off0 := o1273) (off := 0) (c := c_T_api_Step (x1270)) (.agg (List.toArray (c_T_api_Step (x1270)))) rfl rfl rfl rfl hE rfl hS rfl hb1280 hc1281 (by kernel_rfl) (by kernel_rfl) (kD hS dn_nil) (fun a hE => ?_))) rfl
   refine at_op (op_alloc (z := .agg (List.toArray (c_T_api_Step ((T_api_Step.mk ((0 : Int)) ((0 : Int))))))) rfl rfl rfl rfl hE rfl hS (by kernel_rfl) (fun a b1282 w _ hE hS => ?_)) rfl
   refine at_op (op_store (v := .agg (List.toArray (c_T_api_Step (x1270)))) (c_T_api_Step (x1270)) rfl rfl rfl rfl hE hS rfl rfl (by kernel_rfl) (by kernel_rfl) (by kernel_rfl) (by kernel_rfl) (by kernel_rfl) (fun a w _ hE hS => ?_)) rfl
   refine at_end rfl ?_
   refine region_at ?_
   refine sN 1 1 [(20, .slice A1112 (List.length (y1109.1)) c1113)] hE (fun a hE => ?_)
   refine aF 0 3 0 hE (fun a hE => ?_)
   refine aL 0 (.int .i64 (x1270.fPart)) hE hS (fun a hE => ?_)
   refine aF 1 3 1 hE (fun a hE => ?_)
   refine aL 0 (.int .i64 (x1270.fKind)) hE hS (fun a hE => ?_)
   refine at_op (op_buildSlice (K := (kdInt .i64)) (e := 3) (cs := [.int .i64 (x1270.fPart)] ++ ([.int .i64 (x1270.fKind)] ++ [])) ([x1270.fPart, x1270.fKind] : List Int) rfl rfl rfl rfl hE rfl hS rfl (by kernel_rfl) rfl rfl (by exact (show RL (kdInt .i64) D1110 ([x1270.fPart, x1270.fKind] : List Int) ([.int .i64 (x1270.fPart)] ++ ([.int .i64 (x1270.fKind)] ++ [])) from ⟨_, _, rfl, rfl, ⟨_, _, rfl, rfl, rfl⟩⟩)) (fun a A1284 q1285 w _ hE h1286 hS => ?_)) rfl
   obtain ⟨D1288, q1291, le1289, hS, h1292, h1290⟩ := hS.lent h1286
   obtain ⟨r1293, h1294, hf⟩ := bind_some hf
   refine aC rfl rfl rfl rfl hE rfl rfl rfl rfl (rec_numbers.calls (g := g) h1294 (hS.st.fore (L := [])) h1290) (fun a v w hR hE => ?_)
   obtain ⟨D1295, A1297, c1298, q1299, rfl, hS1, h1300⟩ := hR
   have le1302 := hS1.dle
   have hS := hS.callR hS1 rfl (.c .n)
   clear hS1
   obtain ⟨D1303, q1306, le1304, hS, h1307, h1305⟩ := hS.lent h1300
   have hS := hS.pk (.c 3 rfl (.c 0 rfl (.c 1 rfl (.c 2 rfl .n)))) rfl
   obtain ⟨l1308, h1309, hf⟩ := bind_some hf
   refine at_op (g_append (K := (kdInt .u8)) (e := 5) (bytes := 1) (l := y1109.1) (m := r1293) rfl rfl rfl rfl hE rfl hS rfl rfl (by kernel_rfl) rfl rfl (h1115.mono (le2 (le2 le1289 le1302) le1304)) h1305 h1309 (fun a A1310 c1311 q1312 w _ hE h1313 hS => ?_)) rfl
   refine sN 1 9 [(3, .slice A1310 (List.length (l1308)) c1311)] hE (fun a hE => ?_)
   refine at_end rfl ?_
   refine region_at ?_
   refine sN 2 2 [(16, .int .i64 ((IntKind.wrap .i64 (y1109.2 + (1 : Int)))))] hE (fun a hE => ?_)
   refine at_end rfl ?_
   have hS := hS.pk (.c 0 rfl .n) rfl
   exact ⟨(l1308, (IntKind.wrap .i64 (y1109.2 + (1 : Int)))), A1310, c1311, q1312, D1303, hE.weak (by kernel_rfl), hS, (le2 (le2 (le2 le1111 le1289) le1302) le1304), h1313, hf⟩
  ·replace hf := cond_f hb hf
   clear hb
   refine wpIn_exit ?_
   obtain rfl := Option.some.inj hf
   exact ⟨y1109.1, A1112, c1113, q1114, D1110, hE.weak (by kernel_rfl), hS, le1111, h1115, rfl⟩
set_option maxRecDepth 100000 in
set_option maxHeartbeats 4000000 in
theorem slices_Grow_byte_byte.calls {K : Nat} {g w0 : World} {D0 : Snap} {x1 : Int} {r : ((List Int))} (hf : slices_Grow_byte_byte.f K x1 = some r) (hS0 : St g w0 D0 []) :
  CallsIn (Fw none) 0 Tryd.prog 68 (List.toArray [.slice none 0 0, .int .i64 (x1)]) w0 (fun e w' => ∃ v, e = .returned v ∧ ∃ (D1 : Snap) (A22 : Option Addr) (c23 : Nat) (q24 : Blk), v = .slice A22 (List.length (r)) c23 ∧ Stp g w0 D0 [] w' D1 [q24] ∧ OwnD (kdInt .u8) 5 D1 A22 c23 (r) q24) := by
 unfold slices_Grow_byte_byte.f at hf
 have hS := Stp.refl hS0
 clear hS0
 refine calls_body (n := 27) Tryd.func68 rfl Tryd.ntmps68 rfl (fun a hE => ?_)
 have hE : Env a 27 [] [(0, .slice none 0 0), (1, .int .i64 (x1))] := hE
 refine wpIn_seq ?_
 refine region_at ?_
 refine sN 1 1 [(4, .slice none 0 0)] hE (fun a hE => ?_)
 refine at_end rfl ?_
 refine wpIn_seq ?_
 refine wpIn_seq ?_
 refine region_at ?_
 refine sN 2 2 [(6, .bool ((decide (x1 < (0 : Int)))))] hE (fun a hE => ?_)
 refine at_end rfl ?_
 refine cond_split hE (b := (decide (x1 < (0 : Int)))) rfl (fun hb => ?_) (fun hb => ?_)
 ·replace hf := cond_t hb hf
  clear hb
  refine region_at ?_
  cases hf
 ·replace hf := cond_f hb hf
  clear hb
  refine wpIn_skip ?_
  refine wpIn_seq ?_
  refine wpIn_seq ?_
  refine region_at ?_
  refine sN 2 2 [(8, .int .i64 (x1)), (9, .slice none 0 0)] hE (fun a hE => ?_)
  refine at_op (op_tk hE (tk_capNil rfl rfl rfl rfl hE rfl rfl (by kernel_rfl) (fun a hE => ?_))) rfl
  refine sN 5 8 [(1, .int .i64 ((IntKind.wrap .i64 (x1 - (IntKind.wrap .i64 (((0 : Nat) : Int) - ((0 : Nat) : Int)))))))] hE (fun a hE => ?_)
  refine at_end rfl ?_
  refine wpIn_seq ?_
  refine region_at ?_
  refine sN 2 2 [(16, .bool ((decide ((0 : Int) < (IntKind.wrap .i64 (x1 - (IntKind.wrap .i64 (((0 : Nat) : Int) - ((0 : Nat) : Int)))))))))] hE (fun a hE => ?_)
  refine at_end rfl ?_
  refine cond_split hE (b := (decide ((0 : Int) < (IntKind.wrap .i64 (x1 - (IntKind.wrap .i64 (((0 : Nat) : Int) - ((0 : Nat) : Int)))))))) rfl (fun hb => ?_) (fun hb => ?_)
  ·replace hf := cond_t hb hf
   clear hb
   refine region_at ?_
   refine sN 2 2 [(17, .slice none 0 0), (18, .slice none 0 0)] hE (fun a hE => ?_)
   refine at_op (op_tk hE (tk_capNil rfl rfl rfl rfl hE rfl rfl (by kernel_rfl) (fun a hE => ?_))) rfl
   refine at_op (op_tk hE (tk_sliceNil (e := 5) (sz := 1) (by_ := 1) (zl := 1) rfl rfl rfl rfl hE rfl rfl (by kernel_rfl) rfl ⟨_, rfl⟩ (fun a hE => ?_))) rfl
   refine sN 1 5 [(21, .int .i64 ((IntKind.wrap .i64 (x1 - (IntKind.wrap .i64 (((0 : Nat) : Int) - ((0 : Nat) : Int)))))))] hE (fun a hE => ?_)
   obtain ⟨l37, h38, hf⟩ := bind_some hf
   refine at_op (op_appendZ (K := (kdInt .u8)) (e := 5) (bytes := 1) (z := (0 : Int)) (cz := [.int .u8 ((0 : Int))]) rfl rfl rfl rfl hE rfl hS rfl rfl (by kernel_rfl) (by kernel_rfl) (by kernel_rfl) rfl rfl rfl h38 (fun a A39 c40 q41 w _ hE h42 hS => ?_)) rfl
   refine sN 2 8 [(24, .int .i64 (((0 : Nat) : Int)))] hE (fun a hE => ?_)
   obtain ⟨l44, h45, hf⟩ := bind_some hf
   refine at_op (op_tk hE (op_prefixO (K := (kdInt .u8)) (T := 5) (by_ := 1) (zl := 1) rfl rfl rfl rfl hE rfl rfl (by kernel_rfl) ⟨_, rfl⟩ h42 h45 (fun a hE h46 => ?_))) rfl
   refine sN 1 10 [(0, .slice A39 (List.length (l44)) c40)] hE (fun a hE => ?_)
   refine at_end rfl ?_
   refine wpIn_seq ?_
   refine region_at ?_
   refine sN 2 2 [(4, .slice A39 (List.length (l44)) c40)] hE (fun a hE => ?_)
   refine at_end rfl ?_
   refine wpIn_ret ?_
   obtain rfl := Option.some.inj hf
   repeat (with_reducible first | refine then_ret ?_ | refine block_ret ?_ | refine qx_ret ?_)
   refine ret_gen ([.slice A39 (List.length (l44)) c40]) hE (by rw [show Tryd.f68.results.toList = [.tmp 4] from rfl]; exact ⟨_, _, rfl, rfl, rfl⟩) ?_
   exact ⟨_, rfl, D0, A39, c40, q41, rfl, hS, h46⟩
  ·replace hf := cond_f hb hf
   clear hb
   refine wpIn_skip ?_
   refine wpIn_seq ?_
   refine region_at ?_
   refine sN 2 2 [(4, .slice none 0 0)] hE (fun a hE => ?_)
   refine at_end rfl ?_
   refine wpIn_ret ?_
   have hS := hS.nils
   obtain rfl := Option.some.inj hf
   repeat (with_reducible first | refine then_ret ?_ | refine block_ret ?_ | refine qx_ret ?_)
   refine ret_gen ([.slice none 0 0]) hE (by rw [show Tryd.f68.results.toList = [.tmp 4] from rfl]; exact ⟨_, _, rfl, rfl, rfl⟩) ?_
   exact ⟨_, rfl, D0, none, 0, none, rfl, hS, (OwnD.nil (kdInt .u8) 5 D0)⟩
set_option maxRecDepth 100000 in
set_option maxHeartbeats 4000000 in
theorem slices_Concat_byte_byte.calls {K : Nat} {g w0 : World} {D0 : Snap} {x1 : (List (List Int))} {A2 : Option Addr} {c3 : Nat} {r : ((List Int))} (hf : slices_Concat_byte_byte.f K x1 = some r) (hS0 : St g w0 D0 []) (h4 : Sl (kdSlice (kdInt .u8)) D0 A2 c3 (x1)) :
  CallsIn (Fw none) 0 Tryd.prog 49 (List.toArray [.slice A2 (List.length (x1)) c3]) w0 (fun e w' => ∃ v, e = .returned v ∧ ∃ (D1 : Snap) (A589 : Option Addr) (c590 : Nat) (q591 : Blk), v = .slice A589 (List.length (r)) c590 ∧ Stp g w0 D0 [] w' D1 [q591] ∧ OwnD (kdInt .u8) 5 D1 A589 c590 (r) q591) := by
 unfold slices_Concat_byte_byte.f at hf
 have hS := Stp.refl hS0
 clear hS0
 refine calls_body (n := 36) Tryd.func49 rfl Tryd.ntmps49 rfl (fun a hE => ?_)
 have hE : Env a 36 [] [(0, .slice A2 (List.length (x1)) c3)] := hE
 refine wpIn_seq ?_
 refine region_at ?_
 refine sN 1 1 [(2, .slice none 0 0)] hE (fun a hE => ?_)
 refine at_end rfl ?_
 refine wpIn_seq ?_
 refine region_at ?_
 refine sN 1 1 [(3, .int .i64 ((0 : Int)))] hE (fun a hE => ?_)
 refine at_end rfl ?_
 refine wpIn_seq ?_
 refine wpIn_seq ?_
 refine region_at ?_
 refine sN 3 3 [(9, .slice A2 (List.length (x1)) c3), (10, .int .i64 (((List.length (x1) : Nat) : Int))), (11, .int .i64 ((0 : Int)))] hE (fun a hE => ?_)
 refine at_end rfl ?_
 obtain ⟨s782, hf, hs783⟩ := bind_some hf
 refine block_loop (fun a w => ∃ (z779 : Int), ∃ (D780 : Snap), Env a 36 [] [(0, .slice A2 (List.length (x1)) c3), (3, .int .i64 (z779))] ∧ Stp g w0 D0 [] w D780 [] ∧ Snap.le D0 D780 ∧ z779 = s782) (fun k a w => ∃ (y743 : Int × Int), ∃ (D744 : Snap), Env a 36 [] [(0, .slice A2 (List.length (x1)) c3), (3, .int .i64 (y743.1)), (9, .slice A2 (List.length (x1)) c3), (10, .int .i64 (((List.length (x1) : Nat) : Int))), (11, .int .i64 (y743.2))] ∧ Stp g w0 D0 [] w D744 [] ∧ Snap.le D0 D744 ∧ slices_Concat_byte_byte_l1.l K x1 k y743 = some s782) K ?_ ?_ ?_
 ·exact ⟨((0 : Int), (0 : Int)), D0, hE.weak (by kernel_rfl), hS, Snap.le.refl _, hf⟩
 ·clear hE hS hf
  rintro a w ⟨z779, D780, hE, hS, le781, rfl⟩
  have hf := hs783
  clear hs783
  refine wpIn_seq ?_
  refine region_at ?_
  refine sN 1 1 [(23, .int .i64 (z779))] hE (fun a hE => ?_)
  obtain ⟨r814, h815, hf⟩ := bind_some hf
  refine aC rfl rfl rfl rfl hE rfl rfl rfl rfl (slices_Grow_byte_byte.calls (g := g) h815 (hS.st.fore (L := [])) ) (fun a v w hR hE => ?_)
  obtain ⟨D816, A818, c819, q820, rfl, hS1, h821⟩ := hR
  have le823 := hS1.dle
  have hS := hS.callR hS1 rfl (.c .n)
  clear hS1
  refine sN 1 3 [(6, .slice A818 (List.length (r814)) c819)] hE (fun a hE => ?_)
  refine at_end rfl ?_
  refine wpIn_seq ?_
  refine wpIn_seq ?_
  refine region_at ?_
  refine sN 3 3 [(25, .slice A2 (List.length (x1)) c3), (26, .int .i64 (((List.length (x1) : Nat) : Int))), (27, .int .i64 ((0 : Int)))] hE (fun a hE => ?_)
  refine at_end rfl ?_
  obtain ⟨s1132, hf, hs1133⟩ := bind_some hf
  refine block_loop (fun a w => ∃ (z1124 : (List Int)), ∃ (A1127 : Option Addr), ∃ (c1128 : Nat), ∃ (q1129 : Blk), ∃ (D1125 : Snap), Env a 36 [] [(6, .slice A1127 (List.length (z1124)) c1128)] ∧ Stp g w0 D0 [] w D1125 [q1129] ∧ Snap.le D816 D1125 ∧ OwnD (kdInt .u8) 5 D1125 A1127 c1128 (z1124) q1129 ∧ z1124 = s1132) (fun k a w => ∃ (y1064 : (List Int) × Int), ∃ (A1067 : Option Addr), ∃ (c1068 : Nat), ∃ (q1069 : Blk), ∃ (D1065 : Snap), Env a 36 [] [(6, .slice A1067 (List.length (y1064.1)) c1068), (25, .slice A2 (List.length (x1)) c3), (26, .int .i64 (((List.length (x1) : Nat) : Int))), (27, .int .i64 (y1064.2))] ∧ Stp g w0 D0 [] w D1065 [q1069] ∧ Snap.le D816 D1065 ∧ OwnD (kdInt .u8) 5 D1065 A1067 c1068 (y1064.1) q1069 ∧ slices_Concat_byte_byte_l2.l K x1 k y1064 = some s1132) K ?_ ?_ ?_
  ·exact ⟨(r814, (0 : Int)), A818, c819, q820, D816, hE.weak (by kernel_rfl), hS, Snap.le.refl _, h821, hf⟩
  ·clear hE hS hf
   rintro a w ⟨z1124, A1127, c1128, q1129, D1125, hE, hS, le1126, h1130, rfl⟩
   have hf := hs1133
   clear hs1133
   refine wpIn_seq ?_
   refine region_at ?_
   refine sN 2 2 [(2, .slice A1127 (List.length (z1124)) c1128)] hE (fun a hE => ?_)
   refine at_end rfl ?_
   refine wpIn_ret ?_
   obtain rfl := Option.some.inj hf
   repeat (with_reducible first | refine then_ret ?_ | refine block_ret ?_ | refine qx_ret ?_)
   refine ret_gen ([.slice A1127 (List.length (z1124)) c1128]) hE (by rw [show Tryd.f49.results.toList = [.tmp 2] from rfl]; exact ⟨_, _, rfl, rfl, rfl⟩) ?_
   exact ⟨_, rfl, D1125, A1127, c1128, q1129, rfl, hS, h1130⟩
  ·clear hE hS hf
   rintro k a w ⟨y1064, A1067, c1068, q1069, D1065, hE, hS, le1066, h1070, hf⟩
   obtain ⟨k, rfl, hf⟩ := slices_Concat_byte_byte_l2.some _ hf
   refine ⟨k, rfl, ?_⟩
   unfold slices_Concat_byte_byte_l2.b at hf
   refine wpIn_seq ?_
   refine region_at ?_
   refine sN 1 1 [(28, .bool ((decide (y1064.2 < ((List.length (x1) : Nat) : Int)))))] hE (fun a hE => ?_)
   refine at_end rfl ?_
   refine wpIn_seq ?_
   refine cond_split hE (b := (decide (y1064.2 < ((List.length (x1) : Nat) : Int)))) rfl (fun hb => ?_) (fun hb => ?_)
   ·replace hf := cond_t hb hf
    clear hb
    refine wpIn_skip ?_
    refine wpIn_seq ?_
    refine wpIn_block ?_
    refine wpIn_seq ?_
    refine region_at ?_
    obtain ⟨x1156, h1157, hf⟩ := bind_some hf
    refine at_op (op_tk hE (g_index (K := (kdSlice (kdInt .u8))) (e := 25) (by_ := 24) (zl := 1) rfl rfl rfl rfl hE rfl rfl rfl (by kernel_rfl) rfl (h4.mono (le2 (le2 le781 le823) le1066)) h1157 (fun a b1158 o1159 hE h1160 => ?_))) rfl
    obtain ⟨cs1161, C1162, T1163, fr1164, hr1165, hb1166, hc1167⟩ := h1160
    obtain ⟨A1168, c1169, rfl, h1170⟩ := hr1165
    refine at_op (op_tk hE (tk_loadX (off0 := o1159) (off := 0) (c := [.slice A1168 (List.length (x1156)) c1169]) (.slice A1168 (List.length (x1156)) c1169) rfl rfl rfl rfl hE rfl hS rfl hb1166 hc1167 (by kernel_rfl) (by kernel_rfl) (kD hS dn_nil) (fun a hE => ?_))) rfl
    refine sN 1 3 [(8, .slice A1168 (List.length (x1156)) c1169)] hE (fun a hE => ?_)
    refine at_end rfl ?_
    refine region_at ?_
    refine sN 2 2 [(31, .slice A1067 (List.length (y1064.1)) c1068), (32, .slice A1168 (List.length (x1156)) c1169)] hE (fun a hE => ?_)
    obtain ⟨l1171, h1172, hf⟩ := bind_some hf
    refine at_op (g_append (K := (kdInt .u8)) (e := 5) (bytes := 1) (l := y1064.1) (m := x1156) rfl rfl rfl rfl hE rfl hS rfl rfl (by kernel_rfl) rfl rfl h1070 h1170 h1172 (fun a A1173 c1174 q1175 w _ hE h1176 hS => ?_)) rfl
    refine sN 1 4 [(6, .slice A1173 (List.length (l1171)) c1174)] hE (fun a hE => ?_)
    refine at_end rfl ?_
    refine region_at ?_
    refine sN 2 2 [(27, .int .i64 ((IntKind.wrap .i64 (y1064.2 + (1 : Int)))))] hE (fun a hE => ?_)
    refine at_end rfl ?_
    exact ⟨(l1171, (IntKind.wrap .i64 (y1064.2 + (1 : Int)))), A1173, c1174, q1175, D1065, hE.weak (by kernel_rfl), hS, le1066, h1176, hf⟩
   ·replace hf := cond_f hb hf
    clear hb
    refine wpIn_exit ?_
    obtain rfl := Option.some.inj hf
    exact ⟨y1064.1, A1067, c1068, q1069, D1065, hE.weak (by kernel_rfl), hS, le1066, h1070, rfl⟩
 ·clear hE hS hf
  rintro k a w ⟨y743, D744, hE, hS, le745, hf⟩
  obtain ⟨k, rfl, hf⟩ := slices_Concat_byte_byte_l1.some _ hf
  refine ⟨k, rfl, ?_⟩
  unfold slices_Concat_byte_byte_l1.b at hf
  refine wpIn_seq ?_
  refine region_at ?_
  refine sN 1 1 [(12, .bool ((decide (y743.2 < ((List.length (x1) : Nat) : Int)))))] hE (fun a hE => ?_)
  refine at_end rfl ?_
  refine wpIn_seq ?_
  refine cond_split hE (b := (decide (y743.2 < ((List.length (x1) : Nat) : Int)))) rfl (fun hb => ?_) (fun hb => ?_)
  ·replace hf := cond_t hb hf
   clear hb
   refine wpIn_skip ?_
   refine wpIn_seq ?_
   refine wpIn_block ?_
   refine wpIn_seq ?_
   refine region_at ?_
   obtain ⟨x799, h800, hf⟩ := bind_some hf
   refine at_op (op_tk hE (g_index (K := (kdSlice (kdInt .u8))) (e := 25) (by_ := 24) (zl := 1) rfl rfl rfl rfl hE rfl rfl rfl (by kernel_rfl) rfl (h4.mono le745) h800 (fun a b801 o802 hE h803 => ?_))) rfl
   obtain ⟨cs804, C805, T806, fr807, hr808, hb809, hc810⟩ := h803
   obtain ⟨A811, c812, rfl, h813⟩ := hr808
   refine at_op (op_tk hE (tk_loadX (off0 := o802) (off := 0) (c := [.slice A811 (List.length (x799)) c812]) (.slice A811 (List.length (x799)) c812) rfl rfl rfl rfl hE rfl hS rfl hb809 hc810 (by kernel_rfl) (by kernel_rfl) (kD hS dn_nil) (fun a hE => ?_))) rfl
   refine sN 1 3 [(5, .slice A811 (List.length (x799)) c812)] hE (fun a hE => ?_)
   refine at_end rfl ?_
   refine wpIn_seq ?_
   refine region_at ?_
   refine sN 5 5 [(3, .int .i64 ((IntKind.wrap .i64 (y743.1 + ((List.length (x799) : Nat) : Int)))))] hE (fun a hE => ?_)
   refine at_end rfl ?_
   refine wpIn_seq ?_
   refine region_at ?_
   refine sN 2 2 [(20, .bool ((decide ((IntKind.wrap .i64 (y743.1 + ((List.length (x799) : Nat) : Int))) < (0 : Int)))))] hE (fun a hE => ?_)
   refine at_end rfl ?_
   refine cond_split hE (b := (decide ((IntKind.wrap .i64 (y743.1 + ((List.length (x799) : Nat) : Int))) < (0 : Int)))) rfl (fun hb => ?_) (fun hb => ?_)
   ·replace hf := cond_t hb hf
    clear hb
    refine region_at ?_
    cases hf
   ·replace hf := cond_f hb hf
    clear hb
    refine wpIn_skip ?_
    refine region_at ?_
    refine sN 2 2 [(11, .int .i64 ((IntKind.wrap .i64 (y743.2 + (1 : Int)))))] hE (fun a hE => ?_)
    refine at_end rfl ?_
    exact ⟨((IntKind.wrap .i64 (y743.1 + ((List.length (x799) : Nat) : Int))), (IntKind.wrap .i64 (y743.2 + (1 : Int)))), D744, hE.weak (by kernel_rfl), hS, le745, hf⟩
  ·replace hf := cond_f hb hf
   clear hb
   refine wpIn_exit ?_
   obtain rfl := Option.some.inj hf
   exact ⟨y743.1, D744, hE.weak (by kernel_rfl), hS, le745, rfl⟩
set_option maxRecDepth 100000 in
set_option maxHeartbeats 4000000 in
theorem wire_All.calls {K : Nat} {g w0 : World} {D0 : Snap} {x1 : (List (List Int))} {A2 : Option Addr} {c3 : Nat} {r : ((List Int))} (hf : wire_All.f K x1 = some r) (hS0 : St g w0 D0 []) (h4 : Sl (kdSlice (kdInt .u8)) D0 A2 c3 (x1)) :
  CallsIn (Fw none) 0 Tryd.prog 25 (List.toArray [.slice A2 (List.length (x1)) c3]) w0 (fun e w' => ∃ v, e = .returned v ∧ ∃ (D1 : Snap) (A15 : Option Addr) (c16 : Nat) (q17 : Blk), v = .slice A15 (List.length (r)) c16 ∧ Stp g w0 D0 [] w' D1 [q17] ∧ OwnD (kdInt .u8) 5 D1 A15 c16 (r) q17) := by
 unfold wire_All.f at hf
 have hS := Stp.refl hS0
 clear hS0
 refine calls_body (n := 5) Tryd.func25 rfl Tryd.ntmps25 rfl (fun a hE => ?_)
 have hE : Env a 5 [] [(0, .slice A2 (List.length (x1)) c3)] := hE
 refine wpIn_seq ?_
 refine region_at ?_
 refine sN 1 1 [(2, .slice none 0 0)] hE (fun a hE => ?_)
 refine at_end rfl ?_
 refine wpIn_seq ?_
 refine region_at ?_
 refine sN 1 1 [(3, .slice A2 (List.length (x1)) c3)] hE (fun a hE => ?_)
 obtain ⟨r20, h21, hf⟩ := bind_some hf
 refine aC rfl rfl rfl rfl hE rfl rfl rfl rfl (slices_Concat_byte_byte.calls (g := g) h21 (hS.st.fore (L := [])) h4) (fun a v w hR hE => ?_)
 obtain ⟨D22, A24, c25, q26, rfl, hS1, h27⟩ := hR
 have le29 := hS1.dle
 have hS := hS.callR hS1 rfl (.c .n)
 clear hS1
 refine sN 1 3 [(2, .slice A24 (List.length (r20)) c25)] hE (fun a hE => ?_)
 refine at_end rfl ?_
 refine wpIn_ret ?_
 obtain rfl := Option.some.inj hf
 repeat (with_reducible first | refine then_ret ?_ | refine block_ret ?_ | refine qx_ret ?_)
 refine ret_gen ([.slice A24 (List.length (r20)) c25]) hE (by rw [show Tryd.f25.results.toList = [.tmp 2] from rfl]; exact ⟨_, _, rfl, rfl, rfl⟩) ?_
 exact ⟨_, rfl, D22, A24, c25, q26, rfl, hS, h27⟩
set_option maxRecDepth 100000 in
set_option maxHeartbeats 4000000 in
theorem wire_Flag.calls {K : Nat} {g w0 : World} {D0 : Snap} {x1 : Bool} {r : ((List Int))} (hf : wire_Flag.f K x1 = some r) (hS0 : St g w0 D0 []) :
  CallsIn (Fw none) 0 Tryd.prog 45 (List.toArray [.bool (x1)]) w0 (fun e w' => ∃ v, e = .returned v ∧ ∃ (D1 : Snap) (A14 : Option Addr) (c15 : Nat) (q16 : Blk), v = .slice A14 (List.length (r)) c15 ∧ Stp g w0 D0 [] w' D1 [q16] ∧ OwnD (kdInt .u8) 5 D1 A14 c15 (r) q16) := by
 unfold wire_Flag.f at hf
 have hS := Stp.refl hS0
 clear hS0
 refine calls_body (n := 6) Tryd.func45 rfl Tryd.ntmps45 rfl (fun a hE => ?_)
 have hE : Env a 6 [] [(0, .bool (x1))] := hE
 refine wpIn_seq ?_
 refine region_at ?_
 refine sN 1 1 [(2, .slice none 0 0)] hE (fun a hE => ?_)
 refine at_end rfl ?_
 refine wpIn_seq ?_
 refine wpIn_seq ?_
 refine region_at ?_
 refine sN 1 1 [(3, .bool (x1))] hE (fun a hE => ?_)
 refine at_end rfl ?_
 refine cond_split hE (b := x1) rfl (fun hb => ?_) (fun hb => ?_)
 ·replace hf := cond_t hb hf
  clear hb
  refine wpIn_seq ?_
  refine region_at ?_
  refine at_op (op_buildSlice (K := (kdInt .u8)) (e := 5) (cs := [.int .u8 ((1 : Int))] ++ []) ([(1 : Int)] : List Int) rfl rfl rfl rfl hE rfl hS rfl (by kernel_rfl) rfl rfl (by exact (show RL (kdInt .u8) D0 ([(1 : Int)] : List Int) ([.int .u8 ((1 : Int))] ++ []) from ⟨_, _, rfl, rfl, rfl⟩)) (fun a A23 q24 w _ hE h25 hS => ?_)) rfl
  refine sN 1 2 [(2, .slice A23 (List.length (([(1 : Int)] : List Int))) 1)] hE (fun a hE => ?_)
  refine at_end rfl ?_
  refine wpIn_ret ?_
  obtain rfl := Option.some.inj hf
  repeat (with_reducible first | refine then_ret ?_ | refine block_ret ?_ | refine qx_ret ?_)
  refine ret_gen ([.slice A23 (List.length (([(1 : Int)] : List Int))) 1]) hE (by rw [show Tryd.f45.results.toList = [.tmp 2] from rfl]; exact ⟨_, _, rfl, rfl, rfl⟩) ?_
  exact ⟨_, rfl, D0, A23, 1, q24, rfl, hS, h25⟩
 ·replace hf := cond_f hb hf
  clear hb
  refine wpIn_skip ?_
  refine wpIn_seq ?_
  refine region_at ?_
  refine at_op (op_buildSlice (K := (kdInt .u8)) (e := 5) (cs := [.int .u8 ((0 : Int))] ++ []) ([(0 : Int)] : List Int) rfl rfl rfl rfl hE rfl hS rfl (by kernel_rfl) rfl rfl (by exact (show RL (kdInt .u8) D0 ([(0 : Int)] : List Int) ([.int .u8 ((0 : Int))] ++ []) from ⟨_, _, rfl, rfl, rfl⟩)) (fun a A27 q28 w _ hE h29 hS => ?_)) rfl
  refine sN 1 2 [(2, .slice A27 (List.length (([(0 : Int)] : List Int))) 1)] hE (fun a hE => ?_)
  refine at_end rfl ?_
  refine wpIn_ret ?_
  obtain rfl := Option.some.inj hf
  repeat (with_reducible first | refine then_ret ?_ | refine block_ret ?_ | refine qx_ret ?_)
  refine ret_gen ([.slice A27 (List.length (([(0 : Int)] : List Int))) 1]) hE (by rw [show Tryd.f45.results.toList = [.tmp 2] from rfl]; exact ⟨_, _, rfl, rfl, rfl⟩) ?_
  exact ⟨_, rfl, D0, A27, 1, q28, rfl, hS, h29⟩
set_option maxRecDepth 100000 in
set_option maxHeartbeats 4000000 in
theorem rec_call.calls {K : Nat} {g w0 : World} {D0 : Snap} {x1 : T_api_Rec} {A2 : Option Addr} {c3 : Nat} {A5 : Option Addr} {c6 : Nat} {r : ((List Int))} (hf : rec_call.f K x1 = some r) (hS0 : St g w0 D0 []) (h4 : Sl kd_T_api_Step D0 A2 c3 (x1.fSteps)) (h7 : Sl (kdInt .u8) D0 A5 c6 (x1.fData)) :
  CallsIn (Fw none) 0 Tryd.prog 86 (List.toArray [.agg (List.toArray (c_T_api_Rec (x1) A2 c3 A5 c6))]) w0 (fun e w' => ∃ v, e = .returned v ∧ ∃ (D1 : Snap) (A126 : Option Addr) (c127 : Nat) (q128 : Blk), v = .slice A126 (List.length (r)) c127 ∧ Stp g w0 D0 [] w' D1 [q128] ∧ OwnD (kdInt .u8) 5 D1 A126 c127 (r) q128) := by
 unfold rec_call.f at hf
 have hS := Stp.refl hS0
 clear hS0
 refine calls_body (n := 18) Tryd.func86 rfl Tryd.ntmps86 rfl (fun a hE => ?_)
 have hE : Env a 18 [] [(0, .agg (List.toArray (c_T_api_Rec (x1) A2 c3 A5 c6)))] := hE
 refine wpIn_seq ?_
 refine region_at ?_
 refine at_op (op_box rfl rfl rfl rfl hE rfl hS rfl (fun a b131 w _ hE hS => ?_)) rfl
 refine sN 1 2 [(2, .slice none 0 0)] hE (fun a hE => ?_)
 refine at_end rfl ?_
 refine wpIn_seq ?_
 refine region_draw (fun j => Keeps (mfOf [] j)) (by kernel_rfl) ?_
 have hS := hS.drew
 first | generalize w.drew = w at hS ⊢ | generalize w0.drew = w at hS ⊢
 refine wF 0 1 15 1 3 1 hE (fun a hE => ?_)
 refine tT 1 3 (fuel := 14) (by kernel_rfl) hE (tk_load 0 (.int .i64 (x1.fSaga)) rfl rfl rfl rfl hE rfl hS rfl rfl (by kernel_rfl) (kL (j := 0) hS rfl List.not_mem_nil) (fun a hE => ?_))
 refine wF 2 7 13 2 3 2 hE (fun a hE => ?_)
 refine tT 3 15 (fuel := 12) (by kernel_rfl) hE (tk_load 0 (.int .i64 (x1.fSeq)) rfl rfl rfl rfl hE rfl hS rfl rfl (by kernel_rfl) (kL (j := 0) hS rfl List.not_mem_nil) (fun a hE => ?_))
 refine wF 4 31 11 3 3 3 hE (fun a hE => ?_)
 refine tT 5 63 (fuel := 10) (by kernel_rfl) hE (tk_load 0 (.int .i64 (x1.fStep)) rfl rfl rfl rfl hE rfl hS rfl rfl (by kernel_rfl) (kL (j := 0) hS rfl List.not_mem_nil) (fun a hE => ?_))
 refine wF 6 127 9 4 3 4 hE (fun a hE => ?_)
 refine tT 7 255 (fuel := 8) (by kernel_rfl) hE (tk_load 0 (.int .i64 (x1.fTry)) rfl rfl rfl rfl hE rfl hS rfl rfl (by kernel_rfl) (kL (j := 0) hS rfl List.not_mem_nil) (fun a hE => ?_))
 refine wF 10 1279 7 5 4 5 hE (fun a hE => ?_)
 refine tT 11 3327 (fuel := 6) (by kernel_rfl) hE (tk_load 0 (.bool (x1.fBack)) rfl rfl rfl rfl hE rfl hS rfl rfl (by kernel_rfl) (kL (j := 0) hS rfl List.not_mem_nil) (fun a hE => ?_))
 refine oG 8 3583 (fuel := 5) (by kernel_rfl) (op_buildSlice (K := (kdInt .i64)) (e := 3) (cs := [.int .i64 (x1.fSaga)] ++ ([.int .i64 (x1.fSeq)] ++ ([.int .i64 (x1.fStep)] ++ ([.int .i64 (x1.fTry)] ++ [])))) ([x1.fSaga, x1.fSeq, x1.fStep, x1.fTry] : List Int) rfl rfl rfl rfl hE rfl hS rfl (by kernel_rfl) rfl rfl (by exact (show RL (kdInt .i64) D0 ([x1.fSaga, x1.fSeq, x1.fStep, x1.fTry] : List Int) ([.int .i64 (x1.fSaga)] ++ ([.int .i64 (x1.fSeq)] ++ ([.int .i64 (x1.fStep)] ++ ([.int .i64 (x1.fTry)] ++ [])))) from ⟨_, _, rfl, rfl, ⟨_, _, rfl, rfl, ⟨_, _, rfl, rfl, ⟨_, _, rfl, rfl, rfl⟩⟩⟩⟩)) (fun a A191 q192 w hkp hE h193 hS => ⟨hkp.mono (fun _ h => absurd h List.not_mem_nil), ?_⟩))
 clear hkp
 obtain ⟨D195, q198, le196, hS, h199, h197⟩ := hS.lent h193
 obtain ⟨r200, h201, hf⟩ := bind_some hf
 refine oG 9 4095 (fuel := 4) (by kernel_rfl) (op_call rfl rfl rfl rfl hE rfl rfl rfl rfl (by kernel_rfl) (rec_numbers.calls (g := g) h201 (hS.st.fore (L := [])) h197) (fun a v w hR hE => ?_))
 obtain ⟨D202, A204, c205, q206, rfl, hS1, h207⟩ := hR
 refine ⟨(hS1.keeps.sub (M' := []) trivial).mono (fun _ h => h), ?_⟩
 have le209 := hS1.dle
 have hS := hS.callR hS1 rfl (.c .n)
 clear hS1
 obtain ⟨r210, h211, hf⟩ := bind_some hf
 refine oG 12 8191 (fuel := 3) (by kernel_rfl) (op_call rfl rfl rfl rfl hE rfl rfl rfl rfl (by kernel_rfl) (wire_Flag.calls (g := g) h211 (hS.st.fore (L := [])) ) (fun a v w hR hE => ?_))
 obtain ⟨D212, A214, c215, q216, rfl, hS1, h217⟩ := hR
 refine ⟨(hS1.keeps.sub (M' := []) trivial).mono (fun _ h => h), ?_⟩
 have le219 := hS1.dle
 have hS := hS.callR hS1 rfl (.c .n)
 clear hS1
 have hS := hS.pk (.c 1 rfl (.c 0 rfl (.c 2 rfl (.c 3 rfl .n)))) rfl
 obtain ⟨D220, q223, le221, hS, h224, h222⟩ := hS.lent (h207.mono le219)
 have hS := hS.pk (.c 1 rfl (.c 0 rfl (.c 2 rfl (.c 3 rfl .n)))) rfl
 obtain ⟨D225, q228, le226, hS, h229, h227⟩ := hS.lent (h217.mono le221)
 refine oG 13 16383 (fuel := 2) (by kernel_rfl) (op_buildSlice (K := (kdSlice (kdInt .u8))) (e := 25) (cs := [.slice A204 (List.length (r200)) c205] ++ ([.slice A214 (List.length (r210)) c215] ++ [])) ([r200, r210] : List (List Int)) rfl rfl rfl rfl hE rfl hS rfl (by kernel_rfl) rfl rfl (by exact (show RL (kdSlice (kdInt .u8)) D225 ([r200, r210] : List (List Int)) ([.slice A204 (List.length (r200)) c205] ++ ([.slice A214 (List.length (r210)) c215] ++ [])) from ⟨_, _, rfl, (kslice (h222.mono le226)), ⟨_, _, rfl, (kslice h227), rfl⟩⟩)) (fun a A230 q231 w hkp hE h232 hS => ⟨hkp.mono (fun _ h => absurd h List.not_mem_nil), ?_⟩))
 clear hkp
 obtain ⟨D234, q237, le235, hS, h238, h236⟩ := hS.lent h232
 obtain ⟨r239, h240, hf⟩ := bind_some hf
 refine oG 14 32767 (fuel := 1) (by kernel_rfl) (op_call rfl rfl rfl rfl hE rfl rfl rfl rfl (by kernel_rfl) (wire_All.calls (g := g) h240 (hS.st.fore (L := [])) h236) (fun a v w hR hE => ?_))
 obtain ⟨D241, A243, c244, q245, rfl, hS1, h246⟩ := hR
 refine ⟨(hS1.keeps.sub (M' := []) trivial).mono (fun _ h => h), ?_⟩
 have le248 := hS1.dle
 have hS := hS.callR hS1 rfl (.c .n)
 clear hS1
 refine wP 15 65535 0 (.slice A243 (List.length (r239)) c244) hE (fun a hE => ?_)
 refine doneG (by kernel_rfl) ?_
 refine wpIn_ret ?_
 obtain rfl := Option.some.inj hf
 repeat (with_reducible first | refine then_ret ?_ | refine block_ret ?_ | refine qx_ret ?_)
 refine ret_gen ([.slice A243 (List.length (r239)) c244]) hE (by rw [show Tryd.f86.results.toList = [.tmp 2] from rfl]; exact ⟨_, _, rfl, rfl, rfl⟩) ?_
 have hS := hS.pk (.c 0 rfl .n) rfl
 exact ⟨_, rfl, D241, A243, c244, q245, rfl, hS, h246⟩
set_option maxRecDepth 100000 in
set_option maxHeartbeats 4000000 in
theorem slices_Clone_byte_byte.calls {K : Nat} {g w0 : World} {D0 : Snap} {x1 : (List Int)} {A2 : Option Addr} {c3 : Nat} {r : ((List Int))} (hf : slices_Clone_byte_byte.f K x1 = some r) (hS0 : St g w0 D0 []) (h4 : Sl (kdInt .u8) D0 A2 c3 (x1)) :
  CallsIn (Fw none) 0 Tryd.prog 48 (List.toArray [.slice A2 (List.length (x1)) c3]) w0 (fun e w' => ∃ v, e = .returned v ∧ ∃ (D1 : Snap) (A16 : Option Addr) (c17 : Nat) (q18 : Blk), v = .slice A16 (List.length (r)) c17 ∧ Stp g w0 D0 [] w' D1 [q18] ∧ OwnD (kdInt .u8) 5 D1 A16 c17 (r) q18) := by
 unfold slices_Clone_byte_byte.f at hf
 have hS := Stp.refl hS0
 clear hS0
 refine calls_body (n := 8) Tryd.func48 rfl Tryd.ntmps48 rfl (fun a hE => ?_)
 have hE : Env a 8 [] [(0, .slice A2 (List.length (x1)) c3)] := hE
 refine wpIn_seq ?_
 refine region_at ?_
 refine sN 1 1 [(2, .slice none 0 0)] hE (fun a hE => ?_)
 refine at_end rfl ?_
 refine wpIn_seq ?_
 refine wpIn_seq ?_
 refine region_at ?_
 refine sN 1 1 [(3, .slice A2 (List.length (x1)) c3)] hE (fun a hE => ?_)
 refine at_op (op_tk hE (tk_bin (r := .bool ((Option.isNone A2))) rfl rfl rfl rfl hE rfl rfl rfl (eqnil_run (by kernel_rfl) _ _ _) (fun a hE => ?_))) rfl
 refine at_end rfl ?_
 refine cond_split hE (b := (Option.isNone A2)) rfl (fun hb => ?_) (fun hb => ?_)
 ·have hx := Sl.of_none h4 hb rfl
  clear hb
  rw [hx] at hf
  replace hf : (some ([] : List Int)) = some r := hf
  refine wpIn_seq ?_
  refine region_at ?_
  refine sN 1 1 [(2, .slice none 0 0)] hE (fun a hE => ?_)
  refine at_end rfl ?_
  refine wpIn_ret ?_
  have hS := hS.nils
  obtain rfl := Option.some.inj hf
  repeat (with_reducible first | refine then_ret ?_ | refine block_ret ?_ | refine qx_ret ?_)
  refine ret_gen ([.slice none 0 0]) hE (by rw [show Tryd.f48.results.toList = [.tmp 2] from rfl]; exact ⟨_, _, rfl, rfl, rfl⟩) ?_
  exact ⟨_, rfl, D0, none, 0, none, rfl, hS, (OwnD.nil (kdInt .u8) 5 D0)⟩
 ·clear hb
  refine wpIn_skip ?_
  refine wpIn_seq ?_
  refine region_at ?_
  refine at_op (op_buildSlice (K := (kdInt .u8)) (e := 5) (cs := []) ([] : List Int) rfl rfl rfl rfl hE rfl hS rfl (by kernel_rfl) rfl rfl (by exact (show RL (kdInt .u8) D0 ([] : List Int) ([]) from rfl)) (fun a A22 q23 w _ hE h24 hS => ?_)) rfl
  refine sN 1 2 [(6, .slice A2 (List.length (x1)) c3)] hE (fun a hE => ?_)
  obtain ⟨l26, h27, hf⟩ := bind_some hf
  refine at_op (g_append (K := (kdInt .u8)) (e := 5) (bytes := 1) (l := ([] : List Int)) (m := x1) rfl rfl rfl rfl hE rfl hS rfl rfl (by kernel_rfl) rfl rfl h24 h4 h27 (fun a A28 c29 q30 w _ hE h31 hS => ?_)) rfl
  refine sN 1 4 [(2, .slice A28 (List.length (l26)) c29)] hE (fun a hE => ?_)
  refine at_end rfl ?_
  refine wpIn_ret ?_
  obtain rfl := Option.some.inj hf
  repeat (with_reducible first | refine then_ret ?_ | refine block_ret ?_ | refine qx_ret ?_)
  refine ret_gen ([.slice A28 (List.length (l26)) c29]) hE (by rw [show Tryd.f48.results.toList = [.tmp 2] from rfl]; exact ⟨_, _, rfl, rfl, rfl⟩) ?_
  exact ⟨_, rfl, D0, A28, c29, q30, rfl, hS, h31⟩
set_option maxRecDepth 100000 in
set_option maxHeartbeats 4000000 in
theorem wire_Hash.calls {K : Nat} {g w0 : World} {D0 : Snap} {x1 : (Vector Int 32)} {r : ((List Int))} (hf : wire_Hash.f K x1 = some r) (hS0 : St g w0 D0 []) :
  CallsIn (Fw none) 0 Tryd.prog 40 (List.toArray [.agg (List.toArray (acells .u8 32 (x1)))]) w0 (fun e w' => ∃ v, e = .returned v ∧ ∃ (D1 : Snap) (A22 : Option Addr) (c23 : Nat) (q24 : Blk), v = .slice A22 (List.length (r)) c23 ∧ Stp g w0 D0 [] w' D1 [q24] ∧ OwnD (kdInt .u8) 5 D1 A22 c23 (r) q24) := by
 unfold wire_Hash.f at hf
 have hS := Stp.refl hS0
 clear hS0
 refine calls_body (n := 5) Tryd.func40 rfl Tryd.ntmps40 rfl (fun a hE => ?_)
 have hE : Env a 5 [] [(0, .agg (List.toArray (acells .u8 32 (x1))))] := hE
 refine wpIn_seq ?_
 refine region_at ?_
 refine at_op (op_box rfl rfl rfl rfl hE rfl hS rfl (fun a b27 w _ hE hS => ?_)) rfl
 refine sN 1 2 [(2, .slice none 0 0)] hE (fun a hE => ?_)
 refine at_end rfl ?_
 refine wpIn_seq ?_
 refine region_at ?_
 obtain ⟨D29, le30, e31, hS⟩ := hS.freezeB
 obtain ⟨l32, h33, hf⟩ := bind_some hf
 refine at_op (op_tk hE (g_sliceArr (kk := .u8) (e := 5) (v := x1) rfl rfl rfl rfl hE rfl rfl (by kernel_rfl) rfl rfl e31 rfl h33 (fun a A34 c35 hE h36 => ?_))) rfl
 obtain ⟨r37, h38, hf⟩ := bind_some hf
 refine aC rfl rfl rfl rfl hE rfl rfl rfl rfl (slices_Clone_byte_byte.calls (g := g) h38 (hS.st.fore (L := [])) h36) (fun a v w hR hE => ?_)
 obtain ⟨D39, A41, c42, q43, rfl, hS1, h44⟩ := hR
 have le46 := hS1.dle
 have hS := hS.callR hS1 rfl (.c .n)
 clear hS1
 refine sN 1 3 [(2, .slice A41 (List.length (r37)) c42)] hE (fun a hE => ?_)
 refine at_end rfl ?_
 refine wpIn_ret ?_
 obtain rfl := Option.some.inj hf
 repeat (with_reducible first | refine then_ret ?_ | refine block_ret ?_ | refine qx_ret ?_)
 refine ret_gen ([.slice A41 (List.length (r37)) c42]) hE (by rw [show Tryd.f40.results.toList = [.tmp 2] from rfl]; exact ⟨_, _, rfl, rfl, rfl⟩) ?_
 exact ⟨_, rfl, D39, A41, c42, q43, rfl, hS, h44⟩
set_option maxRecDepth 100000 in
set_option maxHeartbeats 4000000 in
theorem rec_forms_1.calls {K : Nat} {g w0 : World} {D0 : Snap} {x1 : T_api_Rec} {A2 : Option Addr} {c3 : Nat} {A5 : Option Addr} {c6 : Nat} {r : ((List Int))} (hf : rec_forms_1.f K x1 = some r) (hS0 : St g w0 D0 []) (h4 : Sl kd_T_api_Step D0 A2 c3 (x1.fSteps)) (h7 : Sl (kdInt .u8) D0 A5 c6 (x1.fData)) :
  CallsIn (Fw none) 0 Tryd.prog 87 (List.toArray [.agg (List.toArray (c_T_api_Rec (x1) A2 c3 A5 c6))]) w0 (fun e w' => ∃ v, e = .returned v ∧ ∃ (D1 : Snap) (A1026 : Option Addr) (c1027 : Nat) (q1028 : Blk), v = .slice A1026 (List.length (r)) c1027 ∧ Stp g w0 D0 [] w' D1 [q1028] ∧ OwnD (kdInt .u8) 5 D1 A1026 c1027 (r) q1028) := by
 unfold rec_forms_1.f at hf
 have hS := Stp.refl hS0
 clear hS0
 refine calls_body (n := 19) Tryd.func87 rfl Tryd.ntmps87 rfl (fun a hE => ?_)
 have hE : Env a 19 [] [(0, .agg (List.toArray (c_T_api_Rec (x1) A2 c3 A5 c6)))] := hE
 refine wpIn_seq ?_
 refine region_at ?_
 refine at_op (op_box rfl rfl rfl rfl hE rfl hS rfl (fun a b1031 w _ hE hS => ?_)) rfl
 refine sN 1 2 [(2, .slice none 0 0)] hE (fun a hE => ?_)
 refine at_end rfl ?_
 refine wpIn_seq ?_
 refine region_draw (fun j => Keeps (mfOf [] j)) (by kernel_rfl) ?_
 have hS := hS.drew
 first | generalize w.drew = w at hS ⊢ | generalize w0.drew = w at hS ⊢
 refine tT 0 1 (fuel := 16) (by kernel_rfl) hE (tk_load 0 (.agg (List.toArray (c_T_api_Rec (x1) A2 c3 A5 c6))) rfl rfl rfl rfl hE rfl hS rfl rfl (by kernel_rfl) (kL (j := 0) hS rfl List.not_mem_nil) (fun a hE => ?_))
 refine wF 2 5 15 6 4 6 hE (fun a hE => ?_)
 refine tT 3 13 (fuel := 14) (by kernel_rfl) hE (tk_load 0 (.bool (x1.fGood)) rfl rfl rfl rfl hE rfl hS rfl rfl (by kernel_rfl) (kL (j := 0) hS rfl List.not_mem_nil) (fun a hE => ?_))
 refine wF 5 45 13 8 3 8 hE (fun a hE => ?_)
 refine tT 6 109 (fuel := 12) (by kernel_rfl) hE (tk_load 0 (.int .i64 (x1.fPart)) rfl rfl rfl rfl hE rfl hS rfl rfl (by kernel_rfl) (kL (j := 0) hS rfl List.not_mem_nil) (fun a hE => ?_))
 refine wF 7 237 11 9 3 9 hE (fun a hE => ?_)
 refine tT 8 493 (fuel := 10) (by kernel_rfl) hE (tk_load 0 (.int .i64 (x1.fEpoch)) rfl rfl rfl rfl hE rfl hS rfl rfl (by kernel_rfl) (kL (j := 0) hS rfl List.not_mem_nil) (fun a hE => ?_))
 refine wF 11 2541 9 10 23 10 hE (fun a hE => ?_)
 refine tT 12 6637 (fuel := 8) (by kernel_rfl) hE (tk_load 0 (.agg (List.toArray (acells .u8 32 (x1.fTag)))) rfl rfl rfl rfl hE rfl hS rfl rfl (by kernel_rfl) (kL (j := 0) hS rfl List.not_mem_nil) (fun a hE => ?_))
 refine twoB (i := 1) (j := 9) (fuel := 7) (m1 := 6639) (m2 := 7149) (by kernel_rfl) (by kernel_rfl) (by kernel_rfl) ?_ ?_
 ·obtain ⟨r1795, h1796, hf⟩ := bind_some hf
  refine (op_call rfl rfl rfl rfl hE rfl rfl rfl rfl (by kernel_rfl) (rec_call.calls (g := g) h1796 (hS.st.fore (L := [])) h4 h7) (fun a v w hR hE => ?_))
  obtain ⟨D1797, A1799, c1800, q1801, rfl, hS1, h1802⟩ := hR
  refine ⟨(hS1.keeps.sub (M' := []) trivial).mono (fun _ h => h), ?_⟩
  have le1804 := hS1.dle
  have hS := hS.callR hS1 rfl (.c .n)
  clear hS1
  refine twoB (i := 4) (j := 9) (fuel := 6) (m1 := 6655) (m2 := 7151) (by kernel_rfl) (by kernel_rfl) (by kernel_rfl) ?_ ?_
  ·obtain ⟨r1805, h1806, hf⟩ := bind_some hf
   refine (op_call rfl rfl rfl rfl hE rfl rfl rfl rfl (by kernel_rfl) (wire_Flag.calls (g := g) h1806 (hS.st.fore (L := [])) ) (fun a v w hR hE => ?_))
   obtain ⟨D1807, A1809, c1810, q1811, rfl, hS1, h1812⟩ := hR
   refine ⟨(hS1.keeps.sub (M' := []) trivial).mono (fun _ h => h), ?_⟩
   have le1814 := hS1.dle
   have hS := hS.callR hS1 rfl (.c .n)
   clear hS1
   refine oG 9 7167 (fuel := 5) (by kernel_rfl) (op_buildSlice (K := (kdInt .i64)) (e := 3) (cs := [.int .i64 (x1.fPart)] ++ ([.int .i64 (x1.fEpoch)] ++ [])) ([x1.fPart, x1.fEpoch] : List Int) rfl rfl rfl rfl hE rfl hS rfl (by kernel_rfl) rfl rfl (by exact (show RL (kdInt .i64) D1807 ([x1.fPart, x1.fEpoch] : List Int) ([.int .i64 (x1.fPart)] ++ ([.int .i64 (x1.fEpoch)] ++ [])) from ⟨_, _, rfl, rfl, ⟨_, _, rfl, rfl, rfl⟩⟩)) (fun a A1815 q1816 w hkp hE h1817 hS => ⟨hkp.mono (fun _ h => absurd h List.not_mem_nil), ?_⟩))
   clear hkp
   obtain ⟨D1819, q1822, le1820, hS, h1823, h1821⟩ := hS.lent h1817
   obtain ⟨r1824, h1825, hf⟩ := bind_some hf
   refine oG 10 8191 (fuel := 4) (by kernel_rfl) (op_call rfl rfl rfl rfl hE rfl rfl rfl rfl (by kernel_rfl) (rec_numbers.calls (g := g) h1825 (hS.st.fore (L := [])) h1821) (fun a v w hR hE => ?_))
   obtain ⟨D1826, A1828, c1829, q1830, rfl, hS1, h1831⟩ := hR
   refine ⟨(hS1.keeps.sub (M' := []) trivial).mono (fun _ h => h), ?_⟩
   have le1833 := hS1.dle
   have hS := hS.callR hS1 rfl (.c .n)
   clear hS1
   obtain ⟨r1834, h1835, hf⟩ := bind_some hf
   refine oG 13 16383 (fuel := 3) (by kernel_rfl) (op_call rfl rfl rfl rfl hE rfl rfl rfl rfl (by kernel_rfl) (wire_Hash.calls (g := g) h1835 (hS.st.fore (L := [])) ) (fun a v w hR hE => ?_))
   obtain ⟨D1836, A1838, c1839, q1840, rfl, hS1, h1841⟩ := hR
   refine ⟨(hS1.keeps.sub (M' := []) trivial).mono (fun _ h => h), ?_⟩
   have le1843 := hS1.dle
   have hS := hS.callR hS1 rfl (.c .n)
   clear hS1
   have hS := hS.pk (.c 4 rfl (.c 0 rfl (.c 1 rfl (.c 2 rfl (.c 3 rfl (.c 5 rfl .n)))))) rfl
   obtain ⟨D1844, q1847, le1845, hS, h1848, h1846⟩ := hS.lent (h1802.mono (le2 (le2 (le2 le1814 le1820) le1833) le1843))
   have hS := hS.pk (.c 4 rfl (.c 0 rfl (.c 1 rfl (.c 2 rfl (.c 3 rfl (.c 5 rfl .n)))))) rfl
   obtain ⟨D1849, q1852, le1850, hS, h1853, h1851⟩ := hS.lent (h1812.mono (le2 (le2 (le2 le1820 le1833) le1843) le1845))
   have hS := hS.pk (.c 3 rfl (.c 0 rfl (.c 1 rfl (.c 2 rfl (.c 4 rfl (.c 5 rfl .n)))))) rfl
   obtain ⟨D1854, q1857, le1855, hS, h1858, h1856⟩ := hS.lent (h1831.mono (le2 (le2 le1843 le1845) le1850))
   have hS := hS.pk (.c 3 rfl (.c 0 rfl (.c 1 rfl (.c 2 rfl (.c 4 rfl (.c 5 rfl .n)))))) rfl
   obtain ⟨D1859, q1862, le1860, hS, h1863, h1861⟩ := hS.lent (h1841.mono (le2 (le2 le1845 le1850) le1855))
   refine oG 14 32767 (fuel := 2) (by kernel_rfl) (op_buildSlice (K := (kdSlice (kdInt .u8))) (e := 25) (cs := [.slice A1799 (List.length (r1795)) c1800] ++ ([.slice A1809 (List.length (r1805)) c1810] ++ ([.slice A1828 (List.length (r1824)) c1829] ++ ([.slice A1838 (List.length (r1834)) c1839] ++ [])))) ([r1795, r1805, r1824, r1834] : List (List Int)) rfl rfl rfl rfl hE rfl hS rfl (by kernel_rfl) rfl rfl (by exact (show RL (kdSlice (kdInt .u8)) D1859 ([r1795, r1805, r1824, r1834] : List (List Int)) ([.slice A1799 (List.length (r1795)) c1800] ++ ([.slice A1809 (List.length (r1805)) c1810] ++ ([.slice A1828 (List.length (r1824)) c1829] ++ ([.slice A1838 (List.length (r1834)) c1839] ++ [])))) from ⟨_, _, rfl, (kslice (h1846.mono (le2 (le2 le1850 le1855) le1860))), ⟨_, _, rfl, (kslice (h1851.mono (le2 le1855 le1860))), ⟨_, _, rfl, (kslice (h1856.mono le1860)), ⟨_, _, rfl, (kslice h1861), rfl⟩⟩⟩⟩)) (fun a A1864 q1865 w hkp hE h1866 hS => ⟨hkp.mono (fun _ h => absurd h List.not_mem_nil), ?_⟩))
   clear hkp
   obtain ⟨D1868, q1871, le1869, hS, h1872, h1870⟩ := hS.lent h1866
   obtain ⟨r1873, h1874, hf⟩ := bind_some hf
   refine oG 15 65535 (fuel := 1) (by kernel_rfl) (op_call rfl rfl rfl rfl hE rfl rfl rfl rfl (by kernel_rfl) (wire_All.calls (g := g) h1874 (hS.st.fore (L := [])) h1870) (fun a v w hR hE => ?_))
   obtain ⟨D1875, A1877, c1878, q1879, rfl, hS1, h1880⟩ := hR
   refine ⟨(hS1.keeps.sub (M' := []) trivial).mono (fun _ h => h), ?_⟩
   have le1882 := hS1.dle
   have hS := hS.callR hS1 rfl (.c .n)
   clear hS1
   refine wP 16 131071 0 (.slice A1877 (List.length (r1873)) c1878) hE (fun a hE => ?_)
   refine doneG (by kernel_rfl) ?_
   refine wpIn_ret ?_
   obtain rfl := Option.some.inj hf
   repeat (with_reducible first | refine then_ret ?_ | refine block_ret ?_ | refine qx_ret ?_)
   refine ret_gen ([.slice A1877 (List.length (r1873)) c1878]) hE (by rw [show Tryd.f87.results.toList = [.tmp 2] from rfl]; exact ⟨_, _, rfl, rfl, rfl⟩) ?_
   have hS := hS.pk (.c 0 rfl .n) rfl
   exact ⟨_, rfl, D1875, A1877, c1878, q1879, rfl, hS, h1880⟩
  ·refine (op_buildSlice (K := (kdInt .i64)) (e := 3) (cs := [.int .i64 (x1.fPart)] ++ ([.int .i64 (x1.fEpoch)] ++ [])) ([x1.fPart, x1.fEpoch] : List Int) rfl rfl rfl rfl hE rfl hS rfl (by kernel_rfl) rfl rfl (by exact (show RL (kdInt .i64) D1797 ([x1.fPart, x1.fEpoch] : List Int) ([.int .i64 (x1.fPart)] ++ ([.int .i64 (x1.fEpoch)] ++ [])) from ⟨_, _, rfl, rfl, ⟨_, _, rfl, rfl, rfl⟩⟩)) (fun a A1883 q1884 w hkp hE h1885 hS => ⟨hkp.mono (fun _ h => absurd h List.not_mem_nil), ?_⟩))
   clear hkp
   obtain ⟨r1887, h1888, hf⟩ := bind_some hf
   refine oG 4 7167 (fuel := 5) (by kernel_rfl) (op_call rfl rfl rfl rfl hE rfl rfl rfl rfl (by kernel_rfl) (wire_Flag.calls (g := g) h1888 (hS.st.fore (L := [])) ) (fun a v w hR hE => ?_))
   obtain ⟨D1889, A1891, c1892, q1893, rfl, hS1, h1894⟩ := hR
   refine ⟨(hS1.keeps.sub (M' := []) trivial).mono (fun _ h => h), ?_⟩
   have le1896 := hS1.dle
   have hS := hS.callR hS1 rfl (.c .n)
   clear hS1
   have hS := hS.pk (.c 1 rfl (.c 0 rfl (.c 2 rfl (.c 3 rfl .n)))) rfl
   obtain ⟨D1897, q1900, le1898, hS, h1901, h1899⟩ := hS.lent (h1885.mono le1896)
   obtain ⟨r1902, h1903, hf⟩ := bind_some hf
   refine oG 10 8191 (fuel := 4) (by kernel_rfl) (op_call rfl rfl rfl rfl hE rfl rfl rfl rfl (by kernel_rfl) (rec_numbers.calls (g := g) h1903 (hS.st.fore (L := [])) h1899) (fun a v w hR hE => ?_))
   obtain ⟨D1904, A1906, c1907, q1908, rfl, hS1, h1909⟩ := hR
   refine ⟨(hS1.keeps.sub (M' := []) trivial).mono (fun _ h => h), ?_⟩
   have le1911 := hS1.dle
   have hS := hS.callR hS1 rfl (.c .n)
   clear hS1
   obtain ⟨r1912, h1913, hf⟩ := bind_some hf
   refine oG 13 16383 (fuel := 3) (by kernel_rfl) (op_call rfl rfl rfl rfl hE rfl rfl rfl rfl (by kernel_rfl) (wire_Hash.calls (g := g) h1913 (hS.st.fore (L := [])) ) (fun a v w hR hE => ?_))
   obtain ⟨D1914, A1916, c1917, q1918, rfl, hS1, h1919⟩ := hR
   refine ⟨(hS1.keeps.sub (M' := []) trivial).mono (fun _ h => h), ?_⟩
   have le1921 := hS1.dle
   have hS := hS.callR hS1 rfl (.c .n)
   clear hS1
   have hS := hS.pk (.c 4 rfl (.c 0 rfl (.c 1 rfl (.c 2 rfl (.c 3 rfl (.c 5 rfl .n)))))) rfl
   obtain ⟨D1922, q1925, le1923, hS, h1926, h1924⟩ := hS.lent (h1802.mono (le2 (le2 (le2 le1896 le1898) le1911) le1921))
   have hS := hS.pk (.c 4 rfl (.c 0 rfl (.c 1 rfl (.c 2 rfl (.c 3 rfl (.c 5 rfl .n)))))) rfl
   obtain ⟨D1927, q1930, le1928, hS, h1931, h1929⟩ := hS.lent (h1894.mono (le2 (le2 (le2 le1898 le1911) le1921) le1923))
   have hS := hS.pk (.c 3 rfl (.c 0 rfl (.c 1 rfl (.c 2 rfl (.c 4 rfl (.c 5 rfl .n)))))) rfl
   obtain ⟨D1932, q1935, le1933, hS, h1936, h1934⟩ := hS.lent (h1909.mono (le2 (le2 le1921 le1923) le1928))
   have hS := hS.pk (.c 3 rfl (.c 0 rfl (.c 1 rfl (.c 2 rfl (.c 4 rfl (.c 5 rfl .n)))))) rfl
   obtain ⟨D1937, q1940, le1938, hS, h1941, h1939⟩ := hS.lent (h1919.mono (le2 (le2 le1923 le1928) le1933))
   refine oG 14 32767 (fuel := 2) (by kernel_rfl) (op_buildSlice (K := (kdSlice (kdInt .u8))) (e := 25) (cs := [.slice A1799 (List.length (r1795)) c1800] ++ ([.slice A1891 (List.length (r1887)) c1892] ++ ([.slice A1906 (List.length (r1902)) c1907] ++ ([.slice A1916 (List.length (r1912)) c1917] ++ [])))) ([r1795, r1887, r1902, r1912] : List (List Int)) rfl rfl rfl rfl hE rfl hS rfl (by kernel_rfl) rfl rfl (by exact (show RL (kdSlice (kdInt .u8)) D1937 ([r1795, r1887, r1902, r1912] : List (List Int)) ([.slice A1799 (List.length (r1795)) c1800] ++ ([.slice A1891 (List.length (r1887)) c1892] ++ ([.slice A1906 (List.length (r1902)) c1907] ++ ([.slice A1916 (List.length (r1912)) c1917] ++ [])))) from ⟨_, _, rfl, (kslice (h1924.mono (le2 (le2 le1928 le1933) le1938))), ⟨_, _, rfl, (kslice (h1929.mono (le2 le1933 le1938))), ⟨_, _, rfl, (kslice (h1934.mono le1938)), ⟨_, _, rfl, (kslice h1939), rfl⟩⟩⟩⟩)) (fun a A1942 q1943 w hkp hE h1944 hS => ⟨hkp.mono (fun _ h => absurd h List.not_mem_nil), ?_⟩))
   clear hkp
   obtain ⟨D1946, q1949, le1947, hS, h1950, h1948⟩ := hS.lent h1944
   obtain ⟨r1951, h1952, hf⟩ := bind_some hf
   refine oG 15 65535 (fuel := 1) (by kernel_rfl) (op_call rfl rfl rfl rfl hE rfl rfl rfl rfl (by kernel_rfl) (wire_All.calls (g := g) h1952 (hS.st.fore (L := [])) h1948) (fun a v w hR hE => ?_))
   obtain ⟨D1953, A1955, c1956, q1957, rfl, hS1, h1958⟩ := hR
   refine ⟨(hS1.keeps.sub (M' := []) trivial).mono (fun _ h => h), ?_⟩
   have le1960 := hS1.dle
   have hS := hS.callR hS1 rfl (.c .n)
   clear hS1
   refine wP 16 131071 0 (.slice A1955 (List.length (r1951)) c1956) hE (fun a hE => ?_)
   refine doneG (by kernel_rfl) ?_
   refine wpIn_ret ?_
   obtain rfl := Option.some.inj hf
   repeat (with_reducible first | refine then_ret ?_ | refine block_ret ?_ | refine qx_ret ?_)
   refine ret_gen ([.slice A1955 (List.length (r1951)) c1956]) hE (by rw [show Tryd.f87.results.toList = [.tmp 2] from rfl]; exact ⟨_, _, rfl, rfl, rfl⟩) ?_
   have hS := hS.pk (.c 0 rfl .n) rfl
   exact ⟨_, rfl, D1953, A1955, c1956, q1957, rfl, hS, h1958⟩
 ·refine (op_buildSlice (K := (kdInt .i64)) (e := 3) (cs := [.int .i64 (x1.fPart)] ++ ([.int .i64 (x1.fEpoch)] ++ [])) ([x1.fPart, x1.fEpoch] : List Int) rfl rfl rfl rfl hE rfl hS rfl (by kernel_rfl) rfl rfl (by exact (show RL (kdInt .i64) D0 ([x1.fPart, x1.fEpoch] : List Int) ([.int .i64 (x1.fPart)] ++ ([.int .i64 (x1.fEpoch)] ++ [])) from ⟨_, _, rfl, rfl, ⟨_, _, rfl, rfl, rfl⟩⟩)) (fun a A1961 q1962 w hkp hE h1963 hS => ⟨hkp.mono (fun _ h => absurd h List.not_mem_nil), ?_⟩))
  clear hkp
  obtain ⟨r1965, h1966, hf⟩ := bind_some hf
  refine oG 1 7151 (fuel := 6) (by kernel_rfl) (op_call rfl rfl rfl rfl hE rfl rfl rfl rfl (by kernel_rfl) (rec_call.calls (g := g) h1966 (hS.st.fore (L := [])) h4 h7) (fun a v w hR hE => ?_))
  obtain ⟨D1967, A1969, c1970, q1971, rfl, hS1, h1972⟩ := hR
  refine ⟨(hS1.keeps.sub (M' := []) trivial).mono (fun _ h => h), ?_⟩
  have le1974 := hS1.dle
  have hS := hS.callR hS1 rfl (.c .n)
  clear hS1
  obtain ⟨r1975, h1976, hf⟩ := bind_some hf
  refine oG 4 7167 (fuel := 5) (by kernel_rfl) (op_call rfl rfl rfl rfl hE rfl rfl rfl rfl (by kernel_rfl) (wire_Flag.calls (g := g) h1976 (hS.st.fore (L := [])) ) (fun a v w hR hE => ?_))
  obtain ⟨D1977, A1979, c1980, q1981, rfl, hS1, h1982⟩ := hR
  refine ⟨(hS1.keeps.sub (M' := []) trivial).mono (fun _ h => h), ?_⟩
  have le1984 := hS1.dle
  have hS := hS.callR hS1 rfl (.c .n)
  clear hS1
  have hS := hS.pk (.c 2 rfl (.c 0 rfl (.c 1 rfl (.c 3 rfl .n)))) rfl
  obtain ⟨D1985, q1988, le1986, hS, h1989, h1987⟩ := hS.lent (h1963.mono (le2 le1974 le1984))
  obtain ⟨r1990, h1991, hf⟩ := bind_some hf
  refine oG 10 8191 (fuel := 4) (by kernel_rfl) (op_call rfl rfl rfl rfl hE rfl rfl rfl rfl (by kernel_rfl) (rec_numbers.calls (g := g) h1991 (hS.st.fore (L := [])) h1987) (fun a v w hR hE => ?_))
  obtain ⟨D1992, A1994, c1995, q1996, rfl, hS1, h1997⟩ := hR
  refine ⟨(hS1.keeps.sub (M' := []) trivial).mono (fun _ h => h), ?_⟩
  have le1999 := hS1.dle
  have hS := hS.callR hS1 rfl (.c .n)
  clear hS1
  obtain ⟨r2000, h2001, hf⟩ := bind_some hf
  refine oG 13 16383 (fuel := 3) (by kernel_rfl) (op_call rfl rfl rfl rfl hE rfl rfl rfl rfl (by kernel_rfl) (wire_Hash.calls (g := g) h2001 (hS.st.fore (L := [])) ) (fun a v w hR hE => ?_))
  obtain ⟨D2002, A2004, c2005, q2006, rfl, hS1, h2007⟩ := hR
  refine ⟨(hS1.keeps.sub (M' := []) trivial).mono (fun _ h => h), ?_⟩
  have le2009 := hS1.dle
  have hS := hS.callR hS1 rfl (.c .n)
  clear hS1
  have hS := hS.pk (.c 4 rfl (.c 0 rfl (.c 1 rfl (.c 2 rfl (.c 3 rfl (.c 5 rfl .n)))))) rfl
  obtain ⟨D2010, q2013, le2011, hS, h2014, h2012⟩ := hS.lent (h1972.mono (le2 (le2 (le2 le1984 le1986) le1999) le2009))
  have hS := hS.pk (.c 4 rfl (.c 0 rfl (.c 1 rfl (.c 2 rfl (.c 3 rfl (.c 5 rfl .n)))))) rfl
  obtain ⟨D2015, q2018, le2016, hS, h2019, h2017⟩ := hS.lent (h1982.mono (le2 (le2 (le2 le1986 le1999) le2009) le2011))
  have hS := hS.pk (.c 3 rfl (.c 0 rfl (.c 1 rfl (.c 2 rfl (.c 4 rfl (.c 5 rfl .n)))))) rfl
  obtain ⟨D2020, q2023, le2021, hS, h2024, h2022⟩ := hS.lent (h1997.mono (le2 (le2 le2009 le2011) le2016))
  have hS := hS.pk (.c 3 rfl (.c 0 rfl (.c 1 rfl (.c 2 rfl (.c 4 rfl (.c 5 rfl .n)))))) rfl
  obtain ⟨D2025, q2028, le2026, hS, h2029, h2027⟩ := hS.lent (h2007.mono (le2 (le2 le2011 le2016) le2021))
  refine oG 14 32767 (fuel := 2) (by kernel_rfl) (op_buildSlice (K := (kdSlice (kdInt .u8))) (e := 25) (cs := [.slice A1969 (List.length (r1965)) c1970] ++ ([.slice A1979 (List.length (r1975)) c1980] ++ ([.slice A1994 (List.length (r1990)) c1995] ++ ([.slice A2004 (List.length (r2000)) c2005] ++ [])))) ([r1965, r1975, r1990, r2000] : List (List Int)) rfl rfl rfl rfl hE rfl hS rfl (by kernel_rfl) rfl rfl (by exact (show RL (kdSlice (kdInt .u8)) D2025 ([r1965, r1975, r1990, r2000] : List (List Int)) ([.slice A1969 (List.length (r1965)) c1970] ++ ([.slice A1979 (List.length (r1975)) c1980] ++ ([.slice A1994 (List.length (r1990)) c1995] ++ ([.slice A2004 (List.length (r2000)) c2005] ++ [])))) from ⟨_, _, rfl, (kslice (h2012.mono (le2 (le2 le2016 le2021) le2026))), ⟨_, _, rfl, (kslice (h2017.mono (le2 le2021 le2026))), ⟨_, _, rfl, (kslice (h2022.mono le2026)), ⟨_, _, rfl, (kslice h2027), rfl⟩⟩⟩⟩)) (fun a A2030 q2031 w hkp hE h2032 hS => ⟨hkp.mono (fun _ h => absurd h List.not_mem_nil), ?_⟩))
  clear hkp
  obtain ⟨D2034, q2037, le2035, hS, h2038, h2036⟩ := hS.lent h2032
  obtain ⟨r2039, h2040, hf⟩ := bind_some hf
  refine oG 15 65535 (fuel := 1) (by kernel_rfl) (op_call rfl rfl rfl rfl hE rfl rfl rfl rfl (by kernel_rfl) (wire_All.calls (g := g) h2040 (hS.st.fore (L := [])) h2036) (fun a v w hR hE => ?_))
  obtain ⟨D2041, A2043, c2044, q2045, rfl, hS1, h2046⟩ := hR
  refine ⟨(hS1.keeps.sub (M' := []) trivial).mono (fun _ h => h), ?_⟩
  have le2048 := hS1.dle
  have hS := hS.callR hS1 rfl (.c .n)
  clear hS1
  refine wP 16 131071 0 (.slice A2043 (List.length (r2039)) c2044) hE (fun a hE => ?_)
  refine doneG (by kernel_rfl) ?_
  refine wpIn_ret ?_
  obtain rfl := Option.some.inj hf
  repeat (with_reducible first | refine then_ret ?_ | refine block_ret ?_ | refine qx_ret ?_)
  refine ret_gen ([.slice A2043 (List.length (r2039)) c2044]) hE (by rw [show Tryd.f87.results.toList = [.tmp 2] from rfl]; exact ⟨_, _, rfl, rfl, rfl⟩) ?_
  have hS := hS.pk (.c 0 rfl .n) rfl
  exact ⟨_, rfl, D2041, A2043, c2044, q2045, rfl, hS, h2046⟩
set_option maxRecDepth 100000 in
set_option maxHeartbeats 4000000 in
theorem rec_forms_2.calls {K : Nat} {g w0 : World} {D0 : Snap} {x1 : T_api_Rec} {A2 : Option Addr} {c3 : Nat} {A5 : Option Addr} {c6 : Nat} {r : ((List Int))} (hf : rec_forms_2.f K x1 = some r) (hS0 : St g w0 D0 []) (h4 : Sl kd_T_api_Step D0 A2 c3 (x1.fSteps)) (h7 : Sl (kdInt .u8) D0 A5 c6 (x1.fData)) :
  CallsIn (Fw none) 0 Tryd.prog 89 (List.toArray [.agg (List.toArray (c_T_api_Rec (x1) A2 c3 A5 c6))]) w0 (fun e w' => ∃ v, e = .returned v ∧ ∃ (D1 : Snap) (A29 : Option Addr) (c30 : Nat) (q31 : Blk), v = .slice A29 (List.length (r)) c30 ∧ Stp g w0 D0 [] w' D1 [q31] ∧ OwnD (kdInt .u8) 5 D1 A29 c30 (r) q31) := by
 unfold rec_forms_2.f at hf
 have hS := Stp.refl hS0
 clear hS0
 refine calls_body (n := 11) Tryd.func89 rfl Tryd.ntmps89 rfl (fun a hE => ?_)
 have hE : Env a 11 [] [(0, .agg (List.toArray (c_T_api_Rec (x1) A2 c3 A5 c6)))] := hE
 refine wpIn_seq ?_
 refine region_at ?_
 refine at_op (op_box rfl rfl rfl rfl hE rfl hS rfl (fun a b34 w _ hE hS => ?_)) rfl
 refine sN 1 2 [(2, .slice none 0 0)] hE (fun a hE => ?_)
 refine at_end rfl ?_
 refine wpIn_seq ?_
 refine region_at ?_
 refine aF 1 3 1 hE (fun a hE => ?_)
 refine aL 0 (.int .i64 (x1.fSaga)) hE hS (fun a hE => ?_)
 refine aF 2 3 2 hE (fun a hE => ?_)
 refine aL 0 (.int .i64 (x1.fSeq)) hE hS (fun a hE => ?_)
 refine aF 7 3 7 hE (fun a hE => ?_)
 refine aL 0 (.int .i64 (x1.fEnd)) hE hS (fun a hE => ?_)
 refine at_op (op_buildSlice (K := (kdInt .i64)) (e := 3) (cs := [.int .i64 (x1.fSaga)] ++ ([.int .i64 (x1.fSeq)] ++ ([.int .i64 (x1.fEnd)] ++ []))) ([x1.fSaga, x1.fSeq, x1.fEnd] : List Int) rfl rfl rfl rfl hE rfl hS rfl (by kernel_rfl) rfl rfl (by exact (show RL (kdInt .i64) D0 ([x1.fSaga, x1.fSeq, x1.fEnd] : List Int) ([.int .i64 (x1.fSaga)] ++ ([.int .i64 (x1.fSeq)] ++ ([.int .i64 (x1.fEnd)] ++ []))) from ⟨_, _, rfl, rfl, ⟨_, _, rfl, rfl, ⟨_, _, rfl, rfl, rfl⟩⟩⟩)) (fun a A36 q37 w _ hE h38 hS => ?_)) rfl
 obtain ⟨D40, q43, le41, hS, h44, h42⟩ := hS.lent h38
 obtain ⟨r45, h46, hf⟩ := bind_some hf
 refine aC rfl rfl rfl rfl hE rfl rfl rfl rfl (rec_numbers.calls (g := g) h46 (hS.st.fore (L := [])) h42) (fun a v w hR hE => ?_)
 obtain ⟨D47, A49, c50, q51, rfl, hS1, h52⟩ := hR
 have le54 := hS1.dle
 have hS := hS.callR hS1 rfl (.c .n)
 clear hS1
 refine sN 1 9 [(2, .slice A49 (List.length (r45)) c50)] hE (fun a hE => ?_)
 refine at_end rfl ?_
 refine wpIn_ret ?_
 obtain rfl := Option.some.inj hf
 repeat (with_reducible first | refine then_ret ?_ | refine block_ret ?_ | refine qx_ret ?_)
 refine ret_gen ([.slice A49 (List.length (r45)) c50]) hE (by rw [show Tryd.f89.results.toList = [.tmp 2] from rfl]; exact ⟨_, _, rfl, rfl, rfl⟩) ?_
 have hS := hS.pk (.c 0 rfl .n) rfl
 exact ⟨_, rfl, D47, A49, c50, q51, rfl, hS, h52⟩
set_option maxRecDepth 100000 in
set_option maxHeartbeats 4000000 in
theorem rec_forms_3.calls {K : Nat} {g w0 : World} {D0 : Snap} {x1 : T_api_Rec} {A2 : Option Addr} {c3 : Nat} {A5 : Option Addr} {c6 : Nat} {r : ((List Int))} (hf : rec_forms_3.f K x1 = some r) (hS0 : St g w0 D0 []) (h4 : Sl kd_T_api_Step D0 A2 c3 (x1.fSteps)) (h7 : Sl (kdInt .u8) D0 A5 c6 (x1.fData)) :
  CallsIn (Fw none) 0 Tryd.prog 90 (List.toArray [.agg (List.toArray (c_T_api_Rec (x1) A2 c3 A5 c6))]) w0 (fun e w' => ∃ v, e = .returned v ∧ ∃ (D1 : Snap) (A29 : Option Addr) (c30 : Nat) (q31 : Blk), v = .slice A29 (List.length (r)) c30 ∧ Stp g w0 D0 [] w' D1 [q31] ∧ OwnD (kdInt .u8) 5 D1 A29 c30 (r) q31) := by
 unfold rec_forms_3.f at hf
 have hS := Stp.refl hS0
 clear hS0
 refine calls_body (n := 9) Tryd.func90 rfl Tryd.ntmps90 rfl (fun a hE => ?_)
 have hE : Env a 9 [] [(0, .agg (List.toArray (c_T_api_Rec (x1) A2 c3 A5 c6)))] := hE
 refine wpIn_seq ?_
 refine region_at ?_
 refine at_op (op_box rfl rfl rfl rfl hE rfl hS rfl (fun a b34 w _ hE hS => ?_)) rfl
 refine sN 1 2 [(2, .slice none 0 0)] hE (fun a hE => ?_)
 refine at_end rfl ?_
 refine wpIn_seq ?_
 refine region_at ?_
 refine aF 8 3 8 hE (fun a hE => ?_)
 refine aL 0 (.int .i64 (x1.fPart)) hE hS (fun a hE => ?_)
 refine aF 9 3 9 hE (fun a hE => ?_)
 refine aL 0 (.int .i64 (x1.fEpoch)) hE hS (fun a hE => ?_)
 refine at_op (op_buildSlice (K := (kdInt .i64)) (e := 3) (cs := [.int .i64 (x1.fPart)] ++ ([.int .i64 (x1.fEpoch)] ++ [])) ([x1.fPart, x1.fEpoch] : List Int) rfl rfl rfl rfl hE rfl hS rfl (by kernel_rfl) rfl rfl (by exact (show RL (kdInt .i64) D0 ([x1.fPart, x1.fEpoch] : List Int) ([.int .i64 (x1.fPart)] ++ ([.int .i64 (x1.fEpoch)] ++ [])) from ⟨_, _, rfl, rfl, ⟨_, _, rfl, rfl, rfl⟩⟩)) (fun a A36 q37 w _ hE h38 hS => ?_)) rfl
 obtain ⟨D40, q43, le41, hS, h44, h42⟩ := hS.lent h38
 obtain ⟨r45, h46, hf⟩ := bind_some hf
 refine aC rfl rfl rfl rfl hE rfl rfl rfl rfl (rec_numbers.calls (g := g) h46 (hS.st.fore (L := [])) h42) (fun a v w hR hE => ?_)
 obtain ⟨D47, A49, c50, q51, rfl, hS1, h52⟩ := hR
 have le54 := hS1.dle
 have hS := hS.callR hS1 rfl (.c .n)
 clear hS1
 refine sN 1 7 [(2, .slice A49 (List.length (r45)) c50)] hE (fun a hE => ?_)
 refine at_end rfl ?_
 refine wpIn_ret ?_
 obtain rfl := Option.some.inj hf
 repeat (with_reducible first | refine then_ret ?_ | refine block_ret ?_ | refine qx_ret ?_)
 refine ret_gen ([.slice A49 (List.length (r45)) c50]) hE (by rw [show Tryd.f90.results.toList = [.tmp 2] from rfl]; exact ⟨_, _, rfl, rfl, rfl⟩) ?_
 have hS := hS.pk (.c 0 rfl .n) rfl
 exact ⟨_, rfl, D47, A49, c50, q51, rfl, hS, h52⟩
set_option maxRecDepth 100000 in
set_option maxHeartbeats 4000000 in
theorem wire_Bytes.calls {K : Nat} {g w0 : World} {D0 : Snap} {x1 : (List Int)} {A2 : Option Addr} {c3 : Nat} {r : ((List Int))} (hf : wire_Bytes.f K x1 = some r) (hS0 : St g w0 D0 []) (h4 : Sl (kdInt .u8) D0 A2 c3 (x1)) :
  CallsIn (Fw none) 0 Tryd.prog 46 (List.toArray [.slice A2 (List.length (x1)) c3]) w0 (fun e w' => ∃ v, e = .returned v ∧ ∃ (D1 : Snap) (A22 : Option Addr) (c23 : Nat) (q24 : Blk), v = .slice A22 (List.length (r)) c23 ∧ Stp g w0 D0 [] w' D1 [q24] ∧ OwnD (kdInt .u8) 5 D1 A22 c23 (r) q24) := by
 unfold wire_Bytes.f at hf
 have hS := Stp.refl hS0
 clear hS0
 refine calls_body (n := 8) Tryd.func46 rfl Tryd.ntmps46 rfl (fun a hE => ?_)
 have hE : Env a 8 [] [(0, .slice A2 (List.length (x1)) c3)] := hE
 refine wpIn_seq ?_
 refine region_at ?_
 refine sN 1 1 [(2, .slice none 0 0)] hE (fun a hE => ?_)
 refine at_end rfl ?_
 refine wpIn_seq ?_
 refine region_at ?_
 refine sN 2 2 [(4, .int .i64 (((List.length (x1) : Nat) : Int)))] hE (fun a hE => ?_)
 obtain ⟨r27, h28, hf⟩ := bind_some hf
 refine aC rfl rfl rfl rfl hE rfl rfl rfl rfl (wire_Num.calls (g := g) h28 (hS.st.fore (L := [])) ) (fun a v w hR hE => ?_)
 obtain ⟨D29, A31, c32, q33, rfl, hS1, h34⟩ := hR
 have le36 := hS1.dle
 have hS := hS.callR hS1 rfl (.c .n)
 clear hS1
 refine sN 1 4 [(6, .slice A2 (List.length (x1)) c3)] hE (fun a hE => ?_)
 obtain ⟨l37, h38, hf⟩ := bind_some hf
 refine at_op (g_append (K := (kdInt .u8)) (e := 5) (bytes := 1) (l := r27) (m := x1) rfl rfl rfl rfl hE rfl hS rfl rfl (by kernel_rfl) rfl rfl h34 (h4.mono le36) h38 (fun a A39 c40 q41 w _ hE h42 hS => ?_)) rfl
 refine sN 1 6 [(2, .slice A39 (List.length (l37)) c40)] hE (fun a hE => ?_)
 refine at_end rfl ?_
 refine wpIn_ret ?_
 obtain rfl := Option.some.inj hf
 repeat (with_reducible first | refine then_ret ?_ | refine block_ret ?_ | refine qx_ret ?_)
 refine ret_gen ([.slice A39 (List.length (l37)) c40]) hE (by rw [show Tryd.f46.results.toList = [.tmp 2] from rfl]; exact ⟨_, _, rfl, rfl, rfl⟩) ?_
 exact ⟨_, rfl, D29, A39, c40, q41, rfl, hS, h42⟩
set_option maxRecDepth 100000 in
set_option maxHeartbeats 4000000 in
theorem rec_Open_1.calls {K : Nat} {g w0 : World} {D0 : Snap} {x3 : T_api_Rec} {b1 : Nat} {A4 : Option Addr} {c5 : Nat} {A7 : Option Addr} {c8 : Nat} {r : ((List Int))} (hf : rec_Open_1.f K x3 = some r) (hS0 : St g w0 D0 [bx b1 27 (c_T_api_Rec (x3) A4 c5 A7 c8)]) (h6 : Sl kd_T_api_Step D0 A4 c5 (x3.fSteps)) (h9 : Sl (kdInt .u8) D0 A7 c8 (x3.fData)) :
  CallsIn (Fw none) 0 Tryd.prog 44 (List.toArray [.pointer (some ⟨b1, 0, none⟩)]) w0 (fun e w' => ∃ v, e = .returned v ∧ ∃ (D1 : Snap) (A334 : Option Addr) (c335 : Nat) (q336 : Blk), v = .slice A334 (List.length (r)) c335 ∧ Stp g w0 D0 [bx b1 27 (c_T_api_Rec (x3) A4 c5 A7 c8)] w' D1 [bx b1 27 (c_T_api_Rec (x3) A4 c5 A7 c8), q336] ∧ OwnD (kdInt .u8) 5 D1 A334 c335 (r) q336) := by
 unfold rec_Open_1.f at hf
 have hS := Stp.refl hS0
 clear hS0
 refine calls_body (n := 19) Tryd.func44 rfl Tryd.ntmps44 rfl (fun a hE => ?_)
 have hE : Env a 19 [] [(0, .pointer (some ⟨b1, 0, none⟩))] := hE
 refine wpIn_seq ?_
 refine region_at ?_
 refine sN 1 1 [(1, .slice none 0 0)] hE (fun a hE => ?_)
 refine at_end rfl ?_
 refine wpIn_seq ?_
 refine wpIn_seq ?_
 refine region_at ?_
 refine aF 76 4 76 hE (fun a hE => ?_)
 refine aL 0 (.bool (x3.fGone)) hE hS (fun a hE => ?_)
 refine at_end rfl ?_
 refine cond_split hE (b := x3.fGone) rfl (fun hb => ?_) (fun hb => ?_)
 ·replace hf := cond_t hb hf
  clear hb
  refine wpIn_seq ?_
  refine region_draw (fun j => Keeps (mfOf [] j)) (by kernel_rfl) ?_
  have hS := hS.drew
  first | generalize w.drew = w at hS ⊢ | generalize w0.drew = w at hS ⊢
  refine wF 1 2 6 77 23 77 hE (fun a hE => ?_)
  refine tT 2 6 (fuel := 5) (by kernel_rfl) hE (tk_load 0 (.agg (List.toArray (acells .u8 32 (x3.fCom)))) rfl rfl rfl rfl hE rfl hS rfl rfl (by kernel_rfl) (kL (j := 0) hS rfl List.not_mem_nil) (fun a hE => ?_))
  obtain ⟨r486, h487, hf⟩ := bind_some hf
  refine oG 0 7 (fuel := 4) (by kernel_rfl) (op_call rfl rfl rfl rfl hE rfl rfl rfl rfl (by kernel_rfl) (wire_Flag.calls (g := g) h487 (hS.st.fore (L := [])) ) (fun a v w hR hE => ?_))
  obtain ⟨D488, A490, c491, q492, rfl, hS1, h493⟩ := hR
  refine ⟨(hS1.keeps.sub (M' := []) trivial).mono (fun _ h => h), ?_⟩
  have le495 := hS1.dle
  have hS := hS.callR hS1 rfl (.c .n)
  clear hS1
  obtain ⟨r496, h497, hf⟩ := bind_some hf
  refine oG 3 15 (fuel := 3) (by kernel_rfl) (op_call rfl rfl rfl rfl hE rfl rfl rfl rfl (by kernel_rfl) (wire_Hash.calls (g := g) h497 (hS.st.fore (L := [])) ) (fun a v w hR hE => ?_))
  obtain ⟨D498, A500, c501, q502, rfl, hS1, h503⟩ := hR
  refine ⟨(hS1.keeps.sub (M' := []) trivial).mono (fun _ h => h), ?_⟩
  have le505 := hS1.dle
  have hS := hS.callR hS1 rfl (.c .n)
  clear hS1
  have hS := hS.pk (.c 1 rfl (.c 0 rfl (.c 2 rfl .n))) rfl
  obtain ⟨D506, q509, le507, hS, h510, h508⟩ := hS.lent (h493.mono le505)
  have hS := hS.pk (.c 1 rfl (.c 0 rfl (.c 2 rfl .n))) rfl
  obtain ⟨D511, q514, le512, hS, h515, h513⟩ := hS.lent (h503.mono le507)
  refine oG 4 31 (fuel := 2) (by kernel_rfl) (op_buildSlice (K := (kdSlice (kdInt .u8))) (e := 25) (cs := [.slice A490 (List.length (r486)) c491] ++ ([.slice A500 (List.length (r496)) c501] ++ [])) ([r486, r496] : List (List Int)) rfl rfl rfl rfl hE rfl hS rfl (by kernel_rfl) rfl rfl (by exact (show RL (kdSlice (kdInt .u8)) D511 ([r486, r496] : List (List Int)) ([.slice A490 (List.length (r486)) c491] ++ ([.slice A500 (List.length (r496)) c501] ++ [])) from ⟨_, _, rfl, (kslice (h508.mono le512)), ⟨_, _, rfl, (kslice h513), rfl⟩⟩)) (fun a A516 q517 w hkp hE h518 hS => ⟨hkp.mono (fun _ h => absurd h List.not_mem_nil), ?_⟩))
  clear hkp
  obtain ⟨D520, q523, le521, hS, h524, h522⟩ := hS.lent h518
  obtain ⟨r525, h526, hf⟩ := bind_some hf
  refine oG 5 63 (fuel := 1) (by kernel_rfl) (op_call rfl rfl rfl rfl hE rfl rfl rfl rfl (by kernel_rfl) (wire_All.calls (g := g) h526 (hS.st.fore (L := [])) h522) (fun a v w hR hE => ?_))
  obtain ⟨D527, A529, c530, q531, rfl, hS1, h532⟩ := hR
  refine ⟨(hS1.keeps.sub (M' := []) trivial).mono (fun _ h => h), ?_⟩
  have le534 := hS1.dle
  have hS := hS.callR hS1 rfl (.c .n)
  clear hS1
  refine wP 6 127 0 (.slice A529 (List.length (r525)) c530) hE (fun a hE => ?_)
  refine doneG (by kernel_rfl) ?_
  refine wpIn_ret ?_
  obtain rfl := Option.some.inj hf
  repeat (with_reducible first | refine then_ret ?_ | refine block_ret ?_ | refine qx_ret ?_)
  refine ret_gen ([.slice A529 (List.length (r525)) c530]) hE (by rw [show Tryd.f44.results.toList = [.tmp 1] from rfl]; exact ⟨_, _, rfl, rfl, rfl⟩) ?_
  have hS := hS.pk (.c 4 rfl (.c 0 rfl .n)) rfl
  exact ⟨_, rfl, D527, A529, c530, q531, rfl, hS, h532⟩
 ·replace hf := cond_f hb hf
  clear hb
  refine wpIn_skip ?_
  refine wpIn_seq ?_
  refine region_draw (fun j => Keeps (mfOf [] j)) (by kernel_rfl) ?_
  have hS := hS.drew
  first | generalize w.drew = w at hS ⊢ | generalize w0.drew = w at hS ⊢
  refine wF 1 2 9 44 23 44 hE (fun a hE => ?_)
  refine tT 2 6 (fuel := 8) (by kernel_rfl) hE (tk_load 0 (.agg (List.toArray (acells .u8 32 (x3.fSalt)))) rfl rfl rfl rfl hE rfl hS rfl rfl (by kernel_rfl) (kL (j := 0) hS rfl List.not_mem_nil) (fun a hE => ?_))
  refine wF 4 22 7 43 25 43 hE (fun a hE => ?_)
  refine tT 5 54 (fuel := 6) (by kernel_rfl) hE (tk_load 0 (.slice A7 (List.length (x3.fData)) c8) rfl rfl rfl rfl hE rfl hS rfl rfl (by kernel_rfl) (kL (j := 0) hS rfl List.not_mem_nil) (fun a hE => ?_))
  obtain ⟨r599, h600, hf⟩ := bind_some hf
  refine oG 0 55 (fuel := 5) (by kernel_rfl) (op_call rfl rfl rfl rfl hE rfl rfl rfl rfl (by kernel_rfl) (wire_Flag.calls (g := g) h600 (hS.st.fore (L := [])) ) (fun a v w hR hE => ?_))
  obtain ⟨D601, A603, c604, q605, rfl, hS1, h606⟩ := hR
  refine ⟨(hS1.keeps.sub (M' := []) trivial).mono (fun _ h => h), ?_⟩
  have le608 := hS1.dle
  have hS := hS.callR hS1 rfl (.c .n)
  clear hS1
  obtain ⟨r609, h610, hf⟩ := bind_some hf
  refine oG 3 63 (fuel := 4) (by kernel_rfl) (op_call rfl rfl rfl rfl hE rfl rfl rfl rfl (by kernel_rfl) (wire_Hash.calls (g := g) h610 (hS.st.fore (L := [])) ) (fun a v w hR hE => ?_))
  obtain ⟨D611, A613, c614, q615, rfl, hS1, h616⟩ := hR
  refine ⟨(hS1.keeps.sub (M' := []) trivial).mono (fun _ h => h), ?_⟩
  have le618 := hS1.dle
  have hS := hS.callR hS1 rfl (.c .n)
  clear hS1
  obtain ⟨r619, h620, hf⟩ := bind_some hf
  refine oG 6 127 (fuel := 3) (by kernel_rfl) (op_call rfl rfl rfl rfl hE rfl rfl rfl rfl (by kernel_rfl) (wire_Bytes.calls (g := g) h620 (hS.st.fore (L := [])) (h9.mono (le2 le608 le618))) (fun a v w hR hE => ?_))
  obtain ⟨D621, A623, c624, q625, rfl, hS1, h626⟩ := hR
  refine ⟨(hS1.keeps.sub (M' := []) trivial).mono (fun _ h => h), ?_⟩
  have le628 := hS1.dle
  have hS := hS.callR hS1 rfl (.c .n)
  clear hS1
  have hS := hS.pk (.c 2 rfl (.c 0 rfl (.c 1 rfl (.c 3 rfl .n)))) rfl
  obtain ⟨D629, q632, le630, hS, h633, h631⟩ := hS.lent (h606.mono (le2 le618 le628))
  have hS := hS.pk (.c 2 rfl (.c 0 rfl (.c 1 rfl (.c 3 rfl .n)))) rfl
  obtain ⟨D634, q637, le635, hS, h638, h636⟩ := hS.lent (h616.mono (le2 le628 le630))
  have hS := hS.pk (.c 2 rfl (.c 0 rfl (.c 1 rfl (.c 3 rfl .n)))) rfl
  obtain ⟨D639, q642, le640, hS, h643, h641⟩ := hS.lent (h626.mono (le2 le630 le635))
  refine oG 7 255 (fuel := 2) (by kernel_rfl) (op_buildSlice (K := (kdSlice (kdInt .u8))) (e := 25) (cs := [.slice A603 (List.length (r599)) c604] ++ ([.slice A613 (List.length (r609)) c614] ++ ([.slice A623 (List.length (r619)) c624] ++ []))) ([r599, r609, r619] : List (List Int)) rfl rfl rfl rfl hE rfl hS rfl (by kernel_rfl) rfl rfl (by exact (show RL (kdSlice (kdInt .u8)) D639 ([r599, r609, r619] : List (List Int)) ([.slice A603 (List.length (r599)) c604] ++ ([.slice A613 (List.length (r609)) c614] ++ ([.slice A623 (List.length (r619)) c624] ++ []))) from ⟨_, _, rfl, (kslice (h631.mono (le2 le635 le640))), ⟨_, _, rfl, (kslice (h636.mono le640)), ⟨_, _, rfl, (kslice h641), rfl⟩⟩⟩)) (fun a A644 q645 w hkp hE h646 hS => ⟨hkp.mono (fun _ h => absurd h List.not_mem_nil), ?_⟩))
  clear hkp
  obtain ⟨D648, q651, le649, hS, h652, h650⟩ := hS.lent h646
  obtain ⟨r653, h654, hf⟩ := bind_some hf
  refine oG 8 511 (fuel := 1) (by kernel_rfl) (op_call rfl rfl rfl rfl hE rfl rfl rfl rfl (by kernel_rfl) (wire_All.calls (g := g) h654 (hS.st.fore (L := [])) h650) (fun a v w hR hE => ?_))
  obtain ⟨D655, A657, c658, q659, rfl, hS1, h660⟩ := hR
  refine ⟨(hS1.keeps.sub (M' := []) trivial).mono (fun _ h => h), ?_⟩
  have le662 := hS1.dle
  have hS := hS.callR hS1 rfl (.c .n)
  clear hS1
  refine wP 9 1023 0 (.slice A657 (List.length (r653)) c658) hE (fun a hE => ?_)
  refine doneG (by kernel_rfl) ?_
  refine wpIn_ret ?_
  obtain rfl := Option.some.inj hf
  repeat (with_reducible first | refine then_ret ?_ | refine block_ret ?_ | refine qx_ret ?_)
  refine ret_gen ([.slice A657 (List.length (r653)) c658]) hE (by rw [show Tryd.f44.results.toList = [.tmp 1] from rfl]; exact ⟨_, _, rfl, rfl, rfl⟩) ?_
  have hS := hS.pk (.c 5 rfl (.c 0 rfl .n)) rfl
  exact ⟨_, rfl, D655, A657, c658, q659, rfl, hS, h660⟩
set_option maxRecDepth 100000 in
set_option maxHeartbeats 4000000 in
theorem rec_put.calls {K : Nat} {g w0 : World} {D0 : Snap} {x3 : T_api_Rec} {x10 : T_api_Rec} {b1 : Nat} {A4 : Option Addr} {c5 : Nat} {A7 : Option Addr} {c8 : Nat} {A11 : Option Addr} {c12 : Nat} {A14 : Option Addr} {c15 : Nat} {r : ((List Int))} (hf : rec_put.f K x3 x10 = some r) (hS0 : St g w0 D0 [bx b1 27 (c_T_api_Rec (x10) A11 c12 A14 c15)]) (h6 : Sl kd_T_api_Step D0 A4 c5 (x3.fSteps)) (h9 : Sl (kdInt .u8) D0 A7 c8 (x3.fData)) (h13 : Sl kd_T_api_Step D0 A11 c12 (x10.fSteps)) (h16 : Sl (kdInt .u8) D0 A14 c15 (x10.fData)) :
  CallsIn (Fw none) 0 Tryd.prog 38 (List.toArray [.agg (List.toArray (c_T_api_Rec (x3) A4 c5 A7 c8)), .func (.func 44) #[] #[.pointer (some ⟨b1, 0, none⟩)]]) w0 (fun e w' => ∃ v, e = .returned v ∧ ∃ (D1 : Snap) (A1107 : Option Addr) (c1108 : Nat) (q1109 : Blk), v = .slice A1107 (List.length (r)) c1108 ∧ Stp g w0 D0 [bx b1 27 (c_T_api_Rec (x10) A11 c12 A14 c15)] w' D1 [bx b1 27 (c_T_api_Rec (x10) A11 c12 A14 c15), q1109] ∧ OwnD (kdInt .u8) 5 D1 A1107 c1108 (r) q1109) := by
 unfold rec_put.f at hf
 have hS := Stp.refl hS0
 clear hS0
 refine calls_body (n := 29) Tryd.func38 rfl Tryd.ntmps38 rfl (fun a hE => ?_)
 have hE : Env a 29 [] [(0, .agg (List.toArray (c_T_api_Rec (x3) A4 c5 A7 c8))), (1, .func (.func 44) #[] #[.pointer (some ⟨b1, 0, none⟩)])] := hE
 refine wpIn_seq ?_
 refine region_at ?_
 refine at_op (op_box rfl rfl rfl rfl hE rfl hS rfl (fun a b1112 w _ hE hS => ?_)) rfl
 refine sN 1 2 [(4, .slice none 0 0)] hE (fun a hE => ?_)
 refine at_end rfl ?_
 refine wpIn_seq ?_
 refine wpIn_seq ?_
 refine region_at ?_
 refine aL 0 (.agg (List.toArray (c_T_api_Rec (x3) A4 c5 A7 c8))) hE hS (fun a hE => ?_)
 obtain ⟨r1119, h1120, hf⟩ := bind_some hf
 refine aC rfl rfl rfl rfl hE rfl rfl rfl rfl (rec_Right.calls (g := g) h1120 (hS.st.fore (L := [])) h6 h9) (fun a v w hR hE => ?_)
 obtain ⟨D1121, rfl, hS1⟩ := hR
 have le1123 := hS1.dle
 have hS := hS.callR hS1 rfl .n
 clear hS1
 refine sN 1 3 [(8, .bool ((!r1119)))] hE (fun a hE => ?_)
 refine at_end rfl ?_
 refine cond_split hE (b := (!r1119)) rfl (fun hb => ?_) (fun hb => ?_)
 ·replace hf := cond_t hb hf
  clear hb
  refine wpIn_seq ?_
  refine region_at ?_
  refine sN 1 1 [(4, .slice none 0 0)] hE (fun a hE => ?_)
  refine at_end rfl ?_
  refine wpIn_ret ?_
  have hS := hS.nils
  obtain rfl := Option.some.inj hf
  repeat (with_reducible first | refine then_ret ?_ | refine block_ret ?_ | refine qx_ret ?_)
  refine ret_gen ([.slice none 0 0]) hE (by rw [show Tryd.f38.results.toList = [.tmp 4] from rfl]; exact ⟨_, _, rfl, rfl, rfl⟩) ?_
  have hS := hS.pk (.c 2 rfl (.c 0 rfl .n)) rfl
  exact ⟨_, rfl, D1121, none, 0, none, rfl, hS, (OwnD.nil (kdInt .u8) 5 D1121)⟩
 ·replace hf := cond_f hb hf
  clear hb
  refine wpIn_skip ?_
  obtain ⟨j1689, hj1690, hf⟩ := jn_elim hf
  refine seq_join (fun a w => ∃ (y1637 : (List Int)), ∃ (A1640 : Option Addr), ∃ (c1641 : Nat), ∃ (q1642 : Blk), ∃ (D1638 : Snap), Env a 29 [] [(1, .func (.func 44) #[] #[.pointer (some ⟨b1, 0, none⟩)]), (2, .pointer (some ⟨b1112, 0, none⟩)), (5, .slice A1640 (List.length (y1637)) c1641)] ∧ Stp g w0 D0 [bx b1 27 (c_T_api_Rec (x10) A11 c12 A14 c15)] w D1638 [bx b1 27 (c_T_api_Rec (x10) A11 c12 A14 c15), bx b1112 27 (c_T_api_Rec (x3) A4 c5 A7 c8), q1642] ∧ Snap.le D1121 D1638 ∧ OwnD (kdInt .u8) 5 D1638 A1640 c1641 (y1637) q1642 ∧ j1689 y1637 = some r) ?_ ?_
  ·clear hj1690
   refine region_draw (fun j => Keeps (mfOf [] j)) (by kernel_rfl) ?_
   have hS := hS.drew
   first | generalize w.drew = w at hS ⊢ | generalize w0.drew = w at hS ⊢
   refine wF 0 1 12 0 3 0 hE (fun a hE => ?_)
   refine tT 1 3 (fuel := 11) (by kernel_rfl) hE (tk_load 0 (.int .i64 (x3.fKind)) rfl rfl rfl rfl hE rfl hS rfl rfl (by kernel_rfl) (kL (j := 0) hS rfl List.not_mem_nil) (fun a hE => ?_))
   refine wF 4 19 10 0 3 0 hE (fun a hE => ?_)
   refine tT 5 51 (fuel := 9) (by kernel_rfl) hE (tk_load 0 (.int .i64 (x3.fKind)) rfl rfl rfl rfl hE rfl hS rfl rfl (by kernel_rfl) (kL (j := 0) hS rfl List.not_mem_nil) (fun a hE => ?_))
   refine tT 8 307 (fuel := 8) (by kernel_rfl) hE (tk_load 0 (.agg (List.toArray (c_T_api_Rec (x3) A4 c5 A7 c8))) rfl rfl rfl rfl hE rfl hS rfl rfl (by kernel_rfl) (kL (j := 0) hS rfl List.not_mem_nil) (fun a hE => ?_))
   obtain ⟨r1947, h1948, hf⟩ := bind_some hf
   refine oG 2 311 (fuel := 7) (by kernel_rfl) (op_call rfl rfl rfl rfl hE rfl rfl rfl rfl (by kernel_rfl) (wire_Num.calls (g := g) h1948 (hS.st.fore (L := [])) ) (fun a v w hR hE => ?_))
   obtain ⟨D1949, A1951, c1952, q1953, rfl, hS1, h1954⟩ := hR
   refine ⟨(hS1.keeps.sub (M' := []) trivial).mono (fun _ h => h), ?_⟩
   have le1956 := hS1.dle
   have hS := hS.callR hS1 rfl (.c .n)
   clear hS1
   obtain ⟨r1957, h1958, hf⟩ := bind_some hf
   refine oG 3 319 (fuel := 6) (by kernel_rfl) (op_call rfl rfl rfl rfl hE rfl rfl rfl rfl (by kernel_rfl) (rec_forms.calls (g := g) h1958 (hS.st.fore (L := [])) ) (fun a v w hR hE => ?_))
   obtain ⟨D1959, rfl, hS1⟩ := hR
   refine ⟨(hS1.keeps.sub (M' := []) trivial).mono (fun _ h => h), ?_⟩
   have le1961 := hS1.dle
   have hS := hS.callR hS1 rfl .n
   clear hS1
   cases hb : decide (x3.fKind = (0 : Int))
   ·replace hf := cond_f hb hf
    clear hb
    cases hb : decide (x3.fKind = (1 : Int))
    ·replace hf := cond_f hb hf
     clear hb
     cases hb : decide (x3.fKind = (2 : Int))
     ·replace hf := cond_f hb hf
      clear hb
      cases hb : decide (x3.fKind = (3 : Int))
      ·replace hf := cond_f hb hf
       clear hb
       cases hb : decide (x3.fKind = (4 : Int))
       ·replace hf := cond_f hb hf
        clear hb
        cases hb : decide (x3.fKind = (5 : Int))
        ·replace hf := cond_f hb hf
         clear hb
         cases hb : decide (x3.fKind = (6 : Int))
         ·replace hf := cond_f hb hf
          clear hb
          cases hf
         ·replace hf := cond_t hb hf
          have hk2163 := of_decide_eq_true hb
          clear hb
          refine tW 6 383 (fuel := 5) (by kernel_rfl) hE (fun M => tk_indexV (N := 7) (e := 79) (sz := 1) (cs := ([.nilFunc]) ++ (([.func (.func 85) #[] #[]]) ++ (([.func (.func 86) #[] #[]]) ++ (([.func (.func 87) #[] #[]]) ++ (([.func (.func 86) #[] #[]]) ++ (([.func (.func 89) #[] #[]]) ++ (([.func (.func 90) #[] #[]])))))))) 6 (.agg (List.toArray ([.func (.func 90) #[] #[]]))) rfl rfl rfl rfl hE rfl rfl rfl hk2163 (by kernel_rfl) (by kernel_rfl) (by kernel_rfl) (fun a hE => ?_))
          refine tW 7 511 (fuel := 4) (by kernel_rfl) hE (fun M => g_field (cs := [.func (.func 90) #[] #[]]) (fo := 0) (ft := 34) (.func (.func 90) #[] #[]) rfl rfl rfl rfl hE rfl rfl (by kernel_rfl) (by kernel_rfl) (fun a hE => ?_))
          obtain ⟨r2164, h2165, hf⟩ := bind_some hf
          refine oG 9 1023 (fuel := 3) (by kernel_rfl) (op_call rfl rfl rfl rfl hE rfl rfl rfl rfl (by kernel_rfl) (rec_forms_3.calls (g := g) h2165 (hS.st.fore (L := [])) (h6.mono (le2 (le2 le1123 le1956) le1961)) (h9.mono (le2 (le2 le1123 le1956) le1961))) (fun a v w hR hE => ?_))
          obtain ⟨D2166, A2168, c2169, q2170, rfl, hS1, h2171⟩ := hR
          refine ⟨(hS1.keeps.sub (M' := []) trivial).mono (fun _ h => h), ?_⟩
          have le2173 := hS1.dle
          have hS := hS.callR hS1 rfl (.c .n)
          clear hS1
          have hS := hS.pk (.c 1 rfl (.c 0 rfl (.c 2 rfl (.c 3 rfl .n)))) rfl
          obtain ⟨D2174, q2177, le2175, hS, h2178, h2176⟩ := hS.lent (h1954.mono (le2 le1961 le2173))
          have hS := hS.pk (.c 1 rfl (.c 0 rfl (.c 2 rfl (.c 3 rfl .n)))) rfl
          obtain ⟨D2179, q2182, le2180, hS, h2183, h2181⟩ := hS.lent (h2171.mono le2175)
          refine oG 10 2047 (fuel := 2) (by kernel_rfl) (op_buildSlice (K := (kdSlice (kdInt .u8))) (e := 25) (cs := [.slice A1951 (List.length (r1947)) c1952] ++ ([.slice A2168 (List.length (r2164)) c2169] ++ [])) ([r1947, r2164] : List (List Int)) rfl rfl rfl rfl hE rfl hS rfl (by kernel_rfl) rfl rfl (by exact (show RL (kdSlice (kdInt .u8)) D2179 ([r1947, r2164] : List (List Int)) ([.slice A1951 (List.length (r1947)) c1952] ++ ([.slice A2168 (List.length (r2164)) c2169] ++ [])) from ⟨_, _, rfl, (kslice (h2176.mono le2180)), ⟨_, _, rfl, (kslice h2181), rfl⟩⟩)) (fun a A2184 q2185 w hkp hE h2186 hS => ⟨hkp.mono (fun _ h => absurd h List.not_mem_nil), ?_⟩))
          clear hkp
          obtain ⟨D2188, q2191, le2189, hS, h2192, h2190⟩ := hS.lent h2186
          obtain ⟨r2193, h2194, hf⟩ := bind_some hf
          refine oG 11 4095 (fuel := 1) (by kernel_rfl) (op_call rfl rfl rfl rfl hE rfl rfl rfl rfl (by kernel_rfl) (wire_All.calls (g := g) h2194 (hS.st.fore (L := [])) h2190) (fun a v w hR hE => ?_))
          obtain ⟨D2195, A2197, c2198, q2199, rfl, hS1, h2200⟩ := hR
          refine ⟨(hS1.keeps.sub (M' := []) trivial).mono (fun _ h => h), ?_⟩
          have le2202 := hS1.dle
          have hS := hS.callR hS1 rfl (.c .n)
          clear hS1
          refine wP 12 8191 0 (.slice A2197 (List.length (r2193)) c2198) hE (fun a hE => ?_)
          refine doneG (by kernel_rfl) ?_
          have hS := hS.pk (.c 5 rfl (.c 4 rfl (.c 0 rfl .n))) rfl
          exact ⟨r2193, A2197, c2198, q2199, D2195, hE.weak (by kernel_rfl), hS, (le2 (le2 (le2 (le2 (le2 (le2 le1956 le1961) le2173) le2175) le2180) le2189) le2202), h2200, hf⟩
        ·replace hf := cond_t hb hf
         have hk2123 := of_decide_eq_true hb
         clear hb
         refine tW 6 383 (fuel := 5) (by kernel_rfl) hE (fun M => tk_indexV (N := 7) (e := 79) (sz := 1) (cs := ([.nilFunc]) ++ (([.func (.func 85) #[] #[]]) ++ (([.func (.func 86) #[] #[]]) ++ (([.func (.func 87) #[] #[]]) ++ (([.func (.func 86) #[] #[]]) ++ (([.func (.func 89) #[] #[]]) ++ (([.func (.func 90) #[] #[]])))))))) 5 (.agg (List.toArray ([.func (.func 89) #[] #[]]))) rfl rfl rfl rfl hE rfl rfl rfl hk2123 (by kernel_rfl) (by kernel_rfl) (by kernel_rfl) (fun a hE => ?_))
         refine tW 7 511 (fuel := 4) (by kernel_rfl) hE (fun M => g_field (cs := [.func (.func 89) #[] #[]]) (fo := 0) (ft := 34) (.func (.func 89) #[] #[]) rfl rfl rfl rfl hE rfl rfl (by kernel_rfl) (by kernel_rfl) (fun a hE => ?_))
         obtain ⟨r2124, h2125, hf⟩ := bind_some hf
         refine oG 9 1023 (fuel := 3) (by kernel_rfl) (op_call rfl rfl rfl rfl hE rfl rfl rfl rfl (by kernel_rfl) (rec_forms_2.calls (g := g) h2125 (hS.st.fore (L := [])) (h6.mono (le2 (le2 le1123 le1956) le1961)) (h9.mono (le2 (le2 le1123 le1956) le1961))) (fun a v w hR hE => ?_))
         obtain ⟨D2126, A2128, c2129, q2130, rfl, hS1, h2131⟩ := hR
         refine ⟨(hS1.keeps.sub (M' := []) trivial).mono (fun _ h => h), ?_⟩
         have le2133 := hS1.dle
         have hS := hS.callR hS1 rfl (.c .n)
         clear hS1
         have hS := hS.pk (.c 1 rfl (.c 0 rfl (.c 2 rfl (.c 3 rfl .n)))) rfl
         obtain ⟨D2134, q2137, le2135, hS, h2138, h2136⟩ := hS.lent (h1954.mono (le2 le1961 le2133))
         have hS := hS.pk (.c 1 rfl (.c 0 rfl (.c 2 rfl (.c 3 rfl .n)))) rfl
         obtain ⟨D2139, q2142, le2140, hS, h2143, h2141⟩ := hS.lent (h2131.mono le2135)
         refine oG 10 2047 (fuel := 2) (by kernel_rfl) (op_buildSlice (K := (kdSlice (kdInt .u8))) (e := 25) (cs := [.slice A1951 (List.length (r1947)) c1952] ++ ([.slice A2128 (List.length (r2124)) c2129] ++ [])) ([r1947, r2124] : List (List Int)) rfl rfl rfl rfl hE rfl hS rfl (by kernel_rfl) rfl rfl (by exact (show RL (kdSlice (kdInt .u8)) D2139 ([r1947, r2124] : List (List Int)) ([.slice A1951 (List.length (r1947)) c1952] ++ ([.slice A2128 (List.length (r2124)) c2129] ++ [])) from ⟨_, _, rfl, (kslice (h2136.mono le2140)), ⟨_, _, rfl, (kslice h2141), rfl⟩⟩)) (fun a A2144 q2145 w hkp hE h2146 hS => ⟨hkp.mono (fun _ h => absurd h List.not_mem_nil), ?_⟩))
         clear hkp
         obtain ⟨D2148, q2151, le2149, hS, h2152, h2150⟩ := hS.lent h2146
         obtain ⟨r2153, h2154, hf⟩ := bind_some hf
         refine oG 11 4095 (fuel := 1) (by kernel_rfl) (op_call rfl rfl rfl rfl hE rfl rfl rfl rfl (by kernel_rfl) (wire_All.calls (g := g) h2154 (hS.st.fore (L := [])) h2150) (fun a v w hR hE => ?_))
         obtain ⟨D2155, A2157, c2158, q2159, rfl, hS1, h2160⟩ := hR
         refine ⟨(hS1.keeps.sub (M' := []) trivial).mono (fun _ h => h), ?_⟩
         have le2162 := hS1.dle
         have hS := hS.callR hS1 rfl (.c .n)
         clear hS1
         refine wP 12 8191 0 (.slice A2157 (List.length (r2153)) c2158) hE (fun a hE => ?_)
         refine doneG (by kernel_rfl) ?_
         have hS := hS.pk (.c 5 rfl (.c 4 rfl (.c 0 rfl .n))) rfl
         exact ⟨r2153, A2157, c2158, q2159, D2155, hE.weak (by kernel_rfl), hS, (le2 (le2 (le2 (le2 (le2 (le2 le1956 le1961) le2133) le2135) le2140) le2149) le2162), h2160, hf⟩
       ·replace hf := cond_t hb hf
        have hk2083 := of_decide_eq_true hb
        clear hb
        refine tW 6 383 (fuel := 5) (by kernel_rfl) hE (fun M => tk_indexV (N := 7) (e := 79) (sz := 1) (cs := ([.nilFunc]) ++ (([.func (.func 85) #[] #[]]) ++ (([.func (.func 86) #[] #[]]) ++ (([.func (.func 87) #[] #[]]) ++ (([.func (.func 86) #[] #[]]) ++ (([.func (.func 89) #[] #[]]) ++ (([.func (.func 90) #[] #[]])))))))) 4 (.agg (List.toArray ([.func (.func 86) #[] #[]]))) rfl rfl rfl rfl hE rfl rfl rfl hk2083 (by kernel_rfl) (by kernel_rfl) (by kernel_rfl) (fun a hE => ?_))
        refine tW 7 511 (fuel := 4) (by kernel_rfl) hE (fun M => g_field (cs := [.func (.func 86) #[] #[]]) (fo := 0) (ft := 34) (.func (.func 86) #[] #[]) rfl rfl rfl rfl hE rfl rfl (by kernel_rfl) (by kernel_rfl) (fun a hE => ?_))
        obtain ⟨r2084, h2085, hf⟩ := bind_some hf
        refine oG 9 1023 (fuel := 3) (by kernel_rfl) (op_call rfl rfl rfl rfl hE rfl rfl rfl rfl (by kernel_rfl) (rec_call.calls (g := g) h2085 (hS.st.fore (L := [])) (h6.mono (le2 (le2 le1123 le1956) le1961)) (h9.mono (le2 (le2 le1123 le1956) le1961))) (fun a v w hR hE => ?_))
        obtain ⟨D2086, A2088, c2089, q2090, rfl, hS1, h2091⟩ := hR
        refine ⟨(hS1.keeps.sub (M' := []) trivial).mono (fun _ h => h), ?_⟩
        have le2093 := hS1.dle
        have hS := hS.callR hS1 rfl (.c .n)
        clear hS1
        have hS := hS.pk (.c 1 rfl (.c 0 rfl (.c 2 rfl (.c 3 rfl .n)))) rfl
        obtain ⟨D2094, q2097, le2095, hS, h2098, h2096⟩ := hS.lent (h1954.mono (le2 le1961 le2093))
        have hS := hS.pk (.c 1 rfl (.c 0 rfl (.c 2 rfl (.c 3 rfl .n)))) rfl
        obtain ⟨D2099, q2102, le2100, hS, h2103, h2101⟩ := hS.lent (h2091.mono le2095)
        refine oG 10 2047 (fuel := 2) (by kernel_rfl) (op_buildSlice (K := (kdSlice (kdInt .u8))) (e := 25) (cs := [.slice A1951 (List.length (r1947)) c1952] ++ ([.slice A2088 (List.length (r2084)) c2089] ++ [])) ([r1947, r2084] : List (List Int)) rfl rfl rfl rfl hE rfl hS rfl (by kernel_rfl) rfl rfl (by exact (show RL (kdSlice (kdInt .u8)) D2099 ([r1947, r2084] : List (List Int)) ([.slice A1951 (List.length (r1947)) c1952] ++ ([.slice A2088 (List.length (r2084)) c2089] ++ [])) from ⟨_, _, rfl, (kslice (h2096.mono le2100)), ⟨_, _, rfl, (kslice h2101), rfl⟩⟩)) (fun a A2104 q2105 w hkp hE h2106 hS => ⟨hkp.mono (fun _ h => absurd h List.not_mem_nil), ?_⟩))
        clear hkp
        obtain ⟨D2108, q2111, le2109, hS, h2112, h2110⟩ := hS.lent h2106
        obtain ⟨r2113, h2114, hf⟩ := bind_some hf
        refine oG 11 4095 (fuel := 1) (by kernel_rfl) (op_call rfl rfl rfl rfl hE rfl rfl rfl rfl (by kernel_rfl) (wire_All.calls (g := g) h2114 (hS.st.fore (L := [])) h2110) (fun a v w hR hE => ?_))
        obtain ⟨D2115, A2117, c2118, q2119, rfl, hS1, h2120⟩ := hR
        refine ⟨(hS1.keeps.sub (M' := []) trivial).mono (fun _ h => h), ?_⟩
        have le2122 := hS1.dle
        have hS := hS.callR hS1 rfl (.c .n)
        clear hS1
        refine wP 12 8191 0 (.slice A2117 (List.length (r2113)) c2118) hE (fun a hE => ?_)
        refine doneG (by kernel_rfl) ?_
        have hS := hS.pk (.c 5 rfl (.c 4 rfl (.c 0 rfl .n))) rfl
        exact ⟨r2113, A2117, c2118, q2119, D2115, hE.weak (by kernel_rfl), hS, (le2 (le2 (le2 (le2 (le2 (le2 le1956 le1961) le2093) le2095) le2100) le2109) le2122), h2120, hf⟩
      ·replace hf := cond_t hb hf
       have hk2043 := of_decide_eq_true hb
       clear hb
       refine tW 6 383 (fuel := 5) (by kernel_rfl) hE (fun M => tk_indexV (N := 7) (e := 79) (sz := 1) (cs := ([.nilFunc]) ++ (([.func (.func 85) #[] #[]]) ++ (([.func (.func 86) #[] #[]]) ++ (([.func (.func 87) #[] #[]]) ++ (([.func (.func 86) #[] #[]]) ++ (([.func (.func 89) #[] #[]]) ++ (([.func (.func 90) #[] #[]])))))))) 3 (.agg (List.toArray ([.func (.func 87) #[] #[]]))) rfl rfl rfl rfl hE rfl rfl rfl hk2043 (by kernel_rfl) (by kernel_rfl) (by kernel_rfl) (fun a hE => ?_))
       refine tW 7 511 (fuel := 4) (by kernel_rfl) hE (fun M => g_field (cs := [.func (.func 87) #[] #[]]) (fo := 0) (ft := 34) (.func (.func 87) #[] #[]) rfl rfl rfl rfl hE rfl rfl (by kernel_rfl) (by kernel_rfl) (fun a hE => ?_))
       obtain ⟨r2044, h2045, hf⟩ := bind_some hf
       refine oG 9 1023 (fuel := 3) (by kernel_rfl) (op_call rfl rfl rfl rfl hE rfl rfl rfl rfl (by kernel_rfl) (rec_forms_1.calls (g := g) h2045 (hS.st.fore (L := [])) (h6.mono (le2 (le2 le1123 le1956) le1961)) (h9.mono (le2 (le2 le1123 le1956) le1961))) (fun a v w hR hE => ?_))
       obtain ⟨D2046, A2048, c2049, q2050, rfl, hS1, h2051⟩ := hR
       refine ⟨(hS1.keeps.sub (M' := []) trivial).mono (fun _ h => h), ?_⟩
       have le2053 := hS1.dle
       have hS := hS.callR hS1 rfl (.c .n)
       clear hS1
       have hS := hS.pk (.c 1 rfl (.c 0 rfl (.c 2 rfl (.c 3 rfl .n)))) rfl
       obtain ⟨D2054, q2057, le2055, hS, h2058, h2056⟩ := hS.lent (h1954.mono (le2 le1961 le2053))
       have hS := hS.pk (.c 1 rfl (.c 0 rfl (.c 2 rfl (.c 3 rfl .n)))) rfl
       obtain ⟨D2059, q2062, le2060, hS, h2063, h2061⟩ := hS.lent (h2051.mono le2055)
       refine oG 10 2047 (fuel := 2) (by kernel_rfl) (op_buildSlice (K := (kdSlice (kdInt .u8))) (e := 25) (cs := [.slice A1951 (List.length (r1947)) c1952] ++ ([.slice A2048 (List.length (r2044)) c2049] ++ [])) ([r1947, r2044] : List (List Int)) rfl rfl rfl rfl hE rfl hS rfl (by kernel_rfl) rfl rfl (by exact (show RL (kdSlice (kdInt .u8)) D2059 ([r1947, r2044] : List (List Int)) ([.slice A1951 (List.length (r1947)) c1952] ++ ([.slice A2048 (List.length (r2044)) c2049] ++ [])) from ⟨_, _, rfl, (kslice (h2056.mono le2060)), ⟨_, _, rfl, (kslice h2061), rfl⟩⟩)) (fun a A2064 q2065 w hkp hE h2066 hS => ⟨hkp.mono (fun _ h => absurd h List.not_mem_nil), ?_⟩))
       clear hkp
       obtain ⟨D2068, q2071, le2069, hS, h2072, h2070⟩ := hS.lent h2066
       obtain ⟨r2073, h2074, hf⟩ := bind_some hf
       refine oG 11 4095 (fuel := 1) (by kernel_rfl) (op_call rfl rfl rfl rfl hE rfl rfl rfl rfl (by kernel_rfl) (wire_All.calls (g := g) h2074 (hS.st.fore (L := [])) h2070) (fun a v w hR hE => ?_))
       obtain ⟨D2075, A2077, c2078, q2079, rfl, hS1, h2080⟩ := hR
       refine ⟨(hS1.keeps.sub (M' := []) trivial).mono (fun _ h => h), ?_⟩
       have le2082 := hS1.dle
       have hS := hS.callR hS1 rfl (.c .n)
       clear hS1
       refine wP 12 8191 0 (.slice A2077 (List.length (r2073)) c2078) hE (fun a hE => ?_)
       refine doneG (by kernel_rfl) ?_
       have hS := hS.pk (.c 5 rfl (.c 4 rfl (.c 0 rfl .n))) rfl
       exact ⟨r2073, A2077, c2078, q2079, D2075, hE.weak (by kernel_rfl), hS, (le2 (le2 (le2 (le2 (le2 (le2 le1956 le1961) le2053) le2055) le2060) le2069) le2082), h2080, hf⟩
     ·replace hf := cond_t hb hf
      have hk2003 := of_decide_eq_true hb
      clear hb
      refine tW 6 383 (fuel := 5) (by kernel_rfl) hE (fun M => tk_indexV (N := 7) (e := 79) (sz := 1) (cs := ([.nilFunc]) ++ (([.func (.func 85) #[] #[]]) ++ (([.func (.func 86) #[] #[]]) ++ (([.func (.func 87) #[] #[]]) ++ (([.func (.func 86) #[] #[]]) ++ (([.func (.func 89) #[] #[]]) ++ (([.func (.func 90) #[] #[]])))))))) 2 (.agg (List.toArray ([.func (.func 86) #[] #[]]))) rfl rfl rfl rfl hE rfl rfl rfl hk2003 (by kernel_rfl) (by kernel_rfl) (by kernel_rfl) (fun a hE => ?_))
      refine tW 7 511 (fuel := 4) (by kernel_rfl) hE (fun M => g_field (cs := [.func (.func 86) #[] #[]]) (fo := 0) (ft := 34) (.func (.func 86) #[] #[]) rfl rfl rfl rfl hE rfl rfl (by kernel_rfl) (by kernel_rfl) (fun a hE => ?_))
      obtain ⟨r2004, h2005, hf⟩ := bind_some hf
      refine oG 9 1023 (fuel := 3) (by kernel_rfl) (op_call rfl rfl rfl rfl hE rfl rfl rfl rfl (by kernel_rfl) (rec_call.calls (g := g) h2005 (hS.st.fore (L := [])) (h6.mono (le2 (le2 le1123 le1956) le1961)) (h9.mono (le2 (le2 le1123 le1956) le1961))) (fun a v w hR hE => ?_))
      obtain ⟨D2006, A2008, c2009, q2010, rfl, hS1, h2011⟩ := hR
      refine ⟨(hS1.keeps.sub (M' := []) trivial).mono (fun _ h => h), ?_⟩
      have le2013 := hS1.dle
      have hS := hS.callR hS1 rfl (.c .n)
      clear hS1
      have hS := hS.pk (.c 1 rfl (.c 0 rfl (.c 2 rfl (.c 3 rfl .n)))) rfl
      obtain ⟨D2014, q2017, le2015, hS, h2018, h2016⟩ := hS.lent (h1954.mono (le2 le1961 le2013))
      have hS := hS.pk (.c 1 rfl (.c 0 rfl (.c 2 rfl (.c 3 rfl .n)))) rfl
      obtain ⟨D2019, q2022, le2020, hS, h2023, h2021⟩ := hS.lent (h2011.mono le2015)
      refine oG 10 2047 (fuel := 2) (by kernel_rfl) (op_buildSlice (K := (kdSlice (kdInt .u8))) (e := 25) (cs := [.slice A1951 (List.length (r1947)) c1952] ++ ([.slice A2008 (List.length (r2004)) c2009] ++ [])) ([r1947, r2004] : List (List Int)) rfl rfl rfl rfl hE rfl hS rfl (by kernel_rfl) rfl rfl (by exact (show RL (kdSlice (kdInt .u8)) D2019 ([r1947, r2004] : List (List Int)) ([.slice A1951 (List.length (r1947)) c1952] ++ ([.slice A2008 (List.length (r2004)) c2009] ++ [])) from ⟨_, _, rfl, (kslice (h2016.mono le2020)), ⟨_, _, rfl, (kslice h2021), rfl⟩⟩)) (fun a A2024 q2025 w hkp hE h2026 hS => ⟨hkp.mono (fun _ h => absurd h List.not_mem_nil), ?_⟩))
      clear hkp
      obtain ⟨D2028, q2031, le2029, hS, h2032, h2030⟩ := hS.lent h2026
      obtain ⟨r2033, h2034, hf⟩ := bind_some hf
      refine oG 11 4095 (fuel := 1) (by kernel_rfl) (op_call rfl rfl rfl rfl hE rfl rfl rfl rfl (by kernel_rfl) (wire_All.calls (g := g) h2034 (hS.st.fore (L := [])) h2030) (fun a v w hR hE => ?_))
      obtain ⟨D2035, A2037, c2038, q2039, rfl, hS1, h2040⟩ := hR
      refine ⟨(hS1.keeps.sub (M' := []) trivial).mono (fun _ h => h), ?_⟩
      have le2042 := hS1.dle
      have hS := hS.callR hS1 rfl (.c .n)
      clear hS1
      refine wP 12 8191 0 (.slice A2037 (List.length (r2033)) c2038) hE (fun a hE => ?_)
      refine doneG (by kernel_rfl) ?_
      have hS := hS.pk (.c 5 rfl (.c 4 rfl (.c 0 rfl .n))) rfl
      exact ⟨r2033, A2037, c2038, q2039, D2035, hE.weak (by kernel_rfl), hS, (le2 (le2 (le2 (le2 (le2 (le2 le1956 le1961) le2013) le2015) le2020) le2029) le2042), h2040, hf⟩
    ·replace hf := cond_t hb hf
     have hk1963 := of_decide_eq_true hb
     clear hb
     refine tW 6 383 (fuel := 5) (by kernel_rfl) hE (fun M => tk_indexV (N := 7) (e := 79) (sz := 1) (cs := ([.nilFunc]) ++ (([.func (.func 85) #[] #[]]) ++ (([.func (.func 86) #[] #[]]) ++ (([.func (.func 87) #[] #[]]) ++ (([.func (.func 86) #[] #[]]) ++ (([.func (.func 89) #[] #[]]) ++ (([.func (.func 90) #[] #[]])))))))) 1 (.agg (List.toArray ([.func (.func 85) #[] #[]]))) rfl rfl rfl rfl hE rfl rfl rfl hk1963 (by kernel_rfl) (by kernel_rfl) (by kernel_rfl) (fun a hE => ?_))
     refine tW 7 511 (fuel := 4) (by kernel_rfl) hE (fun M => g_field (cs := [.func (.func 85) #[] #[]]) (fo := 0) (ft := 34) (.func (.func 85) #[] #[]) rfl rfl rfl rfl hE rfl rfl (by kernel_rfl) (by kernel_rfl) (fun a hE => ?_))
     obtain ⟨r1964, h1965, hf⟩ := bind_some hf
     refine oG 9 1023 (fuel := 3) (by kernel_rfl) (op_call rfl rfl rfl rfl hE rfl rfl rfl rfl (by kernel_rfl) (rec_begin.calls (g := g) h1965 (hS.st.fore (L := [])) (h6.mono (le2 (le2 le1123 le1956) le1961)) (h9.mono (le2 (le2 le1123 le1956) le1961))) (fun a v w hR hE => ?_))
     obtain ⟨D1966, A1968, c1969, q1970, rfl, hS1, h1971⟩ := hR
     refine ⟨(hS1.keeps.sub (M' := []) trivial).mono (fun _ h => h), ?_⟩
     have le1973 := hS1.dle
     have hS := hS.callR hS1 rfl (.c .n)
     clear hS1
     have hS := hS.pk (.c 1 rfl (.c 0 rfl (.c 2 rfl (.c 3 rfl .n)))) rfl
     obtain ⟨D1974, q1977, le1975, hS, h1978, h1976⟩ := hS.lent (h1954.mono (le2 le1961 le1973))
     have hS := hS.pk (.c 1 rfl (.c 0 rfl (.c 2 rfl (.c 3 rfl .n)))) rfl
     obtain ⟨D1979, q1982, le1980, hS, h1983, h1981⟩ := hS.lent (h1971.mono le1975)
     refine oG 10 2047 (fuel := 2) (by kernel_rfl) (op_buildSlice (K := (kdSlice (kdInt .u8))) (e := 25) (cs := [.slice A1951 (List.length (r1947)) c1952] ++ ([.slice A1968 (List.length (r1964)) c1969] ++ [])) ([r1947, r1964] : List (List Int)) rfl rfl rfl rfl hE rfl hS rfl (by kernel_rfl) rfl rfl (by exact (show RL (kdSlice (kdInt .u8)) D1979 ([r1947, r1964] : List (List Int)) ([.slice A1951 (List.length (r1947)) c1952] ++ ([.slice A1968 (List.length (r1964)) c1969] ++ [])) from ⟨_, _, rfl, (kslice (h1976.mono le1980)), ⟨_, _, rfl, (kslice h1981), rfl⟩⟩)) (fun a A1984 q1985 w hkp hE h1986 hS => ⟨hkp.mono (fun _ h => absurd h List.not_mem_nil), ?_⟩))
     clear hkp
     obtain ⟨D1988, q1991, le1989, hS, h1992, h1990⟩ := hS.lent h1986
     obtain ⟨r1993, h1994, hf⟩ := bind_some hf
     refine oG 11 4095 (fuel := 1) (by kernel_rfl) (op_call rfl rfl rfl rfl hE rfl rfl rfl rfl (by kernel_rfl) (wire_All.calls (g := g) h1994 (hS.st.fore (L := [])) h1990) (fun a v w hR hE => ?_))
     obtain ⟨D1995, A1997, c1998, q1999, rfl, hS1, h2000⟩ := hR
     refine ⟨(hS1.keeps.sub (M' := []) trivial).mono (fun _ h => h), ?_⟩
     have le2002 := hS1.dle
     have hS := hS.callR hS1 rfl (.c .n)
     clear hS1
     refine wP 12 8191 0 (.slice A1997 (List.length (r1993)) c1998) hE (fun a hE => ?_)
     refine doneG (by kernel_rfl) ?_
     have hS := hS.pk (.c 5 rfl (.c 4 rfl (.c 0 rfl .n))) rfl
     exact ⟨r1993, A1997, c1998, q1999, D1995, hE.weak (by kernel_rfl), hS, (le2 (le2 (le2 (le2 (le2 (le2 le1956 le1961) le1973) le1975) le1980) le1989) le2002), h2000, hf⟩
   ·replace hf := cond_t hb hf
    have hk1962 := of_decide_eq_true hb
    clear hb
    refine tW 6 383 (fuel := 5) (by kernel_rfl) hE (fun M => tk_indexV (N := 7) (e := 79) (sz := 1) (cs := ([.nilFunc]) ++ (([.func (.func 85) #[] #[]]) ++ (([.func (.func 86) #[] #[]]) ++ (([.func (.func 87) #[] #[]]) ++ (([.func (.func 86) #[] #[]]) ++ (([.func (.func 89) #[] #[]]) ++ (([.func (.func 90) #[] #[]])))))))) 0 (.agg (List.toArray ([.nilFunc]))) rfl rfl rfl rfl hE rfl rfl rfl hk1962 (by kernel_rfl) (by kernel_rfl) (by kernel_rfl) (fun a hE => ?_))
    refine tW 7 511 (fuel := 4) (by kernel_rfl) hE (fun M => g_field (cs := [.nilFunc]) (fo := 0) (ft := 34) (.nilFunc) rfl rfl rfl rfl hE rfl rfl (by kernel_rfl) (by kernel_rfl) (fun a hE => ?_))
    cases hf
  ·clear hE hS
   rintro a w ⟨y1637, A1640, c1641, q1642, D1638, hE, hS, le1639, h1643, hf⟩
   replace hf := hj1690 _ hf
   clear hj1690
   refine wpIn_seq ?_
   refine wpIn_seq ?_
   refine region_at ?_
   refine aF 0 3 0 hE (fun a hE => ?_)
   refine aL 1 (.int .i64 (x3.fKind)) hE hS (fun a hE => ?_)
   refine sN 1 3 [(23, .bool ((decide (x3.fKind = (1 : Int)))))] hE (fun a hE => ?_)
   refine at_end rfl ?_
   refine cond_split hE (b := (decide (x3.fKind = (1 : Int)))) rfl (fun hb => ?_) (fun hb => ?_)
   ·replace hf := cond_t hb hf
    clear hb
    refine region_at ?_
    refine sN 2 2 [(24, .slice A1640 (List.length (y1637)) c1641), (25, .func (.func 44) #[] #[.pointer (some ⟨b1, 0, none⟩)])] hE (fun a hE => ?_)
    obtain ⟨r1667, h1668, hf⟩ := bind_some hf
    refine aC rfl rfl rfl rfl hE rfl rfl rfl rfl (rec_Open_1.calls (g := g) h1668 (hS.st.fore (L := [bx b1 27 (c_T_api_Rec (x10) A11 c12 A14 c15)])) (h13.mono (le2 le1123 le1639)) (h16.mono (le2 le1123 le1639))) (fun a v w hR hE => ?_)
    obtain ⟨D1669, A1671, c1672, q1673, rfl, hS1, h1674⟩ := hR
    have le1676 := hS1.dle
    have hS := hS.callR hS1 rfl (.c (.c .n))
    clear hS1
    have hS := hS.pk (.c 1 rfl (.c 0 rfl (.c 2 rfl (.c 3 rfl .n)))) rfl
    obtain ⟨D1677, q1680, le1678, hS, h1681, h1679⟩ := hS.lent h1674
    have hS := hS.pk (.c 3 rfl (.c 0 rfl (.c 1 rfl (.c 2 rfl .n)))) rfl
    obtain ⟨l1682, h1683, hf⟩ := bind_some hf
    refine at_op (g_append (K := (kdInt .u8)) (e := 5) (bytes := 1) (l := y1637) (m := r1667) rfl rfl rfl rfl hE rfl hS rfl rfl (by kernel_rfl) rfl rfl (h1643.mono (le2 le1676 le1678)) h1679 h1683 (fun a A1684 c1685 q1686 w _ hE h1687 hS => ?_)) rfl
    refine sN 1 5 [(5, .slice A1684 (List.length (l1682)) c1685)] hE (fun a hE => ?_)
    refine at_end rfl ?_
    refine wpIn_seq ?_
    refine region_at ?_
    refine sN 2 2 [(4, .slice A1684 (List.length (l1682)) c1685)] hE (fun a hE => ?_)
    refine at_end rfl ?_
    refine wpIn_ret ?_
    obtain rfl := Option.some.inj hf
    repeat (with_reducible first | refine then_ret ?_ | refine block_ret ?_ | refine qx_ret ?_)
    refine ret_gen ([.slice A1684 (List.length (l1682)) c1685]) hE (by rw [show Tryd.f38.results.toList = [.tmp 4] from rfl]; exact ⟨_, _, rfl, rfl, rfl⟩) ?_
    have hS := hS.pk (.c 2 rfl (.c 0 rfl .n)) rfl
    exact ⟨_, rfl, D1677, A1684, c1685, q1686, rfl, hS, h1687⟩
   ·replace hf := cond_f hb hf
    clear hb
    refine wpIn_skip ?_
    refine wpIn_seq ?_
    refine region_at ?_
    refine sN 2 2 [(4, .slice A1640 (List.length (y1637)) c1641)] hE (fun a hE => ?_)
    refine at_end rfl ?_
    refine wpIn_ret ?_
    obtain rfl := Option.some.inj hf
    repeat (with_reducible first | refine then_ret ?_ | refine block_ret ?_ | refine qx_ret ?_)
    refine ret_gen ([.slice A1640 (List.length (y1637)) c1641]) hE (by rw [show Tryd.f38.results.toList = [.tmp 4] from rfl]; exact ⟨_, _, rfl, rfl, rfl⟩) ?_
    have hS := hS.pk (.c 0 rfl (.c 2 rfl .n)) rfl
    exact ⟨_, rfl, D1638, A1640, c1641, q1642, rfl, hS, h1643⟩
set_option maxRecDepth 100000 in
set_option maxHeartbeats 4000000 in
theorem rec_Open.calls {K : Nat} {g w0 : World} {D0 : Snap} {x1 : T_api_Rec} {A2 : Option Addr} {c3 : Nat} {A5 : Option Addr} {c6 : Nat} {r : ((List Int))} (hf : rec_Open.f K x1 = some r) (hS0 : St g w0 D0 []) (h4 : Sl kd_T_api_Step D0 A2 c3 (x1.fSteps)) (h7 : Sl (kdInt .u8) D0 A5 c6 (x1.fData)) :
  CallsIn (Fw none) 0 Tryd.prog 22 (List.toArray [.agg (List.toArray (c_T_api_Rec (x1) A2 c3 A5 c6))]) w0 (fun e w' => ∃ v, e = .returned v ∧ ∃ (D1 : Snap) (A20 : Option Addr) (c21 : Nat) (q22 : Blk), v = .slice A20 (List.length (r)) c21 ∧ Stp g w0 D0 [] w' D1 [q22] ∧ OwnD (kdInt .u8) 5 D1 A20 c21 (r) q22) := by
 unfold rec_Open.f at hf
 have hS := Stp.refl hS0
 clear hS0
 refine calls_body (n := 6) Tryd.func22 rfl Tryd.ntmps22 rfl (fun a hE => ?_)
 have hE : Env a 6 [] [(0, .agg (List.toArray (c_T_api_Rec (x1) A2 c3 A5 c6)))] := hE
 refine wpIn_seq ?_
 refine region_at ?_
 refine at_op (op_box rfl rfl rfl rfl hE rfl hS rfl (fun a b25 w _ hE hS => ?_)) rfl
 refine sN 1 2 [(2, .slice none 0 0)] hE (fun a hE => ?_)
 refine at_end rfl ?_
 refine wpIn_seq ?_
 refine region_at ?_
 refine aL 0 (.agg (List.toArray (c_T_api_Rec (x1) A2 c3 A5 c6))) hE hS (fun a hE => ?_)
 refine sN 1 2 [(4, .func (.func 44) #[] #[.pointer (some ⟨b25, 0, none⟩)])] hE (fun a hE => ?_)
 obtain ⟨r27, h28, hf⟩ := bind_some hf
 refine aC rfl rfl rfl rfl hE rfl rfl rfl rfl (rec_put.calls (g := g) h28 (hS.st.fore (L := [bx b25 27 (c_T_api_Rec (x1) A2 c3 A5 c6)])) h4 h7 h4 h7) (fun a v w hR hE => ?_)
 obtain ⟨D29, A31, c32, q33, rfl, hS1, h34⟩ := hR
 have le36 := hS1.dle
 have hS := hS.callR hS1 rfl (.c (.c .n))
 clear hS1
 refine sN 1 4 [(2, .slice A31 (List.length (r27)) c32)] hE (fun a hE => ?_)
 refine at_end rfl ?_
 refine wpIn_ret ?_
 obtain rfl := Option.some.inj hf
 repeat (with_reducible first | refine then_ret ?_ | refine block_ret ?_ | refine qx_ret ?_)
 refine ret_gen ([.slice A31 (List.length (r27)) c32]) hE (by rw [show Tryd.f22.results.toList = [.tmp 2] from rfl]; exact ⟨_, _, rfl, rfl, rfl⟩) ?_
 have hS := hS.pk (.c 1 rfl .n) rfl
 exact ⟨_, rfl, D29, A31, c32, q33, rfl, hS, h34⟩
set_option maxRecDepth 100000 in
set_option maxHeartbeats 4000000 in
theorem wire_Read.calls {K : Nat} {g w0 : World} {D0 : Snap} {x1 : (List Int)} {A2 : Option Addr} {c3 : Nat} {r : (T_wire_Reader)} (hf : wire_Read.f K x1 = some r) (hS0 : St g w0 D0 []) (h4 : Sl (kdInt .u8) D0 A2 c3 (x1)) :
  CallsIn (Fw none) 0 Tryd.prog 24 (List.toArray [.slice A2 (List.length (x1)) c3]) w0 (fun e w' => ∃ v, e = .returned v ∧ ∃ (D1 : Snap) (b22 : Nat) (A24 : Option Addr) (c25 : Nat), v = .pointer (some ⟨b22, 0, none⟩) ∧ Stp g w0 D0 [] w' D1 [bx b22 66 (c_T_wire_Reader ((T_wire_Reader.mk (r.fB) (r.fBad))) A24 c25)] ∧ Sl (kdInt .u8) D1 A24 c25 (r.fB)) := by
 unfold wire_Read.f at hf
 have hS := Stp.refl hS0
 clear hS0
 refine calls_body (n := 7) Tryd.func24 rfl Tryd.ntmps24 rfl (fun a hE => ?_)
 have hE : Env a 7 [] [(0, .slice A2 (List.length (x1)) c3)] := hE
 refine wpIn_seq ?_
 refine region_at ?_
 refine sN 1 1 [(2, .pointer none)] hE (fun a hE => ?_)
 refine at_end rfl ?_
 refine wpIn_seq ?_
 refine region_at ?_
 refine sN 1 1 [(3, .slice A2 (List.length (x1)) c3)] hE (fun a hE => ?_)
 obtain ⟨r27, h28, hf⟩ := bind_some hf
 refine aC rfl rfl rfl rfl hE rfl rfl rfl rfl (slices_Clone_byte_byte.calls (g := g) h28 (hS.st.fore (L := [])) h4) (fun a v w hR hE => ?_)
 obtain ⟨D29, A31, c32, q33, rfl, hS1, h34⟩ := hR
 have le36 := hS1.dle
 have hS := hS.callR hS1 rfl (.c .n)
 clear hS1
 obtain ⟨D37, q40, le38, hS, h41, h39⟩ := hS.lent h34
 refine at_op (op_tk hE (tk_build (c_T_wire_Reader ((T_wire_Reader.mk (r27) ((0 : Int)))) A31 c32) rfl rfl rfl rfl hE rfl rfl (by kernel_rfl) (fun a hE => ?_))) rfl
 refine at_op (op_box rfl rfl rfl rfl hE rfl hS rfl (fun a b42 w _ hE hS => ?_)) rfl
 refine sN 1 5 [(2, .pointer (some ⟨b42, 0, none⟩))] hE (fun a hE => ?_)
 refine at_end rfl ?_
 refine wpIn_ret ?_
 obtain rfl := Option.some.inj hf
 repeat (with_reducible first | refine then_ret ?_ | refine block_ret ?_ | refine qx_ret ?_)
 refine ret_gen ([.pointer (some ⟨b42, 0, none⟩)]) hE (by rw [show Tryd.f24.results.toList = [.tmp 2] from rfl]; exact ⟨_, _, rfl, rfl, rfl⟩) ?_
 have hS := hS.pk (.c 0 rfl .n) rfl
 exact ⟨_, rfl, D37, b42, A31, c32, rfl, hS, h39⟩
set_option maxRecDepth 100000 in
set_option maxHeartbeats 4000000 in
theorem wire_Reader_Bad.calls {K : Nat} {g w0 : World} {D0 : Snap} {x3 : T_wire_Reader} {b1 : Nat} {A4 : Option Addr} {c5 : Nat} {r : (Int)} (hf : wire_Reader_Bad.f K x3 = some r) (hS0 : St g w0 D0 [bx b1 66 (c_T_wire_Reader (x3) A4 c5)]) (h6 : Sl (kdInt .u8) D0 A4 c5 (x3.fB)) :
  CallsIn (Fw none) 0 Tryd.prog 56 (List.toArray [.pointer (some ⟨b1, 0, none⟩)]) w0 (fun e w' => ∃ v, e = .returned v ∧ ∃ (D1 : Snap), v = .int .i64 (r) ∧ Stp g w0 D0 [bx b1 66 (c_T_wire_Reader (x3) A4 c5)] w' D1 [bx b1 66 (c_T_wire_Reader (x3) A4 c5)]) := by
 unfold wire_Reader_Bad.f at hf
 have hS := Stp.refl hS0
 clear hS0
 refine calls_body (n := 9) Tryd.func56 rfl Tryd.ntmps56 rfl (fun a hE => ?_)
 have hE : Env a 9 [] [(0, .pointer (some ⟨b1, 0, none⟩))] := hE
 refine wpIn_seq ?_
 refine region_at ?_
 refine sN 1 1 [(2, .int .i64 ((0 : Int)))] hE (fun a hE => ?_)
 refine at_end rfl ?_
 refine wpIn_seq ?_
 refine wpIn_seq ?_
 refine region_at ?_
 refine sN 1 1 [(3, .pointer (some ⟨b1, 0, none⟩))] hE (fun a hE => ?_)
 refine at_op (op_tk hE (tk_bin (r := .bool false) rfl rfl rfl rfl hE rfl rfl rfl (eqptr_run (by kernel_rfl) _) (fun a hE => ?_))) rfl
 refine at_end rfl ?_
 refine wpIn_cond_false (hE.eval rfl) ?_
 refine wpIn_skip ?_
 refine wpIn_seq ?_
 refine region_at ?_
 refine sN 2 2 [(6, .pointer (some ⟨b1, 0, none⟩))] hE (fun a hE => ?_)
 refine aF 1 39 1 hE (fun a hE => ?_)
 refine aL 0 (.int .i64 (x3.fBad)) hE hS (fun a hE => ?_)
 refine sN 1 5 [(2, .int .i64 (x3.fBad))] hE (fun a hE => ?_)
 refine at_end rfl ?_
 refine wpIn_ret ?_
 obtain rfl := Option.some.inj hf
 repeat (with_reducible first | refine then_ret ?_ | refine block_ret ?_ | refine qx_ret ?_)
 refine ret_gen ([.int .i64 (x3.fBad)]) hE (by rw [show Tryd.f56.results.toList = [.tmp 2] from rfl]; exact ⟨_, _, rfl, rfl, rfl⟩) ?_
 exact ⟨_, rfl, D0, rfl, hS⟩
set_option maxRecDepth 100000 in
set_option maxHeartbeats 4000000 in
theorem wire_number.calls {K : Nat} {g w0 : World} {D0 : Snap} {x1 : (List Int)} {A2 : Option Addr} {c3 : Nat} {r : (Int × Int × Int)} (hf : wire_number.f K x1 = some r) (hS0 : St g w0 D0 []) (h4 : Sl (kdInt .u8) D0 A2 c3 (x1)) :
  CallsIn (Fw none) 0 Tryd.prog 70 (List.toArray [.slice A2 (List.length (x1)) c3]) w0 (fun e w' => ∃ v, e = .returned v ∧ ∃ (D1 : Snap), v = .tuple #[.int .i64 (r.1), .int .i64 (r.2.1), .int .i64 (r.2.2)] ∧ Stp g w0 D0 [] w' D1 []) := by
 unfold wire_number.f at hf
 have hS := Stp.refl hS0
 clear hS0
 refine calls_body (n := 39) Tryd.func70 rfl Tryd.ntmps70 rfl (fun a hE => ?_)
 have hE : Env a 39 [] [(0, .slice A2 (List.length (x1)) c3)] := hE
 refine wpIn_seq ?_
 refine region_at ?_
 refine sN 3 3 [(2, .int .i64 ((0 : Int))), (3, .int .i64 ((0 : Int))), (4, .int .i64 ((0 : Int)))] hE (fun a hE => ?_)
 refine at_end rfl ?_
 refine wpIn_seq ?_
 refine region_at ?_
 refine sN 1 1 [(5, .int .i64 ((0 : Int)))] hE (fun a hE => ?_)
 refine at_end rfl ?_
 refine wpIn_seq ?_
 refine wpIn_seq ?_
 refine region_at ?_
 refine sN 3 3 [(8, .slice A2 (List.length (x1)) c3), (9, .int .i64 (((List.length (x1) : Nat) : Int))), (10, .int .i64 ((0 : Int)))] hE (fun a hE => ?_)
 refine at_end rfl ?_
 obtain ⟨s576, hf, hs577⟩ := bind_some hf
 refine block_loop (fun a w => ∃ (z573 : Unit), ∃ (D574 : Snap), Env a 39 [] [] ∧ Stp g w0 D0 [] w D574 [] ∧ Snap.le D0 D574 ∧ (Sum.inr z573) = s576) (fun k a w => ∃ (y523 : Int × Int), ∃ (D524 : Snap), Env a 39 [] [(5, .int .i64 (y523.1)), (8, .slice A2 (List.length (x1)) c3), (9, .int .i64 (((List.length (x1) : Nat) : Int))), (10, .int .i64 (y523.2))] ∧ Stp g w0 D0 [] w D524 [] ∧ Snap.le D0 D524 ∧ wire_number_l1.l K x1 k y523 = some s576) K ?_ ?_ ?_
 ·exact ⟨((0 : Int), (0 : Int)), D0, hE.weak (by kernel_rfl), hS, Snap.le.refl _, hf⟩
 ·clear hE hS hf
  rintro a w ⟨z573, D574, hE, hS, le575, rfl⟩
  have hf := hs577
  clear hs577
  refine wpIn_seq ?_
  refine region_at ?_
  refine sN 3 3 [(2, .int .i64 ((0 : Int))), (3, .int .i64 ((0 : Int))), (4, .int .i64 ((3 : Int)))] hE (fun a hE => ?_)
  refine at_end rfl ?_
  refine wpIn_ret ?_
  obtain rfl := Option.some.inj hf
  repeat (with_reducible first | refine then_ret ?_ | refine block_ret ?_ | refine qx_ret ?_)
  refine ret_gen ([.int .i64 ((0 : Int)), .int .i64 ((0 : Int)), .int .i64 ((3 : Int))]) hE (by rw [show Tryd.f70.results.toList = [.tmp 2, .tmp 3, .tmp 4] from rfl]; exact ⟨_, _, rfl, rfl, ⟨_, _, rfl, rfl, ⟨_, _, rfl, rfl, rfl⟩⟩⟩) ?_
  exact ⟨_, rfl, D574, rfl, hS⟩
 ·clear hE hS hf
  rintro k a w ⟨y523, D524, hE, hS, le525, hf⟩
  obtain ⟨k, rfl, hf⟩ := wire_number_l1.some _ hf
  refine ⟨k, rfl, ?_⟩
  unfold wire_number_l1.b at hf
  refine wpIn_seq ?_
  refine region_at ?_
  refine sN 1 1 [(11, .bool ((decide (y523.2 < ((List.length (x1) : Nat) : Int)))))] hE (fun a hE => ?_)
  refine at_end rfl ?_
  refine wpIn_seq ?_
  refine cond_split hE (b := (decide (y523.2 < ((List.length (x1) : Nat) : Int)))) rfl (fun hb => ?_) (fun hb => ?_)
  ·replace hf := cond_t hb hf
   clear hb
   refine wpIn_skip ?_
   refine wpIn_seq ?_
   refine wpIn_block ?_
   refine wpIn_seq ?_
   refine region_at ?_
   refine sN 1 1 [(12, .int .i64 (y523.2))] hE (fun a hE => ?_)
   obtain ⟨x600, h601, hf⟩ := bind_some hf
   refine at_op (op_tk hE (g_index (K := (kdInt .u8)) (e := 5) (by_ := 1) (zl := 1) rfl rfl rfl rfl hE rfl rfl rfl (by kernel_rfl) rfl (h4.mono le525) h601 (fun a b602 o603 hE h604 => ?_))) rfl
   obtain ⟨cs605, C606, T607, fr608, hr609, hb610, hc611⟩ := h604
   obtain rfl := hr609
   refine at_op (op_tk hE (tk_loadX (off0 := o603) (off := 0) (c := [.int .u8 (x600)]) (.int .u8 (x600)) rfl rfl rfl rfl hE rfl hS rfl hb610 hc611 (by kernel_rfl) (by kernel_rfl) (kD hS dn_nil) (fun a hE => ?_))) rfl
   refine sN 2 5 [(6, .int .i64 (y523.2)), (7, .int .u8 (x600))] hE (fun a hE => ?_)
   refine at_end rfl ?_
   refine wpIn_seq ?_
   obtain ⟨j620, hj621, hf⟩ := jn_elim hf
   refine seq_join (fun a w => ∃ (y617 : Bool), ∃ (D618 : Snap), Env a 39 [] [(5, .int .i64 (y523.1)), (6, .int .i64 (y523.2)), (7, .int .u8 (x600)), (8, .slice A2 (List.length (x1)) c3), (9, .int .i64 (((List.length (x1) : Nat) : Int))), (10, .int .i64 (y523.2)), (24, .bool (y617))] ∧ Stp g w0 D0 [] w D618 [] ∧ Snap.le D524 D618 ∧ j620 y617 = some s576) ?_ ?_
   ·clear hj621
    refine region_at ?_
    refine sN 3 3 [(17, .bool ((decide (y523.2 = (0 : Int)))))] hE (fun a hE => ?_)
    refine Or.elim (Bool.eq_false_or_eq_true ((decide (y523.2 = (0 : Int))))).symm (fun hb => ?_) (fun hb => ?_)
    ·replace hf := cond_f hb hf
     have hE := hE.know (t := 17) (b := (decide (y523.2 = (0 : Int)))) (b' := false) rfl hb
     clear hb
     refine sN 7 10 [(24, .bool ((decide (y523.2 = (5 : Int)))))] hE (fun a hE => ?_)
     refine at_end rfl ?_
     exact ⟨(decide (y523.2 = (5 : Int))), D524, hE.weak (by kernel_rfl), hS, Snap.le.refl _, hf⟩
    ·replace hf := cond_t hb hf
     have hE := hE.know (t := 17) (b := (decide (y523.2 = (0 : Int)))) (b' := true) rfl hb
     clear hb
     refine sN 4 7 [(21, .bool ((decide (x600 = (128 : Int)))))] hE (fun a hE => ?_)
     refine Or.elim (Bool.eq_false_or_eq_true ((decide (x600 = (128 : Int))))).symm (fun hb => ?_) (fun hb => ?_)
     ·replace hf := cond_f hb hf
      have hE := hE.know (t := 21) (b := (decide (x600 = (128 : Int)))) (b' := false) rfl hb
      clear hb
      refine sN 3 10 [(24, .bool ((decide (y523.2 = (5 : Int)))))] hE (fun a hE => ?_)
      refine at_end rfl ?_
      exact ⟨(decide (y523.2 = (5 : Int))), D524, hE.weak (by kernel_rfl), hS, Snap.le.refl _, hf⟩
     ·replace hf := cond_t hb hf
      have hE := hE.know (t := 21) (b := (decide (x600 = (128 : Int)))) (b' := true) rfl hb
      clear hb
      refine sN 3 10 [(24, .bool true)] hE (fun a hE => ?_)
      refine at_end rfl ?_
      exact ⟨true, D524, hE.weak (by kernel_rfl), hS, Snap.le.refl _, hf⟩
   ·clear hE hS
    rintro a w ⟨y617, D618, hE, hS, le619, hf⟩
    replace hf := hj621 _ hf
    clear hj621
    refine cond_split hE (b := y617) rfl (fun hb => ?_) (fun hb => ?_)
    ·replace hf := cond_t hb hf
     clear hb
     refine wpIn_seq ?_
     refine region_at ?_
     refine sN 3 3 [(2, .int .i64 ((0 : Int))), (3, .int .i64 ((0 : Int))), (4, .int .i64 ((2 : Int)))] hE (fun a hE => ?_)
     refine at_end rfl ?_
     refine wpIn_ret ?_
     obtain rfl := Option.some.inj hf
     replace hf := hs577
     obtain rfl := Option.some.inj hf
     repeat (with_reducible first | refine then_ret ?_ | refine block_ret ?_ | refine qx_ret ?_)
     refine ret_gen ([.int .i64 ((0 : Int)), .int .i64 ((0 : Int)), .int .i64 ((2 : Int))]) hE (by rw [show Tryd.f70.results.toList = [.tmp 2, .tmp 3, .tmp 4] from rfl]; exact ⟨_, _, rfl, rfl, ⟨_, _, rfl, rfl, ⟨_, _, rfl, rfl, rfl⟩⟩⟩) ?_
     exact ⟨_, rfl, D618, rfl, hS⟩
    ·replace hf := cond_f hb hf
     clear hb
     refine wpIn_skip ?_
     refine wpIn_seq ?_
     refine region_at ?_
     refine sN 7 7 [(5, .int .i64 ((bor .i64 (IntKind.wrap .i64 (y523.1 * 2 ^ 7)) (IntKind.wrap .i64 (Int.tmod x600 128)))))] hE (fun a hE => ?_)
     refine at_end rfl ?_
     refine wpIn_seq ?_
     refine region_at ?_
     refine sN 2 2 [(32, .bool ((decide (x600 < (128 : Int)))))] hE (fun a hE => ?_)
     refine at_end rfl ?_
     refine cond_split hE (b := (decide (x600 < (128 : Int)))) rfl (fun hb => ?_) (fun hb => ?_)
     ·replace hf := cond_t hb hf
      clear hb
      refine wpIn_seq ?_
      refine wpIn_seq ?_
      refine region_at ?_
      refine sN 2 2 [(34, .bool ((decide ((2147483647 : Int) < (bor .i64 (IntKind.wrap .i64 (y523.1 * 2 ^ 7)) (IntKind.wrap .i64 (Int.tmod x600 128)))))))] hE (fun a hE => ?_)
      refine at_end rfl ?_
      refine cond_split hE (b := (decide ((2147483647 : Int) < (bor .i64 (IntKind.wrap .i64 (y523.1 * 2 ^ 7)) (IntKind.wrap .i64 (Int.tmod x600 128)))))) rfl (fun hb => ?_) (fun hb => ?_)
      ·replace hf := cond_t hb hf
       clear hb
       refine wpIn_seq ?_
       refine region_at ?_
       refine sN 3 3 [(2, .int .i64 ((0 : Int))), (3, .int .i64 ((0 : Int))), (4, .int .i64 ((2 : Int)))] hE (fun a hE => ?_)
       refine at_end rfl ?_
       refine wpIn_ret ?_
       obtain rfl := Option.some.inj hf
       replace hf := hs577
       obtain rfl := Option.some.inj hf
       repeat (with_reducible first | refine then_ret ?_ | refine block_ret ?_ | refine qx_ret ?_)
       refine ret_gen ([.int .i64 ((0 : Int)), .int .i64 ((0 : Int)), .int .i64 ((2 : Int))]) hE (by rw [show Tryd.f70.results.toList = [.tmp 2, .tmp 3, .tmp 4] from rfl]; exact ⟨_, _, rfl, rfl, ⟨_, _, rfl, rfl, ⟨_, _, rfl, rfl, rfl⟩⟩⟩) ?_
       exact ⟨_, rfl, D618, rfl, hS⟩
      ·replace hf := cond_f hb hf
       clear hb
       refine wpIn_skip ?_
       refine wpIn_seq ?_
       refine region_at ?_
       refine sN 6 6 [(2, .int .i64 ((bor .i64 (IntKind.wrap .i64 (y523.1 * 2 ^ 7)) (IntKind.wrap .i64 (Int.tmod x600 128))))), (3, .int .i64 ((IntKind.wrap .i64 (y523.2 + (1 : Int))))), (4, .int .i64 ((0 : Int)))] hE (fun a hE => ?_)
       refine at_end rfl ?_
       refine wpIn_ret ?_
       obtain rfl := Option.some.inj hf
       replace hf := hs577
       obtain rfl := Option.some.inj hf
       repeat (with_reducible first | refine then_ret ?_ | refine block_ret ?_ | refine qx_ret ?_)
       refine ret_gen ([.int .i64 ((bor .i64 (IntKind.wrap .i64 (y523.1 * 2 ^ 7)) (IntKind.wrap .i64 (Int.tmod x600 128)))), .int .i64 ((IntKind.wrap .i64 (y523.2 + (1 : Int)))), .int .i64 ((0 : Int))]) hE (by rw [show Tryd.f70.results.toList = [.tmp 2, .tmp 3, .tmp 4] from rfl]; exact ⟨_, _, rfl, rfl, ⟨_, _, rfl, rfl, ⟨_, _, rfl, rfl, rfl⟩⟩⟩) ?_
       exact ⟨_, rfl, D618, rfl, hS⟩
     ·replace hf := cond_f hb hf
      clear hb
      refine wpIn_skip ?_
      refine region_at ?_
      refine sN 2 2 [(10, .int .i64 ((IntKind.wrap .i64 (y523.2 + (1 : Int)))))] hE (fun a hE => ?_)
      refine at_end rfl ?_
      exact ⟨((bor .i64 (IntKind.wrap .i64 (y523.1 * 2 ^ 7)) (IntKind.wrap .i64 (Int.tmod x600 128))), (IntKind.wrap .i64 (y523.2 + (1 : Int)))), D618, hE.weak (by kernel_rfl), hS, (le2 le525 le619), hf⟩
  ·replace hf := cond_f hb hf
   clear hb
   refine wpIn_exit ?_
   obtain rfl := Option.some.inj hf
   exact ⟨(), D524, hE.weak (by kernel_rfl), hS, le525, rfl⟩
set_option maxRecDepth 100000 in
set_option maxHeartbeats 4000000 in
theorem wire_Reader_Fail.calls {K : Nat} {g w0 : World} {D0 : Snap} {x3 : Int} {x4 : T_wire_Reader} {b1 : Nat} {A5 : Option Addr} {c6 : Nat} {r : (T_wire_Reader)} (hf : wire_Reader_Fail.f K x3 x4 = some r) (hS0 : St g w0 D0 [bx b1 66 (c_T_wire_Reader (x4) A5 c6)]) (h7 : Sl (kdInt .u8) D0 A5 c6 (x4.fB)) :
  CallsIn (Fw none) 0 Tryd.prog 55 (List.toArray [.pointer (some ⟨b1, 0, none⟩), .int .i64 (x3)]) w0 (fun e w' => ∃ v, e = .returned v ∧ ∃ (D1 : Snap) (A17 : Option Addr) (c18 : Nat), v = .tuple #[] ∧ Stp g w0 D0 [bx b1 66 (c_T_wire_Reader (x4) A5 c6)] w' D1 [bx b1 66 (c_T_wire_Reader ((T_wire_Reader.mk (r.fB) (r.fBad))) A17 c18)] ∧ Sl (kdInt .u8) D1 A17 c18 (r.fB)) := by
 unfold wire_Reader_Fail.f at hf
 have hS := Stp.refl hS0
 clear hS0
 refine calls_body (n := 24) Tryd.func55 rfl Tryd.ntmps55 rfl (fun a hE => ?_)
 have hE : Env a 24 [] [(0, .pointer (some ⟨b1, 0, none⟩)), (1, .int .i64 (x3))] := hE
 obtain ⟨j27, hj28, hf⟩ := jn_elim hf
 refine seq_join (fun a w => ∃ (y20 : Bool), ∃ (D21 : Snap), Env a 24 [] [(0, .pointer (some ⟨b1, 0, none⟩)), (1, .int .i64 (x3)), (16, .bool (y20))] ∧ Stp g w0 D0 [bx b1 66 (c_T_wire_Reader (x4) A5 c6)] w D21 [bx b1 66 (c_T_wire_Reader (x4) A5 c6)] ∧ Snap.le D0 D21 ∧ j27 y20 = some r) ?_ ?_
 ·clear hj28
  refine region_at ?_
  refine sN 1 1 [(4, .pointer (some ⟨b1, 0, none⟩))] hE (fun a hE => ?_)
  refine at_op (op_tk hE (tk_bin (r := .bool true) rfl rfl rfl rfl hE rfl rfl rfl (neptr_run (by kernel_rfl) _) (fun a hE => ?_))) rfl
  refine sN 3 5 [(6, .bool true), (8, .pointer (some ⟨b1, 0, none⟩))] hE (fun a hE => ?_)
  refine aF 1 39 1 hE (fun a hE => ?_)
  refine aL 0 (.int .i64 (x4.fBad)) hE hS (fun a hE => ?_)
  refine sN 3 10 [(13, .bool ((decide (x4.fBad = (0 : Int)))))] hE (fun a hE => ?_)
  refine Or.elim (Bool.eq_false_or_eq_true ((decide (x4.fBad = (0 : Int))))).symm (fun hb => ?_) (fun hb => ?_)
  ·replace hf := cond_f hb hf
   have hE := hE.know (t := 13) (b := (decide (x4.fBad = (0 : Int)))) (b' := false) rfl hb
   clear hb
   refine sN 3 13 [(16, .bool false)] hE (fun a hE => ?_)
   refine at_end rfl ?_
   exact ⟨false, D0, hE.weak (by kernel_rfl), hS, Snap.le.refl _, hf⟩
  ·replace hf := cond_t hb hf
   have hE := hE.know (t := 13) (b := (decide (x4.fBad = (0 : Int)))) (b' := true) rfl hb
   clear hb
   refine sN 3 13 [(16, .bool ((!decide (x3 = (0 : Int)))))] hE (fun a hE => ?_)
   refine at_end rfl ?_
   exact ⟨(!decide (x3 = (0 : Int))), D0, hE.weak (by kernel_rfl), hS, Snap.le.refl _, hf⟩
 ·clear hE hS
  rintro a w ⟨y20, D21, hE, hS, le22, hf⟩
  replace hf := hj28 _ hf
  clear hj28
  refine cond_split hE (b := y20) rfl (fun hb => ?_) (fun hb => ?_)
  ·replace hf := cond_t hb hf
   clear hb
   refine region_at ?_
   refine sN 4 4 [(18, .pointer (some ⟨b1, 0, none⟩)), (19, .int .i64 (x3)), (20, .pointer (some ⟨b1, 0, none⟩))] hE (fun a hE => ?_)
   refine aF 0 25 0 hE (fun a hE => ?_)
   obtain ⟨v23, hv24, hf⟩ := bind_some hf
   replace hv24 := Option.some.inj hv24
   refine at_op (op_store (v := .slice none 0 0) (c_T_wire_Reader ((T_wire_Reader.mk (([] : List Int)) (v23.fBad))) none 0) rfl rfl rfl rfl hE hS rfl rfl (by kernel_rfl) (by kernel_rfl) (by kernel_rfl) (by kernel_rfl) (by rw [← hv24]; kernel_rfl) (fun a w _ hE hS => ?_)) rfl
   refine sN 1 7 [(22, .pointer (some ⟨b1, 0, none⟩))] hE (fun a hE => ?_)
   refine aF 1 39 1 hE (fun a hE => ?_)
   obtain ⟨v25, hv26, hf⟩ := bind_some hf
   replace hv26 := Option.some.inj hv26
   refine at_op (op_store (v := .int .i64 (x3)) (c_T_wire_Reader ((T_wire_Reader.mk (([] : List Int)) (v25.fBad))) none 0) rfl rfl rfl rfl hE hS rfl rfl (by kernel_rfl) (by kernel_rfl) (by kernel_rfl) (by kernel_rfl) (by rw [← hv26]; kernel_rfl) (fun a w _ hE hS => ?_)) rfl
   refine at_end rfl ?_
   obtain rfl := Option.some.inj hf
   repeat (with_reducible first | refine then_ret ?_ | refine block_ret ?_ | refine qx_ret ?_)
   refine ret_genN ([]) hE (by rw [show Tryd.f55.results.toList = [] from rfl]; exact rfl) ?_
   exact ⟨_, rfl, D21, none, 0, rfl, hS, (Sl.nil (kdInt .u8) D21)⟩
  ·replace hf := cond_f hb hf
   clear hb
   refine wpIn_skip ?_
   obtain rfl := Option.some.inj hf
   repeat (with_reducible first | refine then_ret ?_ | refine block_ret ?_ | refine qx_ret ?_)
   refine ret_genN ([]) hE (by rw [show Tryd.f55.results.toList = [] from rfl]; exact rfl) ?_
   exact ⟨_, rfl, D21, A5, c6, rfl, hS, (h7.mono le22)⟩
end Go.Proofs.YtlcnliiampfigaaDoor
