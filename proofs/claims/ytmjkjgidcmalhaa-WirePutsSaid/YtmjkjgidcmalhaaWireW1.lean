/-
  Proved, text by text: a call of a function of the cut comes to what its plain function computes.
  Conditions: those that each theorem names.
-/
import Derived.Test.YtmjkjgidcmalhaaProg
import Derived.Test.YtmjkjgidcmalhaaWireW0
set_option linter.unusedVariables false
namespace Go.Proofs.Ytmjkjgidcmalhaa
open Go Go.Sep

set_option maxRecDepth 100000 in
set_option maxHeartbeats 4000000 in
theorem inspeximusref01_Bytes.calls {K : Nat} {g w0 : World} {D0 : Snap} {x1 : (List Int)} {x5 : (List Int)} {A2 : Option Addr} {c3 : Nat} {A6 : Option Addr} {c7 : Nat} {r : (Bool)} (hf : inspeximusref01_Bytes.f K x1 x5 = some r) (hS0 : St g w0 D0 []) (h4 : Sl (kdInt .u8) D0 A2 c3 (x1)) (h8 : Sl (kdInt .u8) D0 A6 c7 (x5)) :
    CallsIn (Fw none) 0 Try.prog 10 (List.toArray [.slice A2 (List.length (x1)) c3, .slice A6 (List.length (x5)) c7]) w0 (fun e w' => ∃ v, e = .returned v ∧ ∃ (D1 : Snap), v = .bool (r) ∧ Stp g w0 D0 [] w' D1 []) := by
  unfold inspeximusref01_Bytes.f at hf
  have hS := Stp.refl hS0
  clear hS0
  refine calls_body (n := 26) Try.func10 rfl Try.ntmps10 rfl (fun a hE => ?_)
  have hE : Env a 26 [] [(0, .slice A2 (List.length (x1)) c3), (1, .slice A6 (List.length (x5)) c7)] := hE
  refine wpIn_seq ?_
  refine region_at ?_
  refine seg 1 (j := 1) [(0, .slice A2 (List.length (x1)) c3), (1, .slice A6 (List.length (x5)) c7), (4, .bool false)] hE (by kernel_rfl) rfl (fun a hE => ?_)
  refine at_end rfl ?_
  refine wpIn_seq ?_
  refine wpIn_seq ?_
  refine region_at ?_
  refine seg 5 (j := 5) [(0, .slice A2 (List.length (x1)) c3), (1, .slice A6 (List.length (x5)) c7), (4, .bool false), (10, .bool ((!decide (((List.length (x1) : Nat) : Int) = ((List.length (x5) : Nat) : Int)))))] hE (by kernel_rfl) rfl (fun a hE => ?_)
  refine at_end rfl ?_
  refine cond_split hE (b := (!decide (((List.length (x1) : Nat) : Int) = ((List.length (x5) : Nat) : Int)))) rfl (fun hb => ?_) (fun hb => ?_)
  · replace hf := cond_t hb hf
    clear hb
    refine wpIn_seq ?_
    refine region_at ?_
    refine seg 1 (j := 1) [(0, .slice A2 (List.length (x1)) c3), (1, .slice A6 (List.length (x5)) c7), (4, .bool false), (10, .bool ((!decide (((List.length (x1) : Nat) : Int) = ((List.length (x5) : Nat) : Int)))))] hE (by kernel_rfl) rfl (fun a hE => ?_)
    refine at_end rfl ?_
    refine wpIn_ret ?_
    obtain rfl := Option.some.inj hf
    repeat (with_reducible first | refine then_ret ?_ | refine block_ret ?_ | refine qx_ret ?_)
    refine ret_gen ([.bool false]) hE (by rw [show Try.f10.results.toList = [.tmp 4] from rfl]; exact ⟨_, _, rfl, rfl, rfl⟩) ?_
    exact ⟨_, rfl, D0, rfl, hS⟩
  · replace hf := cond_f hb hf
    clear hb
    refine wpIn_skip ?_
    refine wpIn_seq ?_
    refine wpIn_seq ?_
    refine region_at ?_
    refine seg 1 (j := 1) [(0, .slice A2 (List.length (x1)) c3), (1, .slice A6 (List.length (x5)) c7), (4, .bool false), (5, .int .i64 ((0 : Int))), (10, .bool ((!decide (((List.length (x1) : Nat) : Int) = ((List.length (x5) : Nat) : Int)))))] hE (by kernel_rfl) rfl (fun a hE => ?_)
    refine at_end rfl ?_
    obtain ⟨s1152, hf, hs1153⟩ := bind_some hf
    refine block_loop (fun a w => ∃ (z1149 : Unit), ∃ (D1150 : Snap), Env a 26 [] [] ∧ Stp g w0 D0 [] w D1150 [] ∧ Snap.le D0 D1150 ∧ (Sum.inr z1149) = s1152) (fun k a w => ∃ (y1047 : Int), ∃ (D1048 : Snap), Env a 26 [] [(0, .slice A2 (List.length (x1)) c3), (1, .slice A6 (List.length (x5)) c7), (5, .int .i64 (y1047))] ∧ Stp g w0 D0 [] w D1048 [] ∧ Snap.le D0 D1048 ∧ inspeximusref01_Bytes_l1.l K x1 x5 k y1047 = some s1152) K ?_ ?_ ?_
    · exact ⟨(0 : Int), D0, hE.weak (by kernel_rfl), hS, Snap.le.refl _, hf⟩
    · clear hE hS hf
      rintro a w ⟨z1149, D1150, hE, hS, le1151, rfl⟩
      have hf := hs1153
      clear hs1153
      refine wpIn_seq ?_
      refine region_at ?_
      refine seg 1 (j := 1) [(4, .bool true)] hE (by kernel_rfl) rfl (fun a hE => ?_)
      refine at_end rfl ?_
      refine wpIn_ret ?_
      obtain rfl := Option.some.inj hf
      repeat (with_reducible first | refine then_ret ?_ | refine block_ret ?_ | refine qx_ret ?_)
      refine ret_gen ([.bool true]) hE (by rw [show Try.f10.results.toList = [.tmp 4] from rfl]; exact ⟨_, _, rfl, rfl, rfl⟩) ?_
      exact ⟨_, rfl, D1150, rfl, hS⟩
    · clear hE hS hf
      rintro k a w ⟨y1047, D1048, hE, hS, le1049, hf⟩
      obtain ⟨k, rfl, hf⟩ := inspeximusref01_Bytes_l1.some _ _ hf
      refine ⟨k, rfl, ?_⟩
      unfold inspeximusref01_Bytes_l1.b at hf
      refine wpIn_seq ?_
      refine wpIn_seq ?_
      refine region_at ?_
      refine seg 4 (j := 4) [(0, .slice A2 (List.length (x1)) c3), (1, .slice A6 (List.length (x5)) c7), (5, .int .i64 (y1047)), (14, .bool ((decide (y1047 < ((List.length (x1) : Nat) : Int)))))] hE (by kernel_rfl) rfl (fun a hE => ?_)
      refine at_end rfl ?_
      refine cond_split hE (b := (decide (y1047 < ((List.length (x1) : Nat) : Int)))) rfl (fun hb => ?_) (fun hb => ?_)
      · replace hf := cond_t hb hf
        clear hb
        refine wpIn_skip ?_
        refine wpIn_seq ?_
        refine wpIn_block ?_
        refine wpIn_seq ?_
        refine region_draw (mfOf []) (by kernel_rfl) ?_
        have hS := hS.drew
        generalize w.drew = w at hS ⊢
        refine takeW 0 (fuel := 8) #[true, false, false, false, false, false, false, false, false] (by kernel_rfl) (by kernel_rfl) (by kernel_rfl) (by kernel_rfl) hE (fun M => tk_pure (.slice A2 (List.length (x1)) c3) hE rfl rfl rfl rfl (fun _ _ _ e => by cases e) (by kernel_rfl) (fun a hE => ?_))
        refine takeW 1 (fuel := 7) #[true, true, false, false, false, false, false, false, false] (by kernel_rfl) (by kernel_rfl) (by kernel_rfl) (by kernel_rfl) hE (fun M => tk_pure (.int .i64 (y1047)) hE rfl rfl rfl rfl (fun _ _ _ e => by cases e) (by kernel_rfl) (fun a hE => ?_))
        refine takeW 4 (fuel := 6) #[true, true, false, false, true, false, false, false, false] (by kernel_rfl) (by kernel_rfl) (by kernel_rfl) (by kernel_rfl) hE (fun M => tk_pure (.slice A6 (List.length (x5)) c7) hE rfl rfl rfl rfl (fun _ _ _ e => by cases e) (by kernel_rfl) (fun a hE => ?_))
        refine takeW 5 (fuel := 5) #[true, true, false, false, true, true, false, false, false] (by kernel_rfl) (by kernel_rfl) (by kernel_rfl) (by kernel_rfl) hE (fun M => tk_pure (.int .i64 (y1047)) hE rfl rfl rfl rfl (fun _ _ _ e => by cases e) (by kernel_rfl) (fun a hE => ?_))
        obtain ⟨x1226, h1227, hf⟩ := bind_some hf
        refine takeW 2 (fuel := 4) #[true, true, true, false, true, true, false, false, false] (by kernel_rfl) (by kernel_rfl) (by kernel_rfl) (by kernel_rfl) hE (fun M => g_index (K := (kdInt .u8)) (e := 5) (by_ := 1) (zl := 1) rfl rfl rfl rfl hE rfl rfl rfl (by kernel_rfl) rfl (h4.mono le1049) h1227 (fun a b1228 o1229 hE h1230 => ?_))
        obtain ⟨cs1231, C1232, T1233, fr1234, hr1235, hb1236, hc1237⟩ := h1230
        obtain rfl := hr1235
        refine takeT 3 (fuel := 3) #[true, true, true, true, true, true, false, false, false] (by kernel_rfl) (by kernel_rfl) (by kernel_rfl) (by kernel_rfl) (by kernel_rfl) hE (tk_loadX (off0 := o1229) (off := 0) (c := [.int .u8 (x1226)]) (.int .u8 (x1226)) rfl rfl rfl rfl hE rfl hS rfl hb1236 hc1237 (by kernel_rfl) (fun _ h => absurd h List.not_mem_nil) (fun a hE => ?_))
        obtain ⟨x1238, h1239, hf⟩ := bind_some hf
        refine takeW 6 (fuel := 2) #[true, true, true, true, true, true, true, false, false] (by kernel_rfl) (by kernel_rfl) (by kernel_rfl) (by kernel_rfl) hE (fun M => g_index (K := (kdInt .u8)) (e := 5) (by_ := 1) (zl := 1) rfl rfl rfl rfl hE rfl rfl rfl (by kernel_rfl) rfl (h8.mono le1049) h1239 (fun a b1240 o1241 hE h1242 => ?_))
        obtain ⟨cs1243, C1244, T1245, fr1246, hr1247, hb1248, hc1249⟩ := h1242
        obtain rfl := hr1247
        refine takeT 7 (fuel := 1) #[true, true, true, true, true, true, true, true, false] (by kernel_rfl) (by kernel_rfl) (by kernel_rfl) (by kernel_rfl) (by kernel_rfl) hE (tk_loadX (off0 := o1241) (off := 0) (c := [.int .u8 (x1238)]) (.int .u8 (x1238)) rfl rfl rfl rfl hE rfl hS rfl hb1248 hc1249 (by kernel_rfl) (fun _ h => absurd h List.not_mem_nil) (fun a hE => ?_))
        refine takeW 8 (fuel := 0) #[true, true, true, true, true, true, true, true, true] (by kernel_rfl) (by kernel_rfl) (by kernel_rfl) (by kernel_rfl) hE (fun M => tk_pure (.bool ((!decide (x1226 = x1238)))) hE rfl rfl rfl rfl (fun _ _ _ e => by cases e) (by kernel_rfl) (fun a hE => ?_))
        have hE := hE.weak (E' := [(0, .slice A2 (List.length (x1)) c3), (1, .slice A6 (List.length (x5)) c7), (5, .int .i64 (y1047)), (14, .bool ((decide (y1047 < ((List.length (x1) : Nat) : Int))))), (25, .bool ((!decide (x1226 = x1238))))]) (by kernel_rfl)
        refine doneG (by kernel_rfl) ?_
        refine cond_split hE (b := (!decide (x1226 = x1238))) rfl (fun hb => ?_) (fun hb => ?_)
        · replace hf := cond_t hb hf
          clear hb
          refine wpIn_seq ?_
          refine region_at ?_
          refine seg 1 (j := 1) [(0, .slice A2 (List.length (x1)) c3), (1, .slice A6 (List.length (x5)) c7), (4, .bool false), (5, .int .i64 (y1047)), (14, .bool ((decide (y1047 < ((List.length (x1) : Nat) : Int))))), (25, .bool ((!decide (x1226 = x1238))))] hE (by kernel_rfl) rfl (fun a hE => ?_)
          refine at_end rfl ?_
          refine wpIn_ret ?_
          obtain rfl := Option.some.inj hf
          replace hf := hs1153
          obtain rfl := Option.some.inj hf
          repeat (with_reducible first | refine then_ret ?_ | refine block_ret ?_ | refine qx_ret ?_)
          refine ret_gen ([.bool false]) hE (by rw [show Try.f10.results.toList = [.tmp 4] from rfl]; exact ⟨_, _, rfl, rfl, rfl⟩) ?_
          exact ⟨_, rfl, D1048, rfl, hS⟩
        · replace hf := cond_f hb hf
          clear hb
          refine wpIn_skip ?_
          refine region_at ?_
          refine seg 3 (j := 3) [(0, .slice A2 (List.length (x1)) c3), (1, .slice A6 (List.length (x5)) c7), (5, .int .i64 ((IntKind.wrap .i64 (y1047 + (1 : Int))))), (14, .bool ((decide (y1047 < ((List.length (x1) : Nat) : Int))))), (25, .bool ((!decide (x1226 = x1238))))] hE (by kernel_rfl) rfl (fun a hE => ?_)
          refine at_end rfl ?_
          exact ⟨(IntKind.wrap .i64 (y1047 + (1 : Int))), D1048, hE.weak (by kernel_rfl), hS, le1049, hf⟩
      · replace hf := cond_f hb hf
        clear hb
        refine wpIn_exit ?_
        obtain rfl := Option.some.inj hf
        exact ⟨(), D1048, hE.weak (by kernel_rfl), hS, le1049, rfl⟩

set_option maxRecDepth 100000 in
set_option maxHeartbeats 4000000 in
theorem inspeximusref03_Bytes.calls {K : Nat} {g w0 : World} {D0 : Snap} {x1 : (List Int)} {A2 : Option Addr} {c3 : Nat} {r : ((List Int))} (hf : inspeximusref03_Bytes.f K x1 = some r) (hS0 : St g w0 D0 []) (h4 : Sl (kdInt .u8) D0 A2 c3 (x1)) :
    CallsIn (Fw none) 0 Try.prog 15 (List.toArray [.slice A2 (List.length (x1)) c3]) w0 (fun e w' => ∃ v, e = .returned v ∧ ∃ (D1 : Snap) (A22 : Option Addr) (c23 : Nat) (q24 : Blk), v = .slice A22 (List.length (r)) c23 ∧ Stp g w0 D0 [] w' D1 [q24] ∧ OwnD (kdInt .u8) 5 D1 A22 c23 (r) q24) := by
  unfold inspeximusref03_Bytes.f at hf
  have hS := Stp.refl hS0
  clear hS0
  refine calls_body (n := 8) Try.func15 rfl Try.ntmps15 rfl (fun a hE => ?_)
  have hE : Env a 8 [] [(0, .slice A2 (List.length (x1)) c3)] := hE
  refine wpIn_seq ?_
  refine region_at ?_
  refine seg 1 (j := 1) [(0, .slice A2 (List.length (x1)) c3), (2, .slice none 0 0)] hE (by kernel_rfl) rfl (fun a hE => ?_)
  refine at_end rfl ?_
  refine wpIn_seq ?_
  refine region_at ?_
  refine seg 2 (j := 2) [(0, .slice A2 (List.length (x1)) c3), (2, .slice none 0 0), (4, .int .i64 (((List.length (x1) : Nat) : Int)))] hE (by kernel_rfl) rfl (fun a hE => ?_)
  obtain ⟨r27, h28, hf⟩ := bind_some hf
  refine at_op (op_call rfl rfl rfl rfl hE rfl rfl rfl rfl (by kernel_rfl) (inspeximusref03_Num.calls (g := g) h28 (hS.st.fore (L := [])) ) (fun a v w hR hE => ?_)) rfl
  obtain ⟨D29, A31, c32, q33, rfl, hS1, h34⟩ := hR
  have le36 := hS1.dle
  have hS : Stp g w0 D0 [] w D29 [q33] := hS.call (L := []) (R := []) hS1
  clear hS1
  refine seg 1 (j := 4) [(0, .slice A2 (List.length (x1)) c3), (2, .slice none 0 0), (5, .slice A31 (List.length (r27)) c32), (6, .slice A2 (List.length (x1)) c3)] hE (by kernel_rfl) rfl (fun a hE => ?_)
  obtain ⟨l37, h38, hf⟩ := bind_some hf
  refine at_op (g_append (K := (kdInt .u8)) (e := 5) (bytes := 1) (l := r27) (m := x1) rfl rfl rfl rfl hE rfl hS rfl rfl (by kernel_rfl) rfl rfl h34 (h4.mono le36) h38 (fun a A39 c40 q41 w _ hE h42 hS => ?_)) rfl
  have hS : Stp g w0 D0 [] w D29 [q41] := hS
  refine seg 1 (j := 6) [(0, .slice A2 (List.length (x1)) c3), (2, .slice A39 (List.length (l37)) c40)] hE (by kernel_rfl) rfl (fun a hE => ?_)
  refine at_end rfl ?_
  refine wpIn_ret ?_
  obtain rfl := Option.some.inj hf
  repeat (with_reducible first | refine then_ret ?_ | refine block_ret ?_ | refine qx_ret ?_)
  refine ret_gen ([.slice A39 (List.length (l37)) c40]) hE (by rw [show Try.f15.results.toList = [.tmp 2] from rfl]; exact ⟨_, _, rfl, rfl, rfl⟩) ?_
  exact ⟨_, rfl, D29, A39, c40, q41, rfl, hS, h42⟩

set_option maxRecDepth 100000 in
set_option maxHeartbeats 4000000 in
theorem inspeximuslaw03_WirePuts.calls {K : Nat} {g w0 : World} {D0 : Snap} {x1 : Int} {x2 : Bool} {x3 : (List Int)} {x7 : (Vector Int 32)} {A4 : Option Addr} {c5 : Nat} {r : (Bool)} (hf : inspeximuslaw03_WirePuts.f K x1 x2 x3 x7 = some r) (hS0 : St g w0 D0 []) (h6 : Sl (kdInt .u8) D0 A4 c5 (x3)) :
    CallsIn (Fw none) 0 Try.prog 3 (List.toArray [.int .i64 (x1), .bool (x2), .slice A4 (List.length (x3)) c5, .agg (List.toArray (acells .u8 32 (x7)))]) w0 (fun e w' => ∃ v, e = .returned v ∧ ∃ (D1 : Snap), v = .bool (r) ∧ Stp g w0 D0 [] w' D1 []) := by
  unfold inspeximuslaw03_WirePuts.f at hf
  have hS := Stp.refl hS0
  clear hS0
  refine calls_body (n := 43) Try.func3 rfl Try.ntmps3 rfl (fun a hE => ?_)
  have hE : Env a 43 [] [(0, .int .i64 (x1)), (1, .bool (x2)), (2, .slice A4 (List.length (x3)) c5), (3, .agg (List.toArray (acells .u8 32 (x7))))] := hE
  refine wpIn_seq ?_
  refine region_at ?_
  refine at_op (op_box rfl rfl rfl rfl hE rfl hS rfl (fun a b489 w _ hE hS => ?_)) rfl
  have hS : Stp g w0 D0 [] w D0 [bx b489 24 (acells .u8 32 (x7))] := hS
  refine seg 1 (j := 2) [(0, .int .i64 (x1)), (1, .bool (x2)), (2, .slice A4 (List.length (x3)) c5), (3, .agg (List.toArray (acells .u8 32 (x7)))), (7, .pointer (some ⟨b489, 0, none⟩)), (8, .bool false)] hE (by kernel_rfl) rfl (fun a hE => ?_)
  refine at_end rfl ?_
  refine wpIn_seq ?_
  refine wpIn_seq ?_
  refine region_at ?_
  obtain ⟨r496, h497, hf⟩ := bind_some hf
  refine at_op (op_call rfl rfl rfl rfl hE rfl rfl rfl rfl (by kernel_rfl) (inspeximuslaw03_alive.calls (g := g) h497 (hS.st.fore (L := [])) ) (fun a v w hR hE => ?_)) rfl
  obtain ⟨D498, rfl, hS1⟩ := hR
  have le500 := hS1.dle
  have hS : Stp g w0 D0 [] w D498 [bx b489 24 (acells .u8 32 (x7))] := hS.call (L := []) (R := [bx b489 24 (acells .u8 32 (x7))]) hS1
  clear hS1
  refine seg 1 (j := 2) [(0, .int .i64 (x1)), (1, .bool (x2)), (2, .slice A4 (List.length (x3)) c5), (3, .agg (List.toArray (acells .u8 32 (x7)))), (7, .pointer (some ⟨b489, 0, none⟩)), (8, .bool false), (11, .bool ((!r496)))] hE (by kernel_rfl) rfl (fun a hE => ?_)
  refine at_end rfl ?_
  refine cond_split hE (b := (!r496)) rfl (fun hb => ?_) (fun hb => ?_)
  · replace hf := cond_t hb hf
    clear hb
    refine wpIn_seq ?_
    refine region_at ?_
    refine seg 1 (j := 1) [(0, .int .i64 (x1)), (1, .bool (x2)), (2, .slice A4 (List.length (x3)) c5), (3, .agg (List.toArray (acells .u8 32 (x7)))), (7, .pointer (some ⟨b489, 0, none⟩)), (8, .bool false), (11, .bool ((!r496)))] hE (by kernel_rfl) rfl (fun a hE => ?_)
    refine at_end rfl ?_
    refine wpIn_ret ?_
    obtain rfl := Option.some.inj hf
    repeat (with_reducible first | refine then_ret ?_ | refine block_ret ?_ | refine qx_ret ?_)
    refine ret_gen ([.bool false]) hE (by rw [show Try.f3.results.toList = [.tmp 8] from rfl]; exact ⟨_, _, rfl, rfl, rfl⟩) ?_
    have hS : Stp g w0 D0 [] w D498 [] := hS.sel [] rfl (by decide)
    exact ⟨_, rfl, D498, rfl, hS⟩
  · replace hf := cond_f hb hf
    clear hb
    refine wpIn_skip ?_
    refine wpIn_seq ?_
    refine wpIn_seq ?_
    refine region_at ?_
    refine seg 3 (j := 3) [(0, .int .i64 (x1)), (1, .bool (x2)), (2, .slice A4 (List.length (x3)) c5), (3, .agg (List.toArray (acells .u8 32 (x7)))), (7, .pointer (some ⟨b489, 0, none⟩)), (8, .bool false), (11, .bool ((!r496))), (14, .bool ((decide ((500 : Int) < ((List.length (x3) : Nat) : Int)))))] hE (by kernel_rfl) rfl (fun a hE => ?_)
    refine at_end rfl ?_
    refine cond_split hE (b := (decide ((500 : Int) < ((List.length (x3) : Nat) : Int)))) rfl (fun hb => ?_) (fun hb => ?_)
    · replace hf := cond_t hb hf
      clear hb
      refine wpIn_seq ?_
      refine region_at ?_
      refine seg 1 (j := 1) [(0, .int .i64 (x1)), (1, .bool (x2)), (2, .slice A4 (List.length (x3)) c5), (3, .agg (List.toArray (acells .u8 32 (x7)))), (7, .pointer (some ⟨b489, 0, none⟩)), (8, .bool true), (11, .bool ((!r496))), (14, .bool ((decide ((500 : Int) < ((List.length (x3) : Nat) : Int)))))] hE (by kernel_rfl) rfl (fun a hE => ?_)
      refine at_end rfl ?_
      refine wpIn_ret ?_
      obtain rfl := Option.some.inj hf
      repeat (with_reducible first | refine then_ret ?_ | refine block_ret ?_ | refine qx_ret ?_)
      refine ret_gen ([.bool true]) hE (by rw [show Try.f3.results.toList = [.tmp 8] from rfl]; exact ⟨_, _, rfl, rfl, rfl⟩) ?_
      have hS : Stp g w0 D0 [] w D498 [] := hS.sel [] rfl (by decide)
      exact ⟨_, rfl, D498, rfl, hS⟩
    · replace hf := cond_f hb hf
      clear hb
      refine wpIn_skip ?_
      refine wpIn_seq ?_
      refine region_at ?_
      refine at_op (op_buildSlice (K := (kdInt .u8)) (e := 5) (cs := [.int .u8 ((0 : Int))] ++ []) ([(0 : Int)] : List Int) rfl rfl rfl rfl hE rfl hS rfl (by kernel_rfl) rfl rfl (by exact (show RL (kdInt .u8) D498 ([(0 : Int)] : List Int) ([.int .u8 ((0 : Int))] ++ []) from ⟨_, _, rfl, rfl, rfl⟩)) (fun a A501 q502 w _ hE h503 hS => ?_)) rfl
      have hS : Stp g w0 D0 [] w D498 [q502, bx b489 24 (acells .u8 32 (x7))] := hS
      refine seg 1 (j := 2) [(0, .int .i64 (x1)), (1, .bool (x2)), (2, .slice A4 (List.length (x3)) c5), (3, .agg (List.toArray (acells .u8 32 (x7)))), (7, .pointer (some ⟨b489, 0, none⟩)), (8, .bool false), (9, .slice A501 (List.length (([(0 : Int)] : List Int))) 1), (11, .bool ((!r496))), (14, .bool ((decide ((500 : Int) < ((List.length (x3) : Nat) : Int)))))] hE (by kernel_rfl) rfl (fun a hE => ?_)
      refine at_end rfl ?_
      obtain ⟨j961, hj962, hf⟩ := jn_elim hf
      refine seq_join (fun a w => ∃ (y512 : (List Int)), ∃ (q517 : Blk), ∃ (D513 : Snap), Env a 43 [] [(0, .int .i64 (x1)), (1, .bool (x2)), (2, .slice A4 (List.length (x3)) c5), (7, .pointer (some ⟨b489, 0, none⟩)), (9, .slice A501 (List.length (y512)) 1)] ∧ Stp g w0 D0 [] w D513 [bx b489 24 (acells .u8 32 (x7)), q517] ∧ Snap.le D498 D513 ∧ OwnD (kdInt .u8) 5 D513 A501 1 (y512) q517 ∧ j961 y512 = some r) ?_ ?_
      · clear hj962
        refine wpIn_seq ?_
        refine region_at ?_
        refine seg 1 (j := 1) [(0, .int .i64 (x1)), (1, .bool (x2)), (2, .slice A4 (List.length (x3)) c5), (3, .agg (List.toArray (acells .u8 32 (x7)))), (7, .pointer (some ⟨b489, 0, none⟩)), (8, .bool false), (9, .slice A501 (List.length (([(0 : Int)] : List Int))) 1), (11, .bool ((!r496))), (14, .bool ((decide ((500 : Int) < ((List.length (x3) : Nat) : Int))))), (16, .bool (x2))] hE (by kernel_rfl) rfl (fun a hE => ?_)
        refine at_end rfl ?_
        refine cond_split hE (b := x2) rfl (fun hb => ?_) (fun hb => ?_)
        · replace hf := cond_t hb hf
          clear hb
          refine region_at ?_
          refine seg 1 (j := 1) [(0, .int .i64 (x1)), (1, .bool (x2)), (2, .slice A4 (List.length (x3)) c5), (3, .agg (List.toArray (acells .u8 32 (x7)))), (7, .pointer (some ⟨b489, 0, none⟩)), (8, .bool false), (9, .slice A501 (List.length (([(0 : Int)] : List Int))) 1), (11, .bool ((!r496))), (14, .bool ((decide ((500 : Int) < ((List.length (x3) : Nat) : Int))))), (16, .bool (x2)), (17, .slice A501 (List.length (([(0 : Int)] : List Int))) 1)] hE (by kernel_rfl) rfl (fun a hE => ?_)
          obtain ⟨x963, h964, hf⟩ := bind_some hf
          refine at_op (op_tk hE (tk_indexO (K := (kdInt .u8)) (T := 5) (by_ := 1) (zl := 1) rfl rfl rfl rfl hE rfl rfl rfl (by kernel_rfl) h503 h964 (fun a b965 u966 hq hE => ?_))) rfl
          subst hq
          refine at_op (op_storeO (K := (kdInt .u8)) (T := 5) (l := ([(0 : Int)] : List Int)) ((1 : Int)) rfl rfl rfl rfl hE hS h503 rfl rfl (inI_of h964) (rfl) (by kernel_rfl) (by kernel_rfl) (fun a u967 w _ hE h968 hS => ?_)) rfl
          have hE : Env a 43 [] [(0, .int .i64 (x1)), (1, .bool (x2)), (2, .slice A4 (List.length (x3)) c5), (3, .agg (List.toArray (acells .u8 32 (x7)))), (7, .pointer (some ⟨b489, 0, none⟩)), (8, .bool false), (9, .slice A501 (List.length ((List.set (([(0 : Int)] : List Int)) (Int.toNat ((0 : Int))) ((1 : Int))))) 1), (11, .bool ((!r496))), (14, .bool ((decide ((500 : Int) < ((List.length (x3) : Nat) : Int))))), (16, .bool (x2)), (17, .slice A501 (List.length ((List.set (([(0 : Int)] : List Int)) (Int.toNat ((0 : Int))) ((1 : Int))))) 1), (18, .pointer (some ⟨b965, Int.toNat ((0 : Int)) * 1, none⟩))] := by have h := hE.weak (E' := [(0, .int .i64 (x1)), (1, .bool (x2)), (2, .slice A4 (List.length (x3)) c5), (3, .agg (List.toArray (acells .u8 32 (x7)))), (7, .pointer (some ⟨b489, 0, none⟩)), (8, .bool false), (9, .slice A501 (List.length (([(0 : Int)] : List Int))) 1), (11, .bool ((!r496))), (14, .bool ((decide ((500 : Int) < ((List.length (x3) : Nat) : Int))))), (16, .bool (x2)), (17, .slice A501 (List.length (([(0 : Int)] : List Int))) 1), (18, .pointer (some ⟨b965, Int.toNat ((0 : Int)) * 1, none⟩))]) (by kernel_rfl); simpa only [List.length_set] using h
          have hS : Stp g w0 D0 [] w D498 [(some (b965, u967)), bx b489 24 (acells .u8 32 (x7))] := hS
          refine at_end rfl ?_
          have hS : Stp g w0 D0 [] w D498 [bx b489 24 (acells .u8 32 (x7)), (some (b965, u967))] := hS.sel [1, 0] rfl (by decide)
          exact ⟨(List.set (([(0 : Int)] : List Int)) (Int.toNat ((0 : Int))) ((1 : Int))), (some (b965, u967)), D498, hE.weak (by kernel_rfl), hS, Snap.le.refl _, h968, hf⟩
        · replace hf := cond_f hb hf
          clear hb
          refine wpIn_skip ?_
          have hS : Stp g w0 D0 [] w D498 [bx b489 24 (acells .u8 32 (x7)), q502] := hS.sel [1, 0] rfl (by decide)
          exact ⟨([(0 : Int)] : List Int), q502, D498, hE.weak (by kernel_rfl), hS, Snap.le.refl _, h503, hf⟩
      · clear hE hS
        rintro a w ⟨y512, q517, D513, hE, hS, le514, h518, hf⟩
        replace hf := hj962 _ hf
        clear hj962
        obtain ⟨j741, hj742, hf⟩ := jn_elim hf
        refine seq_join (fun a w => ∃ (y738 : Bool), ∃ (D739 : Snap), Env a 43 [] [(8, .bool (y738))] ∧ Stp g w0 D0 [] w D739 [] ∧ Snap.le D513 D739 ∧ j741 y738 = some r) ?_ ?_
        · clear hj742
          refine region_draw (mfOf []) (by kernel_rfl) ?_
          have hS := hS.drew
          generalize w.drew = w at hS ⊢
          refine takeW 0 (fuel := 24) #[true, false, false, false, false, false, false, false, false, false, false, false, false, false, false, false, false, false, false, false, false, false, false, false, false] (by kernel_rfl) (by kernel_rfl) (by kernel_rfl) (by kernel_rfl) hE (fun M => tk_pure (.int .i64 (x1)) hE rfl rfl rfl rfl (fun _ _ _ e => by cases e) (by kernel_rfl) (fun a hE => ?_))
          refine takeW 2 (fuel := 23) #[true, false, true, false, false, false, false, false, false, false, false, false, false, false, false, false, false, false, false, false, false, false, false, false, false] (by kernel_rfl) (by kernel_rfl) (by kernel_rfl) (by kernel_rfl) hE (fun M => tk_pure (.int .i64 (x1)) hE rfl rfl rfl rfl (fun _ _ _ e => by cases e) (by kernel_rfl) (fun a hE => ?_))
          obtain ⟨r852, h853, hf⟩ := bind_some hf
          refine onlyG (i := 1) (fuel := 22) (listed' := #[true, true, true, false, false, false, false, false, false, false, false, false, false, false, false, false, false, false, false, false, false, false, false, false, false]) (by kernel_rfl) (by kernel_rfl) (op_call rfl rfl rfl rfl hE rfl rfl rfl rfl (by kernel_rfl) (wire_Num.calls (g := g) h853 (hS.st.fore (L := [])) ) (fun a v w hR hE => ?_))
          obtain ⟨D854, A856, c857, q858, rfl, hS1, h859⟩ := hR
          refine ⟨hS1.keeps.mono (fun _ h => h), ?_⟩
          have le861 := hS1.dle
          have hS : Stp g w0 D0 [] w D854 [q858, bx b489 24 (acells .u8 32 (x7)), q517] := hS.call (L := []) (R := [bx b489 24 (acells .u8 32 (x7)), q517]) hS1
          clear hS1
          obtain ⟨r862, h863, hf⟩ := bind_some hf
          refine onlyG (i := 3) (fuel := 21) (listed' := #[true, true, true, true, false, false, false, false, false, false, false, false, false, false, false, false, false, false, false, false, false, false, false, false, false]) (by kernel_rfl) (by kernel_rfl) (op_call rfl rfl rfl rfl hE rfl rfl rfl rfl (by kernel_rfl) (inspeximusref03_Num.calls (g := g) h863 (hS.st.fore (L := [])) ) (fun a v w hR hE => ?_))
          obtain ⟨D864, A866, c867, q868, rfl, hS1, h869⟩ := hR
          refine ⟨hS1.keeps.mono (fun _ h => h), ?_⟩
          have le871 := hS1.dle
          have hS : Stp g w0 D0 [] w D864 [q868, q858, bx b489 24 (acells .u8 32 (x7)), q517] := hS.call (L := []) (R := [q858, bx b489 24 (acells .u8 32 (x7)), q517]) hS1
          clear hS1
          have hS : Stp g w0 D0 [] w D864 [q858, q868, bx b489 24 (acells .u8 32 (x7)), q517] := hS.sel [1, 0, 2, 3] rfl (by decide)
          obtain ⟨D872, le873, hS, h874⟩ := hS.frozen (h859.mono le871)
          have hS : Stp g w0 D0 [] w D872 [q868, bx b489 24 (acells .u8 32 (x7)), q517] := hS
          obtain ⟨D875, le876, hS, h877⟩ := hS.frozen (h869.mono le873)
          have hS : Stp g w0 D0 [] w D875 [bx b489 24 (acells .u8 32 (x7)), q517] := hS
          obtain ⟨r878, h879, hf⟩ := bind_some hf
          refine onlyG (i := 4) (fuel := 20) (listed' := #[true, true, true, true, true, false, false, false, false, false, false, false, false, false, false, false, false, false, false, false, false, false, false, false, false]) (by kernel_rfl) (by kernel_rfl) (op_call rfl rfl rfl rfl hE rfl rfl rfl rfl (by kernel_rfl) (inspeximusref01_Bytes.calls (g := g) h879 (hS.st.fore (L := [])) (h874.mono le876) h877) (fun a v w hR hE => ?_))
          obtain ⟨D880, rfl, hS1⟩ := hR
          refine ⟨hS1.keeps.mono (fun _ h => h), ?_⟩
          have le882 := hS1.dle
          have hS : Stp g w0 D0 [] w D880 [bx b489 24 (acells .u8 32 (x7)), q517] := hS.call (L := []) (R := [bx b489 24 (acells .u8 32 (x7)), q517]) hS1
          clear hS1
          refine takeW 5 (fuel := 19) #[true, true, true, true, true, true, false, false, false, false, false, false, false, false, false, false, false, false, false, false, false, false, false, false, false] (by kernel_rfl) (by kernel_rfl) (by kernel_rfl) (by kernel_rfl) hE (fun M => tk_pure (.bool (r878)) hE rfl rfl rfl rfl (fun _ _ _ e => by cases e) (by kernel_rfl) (fun a hE => ?_))
          cases hb : r878
          · replace hf := cond_f hb hf
            have hE := hE.know (t := 24) (b := r878) (b' := false) rfl hb
            clear hb
            refine takeW 6 (fuel := 18) #[true, true, true, true, true, true, true, false, false, false, false, false, false, false, false, false, false, false, false, false, false, false, false, false, false] (by kernel_rfl) (by kernel_rfl) (by kernel_rfl) (by kernel_rfl) hE (fun M => tk_skip hE rfl rfl rfl rfl (fun a hE => ?_))
            refine takeW 7 (fuel := 17) #[true, true, true, true, true, true, true, true, false, false, false, false, false, false, false, false, false, false, false, false, false, false, false, false, false] (by kernel_rfl) (by kernel_rfl) (by kernel_rfl) (by kernel_rfl) hE (fun M => tk_skip hE rfl rfl rfl rfl (fun a hE => ?_))
            refine takeW 8 (fuel := 16) #[true, true, true, true, true, true, true, true, true, false, false, false, false, false, false, false, false, false, false, false, false, false, false, false, false] (by kernel_rfl) (by kernel_rfl) (by kernel_rfl) (by kernel_rfl) hE (fun M => tk_skip hE rfl rfl rfl rfl (fun a hE => ?_))
            refine takeW 9 (fuel := 15) #[true, true, true, true, true, true, true, true, true, true, false, false, false, false, false, false, false, false, false, false, false, false, false, false, false] (by kernel_rfl) (by kernel_rfl) (by kernel_rfl) (by kernel_rfl) hE (fun M => tk_skip hE rfl rfl rfl rfl (fun a hE => ?_))
            refine takeW 10 (fuel := 14) #[true, true, true, true, true, true, true, true, true, true, true, false, false, false, false, false, false, false, false, false, false, false, false, false, false] (by kernel_rfl) (by kernel_rfl) (by kernel_rfl) (by kernel_rfl) hE (fun M => tk_pure (.bool false) hE rfl rfl rfl rfl (fun _ _ _ e => by cases e) (by kernel_rfl) (fun a hE => ?_))
            refine takeW 11 (fuel := 13) #[true, true, true, true, true, true, true, true, true, true, true, true, false, false, false, false, false, false, false, false, false, false, false, false, false] (by kernel_rfl) (by kernel_rfl) (by kernel_rfl) (by kernel_rfl) hE (fun M => tk_pure (.bool false) hE rfl rfl rfl rfl (fun _ _ _ e => by cases e) (by kernel_rfl) (fun a hE => ?_))
            refine takeW 12 (fuel := 12) #[true, true, true, true, true, true, true, true, true, true, true, true, true, false, false, false, false, false, false, false, false, false, false, false, false] (by kernel_rfl) (by kernel_rfl) (by kernel_rfl) (by kernel_rfl) hE (fun M => tk_skip hE rfl rfl rfl rfl (fun a hE => ?_))
            refine takeW 13 (fuel := 11) #[true, true, true, true, true, true, true, true, true, true, true, true, true, true, false, false, false, false, false, false, false, false, false, false, false] (by kernel_rfl) (by kernel_rfl) (by kernel_rfl) (by kernel_rfl) hE (fun M => tk_skip hE rfl rfl rfl rfl (fun a hE => ?_))
            refine takeW 14 (fuel := 10) #[true, true, true, true, true, true, true, true, true, true, true, true, true, true, true, false, false, false, false, false, false, false, false, false, false] (by kernel_rfl) (by kernel_rfl) (by kernel_rfl) (by kernel_rfl) hE (fun M => tk_skip hE rfl rfl rfl rfl (fun a hE => ?_))
            refine takeW 15 (fuel := 9) #[true, true, true, true, true, true, true, true, true, true, true, true, true, true, true, true, false, false, false, false, false, false, false, false, false] (by kernel_rfl) (by kernel_rfl) (by kernel_rfl) (by kernel_rfl) hE (fun M => tk_skip hE rfl rfl rfl rfl (fun a hE => ?_))
            refine takeW 16 (fuel := 8) #[true, true, true, true, true, true, true, true, true, true, true, true, true, true, true, true, true, false, false, false, false, false, false, false, false] (by kernel_rfl) (by kernel_rfl) (by kernel_rfl) (by kernel_rfl) hE (fun M => tk_skip hE rfl rfl rfl rfl (fun a hE => ?_))
            refine takeW 17 (fuel := 7) #[true, true, true, true, true, true, true, true, true, true, true, true, true, true, true, true, true, true, false, false, false, false, false, false, false] (by kernel_rfl) (by kernel_rfl) (by kernel_rfl) (by kernel_rfl) hE (fun M => tk_pure (.bool false) hE rfl rfl rfl rfl (fun _ _ _ e => by cases e) (by kernel_rfl) (fun a hE => ?_))
            refine takeW 18 (fuel := 6) #[true, true, true, true, true, true, true, true, true, true, true, true, true, true, true, true, true, true, true, false, false, false, false, false, false] (by kernel_rfl) (by kernel_rfl) (by kernel_rfl) (by kernel_rfl) hE (fun M => tk_pure (.bool false) hE rfl rfl rfl rfl (fun _ _ _ e => by cases e) (by kernel_rfl) (fun a hE => ?_))
            refine takeW 19 (fuel := 5) #[true, true, true, true, true, true, true, true, true, true, true, true, true, true, true, true, true, true, true, true, false, false, false, false, false] (by kernel_rfl) (by kernel_rfl) (by kernel_rfl) (by kernel_rfl) hE (fun M => tk_skip hE rfl rfl rfl rfl (fun a hE => ?_))
            refine takeW 20 (fuel := 4) #[true, true, true, true, true, true, true, true, true, true, true, true, true, true, true, true, true, true, true, true, true, false, false, false, false] (by kernel_rfl) (by kernel_rfl) (by kernel_rfl) (by kernel_rfl) hE (fun M => tk_skip hE rfl rfl rfl rfl (fun a hE => ?_))
            refine takeW 21 (fuel := 3) #[true, true, true, true, true, true, true, true, true, true, true, true, true, true, true, true, true, true, true, true, true, true, false, false, false] (by kernel_rfl) (by kernel_rfl) (by kernel_rfl) (by kernel_rfl) hE (fun M => tk_skip hE rfl rfl rfl rfl (fun a hE => ?_))
            refine takeW 22 (fuel := 2) #[true, true, true, true, true, true, true, true, true, true, true, true, true, true, true, true, true, true, true, true, true, true, true, false, false] (by kernel_rfl) (by kernel_rfl) (by kernel_rfl) (by kernel_rfl) hE (fun M => tk_skip hE rfl rfl rfl rfl (fun a hE => ?_))
            refine takeW 23 (fuel := 1) #[true, true, true, true, true, true, true, true, true, true, true, true, true, true, true, true, true, true, true, true, true, true, true, true, false] (by kernel_rfl) (by kernel_rfl) (by kernel_rfl) (by kernel_rfl) hE (fun M => tk_pure (.bool false) hE rfl rfl rfl rfl (fun _ _ _ e => by cases e) (by kernel_rfl) (fun a hE => ?_))
            refine takeW 24 (fuel := 0) #[true, true, true, true, true, true, true, true, true, true, true, true, true, true, true, true, true, true, true, true, true, true, true, true, true] (by kernel_rfl) (by kernel_rfl) (by kernel_rfl) (by kernel_rfl) hE (fun M => tk_pure (.bool false) hE rfl rfl rfl rfl (fun _ _ _ e => by cases e) (by kernel_rfl) (fun a hE => ?_))
            have hE := hE.weak (E' := [(0, .int .i64 (x1)), (1, .bool (x2)), (2, .slice A4 (List.length (x3)) c5), (7, .pointer (some ⟨b489, 0, none⟩)), (8, .bool false), (9, .slice A501 (List.length (y512)) 1)]) (by kernel_rfl)
            refine doneG (by kernel_rfl) ?_
            have hS : Stp g w0 D0 [] w D880 [] := hS.sel [] rfl (by decide)
            exact ⟨false, D880, hE.weak (by kernel_rfl), hS, (Snap.le.trans (Snap.le.trans (Snap.le.trans (Snap.le.trans le861 le871) le873) le876) le882), hf⟩
          · replace hf := cond_t hb hf
            have hE := hE.know (t := 24) (b := r878) (b' := true) rfl hb
            clear hb
            refine takeW 6 (fuel := 18) #[true, true, true, true, true, true, true, false, false, false, false, false, false, false, false, false, false, false, false, false, false, false, false, false, false] (by kernel_rfl) (by kernel_rfl) (by kernel_rfl) (by kernel_rfl) hE (fun M => tk_pure (.bool (x2)) hE rfl rfl rfl rfl (fun _ _ _ e => by cases e) (by kernel_rfl) (fun a hE => ?_))
            refine takeW 8 (fuel := 17) #[true, true, true, true, true, true, true, false, true, false, false, false, false, false, false, false, false, false, false, false, false, false, false, false, false] (by kernel_rfl) (by kernel_rfl) (by kernel_rfl) (by kernel_rfl) hE (fun M => tk_pure (.slice A501 (List.length (y512)) 1) hE rfl rfl rfl rfl (fun _ _ _ e => by cases e) (by kernel_rfl) (fun a hE => ?_))
            obtain ⟨r883, h884, hf⟩ := bind_some hf
            refine onlyG (i := 7) (fuel := 16) (listed' := #[true, true, true, true, true, true, true, true, true, false, false, false, false, false, false, false, false, false, false, false, false, false, false, false, false]) (by kernel_rfl) (by kernel_rfl) (op_call rfl rfl rfl rfl hE rfl rfl rfl rfl (by kernel_rfl) (wire_Flag.calls (g := g) h884 (hS.st.fore (L := [])) ) (fun a v w hR hE => ?_))
            obtain ⟨D885, A887, c888, q889, rfl, hS1, h890⟩ := hR
            refine ⟨hS1.keeps.mono (fun _ h => h), ?_⟩
            have le892 := hS1.dle
            have hS : Stp g w0 D0 [] w D885 [q889, bx b489 24 (acells .u8 32 (x7)), q517] := hS.call (L := []) (R := [bx b489 24 (acells .u8 32 (x7)), q517]) hS1
            clear hS1
            obtain ⟨D893, le894, hS, h895⟩ := hS.frozen h890
            have hS : Stp g w0 D0 [] w D893 [bx b489 24 (acells .u8 32 (x7)), q517] := hS
            have hS : Stp g w0 D0 [] w D893 [q517, bx b489 24 (acells .u8 32 (x7))] := hS.sel [1, 0] rfl (by decide)
            obtain ⟨D896, le897, hS, h898⟩ := hS.frozen (h518.mono (Snap.le.trans (Snap.le.trans (Snap.le.trans (Snap.le.trans (Snap.le.trans (Snap.le.trans le861 le871) le873) le876) le882) le892) le894))
            have hS : Stp g w0 D0 [] w D896 [bx b489 24 (acells .u8 32 (x7))] := hS
            obtain ⟨r899, h900, hf⟩ := bind_some hf
            refine onlyG (i := 9) (fuel := 15) (listed' := #[true, true, true, true, true, true, true, true, true, true, false, false, false, false, false, false, false, false, false, false, false, false, false, false, false]) (by kernel_rfl) (by kernel_rfl) (op_call rfl rfl rfl rfl hE rfl rfl rfl rfl (by kernel_rfl) (inspeximusref01_Bytes.calls (g := g) h900 (hS.st.fore (L := [])) (h895.mono le897) h898) (fun a v w hR hE => ?_))
            obtain ⟨D901, rfl, hS1⟩ := hR
            refine ⟨hS1.keeps.mono (fun _ h => h), ?_⟩
            have le903 := hS1.dle
            have hS : Stp g w0 D0 [] w D901 [bx b489 24 (acells .u8 32 (x7))] := hS.call (L := []) (R := [bx b489 24 (acells .u8 32 (x7))]) hS1
            clear hS1
            refine takeW 10 (fuel := 14) #[true, true, true, true, true, true, true, true, true, true, true, false, false, false, false, false, false, false, false, false, false, false, false, false, false] (by kernel_rfl) (by kernel_rfl) (by kernel_rfl) (by kernel_rfl) hE (fun M => tk_pure (.bool (r899)) hE rfl rfl rfl rfl (fun _ _ _ e => by cases e) (by kernel_rfl) (fun a hE => ?_))
            refine takeW 11 (fuel := 13) #[true, true, true, true, true, true, true, true, true, true, true, true, false, false, false, false, false, false, false, false, false, false, false, false, false] (by kernel_rfl) (by kernel_rfl) (by kernel_rfl) (by kernel_rfl) hE (fun M => tk_pure (.bool (r899)) hE rfl rfl rfl rfl (fun _ _ _ e => by cases e) (by kernel_rfl) (fun a hE => ?_))
            cases hb : r899
            · replace hf := cond_f hb hf
              have hE := hE.know (t := 30) (b := r899) (b' := false) rfl hb
              clear hb
              refine takeW 12 (fuel := 12) #[true, true, true, true, true, true, true, true, true, true, true, true, true, false, false, false, false, false, false, false, false, false, false, false, false] (by kernel_rfl) (by kernel_rfl) (by kernel_rfl) (by kernel_rfl) hE (fun M => tk_skip hE rfl rfl rfl rfl (fun a hE => ?_))
              refine takeW 13 (fuel := 11) #[true, true, true, true, true, true, true, true, true, true, true, true, true, true, false, false, false, false, false, false, false, false, false, false, false] (by kernel_rfl) (by kernel_rfl) (by kernel_rfl) (by kernel_rfl) hE (fun M => tk_skip hE rfl rfl rfl rfl (fun a hE => ?_))
              refine takeW 14 (fuel := 10) #[true, true, true, true, true, true, true, true, true, true, true, true, true, true, true, false, false, false, false, false, false, false, false, false, false] (by kernel_rfl) (by kernel_rfl) (by kernel_rfl) (by kernel_rfl) hE (fun M => tk_skip hE rfl rfl rfl rfl (fun a hE => ?_))
              refine takeW 15 (fuel := 9) #[true, true, true, true, true, true, true, true, true, true, true, true, true, true, true, true, false, false, false, false, false, false, false, false, false] (by kernel_rfl) (by kernel_rfl) (by kernel_rfl) (by kernel_rfl) hE (fun M => tk_skip hE rfl rfl rfl rfl (fun a hE => ?_))
              refine takeW 16 (fuel := 8) #[true, true, true, true, true, true, true, true, true, true, true, true, true, true, true, true, true, false, false, false, false, false, false, false, false] (by kernel_rfl) (by kernel_rfl) (by kernel_rfl) (by kernel_rfl) hE (fun M => tk_skip hE rfl rfl rfl rfl (fun a hE => ?_))
              refine takeW 17 (fuel := 7) #[true, true, true, true, true, true, true, true, true, true, true, true, true, true, true, true, true, true, false, false, false, false, false, false, false] (by kernel_rfl) (by kernel_rfl) (by kernel_rfl) (by kernel_rfl) hE (fun M => tk_pure (.bool false) hE rfl rfl rfl rfl (fun _ _ _ e => by cases e) (by kernel_rfl) (fun a hE => ?_))
              refine takeW 18 (fuel := 6) #[true, true, true, true, true, true, true, true, true, true, true, true, true, true, true, true, true, true, true, false, false, false, false, false, false] (by kernel_rfl) (by kernel_rfl) (by kernel_rfl) (by kernel_rfl) hE (fun M => tk_pure (.bool false) hE rfl rfl rfl rfl (fun _ _ _ e => by cases e) (by kernel_rfl) (fun a hE => ?_))
              refine takeW 19 (fuel := 5) #[true, true, true, true, true, true, true, true, true, true, true, true, true, true, true, true, true, true, true, true, false, false, false, false, false] (by kernel_rfl) (by kernel_rfl) (by kernel_rfl) (by kernel_rfl) hE (fun M => tk_skip hE rfl rfl rfl rfl (fun a hE => ?_))
              refine takeW 20 (fuel := 4) #[true, true, true, true, true, true, true, true, true, true, true, true, true, true, true, true, true, true, true, true, true, false, false, false, false] (by kernel_rfl) (by kernel_rfl) (by kernel_rfl) (by kernel_rfl) hE (fun M => tk_skip hE rfl rfl rfl rfl (fun a hE => ?_))
              refine takeW 21 (fuel := 3) #[true, true, true, true, true, true, true, true, true, true, true, true, true, true, true, true, true, true, true, true, true, true, false, false, false] (by kernel_rfl) (by kernel_rfl) (by kernel_rfl) (by kernel_rfl) hE (fun M => tk_skip hE rfl rfl rfl rfl (fun a hE => ?_))
              refine takeW 22 (fuel := 2) #[true, true, true, true, true, true, true, true, true, true, true, true, true, true, true, true, true, true, true, true, true, true, true, false, false] (by kernel_rfl) (by kernel_rfl) (by kernel_rfl) (by kernel_rfl) hE (fun M => tk_skip hE rfl rfl rfl rfl (fun a hE => ?_))
              refine takeW 23 (fuel := 1) #[true, true, true, true, true, true, true, true, true, true, true, true, true, true, true, true, true, true, true, true, true, true, true, true, false] (by kernel_rfl) (by kernel_rfl) (by kernel_rfl) (by kernel_rfl) hE (fun M => tk_pure (.bool false) hE rfl rfl rfl rfl (fun _ _ _ e => by cases e) (by kernel_rfl) (fun a hE => ?_))
              refine takeW 24 (fuel := 0) #[true, true, true, true, true, true, true, true, true, true, true, true, true, true, true, true, true, true, true, true, true, true, true, true, true] (by kernel_rfl) (by kernel_rfl) (by kernel_rfl) (by kernel_rfl) hE (fun M => tk_pure (.bool false) hE rfl rfl rfl rfl (fun _ _ _ e => by cases e) (by kernel_rfl) (fun a hE => ?_))
              have hE := hE.weak (E' := [(0, .int .i64 (x1)), (1, .bool (x2)), (2, .slice A4 (List.length (x3)) c5), (7, .pointer (some ⟨b489, 0, none⟩)), (8, .bool false), (9, .slice A501 (List.length (y512)) 1)]) (by kernel_rfl)
              refine doneG (by kernel_rfl) ?_
              have hS : Stp g w0 D0 [] w D901 [] := hS.sel [] rfl (by decide)
              exact ⟨false, D901, hE.weak (by kernel_rfl), hS, (Snap.le.trans (Snap.le.trans (Snap.le.trans (Snap.le.trans (Snap.le.trans (Snap.le.trans (Snap.le.trans (Snap.le.trans le861 le871) le873) le876) le882) le892) le894) le897) le903), hf⟩
            · replace hf := cond_t hb hf
              have hE := hE.know (t := 30) (b := r899) (b' := true) rfl hb
              clear hb
              refine takeW 12 (fuel := 12) #[true, true, true, true, true, true, true, true, true, true, true, true, true, false, false, false, false, false, false, false, false, false, false, false, false] (by kernel_rfl) (by kernel_rfl) (by kernel_rfl) (by kernel_rfl) hE (fun M => tk_pure (.slice A4 (List.length (x3)) c5) hE rfl rfl rfl rfl (fun _ _ _ e => by cases e) (by kernel_rfl) (fun a hE => ?_))
              refine takeW 14 (fuel := 11) #[true, true, true, true, true, true, true, true, true, true, true, true, true, false, true, false, false, false, false, false, false, false, false, false, false] (by kernel_rfl) (by kernel_rfl) (by kernel_rfl) (by kernel_rfl) hE (fun M => tk_pure (.slice A4 (List.length (x3)) c5) hE rfl rfl rfl rfl (fun _ _ _ e => by cases e) (by kernel_rfl) (fun a hE => ?_))
              obtain ⟨r904, h905, hf⟩ := bind_some hf
              refine onlyG (i := 13) (fuel := 10) (listed' := #[true, true, true, true, true, true, true, true, true, true, true, true, true, true, true, false, false, false, false, false, false, false, false, false, false]) (by kernel_rfl) (by kernel_rfl) (op_call rfl rfl rfl rfl hE rfl rfl rfl rfl (by kernel_rfl) (wire_Bytes.calls (g := g) h905 (hS.st.fore (L := [])) (h6.mono (Snap.le.trans (Snap.le.trans (Snap.le.trans (Snap.le.trans (Snap.le.trans (Snap.le.trans (Snap.le.trans (Snap.le.trans (Snap.le.trans (Snap.le.trans le500 le514) le861) le871) le873) le876) le882) le892) le894) le897) le903))) (fun a v w hR hE => ?_))
              obtain ⟨D906, A908, c909, q910, rfl, hS1, h911⟩ := hR
              refine ⟨hS1.keeps.mono (fun _ h => h), ?_⟩
              have le913 := hS1.dle
              have hS : Stp g w0 D0 [] w D906 [q910, bx b489 24 (acells .u8 32 (x7))] := hS.call (L := []) (R := [bx b489 24 (acells .u8 32 (x7))]) hS1
              clear hS1
              obtain ⟨r914, h915, hf⟩ := bind_some hf
              refine onlyG (i := 15) (fuel := 9) (listed' := #[true, true, true, true, true, true, true, true, true, true, true, true, true, true, true, true, false, false, false, false, false, false, false, false, false]) (by kernel_rfl) (by kernel_rfl) (op_call rfl rfl rfl rfl hE rfl rfl rfl rfl (by kernel_rfl) (inspeximusref03_Bytes.calls (g := g) h915 (hS.st.fore (L := [])) (h6.mono (Snap.le.trans (Snap.le.trans (Snap.le.trans (Snap.le.trans (Snap.le.trans (Snap.le.trans (Snap.le.trans (Snap.le.trans (Snap.le.trans (Snap.le.trans (Snap.le.trans le500 le514) le861) le871) le873) le876) le882) le892) le894) le897) le903) le913))) (fun a v w hR hE => ?_))
              obtain ⟨D916, A918, c919, q920, rfl, hS1, h921⟩ := hR
              refine ⟨hS1.keeps.mono (fun _ h => h), ?_⟩
              have le923 := hS1.dle
              have hS : Stp g w0 D0 [] w D916 [q920, q910, bx b489 24 (acells .u8 32 (x7))] := hS.call (L := []) (R := [q910, bx b489 24 (acells .u8 32 (x7))]) hS1
              clear hS1
              have hS : Stp g w0 D0 [] w D916 [q910, q920, bx b489 24 (acells .u8 32 (x7))] := hS.sel [1, 0, 2] rfl (by decide)
              obtain ⟨D924, le925, hS, h926⟩ := hS.frozen (h911.mono le923)
              have hS : Stp g w0 D0 [] w D924 [q920, bx b489 24 (acells .u8 32 (x7))] := hS
              obtain ⟨D927, le928, hS, h929⟩ := hS.frozen (h921.mono le925)
              have hS : Stp g w0 D0 [] w D927 [bx b489 24 (acells .u8 32 (x7))] := hS
              obtain ⟨r930, h931, hf⟩ := bind_some hf
              refine onlyG (i := 16) (fuel := 8) (listed' := #[true, true, true, true, true, true, true, true, true, true, true, true, true, true, true, true, true, false, false, false, false, false, false, false, false]) (by kernel_rfl) (by kernel_rfl) (op_call rfl rfl rfl rfl hE rfl rfl rfl rfl (by kernel_rfl) (inspeximusref01_Bytes.calls (g := g) h931 (hS.st.fore (L := [])) (h926.mono le928) h929) (fun a v w hR hE => ?_))
              obtain ⟨D932, rfl, hS1⟩ := hR
              refine ⟨hS1.keeps.mono (fun _ h => h), ?_⟩
              have le934 := hS1.dle
              have hS : Stp g w0 D0 [] w D932 [bx b489 24 (acells .u8 32 (x7))] := hS.call (L := []) (R := [bx b489 24 (acells .u8 32 (x7))]) hS1
              clear hS1
              refine takeW 17 (fuel := 7) #[true, true, true, true, true, true, true, true, true, true, true, true, true, true, true, true, true, true, false, false, false, false, false, false, false] (by kernel_rfl) (by kernel_rfl) (by kernel_rfl) (by kernel_rfl) hE (fun M => tk_pure (.bool (r930)) hE rfl rfl rfl rfl (fun _ _ _ e => by cases e) (by kernel_rfl) (fun a hE => ?_))
              refine takeW 18 (fuel := 6) #[true, true, true, true, true, true, true, true, true, true, true, true, true, true, true, true, true, true, true, false, false, false, false, false, false] (by kernel_rfl) (by kernel_rfl) (by kernel_rfl) (by kernel_rfl) hE (fun M => tk_pure (.bool (r930)) hE rfl rfl rfl rfl (fun _ _ _ e => by cases e) (by kernel_rfl) (fun a hE => ?_))
              cases hb : r930
              · replace hf := cond_f hb hf
                have hE := hE.know (t := 37) (b := r930) (b' := false) rfl hb
                clear hb
                refine takeW 19 (fuel := 5) #[true, true, true, true, true, true, true, true, true, true, true, true, true, true, true, true, true, true, true, true, false, false, false, false, false] (by kernel_rfl) (by kernel_rfl) (by kernel_rfl) (by kernel_rfl) hE (fun M => tk_skip hE rfl rfl rfl rfl (fun a hE => ?_))
                refine takeW 20 (fuel := 4) #[true, true, true, true, true, true, true, true, true, true, true, true, true, true, true, true, true, true, true, true, true, false, false, false, false] (by kernel_rfl) (by kernel_rfl) (by kernel_rfl) (by kernel_rfl) hE (fun M => tk_skip hE rfl rfl rfl rfl (fun a hE => ?_))
                refine takeW 21 (fuel := 3) #[true, true, true, true, true, true, true, true, true, true, true, true, true, true, true, true, true, true, true, true, true, true, false, false, false] (by kernel_rfl) (by kernel_rfl) (by kernel_rfl) (by kernel_rfl) hE (fun M => tk_skip hE rfl rfl rfl rfl (fun a hE => ?_))
                refine takeW 22 (fuel := 2) #[true, true, true, true, true, true, true, true, true, true, true, true, true, true, true, true, true, true, true, true, true, true, true, false, false] (by kernel_rfl) (by kernel_rfl) (by kernel_rfl) (by kernel_rfl) hE (fun M => tk_skip hE rfl rfl rfl rfl (fun a hE => ?_))
                refine takeW 23 (fuel := 1) #[true, true, true, true, true, true, true, true, true, true, true, true, true, true, true, true, true, true, true, true, true, true, true, true, false] (by kernel_rfl) (by kernel_rfl) (by kernel_rfl) (by kernel_rfl) hE (fun M => tk_pure (.bool false) hE rfl rfl rfl rfl (fun _ _ _ e => by cases e) (by kernel_rfl) (fun a hE => ?_))
                refine takeW 24 (fuel := 0) #[true, true, true, true, true, true, true, true, true, true, true, true, true, true, true, true, true, true, true, true, true, true, true, true, true] (by kernel_rfl) (by kernel_rfl) (by kernel_rfl) (by kernel_rfl) hE (fun M => tk_pure (.bool false) hE rfl rfl rfl rfl (fun _ _ _ e => by cases e) (by kernel_rfl) (fun a hE => ?_))
                have hE := hE.weak (E' := [(0, .int .i64 (x1)), (1, .bool (x2)), (2, .slice A4 (List.length (x3)) c5), (7, .pointer (some ⟨b489, 0, none⟩)), (8, .bool false), (9, .slice A501 (List.length (y512)) 1)]) (by kernel_rfl)
                refine doneG (by kernel_rfl) ?_
                have hS : Stp g w0 D0 [] w D932 [] := hS.sel [] rfl (by decide)
                exact ⟨false, D932, hE.weak (by kernel_rfl), hS, (Snap.le.trans (Snap.le.trans (Snap.le.trans (Snap.le.trans (Snap.le.trans (Snap.le.trans (Snap.le.trans (Snap.le.trans (Snap.le.trans (Snap.le.trans (Snap.le.trans (Snap.le.trans (Snap.le.trans le861 le871) le873) le876) le882) le892) le894) le897) le903) le913) le923) le925) le928) le934), hf⟩
              · replace hf := cond_t hb hf
                have hE := hE.know (t := 37) (b := r930) (b' := true) rfl hb
                clear hb
                refine takeT 19 (fuel := 5) #[true, true, true, true, true, true, true, true, true, true, true, true, true, true, true, true, true, true, true, true, false, false, false, false, false] (by kernel_rfl) (by kernel_rfl) (by kernel_rfl) (by kernel_rfl) (by kernel_rfl) hE (tk_load 0 (.agg (List.toArray (acells .u8 32 (x7)))) rfl rfl rfl rfl hE rfl hS rfl rfl (by kernel_rfl) List.not_mem_nil (fun a hE => ?_))
                obtain ⟨D935, le936, e937, hS⟩ := hS.freezeB
                have hS : Stp g w0 D0 [] w D935 [] := hS
                obtain ⟨l938, h939, hf⟩ := bind_some hf
                refine takeW 21 (fuel := 4) #[true, true, true, true, true, true, true, true, true, true, true, true, true, true, true, true, true, true, true, true, false, true, false, false, false] (by kernel_rfl) (by kernel_rfl) (by kernel_rfl) (by kernel_rfl) hE (fun M => g_sliceArr (kk := .u8) (e := 5) (v := x7) rfl rfl rfl rfl hE rfl rfl (by kernel_rfl) rfl rfl e937 rfl h939 (fun a A940 c941 hE h942 => ?_))
                obtain ⟨r943, h944, hf⟩ := bind_some hf
                refine onlyG (i := 20) (fuel := 3) (listed' := #[true, true, true, true, true, true, true, true, true, true, true, true, true, true, true, true, true, true, true, true, true, true, false, false, false]) (by kernel_rfl) (by kernel_rfl) (op_call rfl rfl rfl rfl hE rfl rfl rfl rfl (by kernel_rfl) (wire_Hash.calls (g := g) h944 (hS.st.fore (L := [])) ) (fun a v w hR hE => ?_))
                obtain ⟨D945, A947, c948, q949, rfl, hS1, h950⟩ := hR
                refine ⟨hS1.keeps.mono (fun _ h => h), ?_⟩
                have le952 := hS1.dle
                have hS : Stp g w0 D0 [] w D945 [q949] := hS.call (L := []) (R := []) hS1
                clear hS1
                obtain ⟨D953, le954, hS, h955⟩ := hS.frozen h950
                have hS : Stp g w0 D0 [] w D953 [] := hS
                obtain ⟨r956, h957, hf⟩ := bind_some hf
                refine onlyG (i := 22) (fuel := 2) (listed' := #[true, true, true, true, true, true, true, true, true, true, true, true, true, true, true, true, true, true, true, true, true, true, true, false, false]) (by kernel_rfl) (by kernel_rfl) (op_call rfl rfl rfl rfl hE rfl rfl rfl rfl (by kernel_rfl) (inspeximusref01_Bytes.calls (g := g) h957 (hS.st.fore (L := [])) h955 (h942.mono (Snap.le.trans le952 le954))) (fun a v w hR hE => ?_))
                obtain ⟨D958, rfl, hS1⟩ := hR
                refine ⟨hS1.keeps.mono (fun _ h => h), ?_⟩
                have le960 := hS1.dle
                have hS : Stp g w0 D0 [] w D958 [] := hS.call (L := []) (R := []) hS1
                clear hS1
                refine takeW 23 (fuel := 1) #[true, true, true, true, true, true, true, true, true, true, true, true, true, true, true, true, true, true, true, true, true, true, true, true, false] (by kernel_rfl) (by kernel_rfl) (by kernel_rfl) (by kernel_rfl) hE (fun M => tk_pure (.bool (r956)) hE rfl rfl rfl rfl (fun _ _ _ e => by cases e) (by kernel_rfl) (fun a hE => ?_))
                refine takeW 24 (fuel := 0) #[true, true, true, true, true, true, true, true, true, true, true, true, true, true, true, true, true, true, true, true, true, true, true, true, true] (by kernel_rfl) (by kernel_rfl) (by kernel_rfl) (by kernel_rfl) hE (fun M => tk_pure (.bool (r956)) hE rfl rfl rfl rfl (fun _ _ _ e => by cases e) (by kernel_rfl) (fun a hE => ?_))
                have hE := hE.weak (E' := [(0, .int .i64 (x1)), (1, .bool (x2)), (2, .slice A4 (List.length (x3)) c5), (8, .bool (r956)), (9, .slice A501 (List.length (y512)) 1)]) (by kernel_rfl)
                refine doneG (by kernel_rfl) ?_
                exact ⟨r956, D958, hE.weak (by kernel_rfl), hS, (Snap.le.trans (Snap.le.trans (Snap.le.trans (Snap.le.trans (Snap.le.trans (Snap.le.trans (Snap.le.trans (Snap.le.trans (Snap.le.trans (Snap.le.trans (Snap.le.trans (Snap.le.trans (Snap.le.trans (Snap.le.trans (Snap.le.trans (Snap.le.trans (Snap.le.trans le861 le871) le873) le876) le882) le892) le894) le897) le903) le913) le923) le925) le928) le934) le936) le952) le954) le960), hf⟩
        · clear hE hS
          rintro a w ⟨y738, D739, hE, hS, le740, hf⟩
          replace hf := hj742 _ hf
          clear hj742
          refine wpIn_ret ?_
          obtain rfl := Option.some.inj hf
          repeat (with_reducible first | refine then_ret ?_ | refine block_ret ?_ | refine qx_ret ?_)
          refine ret_gen ([.bool (y738)]) hE (by rw [show Try.f3.results.toList = [.tmp 8] from rfl]; exact ⟨_, _, rfl, rfl, rfl⟩) ?_
          exact ⟨_, rfl, D739, rfl, hS⟩

set_option maxRecDepth 100000 in
set_option maxHeartbeats 4000000 in
theorem inspeximuslaw03_WireBack.calls {K : Nat} {g w0 : World} {D0 : Snap} {x1 : Int} {x2 : Bool} {x3 : (List Int)} {x7 : (Vector Int 32)} {x8 : (List Int)} {A4 : Option Addr} {c5 : Nat} {A9 : Option Addr} {c10 : Nat} {r : (Bool)} (hf : inspeximuslaw03_WireBack.f K x1 x2 x3 x7 x8 = some r) (hS0 : St g w0 D0 []) (h6 : Sl (kdInt .u8) D0 A4 c5 (x3)) (h11 : Sl (kdInt .u8) D0 A9 c10 (x8)) :
    CallsIn (Fw none) 0 Try.prog 4 (List.toArray [.int .i64 (x1), .bool (x2), .slice A4 (List.length (x3)) c5, .agg (List.toArray (acells .u8 32 (x7))), .slice A9 (List.length (x8)) c10]) w0 (fun e w' => ∃ v, e = .returned v ∧ ∃ (D1 : Snap), v = .bool (r) ∧ Stp g w0 D0 [] w' D1 []) := by
  unfold inspeximuslaw03_WireBack.f at hf
  have hS := Stp.refl hS0
  clear hS0
  refine calls_body (n := 78) Try.func4 rfl Try.ntmps4 rfl (fun a hE => ?_)
  have hE : Env a 78 [] [(0, .int .i64 (x1)), (1, .bool (x2)), (2, .slice A4 (List.length (x3)) c5), (3, .agg (List.toArray (acells .u8 32 (x7)))), (4, .slice A9 (List.length (x8)) c10)] := hE
  refine wpIn_seq ?_
  refine region_at ?_
  refine at_op (op_box rfl rfl rfl rfl hE rfl hS rfl (fun a b423 w _ hE hS => ?_)) rfl
  have hS : Stp g w0 D0 [] w D0 [bx b423 24 (acells .u8 32 (x7))] := hS
  refine seg 1 (j := 2) [(0, .int .i64 (x1)), (1, .bool (x2)), (2, .slice A4 (List.length (x3)) c5), (3, .agg (List.toArray (acells .u8 32 (x7)))), (4, .slice A9 (List.length (x8)) c10), (8, .pointer (some ⟨b423, 0, none⟩)), (10, .bool false)] hE (by kernel_rfl) rfl (fun a hE => ?_)
  refine at_end rfl ?_
  refine wpIn_seq ?_
  refine wpIn_seq ?_
  refine region_at ?_
  obtain ⟨r430, h431, hf⟩ := bind_some hf
  refine at_op (op_call rfl rfl rfl rfl hE rfl rfl rfl rfl (by kernel_rfl) (inspeximuslaw03_alive.calls (g := g) h431 (hS.st.fore (L := [])) ) (fun a v w hR hE => ?_)) rfl
  obtain ⟨D432, rfl, hS1⟩ := hR
  have le434 := hS1.dle
  have hS : Stp g w0 D0 [] w D432 [bx b423 24 (acells .u8 32 (x7))] := hS.call (L := []) (R := [bx b423 24 (acells .u8 32 (x7))]) hS1
  clear hS1
  refine seg 1 (j := 2) [(0, .int .i64 (x1)), (1, .bool (x2)), (2, .slice A4 (List.length (x3)) c5), (3, .agg (List.toArray (acells .u8 32 (x7)))), (4, .slice A9 (List.length (x8)) c10), (8, .pointer (some ⟨b423, 0, none⟩)), (10, .bool false), (13, .bool ((!r430)))] hE (by kernel_rfl) rfl (fun a hE => ?_)
  refine at_end rfl ?_
  refine cond_split hE (b := (!r430)) rfl (fun hb => ?_) (fun hb => ?_)
  · replace hf := cond_t hb hf
    clear hb
    refine wpIn_seq ?_
    refine region_at ?_
    refine seg 1 (j := 1) [(0, .int .i64 (x1)), (1, .bool (x2)), (2, .slice A4 (List.length (x3)) c5), (3, .agg (List.toArray (acells .u8 32 (x7)))), (4, .slice A9 (List.length (x8)) c10), (8, .pointer (some ⟨b423, 0, none⟩)), (10, .bool false), (13, .bool ((!r430)))] hE (by kernel_rfl) rfl (fun a hE => ?_)
    refine at_end rfl ?_
    refine wpIn_ret ?_
    obtain rfl := Option.some.inj hf
    repeat (with_reducible first | refine then_ret ?_ | refine block_ret ?_ | refine qx_ret ?_)
    refine ret_gen ([.bool false]) hE (by rw [show Try.f4.results.toList = [.tmp 10] from rfl]; exact ⟨_, _, rfl, rfl, rfl⟩) ?_
    have hS : Stp g w0 D0 [] w D432 [] := hS.sel [] rfl (by decide)
    exact ⟨_, rfl, D432, rfl, hS⟩
  · replace hf := cond_f hb hf
    clear hb
    refine wpIn_skip ?_
    refine wpIn_seq ?_
    obtain ⟨j832, hj833, hf⟩ := jn_elim hf
    refine seq_join (fun a w => ∃ (y440 : Bool), ∃ (D441 : Snap), Env a 78 [] [(0, .int .i64 (x1)), (1, .bool (x2)), (2, .slice A4 (List.length (x3)) c5), (4, .slice A9 (List.length (x8)) c10), (8, .pointer (some ⟨b423, 0, none⟩)), (29, .bool (y440))] ∧ Stp g w0 D0 [] w D441 [bx b423 24 (acells .u8 32 (x7))] ∧ Snap.le D432 D441 ∧ j832 y440 = some r) ?_ ?_
    · clear hj833
      refine region_at ?_
      refine seg 4 (j := 4) [(0, .int .i64 (x1)), (1, .bool (x2)), (2, .slice A4 (List.length (x3)) c5), (3, .agg (List.toArray (acells .u8 32 (x7)))), (4, .slice A9 (List.length (x8)) c10), (8, .pointer (some ⟨b423, 0, none⟩)), (10, .bool false), (13, .bool ((!r430))), (17, .bool ((decide ((300 : Int) < ((List.length (x3) : Nat) : Int)))))] hE (by kernel_rfl) rfl (fun a hE => ?_)
      cases hb : (decide ((300 : Int) < ((List.length (x3) : Nat) : Int)))
      · replace hf := cond_f hb hf
        have hE := hE.know (t := 17) (b := (decide ((300 : Int) < ((List.length (x3) : Nat) : Int)))) (b' := false) rfl hb
        clear hb
        refine seg 5 (j := 9) [(0, .int .i64 (x1)), (1, .bool (x2)), (2, .slice A4 (List.length (x3)) c5), (3, .agg (List.toArray (acells .u8 32 (x7)))), (4, .slice A9 (List.length (x8)) c10), (8, .pointer (some ⟨b423, 0, none⟩)), (10, .bool false), (13, .bool ((!r430))), (22, .bool ((decide ((300 : Int) < ((List.length (x8) : Nat) : Int)))))] hE (by kernel_rfl) rfl (fun a hE => ?_)
        cases hb : (decide ((300 : Int) < ((List.length (x8) : Nat) : Int)))
        · replace hf := cond_f hb hf
          have hE := hE.know (t := 22) (b := (decide ((300 : Int) < ((List.length (x8) : Nat) : Int)))) (b' := false) rfl hb
          clear hb
          refine seg 4 (j := 13) [(0, .int .i64 (x1)), (1, .bool (x2)), (2, .slice A4 (List.length (x3)) c5), (3, .agg (List.toArray (acells .u8 32 (x7)))), (4, .slice A9 (List.length (x8)) c10), (8, .pointer (some ⟨b423, 0, none⟩)), (10, .bool false), (13, .bool ((!r430))), (26, .bool ((decide (x1 < (0 : Int)))))] hE (by kernel_rfl) rfl (fun a hE => ?_)
          cases hb : (decide (x1 < (0 : Int)))
          · replace hf := cond_f hb hf
            have hE := hE.know (t := 26) (b := (decide (x1 < (0 : Int)))) (b' := false) rfl hb
            clear hb
            refine seg 3 (j := 16) [(0, .int .i64 (x1)), (1, .bool (x2)), (2, .slice A4 (List.length (x3)) c5), (3, .agg (List.toArray (acells .u8 32 (x7)))), (4, .slice A9 (List.length (x8)) c10), (8, .pointer (some ⟨b423, 0, none⟩)), (10, .bool false), (13, .bool ((!r430))), (29, .bool ((decide ((2147483647 : Int) < x1))))] hE (by kernel_rfl) rfl (fun a hE => ?_)
            refine at_end rfl ?_
            exact ⟨(decide ((2147483647 : Int) < x1)), D432, hE.weak (by kernel_rfl), hS, Snap.le.refl _, hf⟩
          · replace hf := cond_t hb hf
            have hE := hE.know (t := 26) (b := (decide (x1 < (0 : Int)))) (b' := true) rfl hb
            clear hb
            refine seg 3 (j := 16) [(0, .int .i64 (x1)), (1, .bool (x2)), (2, .slice A4 (List.length (x3)) c5), (3, .agg (List.toArray (acells .u8 32 (x7)))), (4, .slice A9 (List.length (x8)) c10), (8, .pointer (some ⟨b423, 0, none⟩)), (10, .bool false), (13, .bool ((!r430))), (29, .bool true)] hE (by kernel_rfl) rfl (fun a hE => ?_)
            refine at_end rfl ?_
            exact ⟨true, D432, hE.weak (by kernel_rfl), hS, Snap.le.refl _, hf⟩
        · replace hf := cond_t hb hf
          have hE := hE.know (t := 22) (b := (decide ((300 : Int) < ((List.length (x8) : Nat) : Int)))) (b' := true) rfl hb
          clear hb
          refine seg 7 (j := 16) [(0, .int .i64 (x1)), (1, .bool (x2)), (2, .slice A4 (List.length (x3)) c5), (3, .agg (List.toArray (acells .u8 32 (x7)))), (4, .slice A9 (List.length (x8)) c10), (8, .pointer (some ⟨b423, 0, none⟩)), (10, .bool false), (13, .bool ((!r430))), (29, .bool true)] hE (by kernel_rfl) rfl (fun a hE => ?_)
          refine at_end rfl ?_
          exact ⟨true, D432, hE.weak (by kernel_rfl), hS, Snap.le.refl _, hf⟩
      · replace hf := cond_t hb hf
        have hE := hE.know (t := 17) (b := (decide ((300 : Int) < ((List.length (x3) : Nat) : Int)))) (b' := true) rfl hb
        clear hb
        refine seg 12 (j := 16) [(0, .int .i64 (x1)), (1, .bool (x2)), (2, .slice A4 (List.length (x3)) c5), (3, .agg (List.toArray (acells .u8 32 (x7)))), (4, .slice A9 (List.length (x8)) c10), (8, .pointer (some ⟨b423, 0, none⟩)), (10, .bool false), (13, .bool ((!r430))), (29, .bool true)] hE (by kernel_rfl) rfl (fun a hE => ?_)
        refine at_end rfl ?_
        exact ⟨true, D432, hE.weak (by kernel_rfl), hS, Snap.le.refl _, hf⟩
    · clear hE hS
      rintro a w ⟨y440, D441, hE, hS, le442, hf⟩
      replace hf := hj833 _ hf
      clear hj833
      refine cond_split hE (b := y440) rfl (fun hb => ?_) (fun hb => ?_)
      · replace hf := cond_t hb hf
        clear hb
        refine wpIn_seq ?_
        refine region_at ?_
        refine seg 1 (j := 1) [(0, .int .i64 (x1)), (1, .bool (x2)), (2, .slice A4 (List.length (x3)) c5), (4, .slice A9 (List.length (x8)) c10), (8, .pointer (some ⟨b423, 0, none⟩)), (10, .bool true), (29, .bool (y440))] hE (by kernel_rfl) rfl (fun a hE => ?_)
        refine at_end rfl ?_
        refine wpIn_ret ?_
        obtain rfl := Option.some.inj hf
        repeat (with_reducible first | refine then_ret ?_ | refine block_ret ?_ | refine qx_ret ?_)
        refine ret_gen ([.bool true]) hE (by rw [show Try.f4.results.toList = [.tmp 10] from rfl]; exact ⟨_, _, rfl, rfl, rfl⟩) ?_
        have hS : Stp g w0 D0 [] w D441 [] := hS.sel [] rfl (by decide)
        exact ⟨_, rfl, D441, rfl, hS⟩
      · replace hf := cond_f hb hf
        clear hb
        refine wpIn_skip ?_
        refine wpIn_seq ?_
        refine region_draw (mfOf []) (by kernel_rfl) ?_
        have hS := hS.drew
        generalize w.drew = w at hS ⊢
        refine takeW 0 (fuel := 12) #[true, false, false, false, false, false, false, false, false, false, false, false, false] (by kernel_rfl) (by kernel_rfl) (by kernel_rfl) (by kernel_rfl) hE (fun M => tk_pure (.int .i64 (x1)) hE rfl rfl rfl rfl (fun _ _ _ e => by cases e) (by kernel_rfl) (fun a hE => ?_))
        refine takeW 2 (fuel := 11) #[true, false, true, false, false, false, false, false, false, false, false, false, false] (by kernel_rfl) (by kernel_rfl) (by kernel_rfl) (by kernel_rfl) hE (fun M => tk_pure (.bool (x2)) hE rfl rfl rfl rfl (fun _ _ _ e => by cases e) (by kernel_rfl) (fun a hE => ?_))
        refine takeW 4 (fuel := 10) #[true, false, true, false, true, false, false, false, false, false, false, false, false] (by kernel_rfl) (by kernel_rfl) (by kernel_rfl) (by kernel_rfl) hE (fun M => tk_pure (.slice A4 (List.length (x3)) c5) hE rfl rfl rfl rfl (fun _ _ _ e => by cases e) (by kernel_rfl) (fun a hE => ?_))
        refine takeW 8 (fuel := 9) #[true, false, true, false, true, false, false, false, true, false, false, false, false] (by kernel_rfl) (by kernel_rfl) (by kernel_rfl) (by kernel_rfl) hE (fun M => tk_pure (.slice A9 (List.length (x8)) c10) hE rfl rfl rfl rfl (fun _ _ _ e => by cases e) (by kernel_rfl) (fun a hE => ?_))
        refine takeT 6 (fuel := 8) #[true, false, true, false, true, false, true, false, true, false, false, false, false] (by kernel_rfl) (by kernel_rfl) (by kernel_rfl) (by kernel_rfl) (by kernel_rfl) hE (tk_load 0 (.agg (List.toArray (acells .u8 32 (x7)))) rfl rfl rfl rfl hE rfl hS rfl rfl (by kernel_rfl) List.not_mem_nil (fun a hE => ?_))
        obtain ⟨r525, h526, hf⟩ := bind_some hf
        refine onlyG (i := 1) (fuel := 7) (listed' := #[true, true, true, false, true, false, true, false, true, false, false, false, false]) (by kernel_rfl) (by kernel_rfl) (op_call rfl rfl rfl rfl hE rfl rfl rfl rfl (by kernel_rfl) (wire_Num.calls (g := g) h526 (hS.st.fore (L := [])) ) (fun a v w hR hE => ?_))
        obtain ⟨D527, A529, c530, q531, rfl, hS1, h532⟩ := hR
        refine ⟨hS1.keeps.mono (fun _ h => h), ?_⟩
        have le534 := hS1.dle
        have hS : Stp g w0 D0 [] w D527 [q531, bx b423 24 (acells .u8 32 (x7))] := hS.call (L := []) (R := [bx b423 24 (acells .u8 32 (x7))]) hS1
        clear hS1
        obtain ⟨r535, h536, hf⟩ := bind_some hf
        refine onlyG (i := 3) (fuel := 6) (listed' := #[true, true, true, true, true, false, true, false, true, false, false, false, false]) (by kernel_rfl) (by kernel_rfl) (op_call rfl rfl rfl rfl hE rfl rfl rfl rfl (by kernel_rfl) (wire_Flag.calls (g := g) h536 (hS.st.fore (L := [])) ) (fun a v w hR hE => ?_))
        obtain ⟨D537, A539, c540, q541, rfl, hS1, h542⟩ := hR
        refine ⟨hS1.keeps.mono (fun _ h => h), ?_⟩
        have le544 := hS1.dle
        have hS : Stp g w0 D0 [] w D537 [q541, q531, bx b423 24 (acells .u8 32 (x7))] := hS.call (L := []) (R := [q531, bx b423 24 (acells .u8 32 (x7))]) hS1
        clear hS1
        obtain ⟨r545, h546, hf⟩ := bind_some hf
        refine onlyG (i := 5) (fuel := 5) (listed' := #[true, true, true, true, true, true, true, false, true, false, false, false, false]) (by kernel_rfl) (by kernel_rfl) (op_call rfl rfl rfl rfl hE rfl rfl rfl rfl (by kernel_rfl) (wire_Bytes.calls (g := g) h546 (hS.st.fore (L := [])) (h6.mono (Snap.le.trans (Snap.le.trans (Snap.le.trans le434 le442) le534) le544))) (fun a v w hR hE => ?_))
        obtain ⟨D547, A549, c550, q551, rfl, hS1, h552⟩ := hR
        refine ⟨hS1.keeps.mono (fun _ h => h), ?_⟩
        have le554 := hS1.dle
        have hS : Stp g w0 D0 [] w D547 [q551, q541, q531, bx b423 24 (acells .u8 32 (x7))] := hS.call (L := []) (R := [q541, q531, bx b423 24 (acells .u8 32 (x7))]) hS1
        clear hS1
        obtain ⟨r555, h556, hf⟩ := bind_some hf
        refine onlyG (i := 7) (fuel := 4) (listed' := #[true, true, true, true, true, true, true, true, true, false, false, false, false]) (by kernel_rfl) (by kernel_rfl) (op_call rfl rfl rfl rfl hE rfl rfl rfl rfl (by kernel_rfl) (wire_Hash.calls (g := g) h556 (hS.st.fore (L := [])) ) (fun a v w hR hE => ?_))
        obtain ⟨D557, A559, c560, q561, rfl, hS1, h562⟩ := hR
        refine ⟨hS1.keeps.mono (fun _ h => h), ?_⟩
        have le564 := hS1.dle
        have hS : Stp g w0 D0 [] w D557 [q561, q551, q541, q531, bx b423 24 (acells .u8 32 (x7))] := hS.call (L := []) (R := [q551, q541, q531, bx b423 24 (acells .u8 32 (x7))]) hS1
        clear hS1
        have hS : Stp g w0 D0 [] w D557 [q531, q561, q551, q541, bx b423 24 (acells .u8 32 (x7))] := hS.sel [3, 0, 1, 2, 4] rfl (by decide)
        obtain ⟨D565, le566, hS, h567⟩ := hS.frozen (h532.mono (Snap.le.trans (Snap.le.trans le544 le554) le564))
        have hS : Stp g w0 D0 [] w D565 [q561, q551, q541, bx b423 24 (acells .u8 32 (x7))] := hS
        have hS : Stp g w0 D0 [] w D565 [q541, q561, q551, bx b423 24 (acells .u8 32 (x7))] := hS.sel [2, 0, 1, 3] rfl (by decide)
        obtain ⟨D568, le569, hS, h570⟩ := hS.frozen (h542.mono (Snap.le.trans (Snap.le.trans le554 le564) le566))
        have hS : Stp g w0 D0 [] w D568 [q561, q551, bx b423 24 (acells .u8 32 (x7))] := hS
        have hS : Stp g w0 D0 [] w D568 [q551, q561, bx b423 24 (acells .u8 32 (x7))] := hS.sel [1, 0, 2] rfl (by decide)
        obtain ⟨D571, le572, hS, h573⟩ := hS.frozen (h552.mono (Snap.le.trans (Snap.le.trans le564 le566) le569))
        have hS : Stp g w0 D0 [] w D571 [q561, bx b423 24 (acells .u8 32 (x7))] := hS
        obtain ⟨D574, le575, hS, h576⟩ := hS.frozen (h562.mono (Snap.le.trans (Snap.le.trans le566 le569) le572))
        have hS : Stp g w0 D0 [] w D574 [bx b423 24 (acells .u8 32 (x7))] := hS
        refine onlyG (i := 9) (fuel := 3) (listed' := #[true, true, true, true, true, true, true, true, true, true, false, false, false]) (by kernel_rfl) (by kernel_rfl) (op_buildSlice (K := (kdSlice (kdInt .u8))) (e := 22) (cs := [.slice A529 (List.length (r525)) c530] ++ ([.slice A539 (List.length (r535)) c540] ++ ([.slice A549 (List.length (r545)) c550] ++ ([.slice A559 (List.length (r555)) c560] ++ ([.slice A9 (List.length (x8)) c10] ++ []))))) ([r525, r535, r545, r555, x8] : List (List Int)) rfl rfl rfl rfl hE rfl hS rfl (by kernel_rfl) rfl rfl (by exact (show RL (kdSlice (kdInt .u8)) D574 ([r525, r535, r545, r555, x8] : List (List Int)) ([.slice A529 (List.length (r525)) c530] ++ ([.slice A539 (List.length (r535)) c540] ++ ([.slice A549 (List.length (r545)) c550] ++ ([.slice A559 (List.length (r555)) c560] ++ ([.slice A9 (List.length (x8)) c10] ++ []))))) from ⟨_, _, rfl, (kslice (h567.mono (Snap.le.trans (Snap.le.trans le569 le572) le575))), ⟨_, _, rfl, (kslice (h570.mono (Snap.le.trans le572 le575))), ⟨_, _, rfl, (kslice (h573.mono le575)), ⟨_, _, rfl, (kslice h576), ⟨_, _, rfl, (kslice (h11.mono (Snap.le.trans (Snap.le.trans (Snap.le.trans (Snap.le.trans (Snap.le.trans (Snap.le.trans (Snap.le.trans (Snap.le.trans (Snap.le.trans le434 le442) le534) le544) le554) le564) le566) le569) le572) le575))), rfl⟩⟩⟩⟩⟩)) (fun a A577 q578 w hkp hE h579 hS => ⟨hkp.mono (fun _ h => absurd h List.not_mem_nil), ?_⟩))
        clear hkp
        have hS : Stp g w0 D0 [] w D574 [q578, bx b423 24 (acells .u8 32 (x7))] := hS
        obtain ⟨D581, le582, hS, h583⟩ := hS.frozen h579
        have hS : Stp g w0 D0 [] w D581 [bx b423 24 (acells .u8 32 (x7))] := hS
        obtain ⟨r584, h585, hf⟩ := bind_some hf
        refine onlyG (i := 10) (fuel := 2) (listed' := #[true, true, true, true, true, true, true, true, true, true, true, false, false]) (by kernel_rfl) (by kernel_rfl) (op_call rfl rfl rfl rfl hE rfl rfl rfl rfl (by kernel_rfl) (wire_All.calls (g := g) h585 (hS.st.fore (L := [])) h583) (fun a v w hR hE => ?_))
        obtain ⟨D586, A588, c589, q590, rfl, hS1, h591⟩ := hR
        refine ⟨hS1.keeps.mono (fun _ h => h), ?_⟩
        have le593 := hS1.dle
        have hS : Stp g w0 D0 [] w D586 [q590, bx b423 24 (acells .u8 32 (x7))] := hS.call (L := []) (R := [bx b423 24 (acells .u8 32 (x7))]) hS1
        clear hS1
        obtain ⟨D594, le595, hS, h596⟩ := hS.frozen h591
        have hS : Stp g w0 D0 [] w D594 [bx b423 24 (acells .u8 32 (x7))] := hS
        obtain ⟨r597, h598, hf⟩ := bind_some hf
        refine onlyG (i := 11) (fuel := 1) (listed' := #[true, true, true, true, true, true, true, true, true, true, true, true, false]) (by kernel_rfl) (by kernel_rfl) (op_call rfl rfl rfl rfl hE rfl rfl rfl rfl (by kernel_rfl) (wire_Read.calls (g := g) h598 (hS.st.fore (L := [])) h596) (fun a v w hR hE => ?_))
        obtain ⟨D599, b601, A603, c604, rfl, hS1, h605⟩ := hR
        refine ⟨hS1.keeps.mono (fun _ h => h), ?_⟩
        have le606 := hS1.dle
        have hS : Stp g w0 D0 [] w D599 [bx b601 49 ([.slice A603 (List.length (r597.fB)) c604] ++ ([.int .i64 (r597.fBad)])), bx b423 24 (acells .u8 32 (x7))] := hS.call (L := []) (R := [bx b423 24 (acells .u8 32 (x7))]) hS1
        clear hS1
        refine takeW 12 (fuel := 0) #[true, true, true, true, true, true, true, true, true, true, true, true, true] (by kernel_rfl) (by kernel_rfl) (by kernel_rfl) (by kernel_rfl) hE (fun M => tk_pure (.pointer (some ⟨b601, 0, none⟩)) hE rfl rfl rfl rfl (fun _ _ _ e => by cases e) (by kernel_rfl) (fun a hE => ?_))
        have hE := hE.weak (E' := [(0, .int .i64 (x1)), (1, .bool (x2)), (2, .slice A4 (List.length (x3)) c5), (4, .slice A9 (List.length (x8)) c10), (8, .pointer (some ⟨b423, 0, none⟩)), (11, .pointer (some ⟨b601, 0, none⟩)), (29, .bool (y440))]) (by kernel_rfl)
        refine doneG (by kernel_rfl) ?_
        obtain ⟨j720, hj721, hf⟩ := jn_elim hf
        refine seq_join (fun a w => ∃ (y717 : Bool), ∃ (D718 : Snap), Env a 78 [] [(10, .bool (y717))] ∧ Stp g w0 D0 [] w D718 [] ∧ Snap.le D599 D718 ∧ j720 y717 = some r) ?_ ?_
        · clear hj721
          refine region_draw (mfOf [(1, [b601]), (6, [b601]), (14, [b601]), (20, [b601]), (26, [b601]), (33, [b601])]) (by kernel_rfl) ?_
          have hS := hS.drew
          generalize w.drew = w at hS ⊢
          refine takeW 0 (fuel := 36) #[true, false, false, false, false, false, false, false, false, false, false, false, false, false, false, false, false, false, false, false, false, false, false, false, false, false, false, false, false, false, false, false, false, false, false, false, false] (by kernel_rfl) (by kernel_rfl) (by kernel_rfl) (by kernel_rfl) hE (fun M => tk_pure (.pointer (some ⟨b601, 0, none⟩)) hE rfl rfl rfl rfl (fun _ _ _ e => by cases e) (by kernel_rfl) (fun a hE => ?_))
          refine takeW 2 (fuel := 35) #[true, false, true, false, false, false, false, false, false, false, false, false, false, false, false, false, false, false, false, false, false, false, false, false, false, false, false, false, false, false, false, false, false, false, false, false, false] (by kernel_rfl) (by kernel_rfl) (by kernel_rfl) (by kernel_rfl) hE (fun M => tk_pure (.int .i64 (x1)) hE rfl rfl rfl rfl (fun _ _ _ e => by cases e) (by kernel_rfl) (fun a hE => ?_))
          obtain ⟨r777, h778, hf⟩ := bind_some hf
          refine onlyG (i := 1) (fuel := 34) (listed' := #[true, true, true, false, false, false, false, false, false, false, false, false, false, false, false, false, false, false, false, false, false, false, false, false, false, false, false, false, false, false, false, false, false, false, false, false, false]) (by kernel_rfl) (by kernel_rfl) (op_call rfl rfl rfl rfl hE rfl rfl rfl rfl (by kernel_rfl) (wire_Reader_Num.calls (g := g) h778 (hS.st.fore (L := [bx b601 49 ([.slice A603 (List.length (r597.fB)) c604] ++ ([.int .i64 (r597.fBad)]))])) h605) (fun a v w hR hE => ?_))
          obtain ⟨D779, A781, c782, rfl, hS1, h783⟩ := hR
          refine ⟨hS1.keeps.mono (fun _ h => h), ?_⟩
          have le784 := hS1.dle
          have hS : Stp g w0 D0 [] w D779 [bx b601 49 ([.slice A781 (List.length (r777.2.fB)) c782] ++ ([.int .i64 (r777.2.fBad)])), bx b423 24 (acells .u8 32 (x7))] := hS.call (L := [bx b601 49 ([.slice A603 (List.length (r597.fB)) c604] ++ ([.int .i64 (r597.fBad)]))]) (R := [bx b423 24 (acells .u8 32 (x7))]) hS1
          clear hS1
          refine takeW 3 (fuel := 33) #[true, true, true, true, false, false, false, false, false, false, false, false, false, false, false, false, false, false, false, false, false, false, false, false, false, false, false, false, false, false, false, false, false, false, false, false, false] (by kernel_rfl) (by kernel_rfl) (by kernel_rfl) (by kernel_rfl) hE (fun M => tk_pure (.bool ((decide (r777.1 = x1)))) hE rfl rfl rfl rfl (fun _ _ _ e => by cases e) (by kernel_rfl) (fun a hE => ?_))
          refine takeW 4 (fuel := 32) #[true, true, true, true, true, false, false, false, false, false, false, false, false, false, false, false, false, false, false, false, false, false, false, false, false, false, false, false, false, false, false, false, false, false, false, false, false] (by kernel_rfl) (by kernel_rfl) (by kernel_rfl) (by kernel_rfl) hE (fun M => tk_pure (.bool ((decide (r777.1 = x1)))) hE rfl rfl rfl rfl (fun _ _ _ e => by cases e) (by kernel_rfl) (fun a hE => ?_))
          cases hb : (decide (r777.1 = x1))
          · replace hf := cond_f hb hf
            have hE := hE.know (t := 46) (b := (decide (r777.1 = x1))) (b' := false) rfl hb
            clear hb
            refine takeW 5 (fuel := 31) #[true, true, true, true, true, true, false, false, false, false, false, false, false, false, false, false, false, false, false, false, false, false, false, false, false, false, false, false, false, false, false, false, false, false, false, false, false] (by kernel_rfl) (by kernel_rfl) (by kernel_rfl) (by kernel_rfl) hE (fun M => tk_skip hE rfl rfl rfl rfl (fun a hE => ?_))
            refine takeW 6 (fuel := 30) #[true, true, true, true, true, true, true, false, false, false, false, false, false, false, false, false, false, false, false, false, false, false, false, false, false, false, false, false, false, false, false, false, false, false, false, false, false] (by kernel_rfl) (by kernel_rfl) (by kernel_rfl) (by kernel_rfl) hE (fun M => tk_skip hE rfl rfl rfl rfl (fun a hE => ?_))
            refine takeW 7 (fuel := 29) #[true, true, true, true, true, true, true, true, false, false, false, false, false, false, false, false, false, false, false, false, false, false, false, false, false, false, false, false, false, false, false, false, false, false, false, false, false] (by kernel_rfl) (by kernel_rfl) (by kernel_rfl) (by kernel_rfl) hE (fun M => tk_skip hE rfl rfl rfl rfl (fun a hE => ?_))
            refine takeW 8 (fuel := 28) #[true, true, true, true, true, true, true, true, true, false, false, false, false, false, false, false, false, false, false, false, false, false, false, false, false, false, false, false, false, false, false, false, false, false, false, false, false] (by kernel_rfl) (by kernel_rfl) (by kernel_rfl) (by kernel_rfl) hE (fun M => tk_skip hE rfl rfl rfl rfl (fun a hE => ?_))
            refine takeW 9 (fuel := 27) #[true, true, true, true, true, true, true, true, true, true, false, false, false, false, false, false, false, false, false, false, false, false, false, false, false, false, false, false, false, false, false, false, false, false, false, false, false] (by kernel_rfl) (by kernel_rfl) (by kernel_rfl) (by kernel_rfl) hE (fun M => tk_pure (.bool false) hE rfl rfl rfl rfl (fun _ _ _ e => by cases e) (by kernel_rfl) (fun a hE => ?_))
            refine takeW 10 (fuel := 26) #[true, true, true, true, true, true, true, true, true, true, true, false, false, false, false, false, false, false, false, false, false, false, false, false, false, false, false, false, false, false, false, false, false, false, false, false, false] (by kernel_rfl) (by kernel_rfl) (by kernel_rfl) (by kernel_rfl) hE (fun M => tk_pure (.bool false) hE rfl rfl rfl rfl (fun _ _ _ e => by cases e) (by kernel_rfl) (fun a hE => ?_))
            refine takeW 11 (fuel := 25) #[true, true, true, true, true, true, true, true, true, true, true, true, false, false, false, false, false, false, false, false, false, false, false, false, false, false, false, false, false, false, false, false, false, false, false, false, false] (by kernel_rfl) (by kernel_rfl) (by kernel_rfl) (by kernel_rfl) hE (fun M => tk_skip hE rfl rfl rfl rfl (fun a hE => ?_))
            refine takeW 12 (fuel := 24) #[true, true, true, true, true, true, true, true, true, true, true, true, true, false, false, false, false, false, false, false, false, false, false, false, false, false, false, false, false, false, false, false, false, false, false, false, false] (by kernel_rfl) (by kernel_rfl) (by kernel_rfl) (by kernel_rfl) hE (fun M => tk_skip hE rfl rfl rfl rfl (fun a hE => ?_))
            refine takeW 13 (fuel := 23) #[true, true, true, true, true, true, true, true, true, true, true, true, true, true, false, false, false, false, false, false, false, false, false, false, false, false, false, false, false, false, false, false, false, false, false, false, false] (by kernel_rfl) (by kernel_rfl) (by kernel_rfl) (by kernel_rfl) hE (fun M => tk_skip hE rfl rfl rfl rfl (fun a hE => ?_))
            refine takeW 14 (fuel := 22) #[true, true, true, true, true, true, true, true, true, true, true, true, true, true, true, false, false, false, false, false, false, false, false, false, false, false, false, false, false, false, false, false, false, false, false, false, false] (by kernel_rfl) (by kernel_rfl) (by kernel_rfl) (by kernel_rfl) hE (fun M => tk_skip hE rfl rfl rfl rfl (fun a hE => ?_))
            refine takeW 15 (fuel := 21) #[true, true, true, true, true, true, true, true, true, true, true, true, true, true, true, true, false, false, false, false, false, false, false, false, false, false, false, false, false, false, false, false, false, false, false, false, false] (by kernel_rfl) (by kernel_rfl) (by kernel_rfl) (by kernel_rfl) hE (fun M => tk_skip hE rfl rfl rfl rfl (fun a hE => ?_))
            refine takeW 16 (fuel := 20) #[true, true, true, true, true, true, true, true, true, true, true, true, true, true, true, true, true, false, false, false, false, false, false, false, false, false, false, false, false, false, false, false, false, false, false, false, false] (by kernel_rfl) (by kernel_rfl) (by kernel_rfl) (by kernel_rfl) hE (fun M => tk_skip hE rfl rfl rfl rfl (fun a hE => ?_))
            refine takeW 17 (fuel := 19) #[true, true, true, true, true, true, true, true, true, true, true, true, true, true, true, true, true, true, false, false, false, false, false, false, false, false, false, false, false, false, false, false, false, false, false, false, false] (by kernel_rfl) (by kernel_rfl) (by kernel_rfl) (by kernel_rfl) hE (fun M => tk_pure (.bool false) hE rfl rfl rfl rfl (fun _ _ _ e => by cases e) (by kernel_rfl) (fun a hE => ?_))
            refine takeW 18 (fuel := 18) #[true, true, true, true, true, true, true, true, true, true, true, true, true, true, true, true, true, true, true, false, false, false, false, false, false, false, false, false, false, false, false, false, false, false, false, false, false] (by kernel_rfl) (by kernel_rfl) (by kernel_rfl) (by kernel_rfl) hE (fun M => tk_pure (.bool false) hE rfl rfl rfl rfl (fun _ _ _ e => by cases e) (by kernel_rfl) (fun a hE => ?_))
            refine takeW 19 (fuel := 17) #[true, true, true, true, true, true, true, true, true, true, true, true, true, true, true, true, true, true, true, true, false, false, false, false, false, false, false, false, false, false, false, false, false, false, false, false, false] (by kernel_rfl) (by kernel_rfl) (by kernel_rfl) (by kernel_rfl) hE (fun M => tk_skip hE rfl rfl rfl rfl (fun a hE => ?_))
            refine takeW 20 (fuel := 16) #[true, true, true, true, true, true, true, true, true, true, true, true, true, true, true, true, true, true, true, true, true, false, false, false, false, false, false, false, false, false, false, false, false, false, false, false, false] (by kernel_rfl) (by kernel_rfl) (by kernel_rfl) (by kernel_rfl) hE (fun M => tk_skip hE rfl rfl rfl rfl (fun a hE => ?_))
            refine takeW 21 (fuel := 15) #[true, true, true, true, true, true, true, true, true, true, true, true, true, true, true, true, true, true, true, true, true, true, false, false, false, false, false, false, false, false, false, false, false, false, false, false, false] (by kernel_rfl) (by kernel_rfl) (by kernel_rfl) (by kernel_rfl) hE (fun M => tk_skip hE rfl rfl rfl rfl (fun a hE => ?_))
            refine takeW 22 (fuel := 14) #[true, true, true, true, true, true, true, true, true, true, true, true, true, true, true, true, true, true, true, true, true, true, true, false, false, false, false, false, false, false, false, false, false, false, false, false, false] (by kernel_rfl) (by kernel_rfl) (by kernel_rfl) (by kernel_rfl) hE (fun M => tk_skip hE rfl rfl rfl rfl (fun a hE => ?_))
            refine takeW 23 (fuel := 13) #[true, true, true, true, true, true, true, true, true, true, true, true, true, true, true, true, true, true, true, true, true, true, true, true, false, false, false, false, false, false, false, false, false, false, false, false, false] (by kernel_rfl) (by kernel_rfl) (by kernel_rfl) (by kernel_rfl) hE (fun M => tk_pure (.bool false) hE rfl rfl rfl rfl (fun _ _ _ e => by cases e) (by kernel_rfl) (fun a hE => ?_))
            refine takeW 24 (fuel := 12) #[true, true, true, true, true, true, true, true, true, true, true, true, true, true, true, true, true, true, true, true, true, true, true, true, true, false, false, false, false, false, false, false, false, false, false, false, false] (by kernel_rfl) (by kernel_rfl) (by kernel_rfl) (by kernel_rfl) hE (fun M => tk_pure (.bool false) hE rfl rfl rfl rfl (fun _ _ _ e => by cases e) (by kernel_rfl) (fun a hE => ?_))
            refine takeW 25 (fuel := 11) #[true, true, true, true, true, true, true, true, true, true, true, true, true, true, true, true, true, true, true, true, true, true, true, true, true, true, false, false, false, false, false, false, false, false, false, false, false] (by kernel_rfl) (by kernel_rfl) (by kernel_rfl) (by kernel_rfl) hE (fun M => tk_skip hE rfl rfl rfl rfl (fun a hE => ?_))
            refine takeW 26 (fuel := 10) #[true, true, true, true, true, true, true, true, true, true, true, true, true, true, true, true, true, true, true, true, true, true, true, true, true, true, true, false, false, false, false, false, false, false, false, false, false] (by kernel_rfl) (by kernel_rfl) (by kernel_rfl) (by kernel_rfl) hE (fun M => tk_skip hE rfl rfl rfl rfl (fun a hE => ?_))
            refine takeW 27 (fuel := 9) #[true, true, true, true, true, true, true, true, true, true, true, true, true, true, true, true, true, true, true, true, true, true, true, true, true, true, true, true, false, false, false, false, false, false, false, false, false] (by kernel_rfl) (by kernel_rfl) (by kernel_rfl) (by kernel_rfl) hE (fun M => tk_skip hE rfl rfl rfl rfl (fun a hE => ?_))
            refine takeW 28 (fuel := 8) #[true, true, true, true, true, true, true, true, true, true, true, true, true, true, true, true, true, true, true, true, true, true, true, true, true, true, true, true, true, false, false, false, false, false, false, false, false] (by kernel_rfl) (by kernel_rfl) (by kernel_rfl) (by kernel_rfl) hE (fun M => tk_skip hE rfl rfl rfl rfl (fun a hE => ?_))
            refine takeW 29 (fuel := 7) #[true, true, true, true, true, true, true, true, true, true, true, true, true, true, true, true, true, true, true, true, true, true, true, true, true, true, true, true, true, true, false, false, false, false, false, false, false] (by kernel_rfl) (by kernel_rfl) (by kernel_rfl) (by kernel_rfl) hE (fun M => tk_skip hE rfl rfl rfl rfl (fun a hE => ?_))
            refine takeW 30 (fuel := 6) #[true, true, true, true, true, true, true, true, true, true, true, true, true, true, true, true, true, true, true, true, true, true, true, true, true, true, true, true, true, true, true, false, false, false, false, false, false] (by kernel_rfl) (by kernel_rfl) (by kernel_rfl) (by kernel_rfl) hE (fun M => tk_pure (.bool false) hE rfl rfl rfl rfl (fun _ _ _ e => by cases e) (by kernel_rfl) (fun a hE => ?_))
            refine takeW 31 (fuel := 5) #[true, true, true, true, true, true, true, true, true, true, true, true, true, true, true, true, true, true, true, true, true, true, true, true, true, true, true, true, true, true, true, true, false, false, false, false, false] (by kernel_rfl) (by kernel_rfl) (by kernel_rfl) (by kernel_rfl) hE (fun M => tk_pure (.bool false) hE rfl rfl rfl rfl (fun _ _ _ e => by cases e) (by kernel_rfl) (fun a hE => ?_))
            refine takeW 32 (fuel := 4) #[true, true, true, true, true, true, true, true, true, true, true, true, true, true, true, true, true, true, true, true, true, true, true, true, true, true, true, true, true, true, true, true, true, false, false, false, false] (by kernel_rfl) (by kernel_rfl) (by kernel_rfl) (by kernel_rfl) hE (fun M => tk_skip hE rfl rfl rfl rfl (fun a hE => ?_))
            refine takeW 33 (fuel := 3) #[true, true, true, true, true, true, true, true, true, true, true, true, true, true, true, true, true, true, true, true, true, true, true, true, true, true, true, true, true, true, true, true, true, true, false, false, false] (by kernel_rfl) (by kernel_rfl) (by kernel_rfl) (by kernel_rfl) hE (fun M => tk_skip hE rfl rfl rfl rfl (fun a hE => ?_))
            refine takeW 34 (fuel := 2) #[true, true, true, true, true, true, true, true, true, true, true, true, true, true, true, true, true, true, true, true, true, true, true, true, true, true, true, true, true, true, true, true, true, true, true, false, false] (by kernel_rfl) (by kernel_rfl) (by kernel_rfl) (by kernel_rfl) hE (fun M => tk_skip hE rfl rfl rfl rfl (fun a hE => ?_))
            refine takeW 35 (fuel := 1) #[true, true, true, true, true, true, true, true, true, true, true, true, true, true, true, true, true, true, true, true, true, true, true, true, true, true, true, true, true, true, true, true, true, true, true, true, false] (by kernel_rfl) (by kernel_rfl) (by kernel_rfl) (by kernel_rfl) hE (fun M => tk_pure (.bool false) hE rfl rfl rfl rfl (fun _ _ _ e => by cases e) (by kernel_rfl) (fun a hE => ?_))
            refine takeW 36 (fuel := 0) #[true, true, true, true, true, true, true, true, true, true, true, true, true, true, true, true, true, true, true, true, true, true, true, true, true, true, true, true, true, true, true, true, true, true, true, true, true] (by kernel_rfl) (by kernel_rfl) (by kernel_rfl) (by kernel_rfl) hE (fun M => tk_pure (.bool false) hE rfl rfl rfl rfl (fun _ _ _ e => by cases e) (by kernel_rfl) (fun a hE => ?_))
            have hE := hE.weak (E' := [(0, .int .i64 (x1)), (1, .bool (x2)), (2, .slice A4 (List.length (x3)) c5), (4, .slice A9 (List.length (x8)) c10), (8, .pointer (some ⟨b423, 0, none⟩)), (10, .bool false), (11, .pointer (some ⟨b601, 0, none⟩)), (29, .bool (y440))]) (by kernel_rfl)
            refine doneG (by kernel_rfl) ?_
            have hS : Stp g w0 D0 [] w D779 [] := hS.sel [] rfl (by decide)
            exact ⟨false, D779, hE.weak (by kernel_rfl), hS, le784, hf⟩
          · replace hf := cond_t hb hf
            have hE := hE.know (t := 46) (b := (decide (r777.1 = x1))) (b' := true) rfl hb
            clear hb
            refine takeW 5 (fuel := 31) #[true, true, true, true, true, true, false, false, false, false, false, false, false, false, false, false, false, false, false, false, false, false, false, false, false, false, false, false, false, false, false, false, false, false, false, false, false] (by kernel_rfl) (by kernel_rfl) (by kernel_rfl) (by kernel_rfl) hE (fun M => tk_pure (.pointer (some ⟨b601, 0, none⟩)) hE rfl rfl rfl rfl (fun _ _ _ e => by cases e) (by kernel_rfl) (fun a hE => ?_))
            refine takeW 7 (fuel := 30) #[true, true, true, true, true, true, false, true, false, false, false, false, false, false, false, false, false, false, false, false, false, false, false, false, false, false, false, false, false, false, false, false, false, false, false, false, false] (by kernel_rfl) (by kernel_rfl) (by kernel_rfl) (by kernel_rfl) hE (fun M => tk_pure (.bool (x2)) hE rfl rfl rfl rfl (fun _ _ _ e => by cases e) (by kernel_rfl) (fun a hE => ?_))
            obtain ⟨r785, h786, hf⟩ := bind_some hf
            refine onlyG (i := 6) (fuel := 29) (listed' := #[true, true, true, true, true, true, true, true, false, false, false, false, false, false, false, false, false, false, false, false, false, false, false, false, false, false, false, false, false, false, false, false, false, false, false, false, false]) (by kernel_rfl) (by kernel_rfl) (op_call rfl rfl rfl rfl hE rfl rfl rfl rfl (by kernel_rfl) (wire_Reader_Flag.calls (g := g) h786 (hS.st.fore (L := [bx b601 49 ([.slice A781 (List.length (r777.2.fB)) c782] ++ ([.int .i64 (r777.2.fBad)]))])) h783) (fun a v w hR hE => ?_))
            obtain ⟨D787, A789, c790, rfl, hS1, h791⟩ := hR
            refine ⟨hS1.keeps.mono (fun _ h => h), ?_⟩
            have le792 := hS1.dle
            have hS : Stp g w0 D0 [] w D787 [bx b601 49 ([.slice A789 (List.length (r785.2.fB)) c790] ++ ([.int .i64 (r785.2.fBad)])), bx b423 24 (acells .u8 32 (x7))] := hS.call (L := [bx b601 49 ([.slice A781 (List.length (r777.2.fB)) c782] ++ ([.int .i64 (r777.2.fBad)]))]) (R := [bx b423 24 (acells .u8 32 (x7))]) hS1
            clear hS1
            refine takeW 8 (fuel := 28) #[true, true, true, true, true, true, true, true, true, false, false, false, false, false, false, false, false, false, false, false, false, false, false, false, false, false, false, false, false, false, false, false, false, false, false, false, false] (by kernel_rfl) (by kernel_rfl) (by kernel_rfl) (by kernel_rfl) hE (fun M => tk_bin (r := .bool ((r785.1 == x2))) rfl rfl rfl rfl hE rfl rfl rfl (eqb_run (by kernel_rfl) _ _) (fun a hE => ?_))
            refine takeW 9 (fuel := 27) #[true, true, true, true, true, true, true, true, true, true, false, false, false, false, false, false, false, false, false, false, false, false, false, false, false, false, false, false, false, false, false, false, false, false, false, false, false] (by kernel_rfl) (by kernel_rfl) (by kernel_rfl) (by kernel_rfl) hE (fun M => tk_pure (.bool ((r785.1 == x2))) hE rfl rfl rfl rfl (fun _ _ _ e => by cases e) (by kernel_rfl) (fun a hE => ?_))
            refine takeW 10 (fuel := 26) #[true, true, true, true, true, true, true, true, true, true, true, false, false, false, false, false, false, false, false, false, false, false, false, false, false, false, false, false, false, false, false, false, false, false, false, false, false] (by kernel_rfl) (by kernel_rfl) (by kernel_rfl) (by kernel_rfl) hE (fun M => tk_pure (.bool ((r785.1 == x2))) hE rfl rfl rfl rfl (fun _ _ _ e => by cases e) (by kernel_rfl) (fun a hE => ?_))
            cases hb : (r785.1 == x2)
            · replace hf := cond_f hb hf
              have hE := hE.know (t := 52) (b := (r785.1 == x2)) (b' := false) rfl hb
              clear hb
              refine takeW 11 (fuel := 25) #[true, true, true, true, true, true, true, true, true, true, true, true, false, false, false, false, false, false, false, false, false, false, false, false, false, false, false, false, false, false, false, false, false, false, false, false, false] (by kernel_rfl) (by kernel_rfl) (by kernel_rfl) (by kernel_rfl) hE (fun M => tk_skip hE rfl rfl rfl rfl (fun a hE => ?_))
              refine takeW 12 (fuel := 24) #[true, true, true, true, true, true, true, true, true, true, true, true, true, false, false, false, false, false, false, false, false, false, false, false, false, false, false, false, false, false, false, false, false, false, false, false, false] (by kernel_rfl) (by kernel_rfl) (by kernel_rfl) (by kernel_rfl) hE (fun M => tk_skip hE rfl rfl rfl rfl (fun a hE => ?_))
              refine takeW 13 (fuel := 23) #[true, true, true, true, true, true, true, true, true, true, true, true, true, true, false, false, false, false, false, false, false, false, false, false, false, false, false, false, false, false, false, false, false, false, false, false, false] (by kernel_rfl) (by kernel_rfl) (by kernel_rfl) (by kernel_rfl) hE (fun M => tk_skip hE rfl rfl rfl rfl (fun a hE => ?_))
              refine takeW 14 (fuel := 22) #[true, true, true, true, true, true, true, true, true, true, true, true, true, true, true, false, false, false, false, false, false, false, false, false, false, false, false, false, false, false, false, false, false, false, false, false, false] (by kernel_rfl) (by kernel_rfl) (by kernel_rfl) (by kernel_rfl) hE (fun M => tk_skip hE rfl rfl rfl rfl (fun a hE => ?_))
              refine takeW 15 (fuel := 21) #[true, true, true, true, true, true, true, true, true, true, true, true, true, true, true, true, false, false, false, false, false, false, false, false, false, false, false, false, false, false, false, false, false, false, false, false, false] (by kernel_rfl) (by kernel_rfl) (by kernel_rfl) (by kernel_rfl) hE (fun M => tk_skip hE rfl rfl rfl rfl (fun a hE => ?_))
              refine takeW 16 (fuel := 20) #[true, true, true, true, true, true, true, true, true, true, true, true, true, true, true, true, true, false, false, false, false, false, false, false, false, false, false, false, false, false, false, false, false, false, false, false, false] (by kernel_rfl) (by kernel_rfl) (by kernel_rfl) (by kernel_rfl) hE (fun M => tk_skip hE rfl rfl rfl rfl (fun a hE => ?_))
              refine takeW 17 (fuel := 19) #[true, true, true, true, true, true, true, true, true, true, true, true, true, true, true, true, true, true, false, false, false, false, false, false, false, false, false, false, false, false, false, false, false, false, false, false, false] (by kernel_rfl) (by kernel_rfl) (by kernel_rfl) (by kernel_rfl) hE (fun M => tk_pure (.bool false) hE rfl rfl rfl rfl (fun _ _ _ e => by cases e) (by kernel_rfl) (fun a hE => ?_))
              refine takeW 18 (fuel := 18) #[true, true, true, true, true, true, true, true, true, true, true, true, true, true, true, true, true, true, true, false, false, false, false, false, false, false, false, false, false, false, false, false, false, false, false, false, false] (by kernel_rfl) (by kernel_rfl) (by kernel_rfl) (by kernel_rfl) hE (fun M => tk_pure (.bool false) hE rfl rfl rfl rfl (fun _ _ _ e => by cases e) (by kernel_rfl) (fun a hE => ?_))
              refine takeW 19 (fuel := 17) #[true, true, true, true, true, true, true, true, true, true, true, true, true, true, true, true, true, true, true, true, false, false, false, false, false, false, false, false, false, false, false, false, false, false, false, false, false] (by kernel_rfl) (by kernel_rfl) (by kernel_rfl) (by kernel_rfl) hE (fun M => tk_skip hE rfl rfl rfl rfl (fun a hE => ?_))
              refine takeW 20 (fuel := 16) #[true, true, true, true, true, true, true, true, true, true, true, true, true, true, true, true, true, true, true, true, true, false, false, false, false, false, false, false, false, false, false, false, false, false, false, false, false] (by kernel_rfl) (by kernel_rfl) (by kernel_rfl) (by kernel_rfl) hE (fun M => tk_skip hE rfl rfl rfl rfl (fun a hE => ?_))
              refine takeW 21 (fuel := 15) #[true, true, true, true, true, true, true, true, true, true, true, true, true, true, true, true, true, true, true, true, true, true, false, false, false, false, false, false, false, false, false, false, false, false, false, false, false] (by kernel_rfl) (by kernel_rfl) (by kernel_rfl) (by kernel_rfl) hE (fun M => tk_skip hE rfl rfl rfl rfl (fun a hE => ?_))
              refine takeW 22 (fuel := 14) #[true, true, true, true, true, true, true, true, true, true, true, true, true, true, true, true, true, true, true, true, true, true, true, false, false, false, false, false, false, false, false, false, false, false, false, false, false] (by kernel_rfl) (by kernel_rfl) (by kernel_rfl) (by kernel_rfl) hE (fun M => tk_skip hE rfl rfl rfl rfl (fun a hE => ?_))
              refine takeW 23 (fuel := 13) #[true, true, true, true, true, true, true, true, true, true, true, true, true, true, true, true, true, true, true, true, true, true, true, true, false, false, false, false, false, false, false, false, false, false, false, false, false] (by kernel_rfl) (by kernel_rfl) (by kernel_rfl) (by kernel_rfl) hE (fun M => tk_pure (.bool false) hE rfl rfl rfl rfl (fun _ _ _ e => by cases e) (by kernel_rfl) (fun a hE => ?_))
              refine takeW 24 (fuel := 12) #[true, true, true, true, true, true, true, true, true, true, true, true, true, true, true, true, true, true, true, true, true, true, true, true, true, false, false, false, false, false, false, false, false, false, false, false, false] (by kernel_rfl) (by kernel_rfl) (by kernel_rfl) (by kernel_rfl) hE (fun M => tk_pure (.bool false) hE rfl rfl rfl rfl (fun _ _ _ e => by cases e) (by kernel_rfl) (fun a hE => ?_))
              refine takeW 25 (fuel := 11) #[true, true, true, true, true, true, true, true, true, true, true, true, true, true, true, true, true, true, true, true, true, true, true, true, true, true, false, false, false, false, false, false, false, false, false, false, false] (by kernel_rfl) (by kernel_rfl) (by kernel_rfl) (by kernel_rfl) hE (fun M => tk_skip hE rfl rfl rfl rfl (fun a hE => ?_))
              refine takeW 26 (fuel := 10) #[true, true, true, true, true, true, true, true, true, true, true, true, true, true, true, true, true, true, true, true, true, true, true, true, true, true, true, false, false, false, false, false, false, false, false, false, false] (by kernel_rfl) (by kernel_rfl) (by kernel_rfl) (by kernel_rfl) hE (fun M => tk_skip hE rfl rfl rfl rfl (fun a hE => ?_))
              refine takeW 27 (fuel := 9) #[true, true, true, true, true, true, true, true, true, true, true, true, true, true, true, true, true, true, true, true, true, true, true, true, true, true, true, true, false, false, false, false, false, false, false, false, false] (by kernel_rfl) (by kernel_rfl) (by kernel_rfl) (by kernel_rfl) hE (fun M => tk_skip hE rfl rfl rfl rfl (fun a hE => ?_))
              refine takeW 28 (fuel := 8) #[true, true, true, true, true, true, true, true, true, true, true, true, true, true, true, true, true, true, true, true, true, true, true, true, true, true, true, true, true, false, false, false, false, false, false, false, false] (by kernel_rfl) (by kernel_rfl) (by kernel_rfl) (by kernel_rfl) hE (fun M => tk_skip hE rfl rfl rfl rfl (fun a hE => ?_))
              refine takeW 29 (fuel := 7) #[true, true, true, true, true, true, true, true, true, true, true, true, true, true, true, true, true, true, true, true, true, true, true, true, true, true, true, true, true, true, false, false, false, false, false, false, false] (by kernel_rfl) (by kernel_rfl) (by kernel_rfl) (by kernel_rfl) hE (fun M => tk_skip hE rfl rfl rfl rfl (fun a hE => ?_))
              refine takeW 30 (fuel := 6) #[true, true, true, true, true, true, true, true, true, true, true, true, true, true, true, true, true, true, true, true, true, true, true, true, true, true, true, true, true, true, true, false, false, false, false, false, false] (by kernel_rfl) (by kernel_rfl) (by kernel_rfl) (by kernel_rfl) hE (fun M => tk_pure (.bool false) hE rfl rfl rfl rfl (fun _ _ _ e => by cases e) (by kernel_rfl) (fun a hE => ?_))
              refine takeW 31 (fuel := 5) #[true, true, true, true, true, true, true, true, true, true, true, true, true, true, true, true, true, true, true, true, true, true, true, true, true, true, true, true, true, true, true, true, false, false, false, false, false] (by kernel_rfl) (by kernel_rfl) (by kernel_rfl) (by kernel_rfl) hE (fun M => tk_pure (.bool false) hE rfl rfl rfl rfl (fun _ _ _ e => by cases e) (by kernel_rfl) (fun a hE => ?_))
              refine takeW 32 (fuel := 4) #[true, true, true, true, true, true, true, true, true, true, true, true, true, true, true, true, true, true, true, true, true, true, true, true, true, true, true, true, true, true, true, true, true, false, false, false, false] (by kernel_rfl) (by kernel_rfl) (by kernel_rfl) (by kernel_rfl) hE (fun M => tk_skip hE rfl rfl rfl rfl (fun a hE => ?_))
              refine takeW 33 (fuel := 3) #[true, true, true, true, true, true, true, true, true, true, true, true, true, true, true, true, true, true, true, true, true, true, true, true, true, true, true, true, true, true, true, true, true, true, false, false, false] (by kernel_rfl) (by kernel_rfl) (by kernel_rfl) (by kernel_rfl) hE (fun M => tk_skip hE rfl rfl rfl rfl (fun a hE => ?_))
              refine takeW 34 (fuel := 2) #[true, true, true, true, true, true, true, true, true, true, true, true, true, true, true, true, true, true, true, true, true, true, true, true, true, true, true, true, true, true, true, true, true, true, true, false, false] (by kernel_rfl) (by kernel_rfl) (by kernel_rfl) (by kernel_rfl) hE (fun M => tk_skip hE rfl rfl rfl rfl (fun a hE => ?_))
              refine takeW 35 (fuel := 1) #[true, true, true, true, true, true, true, true, true, true, true, true, true, true, true, true, true, true, true, true, true, true, true, true, true, true, true, true, true, true, true, true, true, true, true, true, false] (by kernel_rfl) (by kernel_rfl) (by kernel_rfl) (by kernel_rfl) hE (fun M => tk_pure (.bool false) hE rfl rfl rfl rfl (fun _ _ _ e => by cases e) (by kernel_rfl) (fun a hE => ?_))
              refine takeW 36 (fuel := 0) #[true, true, true, true, true, true, true, true, true, true, true, true, true, true, true, true, true, true, true, true, true, true, true, true, true, true, true, true, true, true, true, true, true, true, true, true, true] (by kernel_rfl) (by kernel_rfl) (by kernel_rfl) (by kernel_rfl) hE (fun M => tk_pure (.bool false) hE rfl rfl rfl rfl (fun _ _ _ e => by cases e) (by kernel_rfl) (fun a hE => ?_))
              have hE := hE.weak (E' := [(0, .int .i64 (x1)), (1, .bool (x2)), (2, .slice A4 (List.length (x3)) c5), (4, .slice A9 (List.length (x8)) c10), (8, .pointer (some ⟨b423, 0, none⟩)), (10, .bool false), (11, .pointer (some ⟨b601, 0, none⟩)), (29, .bool (y440))]) (by kernel_rfl)
              refine doneG (by kernel_rfl) ?_
              have hS : Stp g w0 D0 [] w D787 [] := hS.sel [] rfl (by decide)
              exact ⟨false, D787, hE.weak (by kernel_rfl), hS, (Snap.le.trans le784 le792), hf⟩
            · replace hf := cond_t hb hf
              have hE := hE.know (t := 52) (b := (r785.1 == x2)) (b' := true) rfl hb
              clear hb
              refine takeW 11 (fuel := 25) #[true, true, true, true, true, true, true, true, true, true, true, true, false, false, false, false, false, false, false, false, false, false, false, false, false, false, false, false, false, false, false, false, false, false, false, false, false] (by kernel_rfl) (by kernel_rfl) (by kernel_rfl) (by kernel_rfl) hE (fun M => tk_pure (.pointer (some ⟨b601, 0, none⟩)) hE rfl rfl rfl rfl (fun _ _ _ e => by cases e) (by kernel_rfl) (fun a hE => ?_))
              refine takeW 12 (fuel := 24) #[true, true, true, true, true, true, true, true, true, true, true, true, true, false, false, false, false, false, false, false, false, false, false, false, false, false, false, false, false, false, false, false, false, false, false, false, false] (by kernel_rfl) (by kernel_rfl) (by kernel_rfl) (by kernel_rfl) hE (fun M => tk_pure (.slice A4 (List.length (x3)) c5) hE rfl rfl rfl rfl (fun _ _ _ e => by cases e) (by kernel_rfl) (fun a hE => ?_))
              refine takeW 13 (fuel := 23) #[true, true, true, true, true, true, true, true, true, true, true, true, true, true, false, false, false, false, false, false, false, false, false, false, false, false, false, false, false, false, false, false, false, false, false, false, false] (by kernel_rfl) (by kernel_rfl) (by kernel_rfl) (by kernel_rfl) hE (fun M => tk_pure (.int .i64 (((List.length (x3) : Nat) : Int))) hE rfl rfl rfl rfl (fun _ _ _ e => by cases e) (by kernel_rfl) (fun a hE => ?_))
              refine takeW 15 (fuel := 22) #[true, true, true, true, true, true, true, true, true, true, true, true, true, true, false, true, false, false, false, false, false, false, false, false, false, false, false, false, false, false, false, false, false, false, false, false, false] (by kernel_rfl) (by kernel_rfl) (by kernel_rfl) (by kernel_rfl) hE (fun M => tk_pure (.slice A4 (List.length (x3)) c5) hE rfl rfl rfl rfl (fun _ _ _ e => by cases e) (by kernel_rfl) (fun a hE => ?_))
              obtain ⟨r793, h794, hf⟩ := bind_some hf
              refine onlyG (i := 14) (fuel := 21) (listed' := #[true, true, true, true, true, true, true, true, true, true, true, true, true, true, true, true, false, false, false, false, false, false, false, false, false, false, false, false, false, false, false, false, false, false, false, false, false]) (by kernel_rfl) (by kernel_rfl) (op_call rfl rfl rfl rfl hE rfl rfl rfl rfl (by kernel_rfl) (wire_Reader_Bytes.calls (g := g) h794 (hS.st.fore (L := [bx b601 49 ([.slice A789 (List.length (r785.2.fB)) c790] ++ ([.int .i64 (r785.2.fBad)]))])) h791) (fun a v w hR hE => ?_))
              obtain ⟨D795, A797, c798, q799, A802, c803, rfl, hS1, h800, h804⟩ := hR
              refine ⟨hS1.keeps.mono (fun _ h => h), ?_⟩
              have le805 := hS1.dle
              have hS : Stp g w0 D0 [] w D795 [bx b601 49 ([.slice A802 (List.length (r793.2.fB)) c803] ++ ([.int .i64 (r793.2.fBad)])), q799, bx b423 24 (acells .u8 32 (x7))] := hS.call (L := [bx b601 49 ([.slice A789 (List.length (r785.2.fB)) c790] ++ ([.int .i64 (r785.2.fBad)]))]) (R := [bx b423 24 (acells .u8 32 (x7))]) hS1
              clear hS1
              have hS : Stp g w0 D0 [] w D795 [q799, bx b601 49 ([.slice A802 (List.length (r793.2.fB)) c803] ++ ([.int .i64 (r793.2.fBad)])), bx b423 24 (acells .u8 32 (x7))] := hS.sel [1, 0, 2] rfl (by decide)
              obtain ⟨D806, le807, hS, h808⟩ := hS.frozen h800
              have hS : Stp g w0 D0 [] w D806 [bx b601 49 ([.slice A802 (List.length (r793.2.fB)) c803] ++ ([.int .i64 (r793.2.fBad)])), bx b423 24 (acells .u8 32 (x7))] := hS
              obtain ⟨r809, h810, hf⟩ := bind_some hf
              refine onlyG (i := 16) (fuel := 20) (listed' := #[true, true, true, true, true, true, true, true, true, true, true, true, true, true, true, true, true, false, false, false, false, false, false, false, false, false, false, false, false, false, false, false, false, false, false, false, false]) (by kernel_rfl) (by kernel_rfl) (op_call rfl rfl rfl rfl hE rfl rfl rfl rfl (by kernel_rfl) (inspeximusref01_Bytes.calls (g := g) h810 (hS.st.fore (L := [])) h808 (h6.mono (Snap.le.trans (Snap.le.trans (Snap.le.trans (Snap.le.trans (Snap.le.trans (Snap.le.trans (Snap.le.trans (Snap.le.trans (Snap.le.trans (Snap.le.trans (Snap.le.trans (Snap.le.trans (Snap.le.trans (Snap.le.trans (Snap.le.trans (Snap.le.trans (Snap.le.trans le434 le442) le534) le544) le554) le564) le566) le569) le572) le575) le582) le593) le595) le606) le784) le792) le805) le807))) (fun a v w hR hE => ?_))
              obtain ⟨D811, rfl, hS1⟩ := hR
              refine ⟨hS1.keeps.mono (fun _ h => h), ?_⟩
              have le813 := hS1.dle
              have hS : Stp g w0 D0 [] w D811 [bx b601 49 ([.slice A802 (List.length (r793.2.fB)) c803] ++ ([.int .i64 (r793.2.fBad)])), bx b423 24 (acells .u8 32 (x7))] := hS.call (L := []) (R := [bx b601 49 ([.slice A802 (List.length (r793.2.fB)) c803] ++ ([.int .i64 (r793.2.fBad)])), bx b423 24 (acells .u8 32 (x7))]) hS1
              clear hS1
              refine takeW 17 (fuel := 19) #[true, true, true, true, true, true, true, true, true, true, true, true, true, true, true, true, true, true, false, false, false, false, false, false, false, false, false, false, false, false, false, false, false, false, false, false, false] (by kernel_rfl) (by kernel_rfl) (by kernel_rfl) (by kernel_rfl) hE (fun M => tk_pure (.bool (r809)) hE rfl rfl rfl rfl (fun _ _ _ e => by cases e) (by kernel_rfl) (fun a hE => ?_))
              refine takeW 18 (fuel := 18) #[true, true, true, true, true, true, true, true, true, true, true, true, true, true, true, true, true, true, true, false, false, false, false, false, false, false, false, false, false, false, false, false, false, false, false, false, false] (by kernel_rfl) (by kernel_rfl) (by kernel_rfl) (by kernel_rfl) hE (fun M => tk_pure (.bool (r809)) hE rfl rfl rfl rfl (fun _ _ _ e => by cases e) (by kernel_rfl) (fun a hE => ?_))
              cases hb : r809
              · replace hf := cond_f hb hf
                have hE := hE.know (t := 60) (b := r809) (b' := false) rfl hb
                clear hb
                refine takeW 19 (fuel := 17) #[true, true, true, true, true, true, true, true, true, true, true, true, true, true, true, true, true, true, true, true, false, false, false, false, false, false, false, false, false, false, false, false, false, false, false, false, false] (by kernel_rfl) (by kernel_rfl) (by kernel_rfl) (by kernel_rfl) hE (fun M => tk_skip hE rfl rfl rfl rfl (fun a hE => ?_))
                refine takeW 20 (fuel := 16) #[true, true, true, true, true, true, true, true, true, true, true, true, true, true, true, true, true, true, true, true, true, false, false, false, false, false, false, false, false, false, false, false, false, false, false, false, false] (by kernel_rfl) (by kernel_rfl) (by kernel_rfl) (by kernel_rfl) hE (fun M => tk_skip hE rfl rfl rfl rfl (fun a hE => ?_))
                refine takeW 21 (fuel := 15) #[true, true, true, true, true, true, true, true, true, true, true, true, true, true, true, true, true, true, true, true, true, true, false, false, false, false, false, false, false, false, false, false, false, false, false, false, false] (by kernel_rfl) (by kernel_rfl) (by kernel_rfl) (by kernel_rfl) hE (fun M => tk_skip hE rfl rfl rfl rfl (fun a hE => ?_))
                refine takeW 22 (fuel := 14) #[true, true, true, true, true, true, true, true, true, true, true, true, true, true, true, true, true, true, true, true, true, true, true, false, false, false, false, false, false, false, false, false, false, false, false, false, false] (by kernel_rfl) (by kernel_rfl) (by kernel_rfl) (by kernel_rfl) hE (fun M => tk_skip hE rfl rfl rfl rfl (fun a hE => ?_))
                refine takeW 23 (fuel := 13) #[true, true, true, true, true, true, true, true, true, true, true, true, true, true, true, true, true, true, true, true, true, true, true, true, false, false, false, false, false, false, false, false, false, false, false, false, false] (by kernel_rfl) (by kernel_rfl) (by kernel_rfl) (by kernel_rfl) hE (fun M => tk_pure (.bool false) hE rfl rfl rfl rfl (fun _ _ _ e => by cases e) (by kernel_rfl) (fun a hE => ?_))
                refine takeW 24 (fuel := 12) #[true, true, true, true, true, true, true, true, true, true, true, true, true, true, true, true, true, true, true, true, true, true, true, true, true, false, false, false, false, false, false, false, false, false, false, false, false] (by kernel_rfl) (by kernel_rfl) (by kernel_rfl) (by kernel_rfl) hE (fun M => tk_pure (.bool false) hE rfl rfl rfl rfl (fun _ _ _ e => by cases e) (by kernel_rfl) (fun a hE => ?_))
                refine takeW 25 (fuel := 11) #[true, true, true, true, true, true, true, true, true, true, true, true, true, true, true, true, true, true, true, true, true, true, true, true, true, true, false, false, false, false, false, false, false, false, false, false, false] (by kernel_rfl) (by kernel_rfl) (by kernel_rfl) (by kernel_rfl) hE (fun M => tk_skip hE rfl rfl rfl rfl (fun a hE => ?_))
                refine takeW 26 (fuel := 10) #[true, true, true, true, true, true, true, true, true, true, true, true, true, true, true, true, true, true, true, true, true, true, true, true, true, true, true, false, false, false, false, false, false, false, false, false, false] (by kernel_rfl) (by kernel_rfl) (by kernel_rfl) (by kernel_rfl) hE (fun M => tk_skip hE rfl rfl rfl rfl (fun a hE => ?_))
                refine takeW 27 (fuel := 9) #[true, true, true, true, true, true, true, true, true, true, true, true, true, true, true, true, true, true, true, true, true, true, true, true, true, true, true, true, false, false, false, false, false, false, false, false, false] (by kernel_rfl) (by kernel_rfl) (by kernel_rfl) (by kernel_rfl) hE (fun M => tk_skip hE rfl rfl rfl rfl (fun a hE => ?_))
                refine takeW 28 (fuel := 8) #[true, true, true, true, true, true, true, true, true, true, true, true, true, true, true, true, true, true, true, true, true, true, true, true, true, true, true, true, true, false, false, false, false, false, false, false, false] (by kernel_rfl) (by kernel_rfl) (by kernel_rfl) (by kernel_rfl) hE (fun M => tk_skip hE rfl rfl rfl rfl (fun a hE => ?_))
                refine takeW 29 (fuel := 7) #[true, true, true, true, true, true, true, true, true, true, true, true, true, true, true, true, true, true, true, true, true, true, true, true, true, true, true, true, true, true, false, false, false, false, false, false, false] (by kernel_rfl) (by kernel_rfl) (by kernel_rfl) (by kernel_rfl) hE (fun M => tk_skip hE rfl rfl rfl rfl (fun a hE => ?_))
                refine takeW 30 (fuel := 6) #[true, true, true, true, true, true, true, true, true, true, true, true, true, true, true, true, true, true, true, true, true, true, true, true, true, true, true, true, true, true, true, false, false, false, false, false, false] (by kernel_rfl) (by kernel_rfl) (by kernel_rfl) (by kernel_rfl) hE (fun M => tk_pure (.bool false) hE rfl rfl rfl rfl (fun _ _ _ e => by cases e) (by kernel_rfl) (fun a hE => ?_))
                refine takeW 31 (fuel := 5) #[true, true, true, true, true, true, true, true, true, true, true, true, true, true, true, true, true, true, true, true, true, true, true, true, true, true, true, true, true, true, true, true, false, false, false, false, false] (by kernel_rfl) (by kernel_rfl) (by kernel_rfl) (by kernel_rfl) hE (fun M => tk_pure (.bool false) hE rfl rfl rfl rfl (fun _ _ _ e => by cases e) (by kernel_rfl) (fun a hE => ?_))
                refine takeW 32 (fuel := 4) #[true, true, true, true, true, true, true, true, true, true, true, true, true, true, true, true, true, true, true, true, true, true, true, true, true, true, true, true, true, true, true, true, true, false, false, false, false] (by kernel_rfl) (by kernel_rfl) (by kernel_rfl) (by kernel_rfl) hE (fun M => tk_skip hE rfl rfl rfl rfl (fun a hE => ?_))
                refine takeW 33 (fuel := 3) #[true, true, true, true, true, true, true, true, true, true, true, true, true, true, true, true, true, true, true, true, true, true, true, true, true, true, true, true, true, true, true, true, true, true, false, false, false] (by kernel_rfl) (by kernel_rfl) (by kernel_rfl) (by kernel_rfl) hE (fun M => tk_skip hE rfl rfl rfl rfl (fun a hE => ?_))
                refine takeW 34 (fuel := 2) #[true, true, true, true, true, true, true, true, true, true, true, true, true, true, true, true, true, true, true, true, true, true, true, true, true, true, true, true, true, true, true, true, true, true, true, false, false] (by kernel_rfl) (by kernel_rfl) (by kernel_rfl) (by kernel_rfl) hE (fun M => tk_skip hE rfl rfl rfl rfl (fun a hE => ?_))
                refine takeW 35 (fuel := 1) #[true, true, true, true, true, true, true, true, true, true, true, true, true, true, true, true, true, true, true, true, true, true, true, true, true, true, true, true, true, true, true, true, true, true, true, true, false] (by kernel_rfl) (by kernel_rfl) (by kernel_rfl) (by kernel_rfl) hE (fun M => tk_pure (.bool false) hE rfl rfl rfl rfl (fun _ _ _ e => by cases e) (by kernel_rfl) (fun a hE => ?_))
                refine takeW 36 (fuel := 0) #[true, true, true, true, true, true, true, true, true, true, true, true, true, true, true, true, true, true, true, true, true, true, true, true, true, true, true, true, true, true, true, true, true, true, true, true, true] (by kernel_rfl) (by kernel_rfl) (by kernel_rfl) (by kernel_rfl) hE (fun M => tk_pure (.bool false) hE rfl rfl rfl rfl (fun _ _ _ e => by cases e) (by kernel_rfl) (fun a hE => ?_))
                have hE := hE.weak (E' := [(0, .int .i64 (x1)), (1, .bool (x2)), (2, .slice A4 (List.length (x3)) c5), (4, .slice A9 (List.length (x8)) c10), (8, .pointer (some ⟨b423, 0, none⟩)), (10, .bool false), (11, .pointer (some ⟨b601, 0, none⟩)), (29, .bool (y440))]) (by kernel_rfl)
                refine doneG (by kernel_rfl) ?_
                have hS : Stp g w0 D0 [] w D811 [] := hS.sel [] rfl (by decide)
                exact ⟨false, D811, hE.weak (by kernel_rfl), hS, (Snap.le.trans (Snap.le.trans (Snap.le.trans (Snap.le.trans le784 le792) le805) le807) le813), hf⟩
              · replace hf := cond_t hb hf
                have hE := hE.know (t := 60) (b := r809) (b' := true) rfl hb
                clear hb
                refine takeW 19 (fuel := 17) #[true, true, true, true, true, true, true, true, true, true, true, true, true, true, true, true, true, true, true, true, false, false, false, false, false, false, false, false, false, false, false, false, false, false, false, false, false] (by kernel_rfl) (by kernel_rfl) (by kernel_rfl) (by kernel_rfl) hE (fun M => tk_pure (.pointer (some ⟨b601, 0, none⟩)) hE rfl rfl rfl rfl (fun _ _ _ e => by cases e) (by kernel_rfl) (fun a hE => ?_))
                refine takeM (mfAll [(1, [b601]), (6, [b601]), (14, [b601]), (20, [b601]), (26, [b601]), (33, [b601])]) 21 (fuel := 16) #[true, true, true, true, true, true, true, true, true, true, true, true, true, true, true, true, true, true, true, true, false, true, false, false, false, false, false, false, false, false, false, false, false, false, false, false, false] (by kernel_rfl) (by kernel_rfl) (by kernel_rfl) (by kernel_rfl) (mfOf_mem [(1, [b601]), (6, [b601]), (14, [b601]), (20, [b601]), (26, [b601]), (33, [b601])]) hE (tk_load 1 (.agg (List.toArray (acells .u8 32 (x7)))) rfl rfl rfl rfl hE rfl hS rfl rfl (by kernel_rfl) (show b423 ∉ [b601, b601, b601, b601, b601, b601] from (nm_cons (hS.ne (i := 1) (j := 0) (by decide) rfl rfl) (nm_cons (hS.ne (i := 1) (j := 0) (by decide) rfl rfl) (nm_cons (hS.ne (i := 1) (j := 0) (by decide) rfl rfl) (nm_cons (hS.ne (i := 1) (j := 0) (by decide) rfl rfl) (nm_cons (hS.ne (i := 1) (j := 0) (by decide) rfl rfl) (nm_cons (hS.ne (i := 1) (j := 0) (by decide) rfl rfl) List.not_mem_nil))))))) (fun a hE => ?_))
                obtain ⟨r814, h815, hf⟩ := bind_some hf
                refine onlyG (i := 20) (fuel := 15) (listed' := #[true, true, true, true, true, true, true, true, true, true, true, true, true, true, true, true, true, true, true, true, true, true, false, false, false, false, false, false, false, false, false, false, false, false, false, false, false]) (by kernel_rfl) (by kernel_rfl) (op_call rfl rfl rfl rfl hE rfl rfl rfl rfl (by kernel_rfl) (wire_Reader_Hash.calls (g := g) h815 (hS.st.fore (L := [bx b601 49 ([.slice A802 (List.length (r793.2.fB)) c803] ++ ([.int .i64 (r793.2.fBad)]))])) (h804.mono (Snap.le.trans le807 le813))) (fun a v w hR hE => ?_))
                obtain ⟨D816, A818, c819, rfl, hS1, h820⟩ := hR
                refine ⟨hS1.keeps.mono (fun _ h => h), ?_⟩
                have le821 := hS1.dle
                have hS : Stp g w0 D0 [] w D816 [bx b601 49 ([.slice A818 (List.length (r814.2.fB)) c819] ++ ([.int .i64 (r814.2.fBad)])), bx b423 24 (acells .u8 32 (x7))] := hS.call (L := [bx b601 49 ([.slice A802 (List.length (r793.2.fB)) c803] ++ ([.int .i64 (r793.2.fBad)]))]) (R := [bx b423 24 (acells .u8 32 (x7))]) hS1
                clear hS1
                refine takeW 22 (fuel := 14) #[true, true, true, true, true, true, true, true, true, true, true, true, true, true, true, true, true, true, true, true, true, true, true, false, false, false, false, false, false, false, false, false, false, false, false, false, false] (by kernel_rfl) (by kernel_rfl) (by kernel_rfl) (by kernel_rfl) hE (fun M => tk_bin (r := .bool ((decide (r814.1 = x7)))) rfl rfl rfl rfl hE rfl rfl rfl (eqagg_run (by kernel_rfl) (EqR_arr (k := .u8) (N := 32) (by kernel_rfl))) (fun a hE => ?_))
                refine takeW 23 (fuel := 13) #[true, true, true, true, true, true, true, true, true, true, true, true, true, true, true, true, true, true, true, true, true, true, true, true, false, false, false, false, false, false, false, false, false, false, false, false, false] (by kernel_rfl) (by kernel_rfl) (by kernel_rfl) (by kernel_rfl) hE (fun M => tk_pure (.bool ((decide (r814.1 = x7)))) hE rfl rfl rfl rfl (fun _ _ _ e => by cases e) (by kernel_rfl) (fun a hE => ?_))
                refine takeW 24 (fuel := 12) #[true, true, true, true, true, true, true, true, true, true, true, true, true, true, true, true, true, true, true, true, true, true, true, true, true, false, false, false, false, false, false, false, false, false, false, false, false] (by kernel_rfl) (by kernel_rfl) (by kernel_rfl) (by kernel_rfl) hE (fun M => tk_pure (.bool ((decide (r814.1 = x7)))) hE rfl rfl rfl rfl (fun _ _ _ e => by cases e) (by kernel_rfl) (fun a hE => ?_))
                cases hb : (decide (r814.1 = x7))
                · replace hf := cond_f hb hf
                  have hE := hE.know (t := 66) (b := (decide (r814.1 = x7))) (b' := false) rfl hb
                  clear hb
                  refine takeW 25 (fuel := 11) #[true, true, true, true, true, true, true, true, true, true, true, true, true, true, true, true, true, true, true, true, true, true, true, true, true, true, false, false, false, false, false, false, false, false, false, false, false] (by kernel_rfl) (by kernel_rfl) (by kernel_rfl) (by kernel_rfl) hE (fun M => tk_skip hE rfl rfl rfl rfl (fun a hE => ?_))
                  refine takeW 26 (fuel := 10) #[true, true, true, true, true, true, true, true, true, true, true, true, true, true, true, true, true, true, true, true, true, true, true, true, true, true, true, false, false, false, false, false, false, false, false, false, false] (by kernel_rfl) (by kernel_rfl) (by kernel_rfl) (by kernel_rfl) hE (fun M => tk_skip hE rfl rfl rfl rfl (fun a hE => ?_))
                  refine takeW 27 (fuel := 9) #[true, true, true, true, true, true, true, true, true, true, true, true, true, true, true, true, true, true, true, true, true, true, true, true, true, true, true, true, false, false, false, false, false, false, false, false, false] (by kernel_rfl) (by kernel_rfl) (by kernel_rfl) (by kernel_rfl) hE (fun M => tk_skip hE rfl rfl rfl rfl (fun a hE => ?_))
                  refine takeW 28 (fuel := 8) #[true, true, true, true, true, true, true, true, true, true, true, true, true, true, true, true, true, true, true, true, true, true, true, true, true, true, true, true, true, false, false, false, false, false, false, false, false] (by kernel_rfl) (by kernel_rfl) (by kernel_rfl) (by kernel_rfl) hE (fun M => tk_skip hE rfl rfl rfl rfl (fun a hE => ?_))
                  refine takeW 29 (fuel := 7) #[true, true, true, true, true, true, true, true, true, true, true, true, true, true, true, true, true, true, true, true, true, true, true, true, true, true, true, true, true, true, false, false, false, false, false, false, false] (by kernel_rfl) (by kernel_rfl) (by kernel_rfl) (by kernel_rfl) hE (fun M => tk_skip hE rfl rfl rfl rfl (fun a hE => ?_))
                  refine takeW 30 (fuel := 6) #[true, true, true, true, true, true, true, true, true, true, true, true, true, true, true, true, true, true, true, true, true, true, true, true, true, true, true, true, true, true, true, false, false, false, false, false, false] (by kernel_rfl) (by kernel_rfl) (by kernel_rfl) (by kernel_rfl) hE (fun M => tk_pure (.bool false) hE rfl rfl rfl rfl (fun _ _ _ e => by cases e) (by kernel_rfl) (fun a hE => ?_))
                  refine takeW 31 (fuel := 5) #[true, true, true, true, true, true, true, true, true, true, true, true, true, true, true, true, true, true, true, true, true, true, true, true, true, true, true, true, true, true, true, true, false, false, false, false, false] (by kernel_rfl) (by kernel_rfl) (by kernel_rfl) (by kernel_rfl) hE (fun M => tk_pure (.bool false) hE rfl rfl rfl rfl (fun _ _ _ e => by cases e) (by kernel_rfl) (fun a hE => ?_))
                  refine takeW 32 (fuel := 4) #[true, true, true, true, true, true, true, true, true, true, true, true, true, true, true, true, true, true, true, true, true, true, true, true, true, true, true, true, true, true, true, true, true, false, false, false, false] (by kernel_rfl) (by kernel_rfl) (by kernel_rfl) (by kernel_rfl) hE (fun M => tk_skip hE rfl rfl rfl rfl (fun a hE => ?_))
                  refine takeW 33 (fuel := 3) #[true, true, true, true, true, true, true, true, true, true, true, true, true, true, true, true, true, true, true, true, true, true, true, true, true, true, true, true, true, true, true, true, true, true, false, false, false] (by kernel_rfl) (by kernel_rfl) (by kernel_rfl) (by kernel_rfl) hE (fun M => tk_skip hE rfl rfl rfl rfl (fun a hE => ?_))
                  refine takeW 34 (fuel := 2) #[true, true, true, true, true, true, true, true, true, true, true, true, true, true, true, true, true, true, true, true, true, true, true, true, true, true, true, true, true, true, true, true, true, true, true, false, false] (by kernel_rfl) (by kernel_rfl) (by kernel_rfl) (by kernel_rfl) hE (fun M => tk_skip hE rfl rfl rfl rfl (fun a hE => ?_))
                  refine takeW 35 (fuel := 1) #[true, true, true, true, true, true, true, true, true, true, true, true, true, true, true, true, true, true, true, true, true, true, true, true, true, true, true, true, true, true, true, true, true, true, true, true, false] (by kernel_rfl) (by kernel_rfl) (by kernel_rfl) (by kernel_rfl) hE (fun M => tk_pure (.bool false) hE rfl rfl rfl rfl (fun _ _ _ e => by cases e) (by kernel_rfl) (fun a hE => ?_))
                  refine takeW 36 (fuel := 0) #[true, true, true, true, true, true, true, true, true, true, true, true, true, true, true, true, true, true, true, true, true, true, true, true, true, true, true, true, true, true, true, true, true, true, true, true, true] (by kernel_rfl) (by kernel_rfl) (by kernel_rfl) (by kernel_rfl) hE (fun M => tk_pure (.bool false) hE rfl rfl rfl rfl (fun _ _ _ e => by cases e) (by kernel_rfl) (fun a hE => ?_))
                  have hE := hE.weak (E' := [(0, .int .i64 (x1)), (1, .bool (x2)), (2, .slice A4 (List.length (x3)) c5), (4, .slice A9 (List.length (x8)) c10), (8, .pointer (some ⟨b423, 0, none⟩)), (10, .bool false), (11, .pointer (some ⟨b601, 0, none⟩)), (29, .bool (y440))]) (by kernel_rfl)
                  refine doneG (by kernel_rfl) ?_
                  have hS : Stp g w0 D0 [] w D816 [] := hS.sel [] rfl (by decide)
                  exact ⟨false, D816, hE.weak (by kernel_rfl), hS, (Snap.le.trans (Snap.le.trans (Snap.le.trans (Snap.le.trans (Snap.le.trans le784 le792) le805) le807) le813) le821), hf⟩
                · replace hf := cond_t hb hf
                  have hE := hE.know (t := 66) (b := (decide (r814.1 = x7))) (b' := true) rfl hb
                  clear hb
                  refine takeW 25 (fuel := 11) #[true, true, true, true, true, true, true, true, true, true, true, true, true, true, true, true, true, true, true, true, true, true, true, true, true, true, false, false, false, false, false, false, false, false, false, false, false] (by kernel_rfl) (by kernel_rfl) (by kernel_rfl) (by kernel_rfl) hE (fun M => tk_pure (.pointer (some ⟨b601, 0, none⟩)) hE rfl rfl rfl rfl (fun _ _ _ e => by cases e) (by kernel_rfl) (fun a hE => ?_))
                  refine takeW 27 (fuel := 10) #[true, true, true, true, true, true, true, true, true, true, true, true, true, true, true, true, true, true, true, true, true, true, true, true, true, true, false, true, false, false, false, false, false, false, false, false, false] (by kernel_rfl) (by kernel_rfl) (by kernel_rfl) (by kernel_rfl) hE (fun M => tk_pure (.slice A9 (List.length (x8)) c10) hE rfl rfl rfl rfl (fun _ _ _ e => by cases e) (by kernel_rfl) (fun a hE => ?_))
                  refine takeW 28 (fuel := 9) #[true, true, true, true, true, true, true, true, true, true, true, true, true, true, true, true, true, true, true, true, true, true, true, true, true, true, false, true, true, false, false, false, false, false, false, false, false] (by kernel_rfl) (by kernel_rfl) (by kernel_rfl) (by kernel_rfl) hE (fun M => tk_pure (.int .i64 (((List.length (x8) : Nat) : Int))) hE rfl rfl rfl rfl (fun _ _ _ e => by cases e) (by kernel_rfl) (fun a hE => ?_))
                  obtain ⟨r822, h823, hf⟩ := bind_some hf
                  refine onlyG (i := 26) (fuel := 8) (listed' := #[true, true, true, true, true, true, true, true, true, true, true, true, true, true, true, true, true, true, true, true, true, true, true, true, true, true, true, true, true, false, false, false, false, false, false, false, false]) (by kernel_rfl) (by kernel_rfl) (op_call rfl rfl rfl rfl hE rfl rfl rfl rfl (by kernel_rfl) (wire_Reader_Left.calls (g := g) h823 (hS.st.fore (L := [bx b601 49 ([.slice A818 (List.length (r814.2.fB)) c819] ++ ([.int .i64 (r814.2.fBad)]))])) h820) (fun a v w hR hE => ?_))
                  obtain ⟨D824, rfl, hS1⟩ := hR
                  refine ⟨hS1.keeps.mono (fun _ h => h), ?_⟩
                  have le826 := hS1.dle
                  have hS : Stp g w0 D0 [] w D824 [bx b601 49 ([.slice A818 (List.length (r814.2.fB)) c819] ++ ([.int .i64 (r814.2.fBad)])), bx b423 24 (acells .u8 32 (x7))] := hS.call (L := [bx b601 49 ([.slice A818 (List.length (r814.2.fB)) c819] ++ ([.int .i64 (r814.2.fBad)]))]) (R := [bx b423 24 (acells .u8 32 (x7))]) hS1
                  clear hS1
                  refine takeW 29 (fuel := 7) #[true, true, true, true, true, true, true, true, true, true, true, true, true, true, true, true, true, true, true, true, true, true, true, true, true, true, true, true, true, true, false, false, false, false, false, false, false] (by kernel_rfl) (by kernel_rfl) (by kernel_rfl) (by kernel_rfl) hE (fun M => tk_pure (.bool ((decide (r822 = ((List.length (x8) : Nat) : Int))))) hE rfl rfl rfl rfl (fun _ _ _ e => by cases e) (by kernel_rfl) (fun a hE => ?_))
                  refine takeW 30 (fuel := 6) #[true, true, true, true, true, true, true, true, true, true, true, true, true, true, true, true, true, true, true, true, true, true, true, true, true, true, true, true, true, true, true, false, false, false, false, false, false] (by kernel_rfl) (by kernel_rfl) (by kernel_rfl) (by kernel_rfl) hE (fun M => tk_pure (.bool ((decide (r822 = ((List.length (x8) : Nat) : Int))))) hE rfl rfl rfl rfl (fun _ _ _ e => by cases e) (by kernel_rfl) (fun a hE => ?_))
                  refine takeW 31 (fuel := 5) #[true, true, true, true, true, true, true, true, true, true, true, true, true, true, true, true, true, true, true, true, true, true, true, true, true, true, true, true, true, true, true, true, false, false, false, false, false] (by kernel_rfl) (by kernel_rfl) (by kernel_rfl) (by kernel_rfl) hE (fun M => tk_pure (.bool ((decide (r822 = ((List.length (x8) : Nat) : Int))))) hE rfl rfl rfl rfl (fun _ _ _ e => by cases e) (by kernel_rfl) (fun a hE => ?_))
                  cases hb : (decide (r822 = ((List.length (x8) : Nat) : Int)))
                  · replace hf := cond_f hb hf
                    have hE := hE.know (t := 73) (b := (decide (r822 = ((List.length (x8) : Nat) : Int)))) (b' := false) rfl hb
                    clear hb
                    refine takeW 32 (fuel := 4) #[true, true, true, true, true, true, true, true, true, true, true, true, true, true, true, true, true, true, true, true, true, true, true, true, true, true, true, true, true, true, true, true, true, false, false, false, false] (by kernel_rfl) (by kernel_rfl) (by kernel_rfl) (by kernel_rfl) hE (fun M => tk_skip hE rfl rfl rfl rfl (fun a hE => ?_))
                    refine takeW 33 (fuel := 3) #[true, true, true, true, true, true, true, true, true, true, true, true, true, true, true, true, true, true, true, true, true, true, true, true, true, true, true, true, true, true, true, true, true, true, false, false, false] (by kernel_rfl) (by kernel_rfl) (by kernel_rfl) (by kernel_rfl) hE (fun M => tk_skip hE rfl rfl rfl rfl (fun a hE => ?_))
                    refine takeW 34 (fuel := 2) #[true, true, true, true, true, true, true, true, true, true, true, true, true, true, true, true, true, true, true, true, true, true, true, true, true, true, true, true, true, true, true, true, true, true, true, false, false] (by kernel_rfl) (by kernel_rfl) (by kernel_rfl) (by kernel_rfl) hE (fun M => tk_skip hE rfl rfl rfl rfl (fun a hE => ?_))
                    refine takeW 35 (fuel := 1) #[true, true, true, true, true, true, true, true, true, true, true, true, true, true, true, true, true, true, true, true, true, true, true, true, true, true, true, true, true, true, true, true, true, true, true, true, false] (by kernel_rfl) (by kernel_rfl) (by kernel_rfl) (by kernel_rfl) hE (fun M => tk_pure (.bool false) hE rfl rfl rfl rfl (fun _ _ _ e => by cases e) (by kernel_rfl) (fun a hE => ?_))
                    refine takeW 36 (fuel := 0) #[true, true, true, true, true, true, true, true, true, true, true, true, true, true, true, true, true, true, true, true, true, true, true, true, true, true, true, true, true, true, true, true, true, true, true, true, true] (by kernel_rfl) (by kernel_rfl) (by kernel_rfl) (by kernel_rfl) hE (fun M => tk_pure (.bool false) hE rfl rfl rfl rfl (fun _ _ _ e => by cases e) (by kernel_rfl) (fun a hE => ?_))
                    have hE := hE.weak (E' := [(0, .int .i64 (x1)), (1, .bool (x2)), (2, .slice A4 (List.length (x3)) c5), (4, .slice A9 (List.length (x8)) c10), (8, .pointer (some ⟨b423, 0, none⟩)), (10, .bool false), (11, .pointer (some ⟨b601, 0, none⟩)), (29, .bool (y440))]) (by kernel_rfl)
                    refine doneG (by kernel_rfl) ?_
                    have hS : Stp g w0 D0 [] w D824 [] := hS.sel [] rfl (by decide)
                    exact ⟨false, D824, hE.weak (by kernel_rfl), hS, (Snap.le.trans (Snap.le.trans (Snap.le.trans (Snap.le.trans (Snap.le.trans (Snap.le.trans le784 le792) le805) le807) le813) le821) le826), hf⟩
                  · replace hf := cond_t hb hf
                    have hE := hE.know (t := 73) (b := (decide (r822 = ((List.length (x8) : Nat) : Int)))) (b' := true) rfl hb
                    clear hb
                    refine takeW 32 (fuel := 4) #[true, true, true, true, true, true, true, true, true, true, true, true, true, true, true, true, true, true, true, true, true, true, true, true, true, true, true, true, true, true, true, true, true, false, false, false, false] (by kernel_rfl) (by kernel_rfl) (by kernel_rfl) (by kernel_rfl) hE (fun M => tk_pure (.pointer (some ⟨b601, 0, none⟩)) hE rfl rfl rfl rfl (fun _ _ _ e => by cases e) (by kernel_rfl) (fun a hE => ?_))
                    obtain ⟨r827, h828, hf⟩ := bind_some hf
                    refine onlyG (i := 33) (fuel := 3) (listed' := #[true, true, true, true, true, true, true, true, true, true, true, true, true, true, true, true, true, true, true, true, true, true, true, true, true, true, true, true, true, true, true, true, true, true, false, false, false]) (by kernel_rfl) (by kernel_rfl) (op_call rfl rfl rfl rfl hE rfl rfl rfl rfl (by kernel_rfl) (wire_Reader_Bad.calls (g := g) h828 (hS.st.fore (L := [bx b601 49 ([.slice A818 (List.length (r814.2.fB)) c819] ++ ([.int .i64 (r814.2.fBad)]))])) (h820.mono le826)) (fun a v w hR hE => ?_))
                    obtain ⟨D829, rfl, hS1⟩ := hR
                    refine ⟨hS1.keeps.mono (fun _ h => h), ?_⟩
                    have le831 := hS1.dle
                    have hS : Stp g w0 D0 [] w D829 [bx b601 49 ([.slice A818 (List.length (r814.2.fB)) c819] ++ ([.int .i64 (r814.2.fBad)])), bx b423 24 (acells .u8 32 (x7))] := hS.call (L := [bx b601 49 ([.slice A818 (List.length (r814.2.fB)) c819] ++ ([.int .i64 (r814.2.fBad)]))]) (R := [bx b423 24 (acells .u8 32 (x7))]) hS1
                    clear hS1
                    refine takeW 34 (fuel := 2) #[true, true, true, true, true, true, true, true, true, true, true, true, true, true, true, true, true, true, true, true, true, true, true, true, true, true, true, true, true, true, true, true, true, true, true, false, false] (by kernel_rfl) (by kernel_rfl) (by kernel_rfl) (by kernel_rfl) hE (fun M => tk_pure (.bool ((decide (r827 = (0 : Int))))) hE rfl rfl rfl rfl (fun _ _ _ e => by cases e) (by kernel_rfl) (fun a hE => ?_))
                    refine takeW 35 (fuel := 1) #[true, true, true, true, true, true, true, true, true, true, true, true, true, true, true, true, true, true, true, true, true, true, true, true, true, true, true, true, true, true, true, true, true, true, true, true, false] (by kernel_rfl) (by kernel_rfl) (by kernel_rfl) (by kernel_rfl) hE (fun M => tk_pure (.bool ((decide (r827 = (0 : Int))))) hE rfl rfl rfl rfl (fun _ _ _ e => by cases e) (by kernel_rfl) (fun a hE => ?_))
                    refine takeW 36 (fuel := 0) #[true, true, true, true, true, true, true, true, true, true, true, true, true, true, true, true, true, true, true, true, true, true, true, true, true, true, true, true, true, true, true, true, true, true, true, true, true] (by kernel_rfl) (by kernel_rfl) (by kernel_rfl) (by kernel_rfl) hE (fun M => tk_pure (.bool ((decide (r827 = (0 : Int))))) hE rfl rfl rfl rfl (fun _ _ _ e => by cases e) (by kernel_rfl) (fun a hE => ?_))
                    have hE := hE.weak (E' := [(0, .int .i64 (x1)), (1, .bool (x2)), (2, .slice A4 (List.length (x3)) c5), (4, .slice A9 (List.length (x8)) c10), (8, .pointer (some ⟨b423, 0, none⟩)), (10, .bool ((decide (r827 = (0 : Int))))), (11, .pointer (some ⟨b601, 0, none⟩)), (29, .bool (y440))]) (by kernel_rfl)
                    refine doneG (by kernel_rfl) ?_
                    have hS : Stp g w0 D0 [] w D829 [] := hS.sel [] rfl (by decide)
                    exact ⟨(decide (r827 = (0 : Int))), D829, hE.weak (by kernel_rfl), hS, (Snap.le.trans (Snap.le.trans (Snap.le.trans (Snap.le.trans (Snap.le.trans (Snap.le.trans (Snap.le.trans le784 le792) le805) le807) le813) le821) le826) le831), hf⟩
        · clear hE hS
          rintro a w ⟨y717, D718, hE, hS, le719, hf⟩
          replace hf := hj721 _ hf
          clear hj721
          refine wpIn_ret ?_
          obtain rfl := Option.some.inj hf
          repeat (with_reducible first | refine then_ret ?_ | refine block_ret ?_ | refine qx_ret ?_)
          refine ret_gen ([.bool (y717)]) hE (by rw [show Try.f4.results.toList = [.tmp 10] from rfl]; exact ⟨_, _, rfl, rfl, rfl⟩) ?_
          exact ⟨_, rfl, D718, rfl, hS⟩

set_option maxRecDepth 100000 in
set_option maxHeartbeats 4000000 in
theorem inspeximuslaw03_WireOne.calls {K : Nat} {g w0 : World} {D0 : Snap} {x1 : (List Int)} {A2 : Option Addr} {c3 : Nat} {r : (Bool)} (hf : inspeximuslaw03_WireOne.f K x1 = some r) (hS0 : St g w0 D0 []) (h4 : Sl (kdInt .u8) D0 A2 c3 (x1)) :
    CallsIn (Fw none) 0 Try.prog 5 (List.toArray [.slice A2 (List.length (x1)) c3]) w0 (fun e w' => ∃ v, e = .returned v ∧ ∃ (D1 : Snap), v = .bool (r) ∧ Stp g w0 D0 [] w' D1 []) := by
  unfold inspeximuslaw03_WireOne.f at hf
  have hS := Stp.refl hS0
  clear hS0
  refine calls_body (n := 53) Try.func5 rfl Try.ntmps5 rfl (fun a hE => ?_)
  have hE : Env a 53 [] [(0, .slice A2 (List.length (x1)) c3)] := hE
  refine wpIn_seq ?_
  refine region_at ?_
  refine seg 1 (j := 1) [(0, .slice A2 (List.length (x1)) c3), (2, .bool false)] hE (by kernel_rfl) rfl (fun a hE => ?_)
  refine at_end rfl ?_
  refine wpIn_seq ?_
  refine wpIn_seq ?_
  refine region_at ?_
  obtain ⟨r547, h548, hf⟩ := bind_some hf
  refine at_op (op_call rfl rfl rfl rfl hE rfl rfl rfl rfl (by kernel_rfl) (inspeximuslaw03_alive.calls (g := g) h548 (hS.st.fore (L := [])) ) (fun a v w hR hE => ?_)) rfl
  obtain ⟨D549, rfl, hS1⟩ := hR
  have le551 := hS1.dle
  have hS : Stp g w0 D0 [] w D549 [] := hS.call (L := []) (R := []) hS1
  clear hS1
  refine seg 1 (j := 2) [(0, .slice A2 (List.length (x1)) c3), (2, .bool false), (9, .bool ((!r547)))] hE (by kernel_rfl) rfl (fun a hE => ?_)
  refine at_end rfl ?_
  refine cond_split hE (b := (!r547)) rfl (fun hb => ?_) (fun hb => ?_)
  · replace hf := cond_t hb hf
    clear hb
    refine wpIn_seq ?_
    refine region_at ?_
    refine seg 1 (j := 1) [(0, .slice A2 (List.length (x1)) c3), (2, .bool false), (9, .bool ((!r547)))] hE (by kernel_rfl) rfl (fun a hE => ?_)
    refine at_end rfl ?_
    refine wpIn_ret ?_
    obtain rfl := Option.some.inj hf
    repeat (with_reducible first | refine then_ret ?_ | refine block_ret ?_ | refine qx_ret ?_)
    refine ret_gen ([.bool false]) hE (by rw [show Try.f5.results.toList = [.tmp 2] from rfl]; exact ⟨_, _, rfl, rfl, rfl⟩) ?_
    exact ⟨_, rfl, D549, rfl, hS⟩
  · replace hf := cond_f hb hf
    clear hb
    refine wpIn_skip ?_
    refine wpIn_seq ?_
    refine wpIn_seq ?_
    refine region_at ?_
    refine seg 3 (j := 3) [(0, .slice A2 (List.length (x1)) c3), (2, .bool false), (9, .bool ((!r547))), (12, .bool ((decide ((100 : Int) < ((List.length (x1) : Nat) : Int)))))] hE (by kernel_rfl) rfl (fun a hE => ?_)
    refine at_end rfl ?_
    refine cond_split hE (b := (decide ((100 : Int) < ((List.length (x1) : Nat) : Int)))) rfl (fun hb => ?_) (fun hb => ?_)
    · replace hf := cond_t hb hf
      clear hb
      refine wpIn_seq ?_
      refine region_at ?_
      refine seg 1 (j := 1) [(0, .slice A2 (List.length (x1)) c3), (2, .bool true), (9, .bool ((!r547))), (12, .bool ((decide ((100 : Int) < ((List.length (x1) : Nat) : Int)))))] hE (by kernel_rfl) rfl (fun a hE => ?_)
      refine at_end rfl ?_
      refine wpIn_ret ?_
      obtain rfl := Option.some.inj hf
      repeat (with_reducible first | refine then_ret ?_ | refine block_ret ?_ | refine qx_ret ?_)
      refine ret_gen ([.bool true]) hE (by rw [show Try.f5.results.toList = [.tmp 2] from rfl]; exact ⟨_, _, rfl, rfl, rfl⟩) ?_
      exact ⟨_, rfl, D549, rfl, hS⟩
    · replace hf := cond_f hb hf
      clear hb
      refine wpIn_skip ?_
      refine wpIn_seq ?_
      refine region_at ?_
      refine seg 1 (j := 1) [(0, .slice A2 (List.length (x1)) c3), (2, .bool false), (9, .bool ((!r547))), (12, .bool ((decide ((100 : Int) < ((List.length (x1) : Nat) : Int))))), (13, .slice A2 (List.length (x1)) c3)] hE (by kernel_rfl) rfl (fun a hE => ?_)
      obtain ⟨r552, h553, hf⟩ := bind_some hf
      refine at_op (op_call rfl rfl rfl rfl hE rfl rfl rfl rfl (by kernel_rfl) (wire_Read.calls (g := g) h553 (hS.st.fore (L := [])) (h4.mono le551)) (fun a v w hR hE => ?_)) rfl
      obtain ⟨D554, b556, A558, c559, rfl, hS1, h560⟩ := hR
      have le561 := hS1.dle
      have hS : Stp g w0 D0 [] w D554 [bx b556 49 ([.slice A558 (List.length (r552.fB)) c559] ++ ([.int .i64 (r552.fBad)]))] := hS.call (L := []) (R := []) hS1
      clear hS1
      refine seg 1 (j := 3) [(0, .slice A2 (List.length (x1)) c3), (2, .bool false), (3, .pointer (some ⟨b556, 0, none⟩)), (9, .bool ((!r547))), (12, .bool ((decide ((100 : Int) < ((List.length (x1) : Nat) : Int)))))] hE (by kernel_rfl) rfl (fun a hE => ?_)
      refine at_end rfl ?_
      refine wpIn_seq ?_
      refine region_at ?_
      refine seg 1 (j := 1) [(0, .slice A2 (List.length (x1)) c3), (2, .bool false), (3, .pointer (some ⟨b556, 0, none⟩)), (9, .bool ((!r547))), (12, .bool ((decide ((100 : Int) < ((List.length (x1) : Nat) : Int))))), (15, .pointer (some ⟨b556, 0, none⟩))] hE (by kernel_rfl) rfl (fun a hE => ?_)
      obtain ⟨r562, h563, hf⟩ := bind_some hf
      refine at_op (op_call rfl rfl rfl rfl hE rfl rfl rfl rfl (by kernel_rfl) (wire_Reader_Num.calls (g := g) h563 (hS.st.fore (L := [bx b556 49 ([.slice A558 (List.length (r552.fB)) c559] ++ ([.int .i64 (r552.fBad)]))])) h560) (fun a v w hR hE => ?_)) rfl
      obtain ⟨D564, A566, c567, rfl, hS1, h568⟩ := hR
      have le569 := hS1.dle
      have hS : Stp g w0 D0 [] w D564 [bx b556 49 ([.slice A566 (List.length (r562.2.fB)) c567] ++ ([.int .i64 (r562.2.fBad)]))] := hS.call (L := [bx b556 49 ([.slice A558 (List.length (r552.fB)) c559] ++ ([.int .i64 (r552.fBad)]))]) (R := []) hS1
      clear hS1
      refine seg 1 (j := 3) [(0, .slice A2 (List.length (x1)) c3), (2, .bool false), (3, .pointer (some ⟨b556, 0, none⟩)), (4, .int .i64 (r562.1)), (9, .bool ((!r547))), (12, .bool ((decide ((100 : Int) < ((List.length (x1) : Nat) : Int)))))] hE (by kernel_rfl) rfl (fun a hE => ?_)
      refine at_end rfl ?_
      refine wpIn_seq ?_
      refine wpIn_seq ?_
      refine region_at ?_
      refine seg 1 (j := 1) [(0, .slice A2 (List.length (x1)) c3), (2, .bool false), (3, .pointer (some ⟨b556, 0, none⟩)), (4, .int .i64 (r562.1)), (9, .bool ((!r547))), (12, .bool ((decide ((100 : Int) < ((List.length (x1) : Nat) : Int))))), (17, .pointer (some ⟨b556, 0, none⟩))] hE (by kernel_rfl) rfl (fun a hE => ?_)
      obtain ⟨r585, h586, hf⟩ := bind_some hf
      refine at_op (op_call rfl rfl rfl rfl hE rfl rfl rfl rfl (by kernel_rfl) (wire_Reader_Bad.calls (g := g) h586 (hS.st.fore (L := [bx b556 49 ([.slice A566 (List.length (r562.2.fB)) c567] ++ ([.int .i64 (r562.2.fBad)]))])) h568) (fun a v w hR hE => ?_)) rfl
      obtain ⟨D587, rfl, hS1⟩ := hR
      have le589 := hS1.dle
      have hS : Stp g w0 D0 [] w D587 [bx b556 49 ([.slice A566 (List.length (r562.2.fB)) c567] ++ ([.int .i64 (r562.2.fBad)]))] := hS.call (L := [bx b556 49 ([.slice A566 (List.length (r562.2.fB)) c567] ++ ([.int .i64 (r562.2.fBad)]))]) (R := []) hS1
      clear hS1
      refine seg 1 (j := 3) [(0, .slice A2 (List.length (x1)) c3), (2, .bool false), (3, .pointer (some ⟨b556, 0, none⟩)), (4, .int .i64 (r562.1)), (9, .bool ((!r547))), (12, .bool ((decide ((100 : Int) < ((List.length (x1) : Nat) : Int))))), (19, .bool ((!decide (r585 = (0 : Int)))))] hE (by kernel_rfl) rfl (fun a hE => ?_)
      refine at_end rfl ?_
      refine cond_split hE (b := (!decide (r585 = (0 : Int)))) rfl (fun hb => ?_) (fun hb => ?_)
      · replace hf := cond_t hb hf
        clear hb
        refine wpIn_seq ?_
        refine region_at ?_
        refine seg 3 (j := 3) [(0, .slice A2 (List.length (x1)) c3), (2, .bool false), (3, .pointer (some ⟨b556, 0, none⟩)), (4, .int .i64 (r562.1)), (9, .bool ((!r547))), (12, .bool ((decide ((100 : Int) < ((List.length (x1) : Nat) : Int))))), (19, .bool ((!decide (r585 = (0 : Int))))), (22, .bool ((decide (r562.1 = (0 : Int)))))] hE (by kernel_rfl) rfl (fun a hE => ?_)
        cases hb : (decide (r562.1 = (0 : Int)))
        · replace hf := cond_f hb hf
          have hE := hE.know (t := 22) (b := (decide (r562.1 = (0 : Int)))) (b' := false) rfl hb
          clear hb
          refine seg 5 (j := 8) [(0, .slice A2 (List.length (x1)) c3), (2, .bool false), (3, .pointer (some ⟨b556, 0, none⟩)), (4, .int .i64 (r562.1)), (9, .bool ((!r547))), (12, .bool ((decide ((100 : Int) < ((List.length (x1) : Nat) : Int))))), (19, .bool ((!decide (r585 = (0 : Int)))))] hE (by kernel_rfl) rfl (fun a hE => ?_)
          refine at_end rfl ?_
          refine wpIn_ret ?_
          obtain rfl := Option.some.inj hf
          repeat (with_reducible first | refine then_ret ?_ | refine block_ret ?_ | refine qx_ret ?_)
          refine ret_gen ([.bool false]) hE (by rw [show Try.f5.results.toList = [.tmp 2] from rfl]; exact ⟨_, _, rfl, rfl, rfl⟩) ?_
          have hS : Stp g w0 D0 [] w D587 [] := hS.sel [] rfl (by decide)
          exact ⟨_, rfl, D587, rfl, hS⟩
        · replace hf := cond_t hb hf
          have hE := hE.know (t := 22) (b := (decide (r562.1 = (0 : Int)))) (b' := true) rfl hb
          clear hb
          refine seg 1 (j := 4) [(0, .slice A2 (List.length (x1)) c3), (2, .bool false), (3, .pointer (some ⟨b556, 0, none⟩)), (4, .int .i64 (r562.1)), (9, .bool ((!r547))), (12, .bool ((decide ((100 : Int) < ((List.length (x1) : Nat) : Int))))), (19, .bool ((!decide (r585 = (0 : Int))))), (22, .bool true), (23, .pointer (some ⟨b556, 0, none⟩))] hE (by kernel_rfl) rfl (fun a hE => ?_)
          obtain ⟨r595, h596, hf⟩ := bind_some hf
          refine at_op (op_call rfl rfl rfl rfl hE rfl rfl rfl rfl (by kernel_rfl) (wire_Reader_Left.calls (g := g) h596 (hS.st.fore (L := [bx b556 49 ([.slice A566 (List.length (r562.2.fB)) c567] ++ ([.int .i64 (r562.2.fBad)]))])) (h568.mono le589)) (fun a v w hR hE => ?_)) rfl
          obtain ⟨D597, rfl, hS1⟩ := hR
          have le599 := hS1.dle
          have hS : Stp g w0 D0 [] w D597 [bx b556 49 ([.slice A566 (List.length (r562.2.fB)) c567] ++ ([.int .i64 (r562.2.fBad)]))] := hS.call (L := [bx b556 49 ([.slice A566 (List.length (r562.2.fB)) c567] ++ ([.int .i64 (r562.2.fBad)]))]) (R := []) hS1
          clear hS1
          refine seg 3 (j := 8) [(0, .slice A2 (List.length (x1)) c3), (2, .bool ((decide (r595 = (0 : Int))))), (3, .pointer (some ⟨b556, 0, none⟩)), (4, .int .i64 (r562.1)), (9, .bool ((!r547))), (12, .bool ((decide ((100 : Int) < ((List.length (x1) : Nat) : Int))))), (19, .bool ((!decide (r585 = (0 : Int)))))] hE (by kernel_rfl) rfl (fun a hE => ?_)
          refine at_end rfl ?_
          refine wpIn_ret ?_
          obtain rfl := Option.some.inj hf
          repeat (with_reducible first | refine then_ret ?_ | refine block_ret ?_ | refine qx_ret ?_)
          refine ret_gen ([.bool ((decide (r595 = (0 : Int))))]) hE (by rw [show Try.f5.results.toList = [.tmp 2] from rfl]; exact ⟨_, _, rfl, rfl, rfl⟩) ?_
          have hS : Stp g w0 D0 [] w D597 [] := hS.sel [] rfl (by decide)
          exact ⟨_, rfl, D597, rfl, hS⟩
      · replace hf := cond_f hb hf
        clear hb
        refine wpIn_skip ?_
        refine wpIn_seq ?_
        refine region_at ?_
        refine seg 3 (j := 3) [(0, .slice A2 (List.length (x1)) c3), (2, .bool false), (3, .pointer (some ⟨b556, 0, none⟩)), (4, .int .i64 (r562.1)), (9, .bool ((!r547))), (12, .bool ((decide ((100 : Int) < ((List.length (x1) : Nat) : Int))))), (19, .bool ((!decide (r585 = (0 : Int))))), (28, .int .i64 (((List.length (x1) : Nat) : Int))), (29, .pointer (some ⟨b556, 0, none⟩))] hE (by kernel_rfl) rfl (fun a hE => ?_)
        obtain ⟨r600, h601, hf⟩ := bind_some hf
        refine at_op (op_call rfl rfl rfl rfl hE rfl rfl rfl rfl (by kernel_rfl) (wire_Reader_Left.calls (g := g) h601 (hS.st.fore (L := [bx b556 49 ([.slice A566 (List.length (r562.2.fB)) c567] ++ ([.int .i64 (r562.2.fBad)]))])) (h568.mono le589)) (fun a v w hR hE => ?_)) rfl
        obtain ⟨D602, rfl, hS1⟩ := hR
        have le604 := hS1.dle
        have hS : Stp g w0 D0 [] w D602 [bx b556 49 ([.slice A566 (List.length (r562.2.fB)) c567] ++ ([.int .i64 (r562.2.fBad)]))] := hS.call (L := [bx b556 49 ([.slice A566 (List.length (r562.2.fB)) c567] ++ ([.int .i64 (r562.2.fBad)]))]) (R := []) hS1
        clear hS1
        refine seg 2 (j := 6) [(0, .slice A2 (List.length (x1)) c3), (2, .bool false), (3, .pointer (some ⟨b556, 0, none⟩)), (4, .int .i64 (r562.1)), (5, .int .i64 ((IntKind.wrap .i64 (((List.length (x1) : Nat) : Int) - r600)))), (9, .bool ((!r547))), (12, .bool ((decide ((100 : Int) < ((List.length (x1) : Nat) : Int))))), (19, .bool ((!decide (r585 = (0 : Int)))))] hE (by kernel_rfl) rfl (fun a hE => ?_)
        refine at_end rfl ?_
        refine wpIn_seq ?_
        refine wpIn_seq ?_
        refine region_draw (mfOf []) (by kernel_rfl) ?_
        have hS := hS.drew
        generalize w.drew = w at hS ⊢
        refine takeW 0 (fuel := 6) #[true, false, false, false, false, false, false] (by kernel_rfl) (by kernel_rfl) (by kernel_rfl) (by kernel_rfl) hE (fun M => tk_pure (.int .i64 (r562.1)) hE rfl rfl rfl rfl (fun _ _ _ e => by cases e) (by kernel_rfl) (fun a hE => ?_))
        refine takeW 2 (fuel := 5) #[true, false, true, false, false, false, false] (by kernel_rfl) (by kernel_rfl) (by kernel_rfl) (by kernel_rfl) hE (fun M => tk_pure (.slice A2 (List.length (x1)) c3) hE rfl rfl rfl rfl (fun _ _ _ e => by cases e) (by kernel_rfl) (fun a hE => ?_))
        refine takeW 3 (fuel := 4) #[true, false, true, true, false, false, false] (by kernel_rfl) (by kernel_rfl) (by kernel_rfl) (by kernel_rfl) hE (fun M => tk_pure (.int .i64 ((IntKind.wrap .i64 (((List.length (x1) : Nat) : Int) - r600)))) hE rfl rfl rfl rfl (fun _ _ _ e => by cases e) (by kernel_rfl) (fun a hE => ?_))
        obtain ⟨l674, h675, hf⟩ := bind_some hf
        refine takeW 4 (fuel := 3) #[true, false, true, true, true, false, false] (by kernel_rfl) (by kernel_rfl) (by kernel_rfl) (by kernel_rfl) hE (fun M => g_slice (K := (kdInt .u8)) (e := 5) (by_ := 1) (zl := 1) rfl rfl rfl rfl hE rfl rfl (by kernel_rfl) rfl ⟨_, rfl⟩ (h4.mono (Snap.le.trans (Snap.le.trans (Snap.le.trans (Snap.le.trans le551 le561) le569) le589) le604)) h675 (fun a A676 c677 hE h678 => ?_))
        obtain ⟨r679, h680, hf⟩ := bind_some hf
        refine onlyG (i := 1) (fuel := 2) (listed' := #[true, true, true, true, true, false, false]) (by kernel_rfl) (by kernel_rfl) (op_call rfl rfl rfl rfl hE rfl rfl rfl rfl (by kernel_rfl) (wire_Num.calls (g := g) h680 (hS.st.fore (L := [])) ) (fun a v w hR hE => ?_))
        obtain ⟨D681, A683, c684, q685, rfl, hS1, h686⟩ := hR
        refine ⟨hS1.keeps.mono (fun _ h => h), ?_⟩
        have le688 := hS1.dle
        have hS : Stp g w0 D0 [] w D681 [q685, bx b556 49 ([.slice A566 (List.length (r562.2.fB)) c567] ++ ([.int .i64 (r562.2.fBad)]))] := hS.call (L := []) (R := [bx b556 49 ([.slice A566 (List.length (r562.2.fB)) c567] ++ ([.int .i64 (r562.2.fBad)]))]) hS1
        clear hS1
        obtain ⟨D689, le690, hS, h691⟩ := hS.frozen h686
        have hS : Stp g w0 D0 [] w D689 [bx b556 49 ([.slice A566 (List.length (r562.2.fB)) c567] ++ ([.int .i64 (r562.2.fBad)]))] := hS
        obtain ⟨r692, h693, hf⟩ := bind_some hf
        refine onlyG (i := 5) (fuel := 1) (listed' := #[true, true, true, true, true, true, false]) (by kernel_rfl) (by kernel_rfl) (op_call rfl rfl rfl rfl hE rfl rfl rfl rfl (by kernel_rfl) (inspeximusref01_Bytes.calls (g := g) h693 (hS.st.fore (L := [])) h691 (h678.mono (Snap.le.trans le688 le690))) (fun a v w hR hE => ?_))
        obtain ⟨D694, rfl, hS1⟩ := hR
        refine ⟨hS1.keeps.mono (fun _ h => h), ?_⟩
        have le696 := hS1.dle
        have hS : Stp g w0 D0 [] w D694 [bx b556 49 ([.slice A566 (List.length (r562.2.fB)) c567] ++ ([.int .i64 (r562.2.fBad)]))] := hS.call (L := []) (R := [bx b556 49 ([.slice A566 (List.length (r562.2.fB)) c567] ++ ([.int .i64 (r562.2.fBad)]))]) hS1
        clear hS1
        refine takeW 6 (fuel := 0) #[true, true, true, true, true, true, true] (by kernel_rfl) (by kernel_rfl) (by kernel_rfl) (by kernel_rfl) hE (fun M => tk_pure (.bool ((!r692))) hE rfl rfl rfl rfl (fun _ _ _ e => by cases e) (by kernel_rfl) (fun a hE => ?_))
        have hE := hE.weak (E' := [(0, .slice A2 (List.length (x1)) c3), (2, .bool false), (3, .pointer (some ⟨b556, 0, none⟩)), (4, .int .i64 (r562.1)), (5, .int .i64 ((IntKind.wrap .i64 (((List.length (x1) : Nat) : Int) - r600)))), (9, .bool ((!r547))), (12, .bool ((decide ((100 : Int) < ((List.length (x1) : Nat) : Int))))), (19, .bool ((!decide (r585 = (0 : Int))))), (38, .bool ((!r692)))]) (by kernel_rfl)
        refine doneG (by kernel_rfl) ?_
        refine cond_split hE (b := (!r692)) rfl (fun hb => ?_) (fun hb => ?_)
        · replace hf := cond_t hb hf
          clear hb
          refine wpIn_seq ?_
          refine region_at ?_
          refine seg 1 (j := 1) [(0, .slice A2 (List.length (x1)) c3), (2, .bool false), (3, .pointer (some ⟨b556, 0, none⟩)), (4, .int .i64 (r562.1)), (5, .int .i64 ((IntKind.wrap .i64 (((List.length (x1) : Nat) : Int) - r600)))), (9, .bool ((!r547))), (12, .bool ((decide ((100 : Int) < ((List.length (x1) : Nat) : Int))))), (19, .bool ((!decide (r585 = (0 : Int))))), (38, .bool ((!r692)))] hE (by kernel_rfl) rfl (fun a hE => ?_)
          refine at_end rfl ?_
          refine wpIn_ret ?_
          obtain rfl := Option.some.inj hf
          repeat (with_reducible first | refine then_ret ?_ | refine block_ret ?_ | refine qx_ret ?_)
          refine ret_gen ([.bool false]) hE (by rw [show Try.f5.results.toList = [.tmp 2] from rfl]; exact ⟨_, _, rfl, rfl, rfl⟩) ?_
          have hS : Stp g w0 D0 [] w D694 [] := hS.sel [] rfl (by decide)
          exact ⟨_, rfl, D694, rfl, hS⟩
        · replace hf := cond_f hb hf
          clear hb
          refine wpIn_skip ?_
          refine wpIn_seq ?_
          refine wpIn_seq ?_
          refine region_at ?_
          refine seg 1 (j := 1) [(0, .slice A2 (List.length (x1)) c3), (2, .bool false), (3, .pointer (some ⟨b556, 0, none⟩)), (4, .int .i64 (r562.1)), (5, .int .i64 ((IntKind.wrap .i64 (((List.length (x1) : Nat) : Int) - r600)))), (6, .int .i64 ((0 : Int))), (9, .bool ((!r547))), (12, .bool ((decide ((100 : Int) < ((List.length (x1) : Nat) : Int))))), (19, .bool ((!decide (r585 = (0 : Int))))), (38, .bool ((!r692)))] hE (by kernel_rfl) rfl (fun a hE => ?_)
          refine at_end rfl ?_
          obtain ⟨s1018, hf, hs1019⟩ := bind_some hf
          have hS : Stp g w0 D0 [] w D694 [] := hS.sel [] rfl (by decide)
          refine block_loop (fun a w => ∃ (z1015 : Unit), ∃ (D1016 : Snap), Env a 53 [] [] ∧ Stp g w0 D0 [] w D1016 [] ∧ Snap.le D694 D1016 ∧ (Sum.inr z1015) = s1018) (fun k a w => ∃ (y953 : Int), ∃ (D954 : Snap), Env a 53 [] [(0, .slice A2 (List.length (x1)) c3), (5, .int .i64 ((IntKind.wrap .i64 (((List.length (x1) : Nat) : Int) - r600)))), (6, .int .i64 (y953))] ∧ Stp g w0 D0 [] w D954 [] ∧ Snap.le D694 D954 ∧ inspeximuslaw03_WireOne_l1.l K x1 r600 k y953 = some s1018) K ?_ ?_ ?_
          · exact ⟨(0 : Int), D694, hE.weak (by kernel_rfl), hS, Snap.le.refl _, hf⟩
          · clear hE hS hf
            rintro a w ⟨z1015, D1016, hE, hS, le1017, rfl⟩
            have hf := hs1019
            clear hs1019
            refine wpIn_seq ?_
            refine region_at ?_
            refine seg 1 (j := 1) [(2, .bool true)] hE (by kernel_rfl) rfl (fun a hE => ?_)
            refine at_end rfl ?_
            refine wpIn_ret ?_
            obtain rfl := Option.some.inj hf
            repeat (with_reducible first | refine then_ret ?_ | refine block_ret ?_ | refine qx_ret ?_)
            refine ret_gen ([.bool true]) hE (by rw [show Try.f5.results.toList = [.tmp 2] from rfl]; exact ⟨_, _, rfl, rfl, rfl⟩) ?_
            exact ⟨_, rfl, D1016, rfl, hS⟩
          · clear hE hS hf
            rintro k a w ⟨y953, D954, hE, hS, le955, hf⟩
            obtain ⟨k, rfl, hf⟩ := inspeximuslaw03_WireOne_l1.some _ _ hf
            refine ⟨k, rfl, ?_⟩
            unfold inspeximuslaw03_WireOne_l1.b at hf
            refine wpIn_seq ?_
            refine wpIn_seq ?_
            refine region_at ?_
            refine seg 3 (j := 3) [(0, .slice A2 (List.length (x1)) c3), (5, .int .i64 ((IntKind.wrap .i64 (((List.length (x1) : Nat) : Int) - r600)))), (6, .int .i64 (y953)), (41, .bool ((decide (y953 < (IntKind.wrap .i64 (((List.length (x1) : Nat) : Int) - r600))))))] hE (by kernel_rfl) rfl (fun a hE => ?_)
            refine at_end rfl ?_
            refine cond_split hE (b := (decide (y953 < (IntKind.wrap .i64 (((List.length (x1) : Nat) : Int) - r600))))) rfl (fun hb => ?_) (fun hb => ?_)
            · replace hf := cond_t hb hf
              clear hb
              refine wpIn_skip ?_
              refine wpIn_seq ?_
              refine wpIn_block ?_
              refine wpIn_seq ?_
              refine region_at ?_
              refine seg 2 (j := 2) [(0, .slice A2 (List.length (x1)) c3), (5, .int .i64 ((IntKind.wrap .i64 (((List.length (x1) : Nat) : Int) - r600)))), (6, .int .i64 (y953)), (41, .bool ((decide (y953 < (IntKind.wrap .i64 (((List.length (x1) : Nat) : Int) - r600)))))), (44, .slice A2 (List.length (x1)) c3), (45, .int .i64 (y953))] hE (by kernel_rfl) rfl (fun a hE => ?_)
              obtain ⟨l1048, h1049, hf⟩ := bind_some hf
              refine at_op (op_tk hE (g_slice (K := (kdInt .u8)) (e := 5) (by_ := 1) (zl := 1) rfl rfl rfl rfl hE rfl rfl (by kernel_rfl) rfl ⟨_, rfl⟩ (h4.mono (Snap.le.trans (Snap.le.trans (Snap.le.trans (Snap.le.trans (Snap.le.trans (Snap.le.trans (Snap.le.trans (Snap.le.trans le551 le561) le569) le589) le604) le688) le690) le696) le955)) h1049 (fun a A1050 c1051 hE h1052 => ?_))) rfl
              obtain ⟨r1053, h1054, hf⟩ := bind_some hf
              refine at_op (op_call rfl rfl rfl rfl hE rfl rfl rfl rfl (by kernel_rfl) (wire_Read.calls (g := g) h1054 (hS.st.fore (L := [])) h1052) (fun a v w hR hE => ?_)) rfl
              obtain ⟨D1055, b1057, A1059, c1060, rfl, hS1, h1061⟩ := hR
              have le1062 := hS1.dle
              have hS : Stp g w0 D0 [] w D1055 [bx b1057 49 ([.slice A1059 (List.length (r1053.fB)) c1060] ++ ([.int .i64 (r1053.fBad)]))] := hS.call (L := []) (R := []) hS1
              clear hS1
              refine seg 1 (j := 5) [(0, .slice A2 (List.length (x1)) c3), (5, .int .i64 ((IntKind.wrap .i64 (((List.length (x1) : Nat) : Int) - r600)))), (6, .int .i64 (y953)), (7, .pointer (some ⟨b1057, 0, none⟩)), (41, .bool ((decide (y953 < (IntKind.wrap .i64 (((List.length (x1) : Nat) : Int) - r600))))))] hE (by kernel_rfl) rfl (fun a hE => ?_)
              refine at_end rfl ?_
              refine wpIn_seq ?_
              refine region_at ?_
              refine seg 1 (j := 1) [(0, .slice A2 (List.length (x1)) c3), (5, .int .i64 ((IntKind.wrap .i64 (((List.length (x1) : Nat) : Int) - r600)))), (6, .int .i64 (y953)), (7, .pointer (some ⟨b1057, 0, none⟩)), (41, .bool ((decide (y953 < (IntKind.wrap .i64 (((List.length (x1) : Nat) : Int) - r600)))))), (48, .pointer (some ⟨b1057, 0, none⟩))] hE (by kernel_rfl) rfl (fun a hE => ?_)
              obtain ⟨r1063, h1064, hf⟩ := bind_some hf
              refine at_op (op_call rfl rfl rfl rfl hE rfl rfl rfl rfl (by kernel_rfl) (wire_Reader_Num.calls (g := g) h1064 (hS.st.fore (L := [bx b1057 49 ([.slice A1059 (List.length (r1053.fB)) c1060] ++ ([.int .i64 (r1053.fBad)]))])) h1061) (fun a v w hR hE => ?_)) rfl
              obtain ⟨D1065, A1067, c1068, rfl, hS1, h1069⟩ := hR
              have le1070 := hS1.dle
              have hS : Stp g w0 D0 [] w D1065 [bx b1057 49 ([.slice A1067 (List.length (r1063.2.fB)) c1068] ++ ([.int .i64 (r1063.2.fBad)]))] := hS.call (L := [bx b1057 49 ([.slice A1059 (List.length (r1053.fB)) c1060] ++ ([.int .i64 (r1053.fBad)]))]) (R := []) hS1
              clear hS1
              refine at_end rfl ?_
              refine wpIn_seq ?_
              refine region_at ?_
              refine seg 1 (j := 1) [(0, .slice A2 (List.length (x1)) c3), (5, .int .i64 ((IntKind.wrap .i64 (((List.length (x1) : Nat) : Int) - r600)))), (6, .int .i64 (y953)), (7, .pointer (some ⟨b1057, 0, none⟩)), (41, .bool ((decide (y953 < (IntKind.wrap .i64 (((List.length (x1) : Nat) : Int) - r600)))))), (50, .pointer (some ⟨b1057, 0, none⟩))] hE (by kernel_rfl) rfl (fun a hE => ?_)
              obtain ⟨r1071, h1072, hf⟩ := bind_some hf
              refine at_op (op_call rfl rfl rfl rfl hE rfl rfl rfl rfl (by kernel_rfl) (wire_Reader_Bad.calls (g := g) h1072 (hS.st.fore (L := [bx b1057 49 ([.slice A1067 (List.length (r1063.2.fB)) c1068] ++ ([.int .i64 (r1063.2.fBad)]))])) h1069) (fun a v w hR hE => ?_)) rfl
              obtain ⟨D1073, rfl, hS1⟩ := hR
              have le1075 := hS1.dle
              have hS : Stp g w0 D0 [] w D1073 [bx b1057 49 ([.slice A1067 (List.length (r1063.2.fB)) c1068] ++ ([.int .i64 (r1063.2.fBad)]))] := hS.call (L := [bx b1057 49 ([.slice A1067 (List.length (r1063.2.fB)) c1068] ++ ([.int .i64 (r1063.2.fBad)]))]) (R := []) hS1
              clear hS1
              refine seg 1 (j := 3) [(0, .slice A2 (List.length (x1)) c3), (5, .int .i64 ((IntKind.wrap .i64 (((List.length (x1) : Nat) : Int) - r600)))), (6, .int .i64 (y953)), (7, .pointer (some ⟨b1057, 0, none⟩)), (41, .bool ((decide (y953 < (IntKind.wrap .i64 (((List.length (x1) : Nat) : Int) - r600)))))), (52, .bool ((!decide (r1071 = (3 : Int)))))] hE (by kernel_rfl) rfl (fun a hE => ?_)
              refine at_end rfl ?_
              refine cond_split hE (b := (!decide (r1071 = (3 : Int)))) rfl (fun hb => ?_) (fun hb => ?_)
              · replace hf := cond_t hb hf
                clear hb
                refine wpIn_seq ?_
                refine region_at ?_
                refine seg 1 (j := 1) [(0, .slice A2 (List.length (x1)) c3), (2, .bool false), (5, .int .i64 ((IntKind.wrap .i64 (((List.length (x1) : Nat) : Int) - r600)))), (6, .int .i64 (y953)), (7, .pointer (some ⟨b1057, 0, none⟩)), (41, .bool ((decide (y953 < (IntKind.wrap .i64 (((List.length (x1) : Nat) : Int) - r600)))))), (52, .bool ((!decide (r1071 = (3 : Int)))))] hE (by kernel_rfl) rfl (fun a hE => ?_)
                refine at_end rfl ?_
                refine wpIn_ret ?_
                obtain rfl := Option.some.inj hf
                replace hf := hs1019
                obtain rfl := Option.some.inj hf
                repeat (with_reducible first | refine then_ret ?_ | refine block_ret ?_ | refine qx_ret ?_)
                refine ret_gen ([.bool false]) hE (by rw [show Try.f5.results.toList = [.tmp 2] from rfl]; exact ⟨_, _, rfl, rfl, rfl⟩) ?_
                have hS : Stp g w0 D0 [] w D1073 [] := hS.sel [] rfl (by decide)
                exact ⟨_, rfl, D1073, rfl, hS⟩
              · replace hf := cond_f hb hf
                clear hb
                refine wpIn_skip ?_
                refine region_at ?_
                refine seg 3 (j := 3) [(0, .slice A2 (List.length (x1)) c3), (5, .int .i64 ((IntKind.wrap .i64 (((List.length (x1) : Nat) : Int) - r600)))), (6, .int .i64 ((IntKind.wrap .i64 (y953 + (1 : Int))))), (7, .pointer (some ⟨b1057, 0, none⟩)), (41, .bool ((decide (y953 < (IntKind.wrap .i64 (((List.length (x1) : Nat) : Int) - r600)))))), (52, .bool ((!decide (r1071 = (3 : Int)))))] hE (by kernel_rfl) rfl (fun a hE => ?_)
                refine at_end rfl ?_
                have hS : Stp g w0 D0 [] w D1073 [] := hS.sel [] rfl (by decide)
                exact ⟨(IntKind.wrap .i64 (y953 + (1 : Int))), D1073, hE.weak (by kernel_rfl), hS, (Snap.le.trans (Snap.le.trans (Snap.le.trans le955 le1062) le1070) le1075), hf⟩
            · replace hf := cond_f hb hf
              clear hb
              refine wpIn_exit ?_
              obtain rfl := Option.some.inj hf
              exact ⟨(), D954, hE.weak (by kernel_rfl), hS, le955, rfl⟩

set_option maxRecDepth 100000 in
set_option maxHeartbeats 4000000 in
theorem inspeximuslaw03_WireOrder.calls {K : Nat} {g w0 : World} {D0 : Snap} {x1 : Int} {x2 : Int} {r : (Bool)} (hf : inspeximuslaw03_WireOrder.f K x1 x2 = some r) (hS0 : St g w0 D0 []) :
    CallsIn (Fw none) 0 Try.prog 6 (List.toArray [.int .i64 (x1), .int .i64 (x2)]) w0 (fun e w' => ∃ v, e = .returned v ∧ ∃ (D1 : Snap), v = .bool (r) ∧ Stp g w0 D0 [] w' D1 []) := by
  unfold inspeximuslaw03_WireOrder.f at hf
  have hS := Stp.refl hS0
  clear hS0
  refine calls_body (n := 51) Try.func6 rfl Try.ntmps6 rfl (fun a hE => ?_)
  have hE : Env a 51 [] [(0, .int .i64 (x1)), (1, .int .i64 (x2))] := hE
  refine wpIn_seq ?_
  refine region_at ?_
  refine seg 1 (j := 1) [(0, .int .i64 (x1)), (1, .int .i64 (x2)), (4, .bool false)] hE (by kernel_rfl) rfl (fun a hE => ?_)
  refine at_end rfl ?_
  refine wpIn_seq ?_
  refine wpIn_seq ?_
  refine region_at ?_
  obtain ⟨r70, h71, hf⟩ := bind_some hf
  refine at_op (op_call rfl rfl rfl rfl hE rfl rfl rfl rfl (by kernel_rfl) (inspeximuslaw03_alive.calls (g := g) h71 (hS.st.fore (L := [])) ) (fun a v w hR hE => ?_)) rfl
  obtain ⟨D72, rfl, hS1⟩ := hR
  have le74 := hS1.dle
  have hS : Stp g w0 D0 [] w D72 [] := hS.call (L := []) (R := []) hS1
  clear hS1
  refine seg 1 (j := 2) [(0, .int .i64 (x1)), (1, .int .i64 (x2)), (4, .bool false), (8, .bool ((!r70)))] hE (by kernel_rfl) rfl (fun a hE => ?_)
  refine at_end rfl ?_
  refine cond_split hE (b := (!r70)) rfl (fun hb => ?_) (fun hb => ?_)
  · replace hf := cond_t hb hf
    clear hb
    refine wpIn_seq ?_
    refine region_at ?_
    refine seg 1 (j := 1) [(0, .int .i64 (x1)), (1, .int .i64 (x2)), (4, .bool false), (8, .bool ((!r70)))] hE (by kernel_rfl) rfl (fun a hE => ?_)
    refine at_end rfl ?_
    refine wpIn_ret ?_
    obtain rfl := Option.some.inj hf
    repeat (with_reducible first | refine then_ret ?_ | refine block_ret ?_ | refine qx_ret ?_)
    refine ret_gen ([.bool false]) hE (by rw [show Try.f6.results.toList = [.tmp 4] from rfl]; exact ⟨_, _, rfl, rfl, rfl⟩) ?_
    exact ⟨_, rfl, D72, rfl, hS⟩
  · replace hf := cond_f hb hf
    clear hb
    refine wpIn_skip ?_
    refine wpIn_seq ?_
    obtain ⟨j125, hj126, hf⟩ := jn_elim hf
    refine seq_join (fun a w => ∃ (y80 : Bool), ∃ (D81 : Snap), Env a 51 [] [(0, .int .i64 (x1)), (1, .int .i64 (x2)), (19, .bool (y80))] ∧ Stp g w0 D0 [] w D81 [] ∧ Snap.le D72 D81 ∧ j125 y80 = some r) ?_ ?_
    · clear hj126
      refine region_at ?_
      refine seg 3 (j := 3) [(0, .int .i64 (x1)), (1, .int .i64 (x2)), (4, .bool false), (8, .bool ((!r70))), (11, .bool ((decide (x1 < (0 : Int)))))] hE (by kernel_rfl) rfl (fun a hE => ?_)
      cases hb : (decide (x1 < (0 : Int)))
      · replace hf := cond_f hb hf
        have hE := hE.know (t := 11) (b := (decide (x1 < (0 : Int)))) (b' := false) rfl hb
        clear hb
        refine seg 5 (j := 8) [(0, .int .i64 (x1)), (1, .int .i64 (x2)), (4, .bool false), (8, .bool ((!r70))), (16, .bool ((decide (x2 < x1))))] hE (by kernel_rfl) rfl (fun a hE => ?_)
        cases hb : (decide (x2 < x1))
        · replace hf := cond_f hb hf
          have hE := hE.know (t := 16) (b := (decide (x2 < x1))) (b' := false) rfl hb
          clear hb
          refine seg 3 (j := 11) [(0, .int .i64 (x1)), (1, .int .i64 (x2)), (4, .bool false), (8, .bool ((!r70))), (19, .bool ((decide ((2147483647 : Int) < x2))))] hE (by kernel_rfl) rfl (fun a hE => ?_)
          refine at_end rfl ?_
          exact ⟨(decide ((2147483647 : Int) < x2)), D72, hE.weak (by kernel_rfl), hS, Snap.le.refl _, hf⟩
        · replace hf := cond_t hb hf
          have hE := hE.know (t := 16) (b := (decide (x2 < x1))) (b' := true) rfl hb
          clear hb
          refine seg 3 (j := 11) [(0, .int .i64 (x1)), (1, .int .i64 (x2)), (4, .bool false), (8, .bool ((!r70))), (19, .bool true)] hE (by kernel_rfl) rfl (fun a hE => ?_)
          refine at_end rfl ?_
          exact ⟨true, D72, hE.weak (by kernel_rfl), hS, Snap.le.refl _, hf⟩
      · replace hf := cond_t hb hf
        have hE := hE.know (t := 11) (b := (decide (x1 < (0 : Int)))) (b' := true) rfl hb
        clear hb
        refine seg 8 (j := 11) [(0, .int .i64 (x1)), (1, .int .i64 (x2)), (4, .bool false), (8, .bool ((!r70))), (19, .bool true)] hE (by kernel_rfl) rfl (fun a hE => ?_)
        refine at_end rfl ?_
        exact ⟨true, D72, hE.weak (by kernel_rfl), hS, Snap.le.refl _, hf⟩
    · clear hE hS
      rintro a w ⟨y80, D81, hE, hS, le82, hf⟩
      replace hf := hj126 _ hf
      clear hj126
      refine cond_split hE (b := y80) rfl (fun hb => ?_) (fun hb => ?_)
      · replace hf := cond_t hb hf
        clear hb
        refine wpIn_seq ?_
        refine region_at ?_
        refine seg 1 (j := 1) [(0, .int .i64 (x1)), (1, .int .i64 (x2)), (4, .bool true), (19, .bool (y80))] hE (by kernel_rfl) rfl (fun a hE => ?_)
        refine at_end rfl ?_
        refine wpIn_ret ?_
        obtain rfl := Option.some.inj hf
        repeat (with_reducible first | refine then_ret ?_ | refine block_ret ?_ | refine qx_ret ?_)
        refine ret_gen ([.bool true]) hE (by rw [show Try.f6.results.toList = [.tmp 4] from rfl]; exact ⟨_, _, rfl, rfl, rfl⟩) ?_
        exact ⟨_, rfl, D81, rfl, hS⟩
      · replace hf := cond_f hb hf
        clear hb
        refine wpIn_skip ?_
        refine wpIn_seq ?_
        refine region_at ?_
        refine seg 1 (j := 1) [(0, .int .i64 (x1)), (1, .int .i64 (x2)), (19, .bool (y80)), (20, .int .i64 (x1))] hE (by kernel_rfl) rfl (fun a hE => ?_)
        obtain ⟨r83, h84, hf⟩ := bind_some hf
        refine at_op (op_call rfl rfl rfl rfl hE rfl rfl rfl rfl (by kernel_rfl) (wire_Num.calls (g := g) h84 (hS.st.fore (L := [])) ) (fun a v w hR hE => ?_)) rfl
        obtain ⟨D85, A87, c88, q89, rfl, hS1, h90⟩ := hR
        have le92 := hS1.dle
        have hS : Stp g w0 D0 [] w D85 [q89] := hS.call (L := []) (R := []) hS1
        clear hS1
        refine seg 1 (j := 3) [(0, .int .i64 (x1)), (1, .int .i64 (x2)), (19, .bool (y80)), (21, .slice A87 (List.length (r83)) c88), (22, .int .i64 (x2))] hE (by kernel_rfl) rfl (fun a hE => ?_)
        obtain ⟨r93, h94, hf⟩ := bind_some hf
        refine at_op (op_call rfl rfl rfl rfl hE rfl rfl rfl rfl (by kernel_rfl) (wire_Num.calls (g := g) h94 (hS.st.fore (L := [])) ) (fun a v w hR hE => ?_)) rfl
        obtain ⟨D95, A97, c98, q99, rfl, hS1, h100⟩ := hR
        have le102 := hS1.dle
        have hS : Stp g w0 D0 [] w D95 [q99, q89] := hS.call (L := []) (R := [q89]) hS1
        clear hS1
        refine seg 2 (j := 6) [(0, .int .i64 (x1)), (1, .int .i64 (x2)), (5, .slice A87 (List.length (r83)) c88), (6, .slice A97 (List.length (r93)) c98), (19, .bool (y80))] hE (by kernel_rfl) rfl (fun a hE => ?_)
        refine at_end rfl ?_
        refine wpIn_seq ?_
        obtain ⟨j123, hj124, hf⟩ := jn_elim hf
        refine seq_join (fun a w => ∃ (y108 : Bool), ∃ (D109 : Snap), Env a 51 [] [(5, .slice A87 (List.length (r83)) c88), (6, .slice A97 (List.length (r93)) c98), (38, .bool (y108))] ∧ Stp g w0 D0 [] w D109 [q89, q99] ∧ Snap.le D95 D109 ∧ j123 y108 = some r) ?_ ?_
        · clear hj124
          refine region_at ?_
          refine seg 4 (j := 4) [(0, .int .i64 (x1)), (1, .int .i64 (x2)), (5, .slice A87 (List.length (r83)) c88), (6, .slice A97 (List.length (r93)) c98), (19, .bool (y80)), (27, .bool ((decide (((List.length (r83) : Nat) : Int) = (0 : Int)))))] hE (by kernel_rfl) rfl (fun a hE => ?_)
          cases hb : (decide (((List.length (r83) : Nat) : Int) = (0 : Int)))
          · replace hf := cond_f hb hf
            have hE := hE.know (t := 27) (b := (decide (((List.length (r83) : Nat) : Int) = (0 : Int)))) (b' := false) rfl hb
            clear hb
            refine seg 7 (j := 11) [(0, .int .i64 (x1)), (1, .int .i64 (x2)), (5, .slice A87 (List.length (r83)) c88), (6, .slice A97 (List.length (r93)) c98), (19, .bool (y80)), (34, .bool ((decide (((List.length (r93) : Nat) : Int) < ((List.length (r83) : Nat) : Int)))))] hE (by kernel_rfl) rfl (fun a hE => ?_)
            cases hb : (decide (((List.length (r93) : Nat) : Int) < ((List.length (r83) : Nat) : Int)))
            · replace hf := cond_f hb hf
              have hE := hE.know (t := 34) (b := (decide (((List.length (r93) : Nat) : Int) < ((List.length (r83) : Nat) : Int)))) (b' := false) rfl hb
              clear hb
              refine seg 4 (j := 15) [(0, .int .i64 (x1)), (1, .int .i64 (x2)), (5, .slice A87 (List.length (r83)) c88), (6, .slice A97 (List.length (r93)) c98), (19, .bool (y80)), (38, .bool ((decide ((5 : Int) < ((List.length (r93) : Nat) : Int)))))] hE (by kernel_rfl) rfl (fun a hE => ?_)
              refine at_end rfl ?_
              have hS : Stp g w0 D0 [] w D95 [q89, q99] := hS.sel [1, 0] rfl (by decide)
              exact ⟨(decide ((5 : Int) < ((List.length (r93) : Nat) : Int))), D95, hE.weak (by kernel_rfl), hS, Snap.le.refl _, hf⟩
            · replace hf := cond_t hb hf
              have hE := hE.know (t := 34) (b := (decide (((List.length (r93) : Nat) : Int) < ((List.length (r83) : Nat) : Int)))) (b' := true) rfl hb
              clear hb
              refine seg 4 (j := 15) [(0, .int .i64 (x1)), (1, .int .i64 (x2)), (5, .slice A87 (List.length (r83)) c88), (6, .slice A97 (List.length (r93)) c98), (19, .bool (y80)), (38, .bool true)] hE (by kernel_rfl) rfl (fun a hE => ?_)
              refine at_end rfl ?_
              have hS : Stp g w0 D0 [] w D95 [q89, q99] := hS.sel [1, 0] rfl (by decide)
              exact ⟨true, D95, hE.weak (by kernel_rfl), hS, Snap.le.refl _, hf⟩
          · replace hf := cond_t hb hf
            have hE := hE.know (t := 27) (b := (decide (((List.length (r83) : Nat) : Int) = (0 : Int)))) (b' := true) rfl hb
            clear hb
            refine seg 11 (j := 15) [(0, .int .i64 (x1)), (1, .int .i64 (x2)), (5, .slice A87 (List.length (r83)) c88), (6, .slice A97 (List.length (r93)) c98), (19, .bool (y80)), (38, .bool true)] hE (by kernel_rfl) rfl (fun a hE => ?_)
            refine at_end rfl ?_
            have hS : Stp g w0 D0 [] w D95 [q89, q99] := hS.sel [1, 0] rfl (by decide)
            exact ⟨true, D95, hE.weak (by kernel_rfl), hS, Snap.le.refl _, hf⟩
        · clear hE hS
          rintro a w ⟨y108, D109, hE, hS, le110, hf⟩
          replace hf := hj124 _ hf
          clear hj124
          refine cond_split hE (b := y108) rfl (fun hb => ?_) (fun hb => ?_)
          · replace hf := cond_t hb hf
            clear hb
            refine wpIn_seq ?_
            refine region_at ?_
            refine seg 1 (j := 1) [(4, .bool false), (5, .slice A87 (List.length (r83)) c88), (6, .slice A97 (List.length (r93)) c98), (38, .bool (y108))] hE (by kernel_rfl) rfl (fun a hE => ?_)
            refine at_end rfl ?_
            refine wpIn_ret ?_
            obtain rfl := Option.some.inj hf
            repeat (with_reducible first | refine then_ret ?_ | refine block_ret ?_ | refine qx_ret ?_)
            refine ret_gen ([.bool false]) hE (by rw [show Try.f6.results.toList = [.tmp 4] from rfl]; exact ⟨_, _, rfl, rfl, rfl⟩) ?_
            have hS : Stp g w0 D0 [] w D109 [] := hS.sel [] rfl (by decide)
            exact ⟨_, rfl, D109, rfl, hS⟩
          · replace hf := cond_f hb hf
            clear hb
            refine wpIn_skip ?_
            refine wpIn_seq ?_
            refine region_at ?_
            refine seg 6 (j := 6) [(5, .slice A87 (List.length (r83)) c88), (6, .slice A97 (List.length (r93)) c98), (38, .bool (y108)), (44, .bool ((decide (((List.length (r83) : Nat) : Int) < ((List.length (r93) : Nat) : Int)))))] hE (by kernel_rfl) rfl (fun a hE => ?_)
            cases hb : (decide (((List.length (r83) : Nat) : Int) < ((List.length (r93) : Nat) : Int)))
            · replace hf := cond_f hb hf
              have hE := hE.know (t := 44) (b := (decide (((List.length (r83) : Nat) : Int) < ((List.length (r93) : Nat) : Int)))) (b' := false) rfl hb
              clear hb
              refine seg 1 (j := 7) [(5, .slice A87 (List.length (r83)) c88), (6, .slice A97 (List.length (r93)) c98), (38, .bool (y108)), (44, .bool false), (45, .slice A87 (List.length (r83)) c88)] hE (by kernel_rfl) rfl (fun a hE => ?_)
              obtain ⟨D117, le118, hS, h119⟩ := hS.frozen (h90.mono (Snap.le.trans le102 le110))
              have hS : Stp g w0 D0 [] w D117 [q99] := hS
              refine at_op (op_tk hE (tk_b2s rfl rfl rfl rfl hE rfl hS rfl (by kernel_rfl) h119 (fun _ h => absurd h List.not_mem_nil) (fun a hE => ?_))) rfl
              refine seg 1 (j := 9) [(5, .slice A87 (List.length (r83)) c88), (6, .slice A97 (List.length (r93)) c98), (38, .bool (y108)), (44, .bool false), (46, .string (bofL (r83))), (47, .slice A97 (List.length (r93)) c98)] hE (by kernel_rfl) rfl (fun a hE => ?_)
              obtain ⟨D120, le121, hS, h122⟩ := hS.frozen (h100.mono (Snap.le.trans le110 le118))
              have hS : Stp g w0 D0 [] w D120 [] := hS
              refine at_op (op_tk hE (tk_b2s rfl rfl rfl rfl hE rfl hS rfl (by kernel_rfl) h122 (fun _ h => absurd h List.not_mem_nil) (fun a hE => ?_))) rfl
              refine at_op (op_tk hE (tk_bin (r := .bool (((Op.bytesLess (ByteArray.toList (bofL (r83))) (ByteArray.toList (bofL (r93)))) || (ByteArray.toList (bofL (r83)) == ByteArray.toList (bofL (r93)))))) rfl rfl rfl rfl hE rfl rfl rfl (fun w => bstr_run _ _ w _ rfl (by decide)) (fun a hE => ?_))) rfl
              refine seg 2 (j := 13) [(4, .bool (((Op.bytesLess (ByteArray.toList (bofL (r83))) (ByteArray.toList (bofL (r93)))) || (ByteArray.toList (bofL (r83)) == ByteArray.toList (bofL (r93)))))), (5, .slice A87 (List.length (r83)) c88), (6, .slice A97 (List.length (r93)) c98), (38, .bool (y108))] hE (by kernel_rfl) rfl (fun a hE => ?_)
              refine at_end rfl ?_
              refine wpIn_ret ?_
              obtain rfl := Option.some.inj hf
              repeat (with_reducible first | refine then_ret ?_ | refine block_ret ?_ | refine qx_ret ?_)
              refine ret_gen ([.bool (((Op.bytesLess (ByteArray.toList (bofL (r83))) (ByteArray.toList (bofL (r93)))) || (ByteArray.toList (bofL (r83)) == ByteArray.toList (bofL (r93)))))]) hE (by rw [show Try.f6.results.toList = [.tmp 4] from rfl]; exact ⟨_, _, rfl, rfl, rfl⟩) ?_
              exact ⟨_, rfl, D120, rfl, hS⟩
            · replace hf := cond_t hb hf
              have hE := hE.know (t := 44) (b := (decide (((List.length (r83) : Nat) : Int) < ((List.length (r93) : Nat) : Int)))) (b' := true) rfl hb
              clear hb
              refine seg 7 (j := 13) [(4, .bool true), (5, .slice A87 (List.length (r83)) c88), (6, .slice A97 (List.length (r93)) c98), (38, .bool (y108))] hE (by kernel_rfl) rfl (fun a hE => ?_)
              refine at_end rfl ?_
              refine wpIn_ret ?_
              obtain rfl := Option.some.inj hf
              repeat (with_reducible first | refine then_ret ?_ | refine block_ret ?_ | refine qx_ret ?_)
              refine ret_gen ([.bool true]) hE (by rw [show Try.f6.results.toList = [.tmp 4] from rfl]; exact ⟨_, _, rfl, rfl, rfl⟩) ?_
              have hS : Stp g w0 D0 [] w D109 [] := hS.sel [] rfl (by decide)
              exact ⟨_, rfl, D109, rfl, hS⟩

set_option maxRecDepth 100000 in
set_option maxHeartbeats 4000000 in
theorem inspeximuslaw03_WireFails.calls {K : Nat} {g w0 : World} {D0 : Snap} {x1 : (List Int)} {x5 : Int} {A2 : Option Addr} {c3 : Nat} {r : (Bool)} (hf : inspeximuslaw03_WireFails.f K x1 x5 = some r) (hS0 : St g w0 D0 []) (h4 : Sl (kdInt .u8) D0 A2 c3 (x1)) :
    CallsIn (Fw none) 0 Try.prog 7 (List.toArray [.slice A2 (List.length (x1)) c3, .int .u8 (x5)]) w0 (fun e w' => ∃ v, e = .returned v ∧ ∃ (D1 : Snap), v = .bool (r) ∧ Stp g w0 D0 [] w' D1 []) := by
  unfold inspeximuslaw03_WireFails.f at hf
  have hS := Stp.refl hS0
  clear hS0
  refine calls_body (n := 67) Try.func7 rfl Try.ntmps7 rfl (fun a hE => ?_)
  have hE : Env a 67 [] [(0, .slice A2 (List.length (x1)) c3), (1, .int .u8 (x5))] := hE
  refine wpIn_seq ?_
  refine region_at ?_
  refine seg 1 (j := 1) [(0, .slice A2 (List.length (x1)) c3), (1, .int .u8 (x5)), (4, .bool false)] hE (by kernel_rfl) rfl (fun a hE => ?_)
  refine at_end rfl ?_
  refine wpIn_seq ?_
  refine wpIn_seq ?_
  refine region_at ?_
  obtain ⟨r153, h154, hf⟩ := bind_some hf
  refine at_op (op_call rfl rfl rfl rfl hE rfl rfl rfl rfl (by kernel_rfl) (inspeximuslaw03_alive.calls (g := g) h154 (hS.st.fore (L := [])) ) (fun a v w hR hE => ?_)) rfl
  obtain ⟨D155, rfl, hS1⟩ := hR
  have le157 := hS1.dle
  have hS : Stp g w0 D0 [] w D155 [] := hS.call (L := []) (R := []) hS1
  clear hS1
  refine seg 1 (j := 2) [(0, .slice A2 (List.length (x1)) c3), (1, .int .u8 (x5)), (4, .bool false), (8, .bool ((!r153)))] hE (by kernel_rfl) rfl (fun a hE => ?_)
  refine at_end rfl ?_
  refine cond_split hE (b := (!r153)) rfl (fun hb => ?_) (fun hb => ?_)
  · replace hf := cond_t hb hf
    clear hb
    refine wpIn_seq ?_
    refine region_at ?_
    refine seg 1 (j := 1) [(0, .slice A2 (List.length (x1)) c3), (1, .int .u8 (x5)), (4, .bool false), (8, .bool ((!r153)))] hE (by kernel_rfl) rfl (fun a hE => ?_)
    refine at_end rfl ?_
    refine wpIn_ret ?_
    obtain rfl := Option.some.inj hf
    repeat (with_reducible first | refine then_ret ?_ | refine block_ret ?_ | refine qx_ret ?_)
    refine ret_gen ([.bool false]) hE (by rw [show Try.f7.results.toList = [.tmp 4] from rfl]; exact ⟨_, _, rfl, rfl, rfl⟩) ?_
    exact ⟨_, rfl, D155, rfl, hS⟩
  · replace hf := cond_f hb hf
    clear hb
    refine wpIn_skip ?_
    refine wpIn_seq ?_
    refine wpIn_seq ?_
    refine region_at ?_
    refine seg 3 (j := 3) [(0, .slice A2 (List.length (x1)) c3), (1, .int .u8 (x5)), (4, .bool false), (8, .bool ((!r153))), (11, .bool ((decide ((200 : Int) < ((List.length (x1) : Nat) : Int)))))] hE (by kernel_rfl) rfl (fun a hE => ?_)
    refine at_end rfl ?_
    refine cond_split hE (b := (decide ((200 : Int) < ((List.length (x1) : Nat) : Int)))) rfl (fun hb => ?_) (fun hb => ?_)
    · replace hf := cond_t hb hf
      clear hb
      refine wpIn_seq ?_
      refine region_at ?_
      refine seg 1 (j := 1) [(0, .slice A2 (List.length (x1)) c3), (1, .int .u8 (x5)), (4, .bool true), (8, .bool ((!r153))), (11, .bool ((decide ((200 : Int) < ((List.length (x1) : Nat) : Int)))))] hE (by kernel_rfl) rfl (fun a hE => ?_)
      refine at_end rfl ?_
      refine wpIn_ret ?_
      obtain rfl := Option.some.inj hf
      repeat (with_reducible first | refine then_ret ?_ | refine block_ret ?_ | refine qx_ret ?_)
      refine ret_gen ([.bool true]) hE (by rw [show Try.f7.results.toList = [.tmp 4] from rfl]; exact ⟨_, _, rfl, rfl, rfl⟩) ?_
      exact ⟨_, rfl, D155, rfl, hS⟩
    · replace hf := cond_f hb hf
      clear hb
      refine wpIn_skip ?_
      refine wpIn_seq ?_
      refine region_at ?_
      refine seg 1 (j := 1) [(0, .slice A2 (List.length (x1)) c3), (1, .int .u8 (x5)), (4, .bool false), (8, .bool ((!r153))), (11, .bool ((decide ((200 : Int) < ((List.length (x1) : Nat) : Int))))), (12, .slice A2 (List.length (x1)) c3)] hE (by kernel_rfl) rfl (fun a hE => ?_)
      obtain ⟨r158, h159, hf⟩ := bind_some hf
      refine at_op (op_call rfl rfl rfl rfl hE rfl rfl rfl rfl (by kernel_rfl) (wire_Read.calls (g := g) h159 (hS.st.fore (L := [])) (h4.mono le157)) (fun a v w hR hE => ?_)) rfl
      obtain ⟨D160, b162, A164, c165, rfl, hS1, h166⟩ := hR
      have le167 := hS1.dle
      have hS : Stp g w0 D0 [] w D160 [bx b162 49 ([.slice A164 (List.length (r158.fB)) c165] ++ ([.int .i64 (r158.fBad)]))] := hS.call (L := []) (R := []) hS1
      clear hS1
      refine seg 1 (j := 3) [(0, .slice A2 (List.length (x1)) c3), (1, .int .u8 (x5)), (4, .bool false), (5, .pointer (some ⟨b162, 0, none⟩)), (8, .bool ((!r153))), (11, .bool ((decide ((200 : Int) < ((List.length (x1) : Nat) : Int)))))] hE (by kernel_rfl) rfl (fun a hE => ?_)
      refine at_end rfl ?_
      refine wpIn_seq ?_
      refine region_at ?_
      refine seg 5 (j := 5) [(0, .slice A2 (List.length (x1)) c3), (1, .int .u8 (x5)), (4, .bool false), (5, .pointer (some ⟨b162, 0, none⟩)), (8, .bool ((!r153))), (11, .bool ((decide ((200 : Int) < ((List.length (x1) : Nat) : Int))))), (14, .pointer (some ⟨b162, 0, none⟩)), (18, .int .i64 ((IntKind.wrap .i64 ((1 : Int) + (IntKind.wrap .i64 (Int.tmod x5 12))))))] hE (by kernel_rfl) rfl (fun a hE => ?_)
      obtain ⟨r168, h169, hf⟩ := bind_some hf
      refine at_op (op_call rfl rfl rfl rfl hE rfl rfl rfl rfl (by kernel_rfl) (wire_Reader_Fail.calls (g := g) h169 (hS.st.fore (L := [bx b162 49 ([.slice A164 (List.length (r158.fB)) c165] ++ ([.int .i64 (r158.fBad)]))])) h166) (fun a v w hR hE => ?_)) rfl
      obtain ⟨D170, A172, c173, rfl, hS1, h174⟩ := hR
      have le175 := hS1.dle
      have hS : Stp g w0 D0 [] w D170 [bx b162 49 ([.slice A172 (List.length (r168.fB)) c173] ++ ([.int .i64 (r168.fBad)]))] := hS.call (L := [bx b162 49 ([.slice A164 (List.length (r158.fB)) c165] ++ ([.int .i64 (r158.fBad)]))]) (R := []) hS1
      clear hS1
      refine at_end rfl ?_
      refine wpIn_seq ?_
      refine region_at ?_
      refine seg 1 (j := 1) [(0, .slice A2 (List.length (x1)) c3), (1, .int .u8 (x5)), (4, .bool false), (5, .pointer (some ⟨b162, 0, none⟩)), (8, .bool ((!r153))), (11, .bool ((decide ((200 : Int) < ((List.length (x1) : Nat) : Int))))), (20, .pointer (some ⟨b162, 0, none⟩))] hE (by kernel_rfl) rfl (fun a hE => ?_)
      obtain ⟨r176, h177, hf⟩ := bind_some hf
      refine at_op (op_call rfl rfl rfl rfl hE rfl rfl rfl rfl (by kernel_rfl) (wire_Reader_Bad.calls (g := g) h177 (hS.st.fore (L := [bx b162 49 ([.slice A172 (List.length (r168.fB)) c173] ++ ([.int .i64 (r168.fBad)]))])) h174) (fun a v w hR hE => ?_)) rfl
      obtain ⟨D178, rfl, hS1⟩ := hR
      have le180 := hS1.dle
      have hS : Stp g w0 D0 [] w D178 [bx b162 49 ([.slice A172 (List.length (r168.fB)) c173] ++ ([.int .i64 (r168.fBad)]))] := hS.call (L := [bx b162 49 ([.slice A172 (List.length (r168.fB)) c173] ++ ([.int .i64 (r168.fBad)]))]) (R := []) hS1
      clear hS1
      refine seg 1 (j := 3) [(0, .slice A2 (List.length (x1)) c3), (1, .int .u8 (x5)), (4, .bool false), (5, .pointer (some ⟨b162, 0, none⟩)), (6, .int .i64 (r176)), (8, .bool ((!r153))), (11, .bool ((decide ((200 : Int) < ((List.length (x1) : Nat) : Int)))))] hE (by kernel_rfl) rfl (fun a hE => ?_)
      refine at_end rfl ?_
      obtain ⟨j236, hj237, hf⟩ := jn_elim hf
      refine seq_join (fun a w => ∃ (y233 : Bool), ∃ (D234 : Snap), Env a 67 [] [(4, .bool (y233))] ∧ Stp g w0 D0 [] w D234 [] ∧ Snap.le D178 D234 ∧ j236 y233 = some r) ?_ ?_
      · clear hj237
        refine region_at ?_
        refine seg 7 (j := 7) [(0, .slice A2 (List.length (x1)) c3), (1, .int .u8 (x5)), (4, .bool false), (5, .pointer (some ⟨b162, 0, none⟩)), (6, .int .i64 (r176)), (8, .bool ((!r153))), (11, .bool ((decide ((200 : Int) < ((List.length (x1) : Nat) : Int))))), (28, .bool ((decide (r176 = (IntKind.wrap .i64 ((1 : Int) + (IntKind.wrap .i64 (Int.tmod x5 12))))))))] hE (by kernel_rfl) rfl (fun a hE => ?_)
        cases hb : (decide (r176 = (IntKind.wrap .i64 ((1 : Int) + (IntKind.wrap .i64 (Int.tmod x5 12))))))
        · replace hf := cond_f hb hf
          have hE := hE.know (t := 28) (b := (decide (r176 = (IntKind.wrap .i64 ((1 : Int) + (IntKind.wrap .i64 (Int.tmod x5 12))))))) (b' := false) rfl hb
          clear hb
          refine seg 39 (j := 46) [(0, .slice A2 (List.length (x1)) c3), (1, .int .u8 (x5)), (4, .bool false), (5, .pointer (some ⟨b162, 0, none⟩)), (6, .int .i64 (r176)), (8, .bool ((!r153))), (11, .bool ((decide ((200 : Int) < ((List.length (x1) : Nat) : Int)))))] hE (by kernel_rfl) rfl (fun a hE => ?_)
          refine at_end rfl ?_
          have hS : Stp g w0 D0 [] w D178 [] := hS.sel [] rfl (by decide)
          exact ⟨false, D178, hE.weak (by kernel_rfl), hS, Snap.le.refl _, hf⟩
        · replace hf := cond_t hb hf
          have hE := hE.know (t := 28) (b := (decide (r176 = (IntKind.wrap .i64 ((1 : Int) + (IntKind.wrap .i64 (Int.tmod x5 12))))))) (b' := true) rfl hb
          clear hb
          refine seg 1 (j := 8) [(0, .slice A2 (List.length (x1)) c3), (1, .int .u8 (x5)), (4, .bool false), (5, .pointer (some ⟨b162, 0, none⟩)), (6, .int .i64 (r176)), (8, .bool ((!r153))), (11, .bool ((decide ((200 : Int) < ((List.length (x1) : Nat) : Int))))), (28, .bool true), (29, .pointer (some ⟨b162, 0, none⟩))] hE (by kernel_rfl) rfl (fun a hE => ?_)
          obtain ⟨r238, h239, hf⟩ := bind_some hf
          refine at_op (op_call rfl rfl rfl rfl hE rfl rfl rfl rfl (by kernel_rfl) (wire_Reader_Num.calls (g := g) h239 (hS.st.fore (L := [bx b162 49 ([.slice A172 (List.length (r168.fB)) c173] ++ ([.int .i64 (r168.fBad)]))])) (h174.mono le180)) (fun a v w hR hE => ?_)) rfl
          obtain ⟨D240, A242, c243, rfl, hS1, h244⟩ := hR
          have le245 := hS1.dle
          have hS : Stp g w0 D0 [] w D240 [bx b162 49 ([.slice A242 (List.length (r238.2.fB)) c243] ++ ([.int .i64 (r238.2.fBad)]))] := hS.call (L := [bx b162 49 ([.slice A172 (List.length (r168.fB)) c173] ++ ([.int .i64 (r168.fBad)]))]) (R := []) hS1
          clear hS1
          refine seg 3 (j := 12) [(0, .slice A2 (List.length (x1)) c3), (1, .int .u8 (x5)), (4, .bool false), (5, .pointer (some ⟨b162, 0, none⟩)), (6, .int .i64 (r176)), (8, .bool ((!r153))), (11, .bool ((decide ((200 : Int) < ((List.length (x1) : Nat) : Int))))), (33, .bool ((decide (r238.1 = (0 : Int)))))] hE (by kernel_rfl) rfl (fun a hE => ?_)
          cases hb : (decide (r238.1 = (0 : Int)))
          · replace hf := cond_f hb hf
            have hE := hE.know (t := 33) (b := (decide (r238.1 = (0 : Int)))) (b' := false) rfl hb
            clear hb
            refine seg 34 (j := 46) [(0, .slice A2 (List.length (x1)) c3), (1, .int .u8 (x5)), (4, .bool false), (5, .pointer (some ⟨b162, 0, none⟩)), (6, .int .i64 (r176)), (8, .bool ((!r153))), (11, .bool ((decide ((200 : Int) < ((List.length (x1) : Nat) : Int)))))] hE (by kernel_rfl) rfl (fun a hE => ?_)
            refine at_end rfl ?_
            have hS : Stp g w0 D0 [] w D240 [] := hS.sel [] rfl (by decide)
            exact ⟨false, D240, hE.weak (by kernel_rfl), hS, le245, hf⟩
          · replace hf := cond_t hb hf
            have hE := hE.know (t := 33) (b := (decide (r238.1 = (0 : Int)))) (b' := true) rfl hb
            clear hb
            refine seg 1 (j := 13) [(0, .slice A2 (List.length (x1)) c3), (1, .int .u8 (x5)), (4, .bool false), (5, .pointer (some ⟨b162, 0, none⟩)), (6, .int .i64 (r176)), (8, .bool ((!r153))), (11, .bool ((decide ((200 : Int) < ((List.length (x1) : Nat) : Int))))), (33, .bool true), (34, .pointer (some ⟨b162, 0, none⟩))] hE (by kernel_rfl) rfl (fun a hE => ?_)
            obtain ⟨r246, h247, hf⟩ := bind_some hf
            refine at_op (op_call rfl rfl rfl rfl hE rfl rfl rfl rfl (by kernel_rfl) (wire_Reader_Flag.calls (g := g) h247 (hS.st.fore (L := [bx b162 49 ([.slice A242 (List.length (r238.2.fB)) c243] ++ ([.int .i64 (r238.2.fBad)]))])) h244) (fun a v w hR hE => ?_)) rfl
            obtain ⟨D248, A250, c251, rfl, hS1, h252⟩ := hR
            have le253 := hS1.dle
            have hS : Stp g w0 D0 [] w D248 [bx b162 49 ([.slice A250 (List.length (r246.2.fB)) c251] ++ ([.int .i64 (r246.2.fBad)]))] := hS.call (L := [bx b162 49 ([.slice A242 (List.length (r238.2.fB)) c243] ++ ([.int .i64 (r238.2.fBad)]))]) (R := []) hS1
            clear hS1
            refine seg 3 (j := 17) [(0, .slice A2 (List.length (x1)) c3), (1, .int .u8 (x5)), (4, .bool false), (5, .pointer (some ⟨b162, 0, none⟩)), (6, .int .i64 (r176)), (8, .bool ((!r153))), (11, .bool ((decide ((200 : Int) < ((List.length (x1) : Nat) : Int))))), (38, .bool ((!r246.1)))] hE (by kernel_rfl) rfl (fun a hE => ?_)
            cases hb : (!r246.1)
            · replace hf := cond_f hb hf
              have hE := hE.know (t := 38) (b := (!r246.1)) (b' := false) rfl hb
              clear hb
              refine seg 29 (j := 46) [(0, .slice A2 (List.length (x1)) c3), (1, .int .u8 (x5)), (4, .bool false), (5, .pointer (some ⟨b162, 0, none⟩)), (6, .int .i64 (r176)), (8, .bool ((!r153))), (11, .bool ((decide ((200 : Int) < ((List.length (x1) : Nat) : Int)))))] hE (by kernel_rfl) rfl (fun a hE => ?_)
              refine at_end rfl ?_
              have hS : Stp g w0 D0 [] w D248 [] := hS.sel [] rfl (by decide)
              exact ⟨false, D248, hE.weak (by kernel_rfl), hS, (Snap.le.trans le245 le253), hf⟩
            · replace hf := cond_t hb hf
              have hE := hE.know (t := 38) (b := (!r246.1)) (b' := true) rfl hb
              clear hb
              refine seg 1 (j := 18) [(0, .slice A2 (List.length (x1)) c3), (1, .int .u8 (x5)), (4, .bool false), (5, .pointer (some ⟨b162, 0, none⟩)), (6, .int .i64 (r176)), (8, .bool ((!r153))), (11, .bool ((decide ((200 : Int) < ((List.length (x1) : Nat) : Int))))), (38, .bool true), (39, .pointer (some ⟨b162, 0, none⟩))] hE (by kernel_rfl) rfl (fun a hE => ?_)
              obtain ⟨r254, h255, hf⟩ := bind_some hf
              refine at_op (op_call rfl rfl rfl rfl hE rfl rfl rfl rfl (by kernel_rfl) (wire_Reader_Bytes.calls (g := g) h255 (hS.st.fore (L := [bx b162 49 ([.slice A250 (List.length (r246.2.fB)) c251] ++ ([.int .i64 (r246.2.fBad)]))])) h252) (fun a v w hR hE => ?_)) rfl
              obtain ⟨D256, A258, c259, q260, A263, c264, rfl, hS1, h261, h265⟩ := hR
              have le266 := hS1.dle
              have hS : Stp g w0 D0 [] w D256 [bx b162 49 ([.slice A263 (List.length (r254.2.fB)) c264] ++ ([.int .i64 (r254.2.fBad)])), q260] := hS.call (L := [bx b162 49 ([.slice A250 (List.length (r246.2.fB)) c251] ++ ([.int .i64 (r246.2.fBad)]))]) (R := []) hS1
              clear hS1
              refine seg 4 (j := 23) [(0, .slice A2 (List.length (x1)) c3), (1, .int .u8 (x5)), (4, .bool false), (5, .pointer (some ⟨b162, 0, none⟩)), (6, .int .i64 (r176)), (8, .bool ((!r153))), (11, .bool ((decide ((200 : Int) < ((List.length (x1) : Nat) : Int))))), (44, .bool ((decide (((List.length (r254.1) : Nat) : Int) = (0 : Int)))))] hE (by kernel_rfl) rfl (fun a hE => ?_)
              cases hb : (decide (((List.length (r254.1) : Nat) : Int) = (0 : Int)))
              · replace hf := cond_f hb hf
                have hE := hE.know (t := 44) (b := (decide (((List.length (r254.1) : Nat) : Int) = (0 : Int)))) (b' := false) rfl hb
                clear hb
                refine seg 23 (j := 46) [(0, .slice A2 (List.length (x1)) c3), (1, .int .u8 (x5)), (4, .bool false), (5, .pointer (some ⟨b162, 0, none⟩)), (6, .int .i64 (r176)), (8, .bool ((!r153))), (11, .bool ((decide ((200 : Int) < ((List.length (x1) : Nat) : Int)))))] hE (by kernel_rfl) rfl (fun a hE => ?_)
                refine at_end rfl ?_
                have hS : Stp g w0 D0 [] w D256 [] := hS.sel [] rfl (by decide)
                exact ⟨false, D256, hE.weak (by kernel_rfl), hS, (Snap.le.trans (Snap.le.trans le245 le253) le266), hf⟩
              · replace hf := cond_t hb hf
                have hE := hE.know (t := 44) (b := (decide (((List.length (r254.1) : Nat) : Int) = (0 : Int)))) (b' := true) rfl hb
                clear hb
                refine seg 1 (j := 24) [(0, .slice A2 (List.length (x1)) c3), (1, .int .u8 (x5)), (4, .bool false), (5, .pointer (some ⟨b162, 0, none⟩)), (6, .int .i64 (r176)), (8, .bool ((!r153))), (11, .bool ((decide ((200 : Int) < ((List.length (x1) : Nat) : Int))))), (44, .bool true), (45, .pointer (some ⟨b162, 0, none⟩))] hE (by kernel_rfl) rfl (fun a hE => ?_)
                obtain ⟨r267, h268, hf⟩ := bind_some hf
                refine at_op (op_call rfl rfl rfl rfl hE rfl rfl rfl rfl (by kernel_rfl) (wire_Reader_Hash.calls (g := g) h268 (hS.st.fore (L := [bx b162 49 ([.slice A263 (List.length (r254.2.fB)) c264] ++ ([.int .i64 (r254.2.fBad)]))])) h265) (fun a v w hR hE => ?_)) rfl
                obtain ⟨D269, A271, c272, rfl, hS1, h273⟩ := hR
                have le274 := hS1.dle
                have hS : Stp g w0 D0 [] w D269 [bx b162 49 ([.slice A271 (List.length (r267.2.fB)) c272] ++ ([.int .i64 (r267.2.fBad)])), q260] := hS.call (L := [bx b162 49 ([.slice A263 (List.length (r254.2.fB)) c264] ++ ([.int .i64 (r254.2.fBad)]))]) (R := [q260]) hS1
                clear hS1
                refine at_op (op_tk hE (tk_build (acells .u8 32 ((vofL 32 [(0 : Int), (0 : Int), (0 : Int), (0 : Int), (0 : Int), (0 : Int), (0 : Int), (0 : Int), (0 : Int), (0 : Int), (0 : Int), (0 : Int), (0 : Int), (0 : Int), (0 : Int), (0 : Int), (0 : Int), (0 : Int), (0 : Int), (0 : Int), (0 : Int), (0 : Int), (0 : Int), (0 : Int), (0 : Int), (0 : Int), (0 : Int), (0 : Int), (0 : Int), (0 : Int), (0 : Int), (0 : Int)]))) rfl rfl rfl rfl hE rfl rfl (by kernel_rfl) (fun a hE => ?_))) rfl
                refine at_op (op_tk hE (tk_bin (r := .bool ((decide (r267.1 = (vofL 32 [(0 : Int), (0 : Int), (0 : Int), (0 : Int), (0 : Int), (0 : Int), (0 : Int), (0 : Int), (0 : Int), (0 : Int), (0 : Int), (0 : Int), (0 : Int), (0 : Int), (0 : Int), (0 : Int), (0 : Int), (0 : Int), (0 : Int), (0 : Int), (0 : Int), (0 : Int), (0 : Int), (0 : Int), (0 : Int), (0 : Int), (0 : Int), (0 : Int), (0 : Int), (0 : Int), (0 : Int), (0 : Int)]))))) rfl rfl rfl rfl hE rfl rfl rfl (eqagg_run (by kernel_rfl) (EqR_arr (k := .u8) (N := 32) (by kernel_rfl))) (fun a hE => ?_))) rfl
                refine seg 2 (j := 29) [(0, .slice A2 (List.length (x1)) c3), (1, .int .u8 (x5)), (4, .bool false), (5, .pointer (some ⟨b162, 0, none⟩)), (6, .int .i64 (r176)), (8, .bool ((!r153))), (11, .bool ((decide ((200 : Int) < ((List.length (x1) : Nat) : Int))))), (50, .bool ((decide (r267.1 = (vofL 32 [(0 : Int), (0 : Int), (0 : Int), (0 : Int), (0 : Int), (0 : Int), (0 : Int), (0 : Int), (0 : Int), (0 : Int), (0 : Int), (0 : Int), (0 : Int), (0 : Int), (0 : Int), (0 : Int), (0 : Int), (0 : Int), (0 : Int), (0 : Int), (0 : Int), (0 : Int), (0 : Int), (0 : Int), (0 : Int), (0 : Int), (0 : Int), (0 : Int), (0 : Int), (0 : Int), (0 : Int), (0 : Int)])))))] hE (by kernel_rfl) rfl (fun a hE => ?_)
                cases hb : (decide (r267.1 = (vofL 32 [(0 : Int), (0 : Int), (0 : Int), (0 : Int), (0 : Int), (0 : Int), (0 : Int), (0 : Int), (0 : Int), (0 : Int), (0 : Int), (0 : Int), (0 : Int), (0 : Int), (0 : Int), (0 : Int), (0 : Int), (0 : Int), (0 : Int), (0 : Int), (0 : Int), (0 : Int), (0 : Int), (0 : Int), (0 : Int), (0 : Int), (0 : Int), (0 : Int), (0 : Int), (0 : Int), (0 : Int), (0 : Int)])))
                · replace hf := cond_f hb hf
                  have hE := hE.know (t := 50) (b := (decide (r267.1 = (vofL 32 [(0 : Int), (0 : Int), (0 : Int), (0 : Int), (0 : Int), (0 : Int), (0 : Int), (0 : Int), (0 : Int), (0 : Int), (0 : Int), (0 : Int), (0 : Int), (0 : Int), (0 : Int), (0 : Int), (0 : Int), (0 : Int), (0 : Int), (0 : Int), (0 : Int), (0 : Int), (0 : Int), (0 : Int), (0 : Int), (0 : Int), (0 : Int), (0 : Int), (0 : Int), (0 : Int), (0 : Int), (0 : Int)])))) (b' := false) rfl hb
                  clear hb
                  refine seg 17 (j := 46) [(0, .slice A2 (List.length (x1)) c3), (1, .int .u8 (x5)), (4, .bool false), (5, .pointer (some ⟨b162, 0, none⟩)), (6, .int .i64 (r176)), (8, .bool ((!r153))), (11, .bool ((decide ((200 : Int) < ((List.length (x1) : Nat) : Int)))))] hE (by kernel_rfl) rfl (fun a hE => ?_)
                  refine at_end rfl ?_
                  have hS : Stp g w0 D0 [] w D269 [] := hS.sel [] rfl (by decide)
                  exact ⟨false, D269, hE.weak (by kernel_rfl), hS, (Snap.le.trans (Snap.le.trans (Snap.le.trans le245 le253) le266) le274), hf⟩
                · replace hf := cond_t hb hf
                  have hE := hE.know (t := 50) (b := (decide (r267.1 = (vofL 32 [(0 : Int), (0 : Int), (0 : Int), (0 : Int), (0 : Int), (0 : Int), (0 : Int), (0 : Int), (0 : Int), (0 : Int), (0 : Int), (0 : Int), (0 : Int), (0 : Int), (0 : Int), (0 : Int), (0 : Int), (0 : Int), (0 : Int), (0 : Int), (0 : Int), (0 : Int), (0 : Int), (0 : Int), (0 : Int), (0 : Int), (0 : Int), (0 : Int), (0 : Int), (0 : Int), (0 : Int), (0 : Int)])))) (b' := true) rfl hb
                  clear hb
                  refine seg 1 (j := 30) [(0, .slice A2 (List.length (x1)) c3), (1, .int .u8 (x5)), (4, .bool false), (5, .pointer (some ⟨b162, 0, none⟩)), (6, .int .i64 (r176)), (8, .bool ((!r153))), (11, .bool ((decide ((200 : Int) < ((List.length (x1) : Nat) : Int))))), (50, .bool true), (51, .pointer (some ⟨b162, 0, none⟩))] hE (by kernel_rfl) rfl (fun a hE => ?_)
                  obtain ⟨r275, h276, hf⟩ := bind_some hf
                  refine at_op (op_call rfl rfl rfl rfl hE rfl rfl rfl rfl (by kernel_rfl) (wire_Reader_Left.calls (g := g) h276 (hS.st.fore (L := [bx b162 49 ([.slice A271 (List.length (r267.2.fB)) c272] ++ ([.int .i64 (r267.2.fBad)]))])) h273) (fun a v w hR hE => ?_)) rfl
                  obtain ⟨D277, rfl, hS1⟩ := hR
                  have le279 := hS1.dle
                  have hS : Stp g w0 D0 [] w D277 [bx b162 49 ([.slice A271 (List.length (r267.2.fB)) c272] ++ ([.int .i64 (r267.2.fBad)])), q260] := hS.call (L := [bx b162 49 ([.slice A271 (List.length (r267.2.fB)) c272] ++ ([.int .i64 (r267.2.fBad)]))]) (R := [q260]) hS1
                  clear hS1
                  refine seg 3 (j := 34) [(0, .slice A2 (List.length (x1)) c3), (1, .int .u8 (x5)), (4, .bool false), (5, .pointer (some ⟨b162, 0, none⟩)), (6, .int .i64 (r176)), (8, .bool ((!r153))), (11, .bool ((decide ((200 : Int) < ((List.length (x1) : Nat) : Int))))), (55, .bool ((decide (r275 = (0 : Int)))))] hE (by kernel_rfl) rfl (fun a hE => ?_)
                  cases hb : (decide (r275 = (0 : Int)))
                  · replace hf := cond_f hb hf
                    have hE := hE.know (t := 55) (b := (decide (r275 = (0 : Int)))) (b' := false) rfl hb
                    clear hb
                    refine seg 12 (j := 46) [(0, .slice A2 (List.length (x1)) c3), (1, .int .u8 (x5)), (4, .bool false), (5, .pointer (some ⟨b162, 0, none⟩)), (6, .int .i64 (r176)), (8, .bool ((!r153))), (11, .bool ((decide ((200 : Int) < ((List.length (x1) : Nat) : Int)))))] hE (by kernel_rfl) rfl (fun a hE => ?_)
                    refine at_end rfl ?_
                    have hS : Stp g w0 D0 [] w D277 [] := hS.sel [] rfl (by decide)
                    exact ⟨false, D277, hE.weak (by kernel_rfl), hS, (Snap.le.trans (Snap.le.trans (Snap.le.trans (Snap.le.trans le245 le253) le266) le274) le279), hf⟩
                  · replace hf := cond_t hb hf
                    have hE := hE.know (t := 55) (b := (decide (r275 = (0 : Int)))) (b' := true) rfl hb
                    clear hb
                    refine seg 1 (j := 35) [(0, .slice A2 (List.length (x1)) c3), (1, .int .u8 (x5)), (4, .bool false), (5, .pointer (some ⟨b162, 0, none⟩)), (6, .int .i64 (r176)), (8, .bool ((!r153))), (11, .bool ((decide ((200 : Int) < ((List.length (x1) : Nat) : Int))))), (55, .bool true), (56, .pointer (some ⟨b162, 0, none⟩))] hE (by kernel_rfl) rfl (fun a hE => ?_)
                    obtain ⟨r280, h281, hf⟩ := bind_some hf
                    refine at_op (op_call rfl rfl rfl rfl hE rfl rfl rfl rfl (by kernel_rfl) (wire_Reader_Bad.calls (g := g) h281 (hS.st.fore (L := [bx b162 49 ([.slice A271 (List.length (r267.2.fB)) c272] ++ ([.int .i64 (r267.2.fBad)]))])) (h273.mono le279)) (fun a v w hR hE => ?_)) rfl
                    obtain ⟨D282, rfl, hS1⟩ := hR
                    have le284 := hS1.dle
                    have hS : Stp g w0 D0 [] w D282 [bx b162 49 ([.slice A271 (List.length (r267.2.fB)) c272] ++ ([.int .i64 (r267.2.fBad)])), q260] := hS.call (L := [bx b162 49 ([.slice A271 (List.length (r267.2.fB)) c272] ++ ([.int .i64 (r267.2.fBad)]))]) (R := [q260]) hS1
                    clear hS1
                    refine seg 4 (j := 40) [(0, .slice A2 (List.length (x1)) c3), (1, .int .u8 (x5)), (4, .bool false), (5, .pointer (some ⟨b162, 0, none⟩)), (6, .int .i64 (r176)), (8, .bool ((!r153))), (11, .bool ((decide ((200 : Int) < ((List.length (x1) : Nat) : Int))))), (61, .bool ((decide (r280 = r176))))] hE (by kernel_rfl) rfl (fun a hE => ?_)
                    cases hb : (decide (r280 = r176))
                    · replace hf := cond_f hb hf
                      have hE := hE.know (t := 61) (b := (decide (r280 = r176))) (b' := false) rfl hb
                      clear hb
                      refine seg 6 (j := 46) [(0, .slice A2 (List.length (x1)) c3), (1, .int .u8 (x5)), (4, .bool false), (5, .pointer (some ⟨b162, 0, none⟩)), (6, .int .i64 (r176)), (8, .bool ((!r153))), (11, .bool ((decide ((200 : Int) < ((List.length (x1) : Nat) : Int)))))] hE (by kernel_rfl) rfl (fun a hE => ?_)
                      refine at_end rfl ?_
                      have hS : Stp g w0 D0 [] w D282 [] := hS.sel [] rfl (by decide)
                      exact ⟨false, D282, hE.weak (by kernel_rfl), hS, (Snap.le.trans (Snap.le.trans (Snap.le.trans (Snap.le.trans (Snap.le.trans le245 le253) le266) le274) le279) le284), hf⟩
                    · replace hf := cond_t hb hf
                      have hE := hE.know (t := 61) (b := (decide (r280 = r176))) (b' := true) rfl hb
                      clear hb
                      refine seg 1 (j := 41) [(0, .slice A2 (List.length (x1)) c3), (1, .int .u8 (x5)), (4, .bool false), (5, .pointer (some ⟨b162, 0, none⟩)), (6, .int .i64 (r176)), (8, .bool ((!r153))), (11, .bool ((decide ((200 : Int) < ((List.length (x1) : Nat) : Int))))), (61, .bool true), (62, .pointer (some ⟨b162, 0, none⟩))] hE (by kernel_rfl) rfl (fun a hE => ?_)
                      obtain ⟨r285, h286, hf⟩ := bind_some hf
                      refine at_op (op_call rfl rfl rfl rfl hE rfl rfl rfl rfl (by kernel_rfl) (wire_Reader_Done.calls (g := g) h286 (hS.st.fore (L := [bx b162 49 ([.slice A271 (List.length (r267.2.fB)) c272] ++ ([.int .i64 (r267.2.fBad)]))])) (h273.mono (Snap.le.trans le279 le284))) (fun a v w hR hE => ?_)) rfl
                      obtain ⟨D287, rfl, hS1⟩ := hR
                      have le289 := hS1.dle
                      have hS : Stp g w0 D0 [] w D287 [bx b162 49 ([.slice A271 (List.length (r267.2.fB)) c272] ++ ([.int .i64 (r267.2.fBad)])), q260] := hS.call (L := [bx b162 49 ([.slice A271 (List.length (r267.2.fB)) c272] ++ ([.int .i64 (r267.2.fBad)]))]) (R := [q260]) hS1
                      clear hS1
                      refine seg 4 (j := 46) [(0, .slice A2 (List.length (x1)) c3), (1, .int .u8 (x5)), (4, .bool ((decide (r285 = r176)))), (5, .pointer (some ⟨b162, 0, none⟩)), (6, .int .i64 (r176)), (8, .bool ((!r153))), (11, .bool ((decide ((200 : Int) < ((List.length (x1) : Nat) : Int)))))] hE (by kernel_rfl) rfl (fun a hE => ?_)
                      refine at_end rfl ?_
                      have hS : Stp g w0 D0 [] w D287 [] := hS.sel [] rfl (by decide)
                      exact ⟨(decide (r285 = r176)), D287, hE.weak (by kernel_rfl), hS, (Snap.le.trans (Snap.le.trans (Snap.le.trans (Snap.le.trans (Snap.le.trans (Snap.le.trans le245 le253) le266) le274) le279) le284) le289), hf⟩
      · clear hE hS
        rintro a w ⟨y233, D234, hE, hS, le235, hf⟩
        replace hf := hj237 _ hf
        clear hj237
        refine wpIn_ret ?_
        obtain rfl := Option.some.inj hf
        repeat (with_reducible first | refine then_ret ?_ | refine block_ret ?_ | refine qx_ret ?_)
        refine ret_gen ([.bool (y233)]) hE (by rw [show Try.f7.results.toList = [.tmp 4] from rfl]; exact ⟨_, _, rfl, rfl, rfl⟩) ?_
        exact ⟨_, rfl, D234, rfl, hS⟩

end Go.Proofs.Ytmjkjgidcmalhaa
