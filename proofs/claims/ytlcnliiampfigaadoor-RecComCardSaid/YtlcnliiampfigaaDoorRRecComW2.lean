/-
  Proved, text by text: a call of a function of the cut comes to what its plain function computes.
  Conditions: those that each theorem names.
-/
import Derived.Test.YtlcnliiampfigaaDoorProg
import Derived.Test.YtlcnliiampfigaaDoorRRecComW1
set_option linter.unusedVariables false
namespace Go.Proofs.YtlcnliiampfigaaDoor
open Go Go.Sep

set_option maxRecDepth 100000 in
set_option maxHeartbeats 4000000 in
theorem sha_schedule.calls {K : Nat} {g w0 : World} {D0 : Snap} {x1 : (List Int)} {A2 : Option Addr} {c3 : Nat} {r : ((Vector Int 64))} (hf : sha_schedule.f K x1 = some r) (hS0 : St g w0 D0 []) (h4 : Sl (kdInt .u8) D0 A2 c3 (x1)) :
    CallsIn (Fw none) 0 Tryd.prog 92 (List.toArray [.slice A2 (List.length (x1)) c3]) w0 (fun e w' => ∃ v, e = .returned v ∧ ∃ (D1 : Snap), v = .agg (List.toArray (acells .u32 64 (r))) ∧ Stp g w0 D0 [] w' D1 []) := by
  unfold sha_schedule.f at hf
  have hS := Stp.refl hS0
  clear hS0
  refine calls_body (n := 70) Tryd.func92 rfl Tryd.ntmps92 rfl (fun a hE => ?_)
  have hE : Env a 70 [] [(0, .slice A2 (List.length (x1)) c3)] := hE
  refine wpIn_seq ?_
  refine region_at ?_
  refine at_op (op_alloc (z := .agg (List.toArray (acells .u32 64 ((Vector.replicate 64 (0 : Int)))))) rfl rfl rfl rfl hE rfl hS (by kernel_rfl) (fun a b2911 w _ hE hS => ?_)) rfl
  refine at_end rfl ?_
  refine wpIn_seq ?_
  refine region_at ?_
  refine at_op (op_alloc (z := .agg (List.toArray (acells .u32 64 ((Vector.replicate 64 (0 : Int)))))) rfl rfl rfl rfl hE rfl hS (by kernel_rfl) (fun a b2913 w _ hE hS => ?_)) rfl
  refine at_end rfl ?_
  refine wpIn_seq ?_
  refine wpIn_seq ?_
  refine region_at ?_
  refine segN 1 (j := 1) [(5, .int .i64 ((0 : Int)))] hE (by kernel_rfl) rfl (fun a hE => ?_)
  refine at_end rfl ?_
  obtain ⟨s5334, hf, hs5335⟩ := bind_some hf
  have hS := hS.pk (.c 1 rfl (.c 0 rfl .n)) rfl
  refine block_loop (fun a w => ∃ (z5331 : (Vector Int 64)), ∃ (D5332 : Snap), Env a 70 [] [(2, .pointer (some ⟨b2911, 0, none⟩)), (3, .pointer (some ⟨b2913, 0, none⟩))] ∧ Stp g w0 D0 [] w D5332 [bx b2911 107 (acells .u32 64 ((Vector.replicate 64 (0 : Int)))), bx b2913 107 (acells .u32 64 (z5331))] ∧ Snap.le D0 D5332 ∧ z5331 = s5334) (fun k a w => ∃ (y4844 : Int × (Vector Int 64)), ∃ (D4845 : Snap), Env a 70 [] [(0, .slice A2 (List.length (x1)) c3), (2, .pointer (some ⟨b2911, 0, none⟩)), (3, .pointer (some ⟨b2913, 0, none⟩)), (5, .int .i64 (y4844.1))] ∧ Stp g w0 D0 [] w D4845 [bx b2911 107 (acells .u32 64 ((Vector.replicate 64 (0 : Int)))), bx b2913 107 (acells .u32 64 (y4844.2))] ∧ Snap.le D0 D4845 ∧ sha_schedule_l1.l K x1 k y4844 = some s5334) K ?_ ?_ ?_
  · exact ⟨((0 : Int), (Vector.replicate 64 (0 : Int))), D0, hE.weak (by kernel_rfl), hS, Snap.le.refl _, hf⟩
  · clear hE hS hf
    rintro a w ⟨z5331, D5332, hE, hS, le5333, rfl⟩
    have hf := hs5335
    clear hs5335
    refine wpIn_seq ?_
    refine region_at ?_
    refine at_op (op_tk hE (tk_load 1 (.agg (List.toArray (acells .u32 64 (z5331)))) rfl rfl rfl rfl hE rfl hS rfl rfl (by kernel_rfl) (kL (j := 1) hS rfl List.not_mem_nil) (fun a hE => ?_))) rfl
    refine at_op (op_store (v := .agg (List.toArray (acells .u32 64 (z5331)))) (acells .u32 64 (z5331)) rfl rfl rfl rfl hE hS rfl rfl (by kernel_rfl) (by kernel_rfl) (by kernel_rfl) (by kernel_rfl) (by kernel_rfl) (fun a w _ hE hS => ?_)) rfl
    refine at_end rfl ?_
    refine wpIn_ret ?_
    obtain rfl := Option.some.inj hf
    repeat (with_reducible first | refine then_ret ?_ | refine block_ret ?_ | refine qx_ret ?_)
    refine ret_gen ([.agg (List.toArray (acells .u32 64 (z5331)))]) hE (by rw [show Tryd.f92.results.toList = [.cell 2 107] from rfl]; exact ⟨_, _, _, 0, _, _, rfl, rfl, hS.heapAt (j := 0) rfl, by kernel_rfl, rfl⟩) ?_
    have hS := hS.pk .n rfl
    exact ⟨_, rfl, D5332, rfl, hS⟩
  · clear hE hS hf
    rintro k a w ⟨y4844, D4845, hE, hS, le4846, hf⟩
    obtain ⟨k, rfl, hf⟩ := sha_schedule_l1.some _ hf
    refine ⟨k, rfl, ?_⟩
    unfold sha_schedule_l1.b at hf
    refine wpIn_seq ?_
    refine region_at ?_
    refine segN 1 (j := 1) [(6, .bool ((decide (y4844.1 < (64 : Int)))))] hE (by kernel_rfl) rfl (fun a hE => ?_)
    refine at_end rfl ?_
    refine wpIn_seq ?_
    refine cond_split hE (b := (decide (y4844.1 < (64 : Int)))) rfl (fun hb => ?_) (fun hb => ?_)
    · replace hf := cond_t hb hf
      clear hb
      refine wpIn_skip ?_
      obtain ⟨j5577, hj5578, hf⟩ := jn_elim hf
      refine seq_join (fun a w => ∃ (y5574 : (Vector Int 64)), ∃ (D5575 : Snap), Env a 70 [] [(0, .slice A2 (List.length (x1)) c3), (2, .pointer (some ⟨b2911, 0, none⟩)), (3, .pointer (some ⟨b2913, 0, none⟩)), (5, .int .i64 (y4844.1))] ∧ Stp g w0 D0 [] w D5575 [bx b2911 107 (acells .u32 64 ((Vector.replicate 64 (0 : Int)))), bx b2913 107 (acells .u32 64 (y5574))] ∧ Snap.le D4845 D5575 ∧ j5577 y5574 = some s5334) ?_ ?_
      · clear hj5578
        refine wpIn_block ?_
        refine wpIn_seq ?_
        refine region_at ?_
        refine segN 2 (j := 2) [(4, .int .i64 (y4844.1))] hE (by kernel_rfl) rfl (fun a hE => ?_)
        refine at_end rfl ?_
        refine wpIn_seq ?_
        refine wpIn_seq ?_
        refine region_at ?_
        refine segN 2 (j := 2) [(9, .bool ((decide (y4844.1 < (16 : Int)))))] hE (by kernel_rfl) rfl (fun a hE => ?_)
        refine at_end rfl ?_
        refine cond_split hE (b := (decide (y4844.1 < (16 : Int)))) rfl (fun hb => ?_) (fun hb => ?_)
        · replace hf := cond_t hb hf
          clear hb
          refine wpIn_seq ?_
          refine region_draw (fun j => Keeps (mfOf [(35, [b2913])] j)) (by kernel_rfl) ?_
          have hS := hS.drew
          first | generalize w.drew = w at hS ⊢ | generalize w0.drew = w at hS ⊢
          refine tW 0 1 (fuel := 35) (by kernel_rfl) hE (fun M => tk_pure (.int .i64 (y4844.1)) hE rfl rfl rfl rfl (fun _ _ _ e => by cases e) (by kernel_rfl) (fun a hE => ?_))
          refine tW 1 3 (fuel := 34) (by kernel_rfl) hE (fun M => tk_pure (.slice A2 (List.length (x1)) c3) hE rfl rfl rfl rfl (fun _ _ _ e => by cases e) (by kernel_rfl) (fun a hE => ?_))
          refine tW 2 7 (fuel := 33) (by kernel_rfl) hE (fun M => tk_pure (.int .i64 (y4844.1)) hE rfl rfl rfl rfl (fun _ _ _ e => by cases e) (by kernel_rfl) (fun a hE => ?_))
          refine tW 3 15 (fuel := 32) (by kernel_rfl) hE (fun M => tk_pure (.int .i64 ((IntKind.wrap .i64 ((4 : Int) * y4844.1)))) hE rfl rfl rfl rfl (fun _ _ _ e => by cases e) (by kernel_rfl) (fun a hE => ?_))
          refine tW 8 271 (fuel := 31) (by kernel_rfl) hE (fun M => tk_pure (.slice A2 (List.length (x1)) c3) hE rfl rfl rfl rfl (fun _ _ _ e => by cases e) (by kernel_rfl) (fun a hE => ?_))
          refine tW 9 783 (fuel := 30) (by kernel_rfl) hE (fun M => tk_pure (.int .i64 (y4844.1)) hE rfl rfl rfl rfl (fun _ _ _ e => by cases e) (by kernel_rfl) (fun a hE => ?_))
          refine tW 10 1807 (fuel := 29) (by kernel_rfl) hE (fun M => tk_pure (.int .i64 ((IntKind.wrap .i64 ((4 : Int) * y4844.1)))) hE rfl rfl rfl rfl (fun _ _ _ e => by cases e) (by kernel_rfl) (fun a hE => ?_))
          refine tW 11 3855 (fuel := 28) (by kernel_rfl) hE (fun M => tk_pure (.int .i64 ((IntKind.wrap .i64 ((IntKind.wrap .i64 ((4 : Int) * y4844.1)) + (1 : Int))))) hE rfl rfl rfl rfl (fun _ _ _ e => by cases e) (by kernel_rfl) (fun a hE => ?_))
          refine tW 17 134927 (fuel := 27) (by kernel_rfl) hE (fun M => tk_pure (.slice A2 (List.length (x1)) c3) hE rfl rfl rfl rfl (fun _ _ _ e => by cases e) (by kernel_rfl) (fun a hE => ?_))
          refine tW 18 397071 (fuel := 26) (by kernel_rfl) hE (fun M => tk_pure (.int .i64 (y4844.1)) hE rfl rfl rfl rfl (fun _ _ _ e => by cases e) (by kernel_rfl) (fun a hE => ?_))
          refine tW 19 921359 (fuel := 25) (by kernel_rfl) hE (fun M => tk_pure (.int .i64 ((IntKind.wrap .i64 ((4 : Int) * y4844.1)))) hE rfl rfl rfl rfl (fun _ _ _ e => by cases e) (by kernel_rfl) (fun a hE => ?_))
          refine tW 20 1969935 (fuel := 24) (by kernel_rfl) hE (fun M => tk_pure (.int .i64 ((IntKind.wrap .i64 ((IntKind.wrap .i64 ((4 : Int) * y4844.1)) + (2 : Int))))) hE rfl rfl rfl rfl (fun _ _ _ e => by cases e) (by kernel_rfl) (fun a hE => ?_))
          refine tW 26 69078799 (fuel := 23) (by kernel_rfl) hE (fun M => tk_pure (.slice A2 (List.length (x1)) c3) hE rfl rfl rfl rfl (fun _ _ _ e => by cases e) (by kernel_rfl) (fun a hE => ?_))
          refine tW 27 203296527 (fuel := 22) (by kernel_rfl) hE (fun M => tk_pure (.int .i64 (y4844.1)) hE rfl rfl rfl rfl (fun _ _ _ e => by cases e) (by kernel_rfl) (fun a hE => ?_))
          refine tW 28 471731983 (fuel := 21) (by kernel_rfl) hE (fun M => tk_pure (.int .i64 ((IntKind.wrap .i64 ((4 : Int) * y4844.1)))) hE rfl rfl rfl rfl (fun _ _ _ e => by cases e) (by kernel_rfl) (fun a hE => ?_))
          refine tW 29 1008602895 (fuel := 20) (by kernel_rfl) hE (fun M => tk_pure (.int .i64 ((IntKind.wrap .i64 ((IntKind.wrap .i64 ((4 : Int) * y4844.1)) + (3 : Int))))) hE rfl rfl rfl rfl (fun _ _ _ e => by cases e) (by kernel_rfl) (fun a hE => ?_))
          obtain ⟨x5732, h5733, hf⟩ := bind_some hf
          refine tW 4 1008602911 (fuel := 19) (by kernel_rfl) hE (fun M => g_index (K := (kdInt .u8)) (e := 5) (by_ := 1) (zl := 1) rfl rfl rfl rfl hE rfl rfl rfl (by kernel_rfl) rfl (h4.mono le4846) h5733 (fun a b5734 o5735 hE h5736 => ?_))
          obtain ⟨cs5737, C5738, T5739, fr5740, hr5741, hb5742, hc5743⟩ := h5736
          obtain rfl := hr5741
          refine tT 5 1008602943 (fuel := 18) (by kernel_rfl) hE (tk_loadX (off0 := o5735) (off := 0) (c := [.int .u8 (x5732)]) (.int .u8 (x5732)) rfl rfl rfl rfl hE rfl hS rfl hb5742 hc5743 (by kernel_rfl) (by kernel_rfl) (kD hS dn_nil) (fun a hE => ?_))
          refine tW 6 1008603007 (fuel := 17) (by kernel_rfl) hE (fun M => tk_pure (.int .u32 ((IntKind.wrap .u32 x5732))) hE rfl rfl rfl rfl (fun _ _ _ e => by cases e; rfl) (by kernel_rfl) (fun a hE => ?_))
          refine tW 7 1008603135 (fuel := 16) (by kernel_rfl) hE (fun M => tk_pure (.int .u32 ((IntKind.wrap .u32 ((IntKind.wrap .u32 x5732) * 2 ^ 24)))) hE rfl rfl rfl rfl (fun _ _ _ e => by cases e) (by kernel_rfl) (fun a hE => ?_))
          obtain ⟨x5744, h5745, hf⟩ := bind_some hf
          refine tW 12 1008607231 (fuel := 15) (by kernel_rfl) hE (fun M => g_index (K := (kdInt .u8)) (e := 5) (by_ := 1) (zl := 1) rfl rfl rfl rfl hE rfl rfl rfl (by kernel_rfl) rfl (h4.mono le4846) h5745 (fun a b5746 o5747 hE h5748 => ?_))
          obtain ⟨cs5749, C5750, T5751, fr5752, hr5753, hb5754, hc5755⟩ := h5748
          obtain rfl := hr5753
          refine tT 13 1008615423 (fuel := 14) (by kernel_rfl) hE (tk_loadX (off0 := o5747) (off := 0) (c := [.int .u8 (x5744)]) (.int .u8 (x5744)) rfl rfl rfl rfl hE rfl hS rfl hb5754 hc5755 (by kernel_rfl) (by kernel_rfl) (kD hS dn_nil) (fun a hE => ?_))
          refine tW 14 1008631807 (fuel := 13) (by kernel_rfl) hE (fun M => tk_pure (.int .u32 ((IntKind.wrap .u32 x5744))) hE rfl rfl rfl rfl (fun _ _ _ e => by cases e; rfl) (by kernel_rfl) (fun a hE => ?_))
          refine tW 15 1008664575 (fuel := 12) (by kernel_rfl) hE (fun M => tk_pure (.int .u32 ((IntKind.wrap .u32 ((IntKind.wrap .u32 x5744) * 2 ^ 16)))) hE rfl rfl rfl rfl (fun _ _ _ e => by cases e) (by kernel_rfl) (fun a hE => ?_))
          refine tW 16 1008730111 (fuel := 11) (by kernel_rfl) hE (fun M => tk_pure (.int .u32 ((bor .u32 (IntKind.wrap .u32 ((IntKind.wrap .u32 x5732) * 2 ^ 24)) (IntKind.wrap .u32 ((IntKind.wrap .u32 x5744) * 2 ^ 16))))) hE rfl rfl rfl rfl (fun _ _ _ e => by cases e) (by kernel_rfl) (fun a hE => ?_))
          obtain ⟨x5756, h5757, hf⟩ := bind_some hf
          refine tW 21 1010827263 (fuel := 10) (by kernel_rfl) hE (fun M => g_index (K := (kdInt .u8)) (e := 5) (by_ := 1) (zl := 1) rfl rfl rfl rfl hE rfl rfl rfl (by kernel_rfl) rfl (h4.mono le4846) h5757 (fun a b5758 o5759 hE h5760 => ?_))
          obtain ⟨cs5761, C5762, T5763, fr5764, hr5765, hb5766, hc5767⟩ := h5760
          obtain rfl := hr5765
          refine tT 22 1015021567 (fuel := 9) (by kernel_rfl) hE (tk_loadX (off0 := o5759) (off := 0) (c := [.int .u8 (x5756)]) (.int .u8 (x5756)) rfl rfl rfl rfl hE rfl hS rfl hb5766 hc5767 (by kernel_rfl) (by kernel_rfl) (kD hS dn_nil) (fun a hE => ?_))
          refine tW 23 1023410175 (fuel := 8) (by kernel_rfl) hE (fun M => tk_pure (.int .u32 ((IntKind.wrap .u32 x5756))) hE rfl rfl rfl rfl (fun _ _ _ e => by cases e; rfl) (by kernel_rfl) (fun a hE => ?_))
          refine tW 24 1040187391 (fuel := 7) (by kernel_rfl) hE (fun M => tk_pure (.int .u32 ((IntKind.wrap .u32 ((IntKind.wrap .u32 x5756) * 2 ^ 8)))) hE rfl rfl rfl rfl (fun _ _ _ e => by cases e) (by kernel_rfl) (fun a hE => ?_))
          refine tW 25 1073741823 (fuel := 6) (by kernel_rfl) hE (fun M => tk_pure (.int .u32 ((bor .u32 (bor .u32 (IntKind.wrap .u32 ((IntKind.wrap .u32 x5732) * 2 ^ 24)) (IntKind.wrap .u32 ((IntKind.wrap .u32 x5744) * 2 ^ 16))) (IntKind.wrap .u32 ((IntKind.wrap .u32 x5756) * 2 ^ 8))))) hE rfl rfl rfl rfl (fun _ _ _ e => by cases e) (by kernel_rfl) (fun a hE => ?_))
          obtain ⟨x5768, h5769, hf⟩ := bind_some hf
          refine tW 30 2147483647 (fuel := 5) (by kernel_rfl) hE (fun M => g_index (K := (kdInt .u8)) (e := 5) (by_ := 1) (zl := 1) rfl rfl rfl rfl hE rfl rfl rfl (by kernel_rfl) rfl (h4.mono le4846) h5769 (fun a b5770 o5771 hE h5772 => ?_))
          obtain ⟨cs5773, C5774, T5775, fr5776, hr5777, hb5778, hc5779⟩ := h5772
          obtain rfl := hr5777
          refine tT 31 4294967295 (fuel := 4) (by kernel_rfl) hE (tk_loadX (off0 := o5771) (off := 0) (c := [.int .u8 (x5768)]) (.int .u8 (x5768)) rfl rfl rfl rfl hE rfl hS rfl hb5778 hc5779 (by kernel_rfl) (by kernel_rfl) (kD hS dn_nil) (fun a hE => ?_))
          refine tW 32 8589934591 (fuel := 3) (by kernel_rfl) hE (fun M => tk_pure (.int .u32 ((IntKind.wrap .u32 x5768))) hE rfl rfl rfl rfl (fun _ _ _ e => by cases e; rfl) (by kernel_rfl) (fun a hE => ?_))
          refine tW 33 17179869183 (fuel := 2) (by kernel_rfl) hE (fun M => tk_pure (.int .u32 ((bor .u32 (bor .u32 (bor .u32 (IntKind.wrap .u32 ((IntKind.wrap .u32 x5732) * 2 ^ 24)) (IntKind.wrap .u32 ((IntKind.wrap .u32 x5744) * 2 ^ 16))) (IntKind.wrap .u32 ((IntKind.wrap .u32 x5756) * 2 ^ 8))) (IntKind.wrap .u32 x5768)))) hE rfl rfl rfl rfl (fun _ _ _ e => by cases e) (by kernel_rfl) (fun a hE => ?_))
          obtain ⟨hm5780, hf⟩ := chk_some hf
          refine tW 34 34359738367 (fuel := 1) (by kernel_rfl) hE (fun M => tk_indexPA (N := 64) (k := .u32) (m := y4844.1) rfl rfl rfl rfl hE rfl rfl rfl (by kernel_rfl) hm5780 (fun a hE => ?_))
          have hS := hS.pk (.c 1 rfl (.c 0 rfl .n)) rfl
          obtain ⟨v5781, hv5782, hf⟩ := bind_some hf
          replace hv5782 := Option.some.inj hv5782
          refine oG 35 68719476735 (fuel := 0) (by kernel_rfl) (op_storePA (N := 64) (k := .u32) (v := y4844.2) (m := y4844.1) (z := (bor .u32 (bor .u32 (bor .u32 (IntKind.wrap .u32 ((IntKind.wrap .u32 x5732) * 2 ^ 24)) (IntKind.wrap .u32 ((IntKind.wrap .u32 x5744) * 2 ^ 16))) (IntKind.wrap .u32 ((IntKind.wrap .u32 x5756) * 2 ^ 8))) (IntKind.wrap .u32 x5768))) rfl rfl rfl rfl hE hS rfl rfl (by kernel_rfl) hm5780 (fun a w hkp hE hS => ⟨hkp.mono (fun _ h => h), ?_⟩))
          clear hkp
          rw [hv5782] at hS
          refine doneG (by kernel_rfl) ?_
          refine wpIn_exit ?_
          have hS := hS.pk (.c 1 rfl (.c 0 rfl .n)) rfl
          exact ⟨v5781, D4845, hE.weak (by kernel_rfl), hS, Snap.le.refl _, hf⟩
        · replace hf := cond_f hb hf
          clear hb
          refine wpIn_skip ?_
          refine region_draw (fun j => Keeps (mfOf [(23, [b2913])] j)) (by kernel_rfl) ?_
          have hS := hS.drew
          first | generalize w.drew = w at hS ⊢ | generalize w0.drew = w at hS ⊢
          refine tW 0 1 (fuel := 23) (by kernel_rfl) hE (fun M => tk_pure (.int .i64 (y4844.1)) hE rfl rfl rfl rfl (fun _ _ _ e => by cases e) (by kernel_rfl) (fun a hE => ?_))
          refine tW 1 3 (fuel := 22) (by kernel_rfl) hE (fun M => tk_pure (.int .i64 (y4844.1)) hE rfl rfl rfl rfl (fun _ _ _ e => by cases e) (by kernel_rfl) (fun a hE => ?_))
          refine tW 2 7 (fuel := 21) (by kernel_rfl) hE (fun M => tk_pure (.int .i64 ((IntKind.wrap .i64 (y4844.1 - (2 : Int))))) hE rfl rfl rfl rfl (fun _ _ _ e => by cases e) (by kernel_rfl) (fun a hE => ?_))
          refine tW 6 71 (fuel := 20) (by kernel_rfl) hE (fun M => tk_pure (.int .i64 (y4844.1)) hE rfl rfl rfl rfl (fun _ _ _ e => by cases e) (by kernel_rfl) (fun a hE => ?_))
          refine tW 7 199 (fuel := 19) (by kernel_rfl) hE (fun M => tk_pure (.int .i64 ((IntKind.wrap .i64 (y4844.1 - (7 : Int))))) hE rfl rfl rfl rfl (fun _ _ _ e => by cases e) (by kernel_rfl) (fun a hE => ?_))
          refine tW 11 2247 (fuel := 18) (by kernel_rfl) hE (fun M => tk_pure (.int .i64 (y4844.1)) hE rfl rfl rfl rfl (fun _ _ _ e => by cases e) (by kernel_rfl) (fun a hE => ?_))
          refine tW 12 6343 (fuel := 17) (by kernel_rfl) hE (fun M => tk_pure (.int .i64 ((IntKind.wrap .i64 (y4844.1 - (15 : Int))))) hE rfl rfl rfl rfl (fun _ _ _ e => by cases e) (by kernel_rfl) (fun a hE => ?_))
          refine tW 17 137415 (fuel := 16) (by kernel_rfl) hE (fun M => tk_pure (.int .i64 (y4844.1)) hE rfl rfl rfl rfl (fun _ _ _ e => by cases e) (by kernel_rfl) (fun a hE => ?_))
          refine tW 18 399559 (fuel := 15) (by kernel_rfl) hE (fun M => tk_pure (.int .i64 ((IntKind.wrap .i64 (y4844.1 - (16 : Int))))) hE rfl rfl rfl rfl (fun _ _ _ e => by cases e) (by kernel_rfl) (fun a hE => ?_))
          obtain ⟨hm5800, hf⟩ := chk_some hf
          refine tW 3 399567 (fuel := 14) (by kernel_rfl) hE (fun M => tk_indexPA (N := 64) (k := .u32) (m := (IntKind.wrap .i64 (y4844.1 - (2 : Int)))) rfl rfl rfl rfl hE rfl rfl rfl (by kernel_rfl) hm5800 (fun a hE => ?_))
          refine tT 4 399583 (fuel := 13) (by kernel_rfl) hE (tk_loadPA 1 (N := 64) (k := .u32) (v := y4844.2) (m := (IntKind.wrap .i64 (y4844.1 - (2 : Int)))) rfl rfl rfl rfl hE rfl hS rfl rfl (by kernel_rfl) hm5800 (kL (j := 1) hS rfl List.not_mem_nil) (fun a hE => ?_))
          obtain ⟨hm5801, hf⟩ := chk_some hf
          refine tW 8 399839 (fuel := 12) (by kernel_rfl) hE (fun M => tk_indexPA (N := 64) (k := .u32) (m := (IntKind.wrap .i64 (y4844.1 - (7 : Int)))) rfl rfl rfl rfl hE rfl rfl rfl (by kernel_rfl) hm5801 (fun a hE => ?_))
          refine tT 9 400351 (fuel := 11) (by kernel_rfl) hE (tk_loadPA 1 (N := 64) (k := .u32) (v := y4844.2) (m := (IntKind.wrap .i64 (y4844.1 - (7 : Int)))) rfl rfl rfl rfl hE rfl hS rfl rfl (by kernel_rfl) hm5801 (kL (j := 1) hS rfl List.not_mem_nil) (fun a hE => ?_))
          obtain ⟨hm5802, hf⟩ := chk_some hf
          refine tW 13 408543 (fuel := 10) (by kernel_rfl) hE (fun M => tk_indexPA (N := 64) (k := .u32) (m := (IntKind.wrap .i64 (y4844.1 - (15 : Int)))) rfl rfl rfl rfl hE rfl rfl rfl (by kernel_rfl) hm5802 (fun a hE => ?_))
          refine tT 14 424927 (fuel := 9) (by kernel_rfl) hE (tk_loadPA 1 (N := 64) (k := .u32) (v := y4844.2) (m := (IntKind.wrap .i64 (y4844.1 - (15 : Int)))) rfl rfl rfl rfl hE rfl hS rfl rfl (by kernel_rfl) hm5802 (kL (j := 1) hS rfl List.not_mem_nil) (fun a hE => ?_))
          obtain ⟨hm5803, hf⟩ := chk_some hf
          refine tW 19 949215 (fuel := 8) (by kernel_rfl) hE (fun M => tk_indexPA (N := 64) (k := .u32) (m := (IntKind.wrap .i64 (y4844.1 - (16 : Int)))) rfl rfl rfl rfl hE rfl rfl rfl (by kernel_rfl) hm5803 (fun a hE => ?_))
          refine tT 20 1997791 (fuel := 7) (by kernel_rfl) hE (tk_loadPA 1 (N := 64) (k := .u32) (v := y4844.2) (m := (IntKind.wrap .i64 (y4844.1 - (16 : Int)))) rfl rfl rfl rfl hE rfl hS rfl rfl (by kernel_rfl) hm5803 (kL (j := 1) hS rfl List.not_mem_nil) (fun a hE => ?_))
          obtain ⟨r5804, h5805, hf⟩ := bind_some hf
          refine oG 5 1997823 (fuel := 6) (by kernel_rfl) (op_call rfl rfl rfl rfl hE rfl rfl rfl rfl (by kernel_rfl) (sha_moved.calls (g := g) h5805 (hS.st.fore (L := [])) ) (fun a v w hR hE => ?_))
          obtain ⟨D5806, rfl, hS1⟩ := hR
          refine ⟨(hS1.keeps.sub (M' := []) trivial).mono (fun _ h => h), ?_⟩
          have le5808 := hS1.dle
          have hS := hS.callR hS1 rfl .n
          clear hS1
          refine tW 10 1998847 (fuel := 5) (by kernel_rfl) hE (fun M => tk_pure (.int .u32 ((IntKind.wrap .u32 (r5804 + (vget (y4844.2) (Int.toNat ((IntKind.wrap .i64 (y4844.1 - (7 : Int)))))))))) hE rfl rfl rfl rfl (fun _ _ _ e => by cases e) (by kernel_rfl) (fun a hE => ?_))
          obtain ⟨r5809, h5810, hf⟩ := bind_some hf
          refine oG 15 2031615 (fuel := 4) (by kernel_rfl) (op_call rfl rfl rfl rfl hE rfl rfl rfl rfl (by kernel_rfl) (sha_moved.calls (g := g) h5810 (hS.st.fore (L := [])) ) (fun a v w hR hE => ?_))
          obtain ⟨D5811, rfl, hS1⟩ := hR
          refine ⟨(hS1.keeps.sub (M' := []) trivial).mono (fun _ h => h), ?_⟩
          have le5813 := hS1.dle
          have hS := hS.callR hS1 rfl .n
          clear hS1
          refine tW 16 2097151 (fuel := 3) (by kernel_rfl) hE (fun M => tk_pure (.int .u32 ((IntKind.wrap .u32 ((IntKind.wrap .u32 (r5804 + (vget (y4844.2) (Int.toNat ((IntKind.wrap .i64 (y4844.1 - (7 : Int)))))))) + r5809)))) hE rfl rfl rfl rfl (fun _ _ _ e => by cases e) (by kernel_rfl) (fun a hE => ?_))
          refine tW 21 4194303 (fuel := 2) (by kernel_rfl) hE (fun M => tk_pure (.int .u32 ((IntKind.wrap .u32 ((IntKind.wrap .u32 ((IntKind.wrap .u32 (r5804 + (vget (y4844.2) (Int.toNat ((IntKind.wrap .i64 (y4844.1 - (7 : Int)))))))) + r5809)) + (vget (y4844.2) (Int.toNat ((IntKind.wrap .i64 (y4844.1 - (16 : Int)))))))))) hE rfl rfl rfl rfl (fun _ _ _ e => by cases e) (by kernel_rfl) (fun a hE => ?_))
          obtain ⟨hm5814, hf⟩ := chk_some hf
          refine tW 22 8388607 (fuel := 1) (by kernel_rfl) hE (fun M => tk_indexPA (N := 64) (k := .u32) (m := y4844.1) rfl rfl rfl rfl hE rfl rfl rfl (by kernel_rfl) hm5814 (fun a hE => ?_))
          have hS := hS.pk (.c 1 rfl (.c 0 rfl .n)) rfl
          obtain ⟨v5815, hv5816, hf⟩ := bind_some hf
          replace hv5816 := Option.some.inj hv5816
          refine oG 23 16777215 (fuel := 0) (by kernel_rfl) (op_storePA (N := 64) (k := .u32) (v := y4844.2) (m := y4844.1) (z := (IntKind.wrap .u32 ((IntKind.wrap .u32 ((IntKind.wrap .u32 (r5804 + (vget (y4844.2) (Int.toNat ((IntKind.wrap .i64 (y4844.1 - (7 : Int)))))))) + r5809)) + (vget (y4844.2) (Int.toNat ((IntKind.wrap .i64 (y4844.1 - (16 : Int))))))))) rfl rfl rfl rfl hE hS rfl rfl (by kernel_rfl) hm5814 (fun a w hkp hE hS => ⟨hkp.mono (fun _ h => h), ?_⟩))
          clear hkp
          rw [hv5816] at hS
          refine doneG (by kernel_rfl) ?_
          have hS := hS.pk (.c 1 rfl (.c 0 rfl .n)) rfl
          exact ⟨v5815, D5811, hE.weak (by kernel_rfl), hS, (Snap.le.trans le5808 le5813), hf⟩
      · clear hE hS
        rintro a w ⟨y5574, D5575, hE, hS, le5576, hf⟩
        replace hf := hj5578 _ hf
        clear hj5578
        refine region_at ?_
        refine segN 2 (j := 2) [(5, .int .i64 ((IntKind.wrap .i64 (y4844.1 + (1 : Int)))))] hE (by kernel_rfl) rfl (fun a hE => ?_)
        refine at_end rfl ?_
        exact ⟨((IntKind.wrap .i64 (y4844.1 + (1 : Int))), y5574), D5575, hE.weak (by kernel_rfl), hS, (Snap.le.trans le4846 le5576), hf⟩
    · replace hf := cond_f hb hf
      clear hb
      refine wpIn_exit ?_
      obtain rfl := Option.some.inj hf
      exact ⟨y4844.2, D4845, hE.weak (by kernel_rfl), hS, le4846, rfl⟩

set_option maxRecDepth 100000 in
set_option maxHeartbeats 4000000 in
theorem sha_turned.calls {K : Nat} {g w0 : World} {D0 : Snap} {x1 : Int} {x2 : Int} {x3 : Int} {x4 : Int} {r : (Int)} (hf : sha_turned.f K x1 x2 x3 x4 = some r) (hS0 : St g w0 D0 []) :
    CallsIn (Fw none) 0 Tryd.prog 93 (List.toArray [.int .u32 (x1), .int .i64 (x2), .int .i64 (x3), .int .i64 (x4)]) w0 (fun e w' => ∃ v, e = .returned v ∧ ∃ (D1 : Snap), v = .int .u32 (r) ∧ Stp g w0 D0 [] w' D1 []) := by
  unfold sha_turned.f at hf
  have hS := Stp.refl hS0
  clear hS0
  refine calls_body (n := 23) Tryd.func93 rfl Tryd.ntmps93 rfl (fun a hE => ?_)
  have hE : Env a 23 [] [(0, .int .u32 (x1)), (1, .int .i64 (x2)), (2, .int .i64 (x3)), (3, .int .i64 (x4))] := hE
  refine wpIn_seq ?_
  refine region_at ?_
  refine segN 1 (j := 1) [(8, .int .u32 ((0 : Int)))] hE (by kernel_rfl) rfl (fun a hE => ?_)
  refine at_end rfl ?_
  refine wpIn_seq ?_
  refine region_at ?_
  refine segN 3 (j := 3) [(9, .int .u32 (x1)), (11, .int .i64 ((IntKind.wrap .i64 (0 - x2))))] hE (by kernel_rfl) rfl (fun a hE => ?_)
  obtain ⟨r20, h21, hf⟩ := bind_some hf
  refine at_op (op_call rfl rfl rfl rfl hE rfl rfl rfl rfl (by kernel_rfl) (math_bits_RotateLeft32.calls (g := g) h21 (hS.st.fore (L := [])) ) (fun a v w hR hE => ?_)) rfl
  obtain ⟨D22, rfl, hS1⟩ := hR
  have le24 := hS1.dle
  have hS := hS.callR hS1 rfl .n
  clear hS1
  refine segN 3 (j := 7) [(13, .int .u32 (x1)), (15, .int .i64 ((IntKind.wrap .i64 (0 - x3))))] hE (by kernel_rfl) rfl (fun a hE => ?_)
  obtain ⟨r25, h26, hf⟩ := bind_some hf
  refine at_op (op_call rfl rfl rfl rfl hE rfl rfl rfl rfl (by kernel_rfl) (math_bits_RotateLeft32.calls (g := g) h26 (hS.st.fore (L := [])) ) (fun a v w hR hE => ?_)) rfl
  obtain ⟨D27, rfl, hS1⟩ := hR
  have le29 := hS1.dle
  have hS := hS.callR hS1 rfl .n
  clear hS1
  refine segN 4 (j := 12) [(17, .int .u32 ((bxor .u32 r20 r25))), (18, .int .u32 (x1)), (20, .int .i64 ((IntKind.wrap .i64 (0 - x4))))] hE (by kernel_rfl) rfl (fun a hE => ?_)
  obtain ⟨r30, h31, hf⟩ := bind_some hf
  refine at_op (op_call rfl rfl rfl rfl hE rfl rfl rfl rfl (by kernel_rfl) (math_bits_RotateLeft32.calls (g := g) h31 (hS.st.fore (L := [])) ) (fun a v w hR hE => ?_)) rfl
  obtain ⟨D32, rfl, hS1⟩ := hR
  have le34 := hS1.dle
  have hS := hS.callR hS1 rfl .n
  clear hS1
  refine segN 2 (j := 15) [(8, .int .u32 ((bxor .u32 (bxor .u32 r20 r25) r30)))] hE (by kernel_rfl) rfl (fun a hE => ?_)
  refine at_end rfl ?_
  refine wpIn_ret ?_
  obtain rfl := Option.some.inj hf
  repeat (with_reducible first | refine then_ret ?_ | refine block_ret ?_ | refine qx_ret ?_)
  refine ret_gen ([.int .u32 ((bxor .u32 (bxor .u32 r20 r25) r30))]) hE (by rw [show Tryd.f93.results.toList = [.tmp 8] from rfl]; exact ⟨_, _, rfl, rfl, rfl⟩) ?_
  exact ⟨_, rfl, D32, rfl, hS⟩

set_option maxRecDepth 100000 in
set_option maxHeartbeats 4000000 in
theorem sha_Turn.calls {K : Nat} {g w0 : World} {D0 : Snap} {x1 : (Vector Int 8)} {x2 : (List Int)} {A3 : Option Addr} {c4 : Nat} {r : ((Vector Int 8))} (hf : sha_Turn.f K x1 x2 = some r) (hS0 : St g w0 D0 []) (h5 : Sl (kdInt .u8) D0 A3 c4 (x2)) (hG1 : Cell (kdArr .u32 64) D0 1 0 gl_K) :
    CallsIn (Fw none) 0 Tryd.prog 80 (List.toArray [.agg (List.toArray (acells .u32 8 (x1))), .slice A3 (List.length (x2)) c4]) w0 (fun e w' => ∃ v, e = .returned v ∧ ∃ (D1 : Snap), v = .agg (List.toArray (acells .u32 8 (r))) ∧ Stp g w0 D0 [] w' D1 []) := by
  unfold sha_Turn.f at hf
  have hS := Stp.refl hS0
  clear hS0
  refine calls_body (n := 94) Tryd.func80 rfl Tryd.ntmps80 rfl (fun a hE => ?_)
  have hE : Env a 94 [] [(0, .agg (List.toArray (acells .u32 8 (x1)))), (1, .slice A3 (List.length (x2)) c4)] := hE
  refine wpIn_seq ?_
  refine region_at ?_
  refine at_op (op_box rfl rfl rfl rfl hE rfl hS rfl (fun a b742 w _ hE hS => ?_)) rfl
  refine at_op (op_alloc (z := .agg (List.toArray (acells .u32 8 ((Vector.replicate 8 (0 : Int)))))) rfl rfl rfl rfl hE rfl hS (by kernel_rfl) (fun a b744 w _ hE hS => ?_)) rfl
  refine at_end rfl ?_
  refine wpIn_seq ?_
  refine wpIn_seq ?_
  refine region_at ?_
  refine segN 3 (j := 3) [(13, .bool ((!decide (((List.length (x2) : Nat) : Int) = (64 : Int)))))] hE (by kernel_rfl) rfl (fun a hE => ?_)
  refine at_end rfl ?_
  refine cond_split hE (b := (!decide (((List.length (x2) : Nat) : Int) = (64 : Int)))) rfl (fun hb => ?_) (fun hb => ?_)
  · replace hf := cond_t hb hf
    clear hb
    refine wpIn_seq ?_
    refine region_at ?_
    refine at_op (op_tk hE (tk_load 1 (.agg (List.toArray (acells .u32 8 (x1)))) rfl rfl rfl rfl hE rfl hS rfl rfl (by kernel_rfl) (kL (j := 1) hS rfl List.not_mem_nil) (fun a hE => ?_))) rfl
    refine at_op (op_store (v := .agg (List.toArray (acells .u32 8 (x1)))) (acells .u32 8 (x1)) rfl rfl rfl rfl hE hS rfl rfl (by kernel_rfl) (by kernel_rfl) (by kernel_rfl) (by kernel_rfl) (by kernel_rfl) (fun a w _ hE hS => ?_)) rfl
    refine at_end rfl ?_
    refine wpIn_ret ?_
    obtain rfl := Option.some.inj hf
    repeat (with_reducible first | refine then_ret ?_ | refine block_ret ?_ | refine qx_ret ?_)
    refine ret_gen ([.agg (List.toArray (acells .u32 8 (x1)))]) hE (by rw [show Tryd.f80.results.toList = [.cell 4 94] from rfl]; exact ⟨_, _, _, 0, _, _, rfl, rfl, hS.heapAt (j := 0) rfl, by kernel_rfl, rfl⟩) ?_
    have hS := hS.pk .n rfl
    exact ⟨_, rfl, D0, rfl, hS⟩
  · replace hf := cond_f hb hf
    clear hb
    refine wpIn_skip ?_
    refine wpIn_seq ?_
    refine region_at ?_
    refine at_op (op_tk hE (tk_load 1 (.agg (List.toArray (acells .u32 8 (x1)))) rfl rfl rfl rfl hE rfl hS rfl rfl (by kernel_rfl) (kL (j := 1) hS rfl List.not_mem_nil) (fun a hE => ?_))) rfl
    refine at_op (op_alloc (z := .agg (List.toArray (acells .u32 8 ((Vector.replicate 8 (0 : Int)))))) rfl rfl rfl rfl hE rfl hS (by kernel_rfl) (fun a b746 w _ hE hS => ?_)) rfl
    refine at_op (op_store (v := .agg (List.toArray (acells .u32 8 (x1)))) (acells .u32 8 (x1)) rfl rfl rfl rfl hE hS rfl rfl (by kernel_rfl) (by kernel_rfl) (by kernel_rfl) (by kernel_rfl) (by kernel_rfl) (fun a w _ hE hS => ?_)) rfl
    refine at_end rfl ?_
    refine wpIn_seq ?_
    refine wpIn_seq ?_
    refine region_at ?_
    refine segN 1 (j := 1) [(16, .slice A3 (List.length (x2)) c4)] hE (by kernel_rfl) rfl (fun a hE => ?_)
    obtain ⟨r1045, h1046, hf⟩ := bind_some hf
    refine at_op (op_call rfl rfl rfl rfl hE rfl rfl rfl rfl (by kernel_rfl) (sha_schedule.calls (g := g) h1046 (hS.st.fore (L := [])) h5) (fun a v w hR hE => ?_)) rfl
    obtain ⟨D1047, rfl, hS1⟩ := hR
    have le1049 := hS1.dle
    have hS := hS.callR hS1 rfl .n
    clear hS1
    refine segN 1 (j := 3) [(18, .int .i64 ((0 : Int)))] hE (by kernel_rfl) rfl (fun a hE => ?_)
    refine at_end rfl ?_
    obtain ⟨s1248, hf, hs1249⟩ := bind_some hf
    have hS := hS.pk (.c 2 rfl (.c 1 rfl (.c 0 rfl .n))) rfl
    refine block_loop (fun a w => ∃ (z1245 : (Vector Int 8)), ∃ (D1246 : Snap), Env a 94 [] [(2, .pointer (some ⟨b742, 0, none⟩)), (4, .pointer (some ⟨b744, 0, none⟩)), (5, .pointer (some ⟨b746, 0, none⟩))] ∧ Stp g w0 D0 [] w D1246 [bx b742 94 (acells .u32 8 (x1)), bx b744 94 (acells .u32 8 ((Vector.replicate 8 (0 : Int)))), bx b746 94 (acells .u32 8 (z1245))] ∧ Snap.le D1047 D1246 ∧ z1245 = s1248) (fun k a w => ∃ (y1147 : Int × (Vector Int 8)), ∃ (D1148 : Snap), Env a 94 [] [(2, .pointer (some ⟨b742, 0, none⟩)), (4, .pointer (some ⟨b744, 0, none⟩)), (5, .pointer (some ⟨b746, 0, none⟩)), (17, .agg (List.toArray (acells .u32 64 (r1045)))), (18, .int .i64 (y1147.1))] ∧ Stp g w0 D0 [] w D1148 [bx b742 94 (acells .u32 8 (x1)), bx b744 94 (acells .u32 8 ((Vector.replicate 8 (0 : Int)))), bx b746 94 (acells .u32 8 (y1147.2))] ∧ Snap.le D1047 D1148 ∧ sha_Turn_l1.l K r1045 k y1147 = some s1248) K ?_ ?_ ?_
    · exact ⟨((0 : Int), x1), D1047, hE.weak (by kernel_rfl), hS, Snap.le.refl _, hf⟩
    · clear hE hS hf
      rintro a w ⟨z1245, D1246, hE, hS, le1247, rfl⟩
      have hf := hs1249
      clear hs1249
      refine wpIn_seq ?_
      refine wpIn_seq ?_
      refine region_at ?_
      refine segN 1 (j := 1) [(81, .int .i64 ((0 : Int)))] hE (by kernel_rfl) rfl (fun a hE => ?_)
      refine at_end rfl ?_
      obtain ⟨s1456, hf, hs1457⟩ := bind_some hf
      refine block_loop (fun a w => ∃ (z1453 : (Vector Int 8)), ∃ (D1454 : Snap), Env a 94 [] [(2, .pointer (some ⟨b742, 0, none⟩)), (4, .pointer (some ⟨b744, 0, none⟩))] ∧ Stp g w0 D0 [] w D1454 [bx b742 94 (acells .u32 8 (z1453)), bx b744 94 (acells .u32 8 ((Vector.replicate 8 (0 : Int))))] ∧ Snap.le D1246 D1454 ∧ z1453 = s1456) (fun k a w => ∃ (y1427 : Int × (Vector Int 8)), ∃ (D1428 : Snap), Env a 94 [] [(2, .pointer (some ⟨b742, 0, none⟩)), (4, .pointer (some ⟨b744, 0, none⟩)), (5, .pointer (some ⟨b746, 0, none⟩)), (81, .int .i64 (y1427.1))] ∧ Stp g w0 D0 [] w D1428 [bx b742 94 (acells .u32 8 (y1427.2)), bx b744 94 (acells .u32 8 ((Vector.replicate 8 (0 : Int)))), bx b746 94 (acells .u32 8 (z1245))] ∧ Snap.le D1246 D1428 ∧ sha_Turn_l2.l K z1245 k y1427 = some s1456) K ?_ ?_ ?_
      · exact ⟨((0 : Int), x1), D1246, hE.weak (by kernel_rfl), hS, Snap.le.refl _, hf⟩
      · clear hE hS hf
        rintro a w ⟨z1453, D1454, hE, hS, le1455, rfl⟩
        have hf := hs1457
        clear hs1457
        refine wpIn_seq ?_
        refine region_at ?_
        refine at_op (op_tk hE (tk_load 0 (.agg (List.toArray (acells .u32 8 (z1453)))) rfl rfl rfl rfl hE rfl hS rfl rfl (by kernel_rfl) (kL (j := 0) hS rfl List.not_mem_nil) (fun a hE => ?_))) rfl
        have hS := hS.pk (.c 1 rfl (.c 0 rfl .n)) rfl
        refine at_op (op_store (v := .agg (List.toArray (acells .u32 8 (z1453)))) (acells .u32 8 (z1453)) rfl rfl rfl rfl hE hS rfl rfl (by kernel_rfl) (by kernel_rfl) (by kernel_rfl) (by kernel_rfl) (by kernel_rfl) (fun a w _ hE hS => ?_)) rfl
        refine at_end rfl ?_
        refine wpIn_ret ?_
        obtain rfl := Option.some.inj hf
        repeat (with_reducible first | refine then_ret ?_ | refine block_ret ?_ | refine qx_ret ?_)
        refine ret_gen ([.agg (List.toArray (acells .u32 8 (z1453)))]) hE (by rw [show Tryd.f80.results.toList = [.cell 4 94] from rfl]; exact ⟨_, _, _, 0, _, _, rfl, rfl, hS.heapAt (j := 0) rfl, by kernel_rfl, rfl⟩) ?_
        have hS := hS.pk .n rfl
        exact ⟨_, rfl, D1454, rfl, hS⟩
      · clear hE hS hf
        rintro k a w ⟨y1427, D1428, hE, hS, le1429, hf⟩
        obtain ⟨k, rfl, hf⟩ := sha_Turn_l2.some _ hf
        refine ⟨k, rfl, ?_⟩
        unfold sha_Turn_l2.b at hf
        refine wpIn_seq ?_
        refine region_at ?_
        refine segN 1 (j := 1) [(82, .bool ((decide (y1427.1 < (8 : Int)))))] hE (by kernel_rfl) rfl (fun a hE => ?_)
        refine at_end rfl ?_
        refine wpIn_seq ?_
        refine cond_split hE (b := (decide (y1427.1 < (8 : Int)))) rfl (fun hb => ?_) (fun hb => ?_)
        · replace hf := cond_t hb hf
          clear hb
          refine wpIn_skip ?_
          refine wpIn_seq ?_
          refine wpIn_block ?_
          refine wpIn_seq ?_
          refine region_at ?_
          refine segN 2 (j := 2) [(10, .int .i64 (y1427.1))] hE (by kernel_rfl) rfl (fun a hE => ?_)
          refine at_end rfl ?_
          refine region_draw (fun j => Keeps (mfOf [(8, [b742])] j)) (by kernel_rfl) ?_
          have hS := hS.drew
          first | generalize w.drew = w at hS ⊢ | generalize w0.drew = w at hS ⊢
          refine tW 0 1 (fuel := 8) (by kernel_rfl) hE (fun M => tk_pure (.int .i64 (y1427.1)) hE rfl rfl rfl rfl (fun _ _ _ e => by cases e) (by kernel_rfl) (fun a hE => ?_))
          refine tW 3 9 (fuel := 7) (by kernel_rfl) hE (fun M => tk_pure (.int .i64 (y1427.1)) hE rfl rfl rfl rfl (fun _ _ _ e => by cases e) (by kernel_rfl) (fun a hE => ?_))
          obtain ⟨hm1473, hf⟩ := chk_some hf
          refine tW 1 11 (fuel := 6) (by kernel_rfl) hE (fun M => tk_indexPA (N := 8) (k := .u32) (m := y1427.1) rfl rfl rfl rfl hE rfl rfl rfl (by kernel_rfl) hm1473 (fun a hE => ?_))
          refine tT 2 15 (fuel := 5) (by kernel_rfl) hE (tk_loadPA 0 (N := 8) (k := .u32) (v := y1427.2) (m := y1427.1) rfl rfl rfl rfl hE rfl hS rfl rfl (by kernel_rfl) hm1473 (kL (j := 0) hS rfl List.not_mem_nil) (fun a hE => ?_))
          obtain ⟨hm1474, hf⟩ := chk_some hf
          refine tW 4 31 (fuel := 4) (by kernel_rfl) hE (fun M => tk_indexPA (N := 8) (k := .u32) (m := y1427.1) rfl rfl rfl rfl hE rfl rfl rfl (by kernel_rfl) hm1474 (fun a hE => ?_))
          refine tT 5 63 (fuel := 3) (by kernel_rfl) hE (tk_loadPA 2 (N := 8) (k := .u32) (v := z1245) (m := y1427.1) rfl rfl rfl rfl hE rfl hS rfl rfl (by kernel_rfl) hm1474 (kL (j := 2) hS rfl List.not_mem_nil) (fun a hE => ?_))
          refine tW 6 127 (fuel := 2) (by kernel_rfl) hE (fun M => tk_pure (.int .u32 ((IntKind.wrap .u32 ((vget (y1427.2) (Int.toNat (y1427.1))) + (vget (z1245) (Int.toNat (y1427.1))))))) hE rfl rfl rfl rfl (fun _ _ _ e => by cases e) (by kernel_rfl) (fun a hE => ?_))
          obtain ⟨hm1475, hf⟩ := chk_some hf
          refine tW 7 255 (fuel := 1) (by kernel_rfl) hE (fun M => tk_indexPA (N := 8) (k := .u32) (m := y1427.1) rfl rfl rfl rfl hE rfl rfl rfl (by kernel_rfl) hm1475 (fun a hE => ?_))
          obtain ⟨v1476, hv1477, hf⟩ := bind_some hf
          replace hv1477 := Option.some.inj hv1477
          refine oG 8 511 (fuel := 0) (by kernel_rfl) (op_storePA (N := 8) (k := .u32) (v := y1427.2) (m := y1427.1) (z := (IntKind.wrap .u32 ((vget (y1427.2) (Int.toNat (y1427.1))) + (vget (z1245) (Int.toNat (y1427.1)))))) rfl rfl rfl rfl hE hS rfl rfl (by kernel_rfl) hm1475 (fun a w hkp hE hS => ⟨hkp.mono (fun _ h => h), ?_⟩))
          clear hkp
          rw [hv1477] at hS
          refine doneG (by kernel_rfl) ?_
          refine region_at ?_
          refine segN 2 (j := 2) [(81, .int .i64 ((IntKind.wrap .i64 (y1427.1 + (1 : Int)))))] hE (by kernel_rfl) rfl (fun a hE => ?_)
          refine at_end rfl ?_
          exact ⟨((IntKind.wrap .i64 (y1427.1 + (1 : Int))), v1476), D1428, hE.weak (by kernel_rfl), hS, le1429, hf⟩
        · replace hf := cond_f hb hf
          clear hb
          refine wpIn_exit ?_
          obtain rfl := Option.some.inj hf
          have hS := hS.pk (.c 0 rfl (.c 1 rfl .n)) rfl
          exact ⟨y1427.2, D1428, hE.weak (by kernel_rfl), hS, le1429, rfl⟩
    · clear hE hS hf
      rintro k a w ⟨y1147, D1148, hE, hS, le1149, hf⟩
      obtain ⟨k, rfl, hf⟩ := sha_Turn_l1.some _ hf
      refine ⟨k, rfl, ?_⟩
      unfold sha_Turn_l1.b at hf
      refine wpIn_seq ?_
      refine region_at ?_
      refine segN 1 (j := 1) [(19, .bool ((decide (y1147.1 < (64 : Int)))))] hE (by kernel_rfl) rfl (fun a hE => ?_)
      refine at_end rfl ?_
      refine wpIn_seq ?_
      refine cond_split hE (b := (decide (y1147.1 < (64 : Int)))) rfl (fun hb => ?_) (fun hb => ?_)
      · replace hf := cond_t hb hf
        clear hb
        refine wpIn_skip ?_
        refine wpIn_seq ?_
        refine wpIn_block ?_
        refine wpIn_seq ?_
        refine region_at ?_
        refine segN 1 (j := 1) [(20, .int .i64 (y1147.1))] hE (by kernel_rfl) rfl (fun a hE => ?_)
        obtain ⟨x1296, h1297, hf⟩ := bind_some hf
        refine at_op (op_tk hE (tk_indexA (N := 64) (k := .u32) (v := r1045) rfl rfl rfl rfl hE rfl rfl rfl (by kernel_rfl) h1297 (fun a hE => ?_))) rfl
        refine segN 2 (j := 4) [(6, .int .i64 (y1147.1)), (7, .int .u32 (x1296))] hE (by kernel_rfl) rfl (fun a hE => ?_)
        refine at_end rfl ?_
        refine wpIn_seq ?_
        refine region_draw (fun j => Keeps (mfOf [] j)) (by kernel_rfl) ?_
        have hS := hS.drew
        first | generalize w.drew = w at hS ⊢ | generalize w0.drew = w at hS ⊢
        refine tW 19 524288 (fuel := 25) (by kernel_rfl) hE (fun M => tk_pure (.int .i64 (y1147.1)) hE rfl rfl rfl rfl (fun _ _ _ e => by cases e) (by kernel_rfl) (fun a hE => ?_))
        refine tW 23 8912896 (fuel := 24) (by kernel_rfl) hE (fun M => tk_pure (.int .u32 (x1296)) hE rfl rfl rfl rfl (fun _ _ _ e => by cases e) (by kernel_rfl) (fun a hE => ?_))
        refine tW 0 8912897 (fuel := 23) (by kernel_rfl) hE (fun M => tk_indexPA (N := 8) (k := .u32) (m := (7 : Int)) rfl rfl rfl rfl hE rfl rfl rfl (by kernel_rfl) (by kernel_rfl) (fun a hE => ?_))
        refine tT 1 8912899 (fuel := 22) (by kernel_rfl) hE (tk_loadPA 2 (N := 8) (k := .u32) (v := y1147.2) (m := (7 : Int)) rfl rfl rfl rfl hE rfl hS rfl rfl (by kernel_rfl) (by kernel_rfl) (kL (j := 2) hS rfl List.not_mem_nil) (fun a hE => ?_))
        refine tW 2 8912903 (fuel := 21) (by kernel_rfl) hE (fun M => tk_indexPA (N := 8) (k := .u32) (m := (4 : Int)) rfl rfl rfl rfl hE rfl rfl rfl (by kernel_rfl) (by kernel_rfl) (fun a hE => ?_))
        refine tT 3 8912911 (fuel := 20) (by kernel_rfl) hE (tk_loadPA 2 (N := 8) (k := .u32) (v := y1147.2) (m := (4 : Int)) rfl rfl rfl rfl hE rfl hS rfl rfl (by kernel_rfl) (by kernel_rfl) (kL (j := 2) hS rfl List.not_mem_nil) (fun a hE => ?_))
        refine tW 6 8912975 (fuel := 19) (by kernel_rfl) hE (fun M => tk_indexPA (N := 8) (k := .u32) (m := (4 : Int)) rfl rfl rfl rfl hE rfl rfl rfl (by kernel_rfl) (by kernel_rfl) (fun a hE => ?_))
        refine tT 7 8913103 (fuel := 18) (by kernel_rfl) hE (tk_loadPA 2 (N := 8) (k := .u32) (v := y1147.2) (m := (4 : Int)) rfl rfl rfl rfl hE rfl hS rfl rfl (by kernel_rfl) (by kernel_rfl) (kL (j := 2) hS rfl List.not_mem_nil) (fun a hE => ?_))
        refine tW 8 8913359 (fuel := 17) (by kernel_rfl) hE (fun M => tk_indexPA (N := 8) (k := .u32) (m := (5 : Int)) rfl rfl rfl rfl hE rfl rfl rfl (by kernel_rfl) (by kernel_rfl) (fun a hE => ?_))
        refine tT 9 8913871 (fuel := 16) (by kernel_rfl) hE (tk_loadPA 2 (N := 8) (k := .u32) (v := y1147.2) (m := (5 : Int)) rfl rfl rfl rfl hE rfl hS rfl rfl (by kernel_rfl) (by kernel_rfl) (kL (j := 2) hS rfl List.not_mem_nil) (fun a hE => ?_))
        refine tW 10 8914895 (fuel := 15) (by kernel_rfl) hE (fun M => tk_pure (.int .u32 ((band .u32 (vget (y1147.2) (Int.toNat ((4 : Int)))) (vget (y1147.2) (Int.toNat ((5 : Int))))))) hE rfl rfl rfl rfl (fun _ _ _ e => by cases e) (by kernel_rfl) (fun a hE => ?_))
        refine tW 11 8916943 (fuel := 14) (by kernel_rfl) hE (fun M => tk_indexPA (N := 8) (k := .u32) (m := (4 : Int)) rfl rfl rfl rfl hE rfl rfl rfl (by kernel_rfl) (by kernel_rfl) (fun a hE => ?_))
        refine tT 12 8921039 (fuel := 13) (by kernel_rfl) hE (tk_loadPA 2 (N := 8) (k := .u32) (v := y1147.2) (m := (4 : Int)) rfl rfl rfl rfl hE rfl hS rfl rfl (by kernel_rfl) (by kernel_rfl) (kL (j := 2) hS rfl List.not_mem_nil) (fun a hE => ?_))
        refine tW 13 8929231 (fuel := 12) (by kernel_rfl) hE (fun M => tk_pure (.int .u32 ((bnot .u32 (vget (y1147.2) (Int.toNat ((4 : Int))))))) hE rfl rfl rfl rfl (fun _ _ _ e => by cases e) (by kernel_rfl) (fun a hE => ?_))
        refine tW 14 8945615 (fuel := 11) (by kernel_rfl) hE (fun M => tk_indexPA (N := 8) (k := .u32) (m := (6 : Int)) rfl rfl rfl rfl hE rfl rfl rfl (by kernel_rfl) (by kernel_rfl) (fun a hE => ?_))
        refine tT 15 8978383 (fuel := 10) (by kernel_rfl) hE (tk_loadPA 2 (N := 8) (k := .u32) (v := y1147.2) (m := (6 : Int)) rfl rfl rfl rfl hE rfl hS rfl rfl (by kernel_rfl) (by kernel_rfl) (kL (j := 2) hS rfl List.not_mem_nil) (fun a hE => ?_))
        refine tW 16 9043919 (fuel := 9) (by kernel_rfl) hE (fun M => tk_pure (.int .u32 ((band .u32 (bnot .u32 (vget (y1147.2) (Int.toNat ((4 : Int))))) (vget (y1147.2) (Int.toNat ((6 : Int))))))) hE rfl rfl rfl rfl (fun _ _ _ e => by cases e) (by kernel_rfl) (fun a hE => ?_))
        refine tW 17 9174991 (fuel := 8) (by kernel_rfl) hE (fun M => tk_pure (.int .u32 ((bxor .u32 (band .u32 (vget (y1147.2) (Int.toNat ((4 : Int)))) (vget (y1147.2) (Int.toNat ((5 : Int))))) (band .u32 (bnot .u32 (vget (y1147.2) (Int.toNat ((4 : Int))))) (vget (y1147.2) (Int.toNat ((6 : Int)))))))) hE rfl rfl rfl rfl (fun _ _ _ e => by cases e) (by kernel_rfl) (fun a hE => ?_))
        obtain ⟨hm1311, hf⟩ := chk_some hf
        refine tW 20 10223567 (fuel := 7) (by kernel_rfl) hE (fun M => tk_indexPA (N := 64) (k := .u32) (m := y1147.1) rfl rfl rfl rfl hE rfl rfl rfl (by kernel_rfl) hm1311 (fun a hE => ?_))
        obtain ⟨cs1312, C1313, T1314, fr1315, hr1316, hb1317, hc1318⟩ := (Cell.elemA (N := 64) (m := y1147.1) (hG1.mono (Snap.le.trans le1049 le1149)) hm1311)
        obtain rfl := hr1316
        refine tT 21 12320719 (fuel := 6) (by kernel_rfl) hE (tk_loadX (off0 := (0 + Int.toNat (y1147.1))) (off := 0) (c := [.int .u32 ((vget (gl_K) (Int.toNat (y1147.1))))]) (.int .u32 ((vget (gl_K) (Int.toNat (y1147.1))))) rfl rfl rfl rfl hE rfl hS rfl hb1317 hc1318 (by kernel_rfl) (by kernel_rfl) (kD hS dn_nil) (fun a hE => ?_))
        obtain ⟨r1319, h1320, hf⟩ := bind_some hf
        refine oG 4 12320735 (fuel := 5) (by kernel_rfl) (op_call rfl rfl rfl rfl hE rfl rfl rfl rfl (by kernel_rfl) (sha_turned.calls (g := g) h1320 (hS.st.fore (L := [])) ) (fun a v w hR hE => ?_))
        obtain ⟨D1321, rfl, hS1⟩ := hR
        refine ⟨(hS1.keeps.sub (M' := []) trivial).mono (fun _ h => h), ?_⟩
        have le1323 := hS1.dle
        have hS := hS.callR hS1 rfl .n
        clear hS1
        refine tW 5 12320767 (fuel := 4) (by kernel_rfl) hE (fun M => tk_pure (.int .u32 ((IntKind.wrap .u32 ((vget (y1147.2) (Int.toNat ((7 : Int)))) + r1319)))) hE rfl rfl rfl rfl (fun _ _ _ e => by cases e) (by kernel_rfl) (fun a hE => ?_))
        refine tW 18 12582911 (fuel := 3) (by kernel_rfl) hE (fun M => tk_pure (.int .u32 ((IntKind.wrap .u32 ((IntKind.wrap .u32 ((vget (y1147.2) (Int.toNat ((7 : Int)))) + r1319)) + (bxor .u32 (band .u32 (vget (y1147.2) (Int.toNat ((4 : Int)))) (vget (y1147.2) (Int.toNat ((5 : Int))))) (band .u32 (bnot .u32 (vget (y1147.2) (Int.toNat ((4 : Int))))) (vget (y1147.2) (Int.toNat ((6 : Int)))))))))) hE rfl rfl rfl rfl (fun _ _ _ e => by cases e) (by kernel_rfl) (fun a hE => ?_))
        refine tW 22 16777215 (fuel := 2) (by kernel_rfl) hE (fun M => tk_pure (.int .u32 ((IntKind.wrap .u32 ((IntKind.wrap .u32 ((IntKind.wrap .u32 ((vget (y1147.2) (Int.toNat ((7 : Int)))) + r1319)) + (bxor .u32 (band .u32 (vget (y1147.2) (Int.toNat ((4 : Int)))) (vget (y1147.2) (Int.toNat ((5 : Int))))) (band .u32 (bnot .u32 (vget (y1147.2) (Int.toNat ((4 : Int))))) (vget (y1147.2) (Int.toNat ((6 : Int)))))))) + (vget (gl_K) (Int.toNat (y1147.1))))))) hE rfl rfl rfl rfl (fun _ _ _ e => by cases e) (by kernel_rfl) (fun a hE => ?_))
        refine tW 24 33554431 (fuel := 1) (by kernel_rfl) hE (fun M => tk_pure (.int .u32 ((IntKind.wrap .u32 ((IntKind.wrap .u32 ((IntKind.wrap .u32 ((IntKind.wrap .u32 ((vget (y1147.2) (Int.toNat ((7 : Int)))) + r1319)) + (bxor .u32 (band .u32 (vget (y1147.2) (Int.toNat ((4 : Int)))) (vget (y1147.2) (Int.toNat ((5 : Int))))) (band .u32 (bnot .u32 (vget (y1147.2) (Int.toNat ((4 : Int))))) (vget (y1147.2) (Int.toNat ((6 : Int)))))))) + (vget (gl_K) (Int.toNat (y1147.1))))) + x1296)))) hE rfl rfl rfl rfl (fun _ _ _ e => by cases e) (by kernel_rfl) (fun a hE => ?_))
        refine tW 25 67108863 (fuel := 0) (by kernel_rfl) hE (fun M => tk_pure (.int .u32 ((IntKind.wrap .u32 ((IntKind.wrap .u32 ((IntKind.wrap .u32 ((IntKind.wrap .u32 ((vget (y1147.2) (Int.toNat ((7 : Int)))) + r1319)) + (bxor .u32 (band .u32 (vget (y1147.2) (Int.toNat ((4 : Int)))) (vget (y1147.2) (Int.toNat ((5 : Int))))) (band .u32 (bnot .u32 (vget (y1147.2) (Int.toNat ((4 : Int))))) (vget (y1147.2) (Int.toNat ((6 : Int)))))))) + (vget (gl_K) (Int.toNat (y1147.1))))) + x1296)))) hE rfl rfl rfl rfl (fun _ _ _ e => by cases e) (by kernel_rfl) (fun a hE => ?_))
        refine doneG (by kernel_rfl) ?_
        refine wpIn_seq ?_
        refine region_draw (fun j => Keeps (mfOf [] j)) (by kernel_rfl) ?_
        have hS := hS.drew
        first | generalize w.drew = w at hS ⊢ | generalize w0.drew = w at hS ⊢
        refine tW 0 1 (fuel := 21) (by kernel_rfl) hE (fun M => tk_indexPA (N := 8) (k := .u32) (m := (0 : Int)) rfl rfl rfl rfl hE rfl rfl rfl (by kernel_rfl) (by kernel_rfl) (fun a hE => ?_))
        refine tT 1 3 (fuel := 20) (by kernel_rfl) hE (tk_loadPA 2 (N := 8) (k := .u32) (v := y1147.2) (m := (0 : Int)) rfl rfl rfl rfl hE rfl hS rfl rfl (by kernel_rfl) (by kernel_rfl) (kL (j := 2) hS rfl List.not_mem_nil) (fun a hE => ?_))
        refine tW 3 11 (fuel := 19) (by kernel_rfl) hE (fun M => tk_indexPA (N := 8) (k := .u32) (m := (0 : Int)) rfl rfl rfl rfl hE rfl rfl rfl (by kernel_rfl) (by kernel_rfl) (fun a hE => ?_))
        refine tT 4 27 (fuel := 18) (by kernel_rfl) hE (tk_loadPA 2 (N := 8) (k := .u32) (v := y1147.2) (m := (0 : Int)) rfl rfl rfl rfl hE rfl hS rfl rfl (by kernel_rfl) (by kernel_rfl) (kL (j := 2) hS rfl List.not_mem_nil) (fun a hE => ?_))
        refine tW 5 59 (fuel := 17) (by kernel_rfl) hE (fun M => tk_indexPA (N := 8) (k := .u32) (m := (1 : Int)) rfl rfl rfl rfl hE rfl rfl rfl (by kernel_rfl) (by kernel_rfl) (fun a hE => ?_))
        refine tT 6 123 (fuel := 16) (by kernel_rfl) hE (tk_loadPA 2 (N := 8) (k := .u32) (v := y1147.2) (m := (1 : Int)) rfl rfl rfl rfl hE rfl hS rfl rfl (by kernel_rfl) (by kernel_rfl) (kL (j := 2) hS rfl List.not_mem_nil) (fun a hE => ?_))
        refine tW 7 251 (fuel := 15) (by kernel_rfl) hE (fun M => tk_pure (.int .u32 ((band .u32 (vget (y1147.2) (Int.toNat ((0 : Int)))) (vget (y1147.2) (Int.toNat ((1 : Int))))))) hE rfl rfl rfl rfl (fun _ _ _ e => by cases e) (by kernel_rfl) (fun a hE => ?_))
        refine tW 8 507 (fuel := 14) (by kernel_rfl) hE (fun M => tk_indexPA (N := 8) (k := .u32) (m := (0 : Int)) rfl rfl rfl rfl hE rfl rfl rfl (by kernel_rfl) (by kernel_rfl) (fun a hE => ?_))
        refine tT 9 1019 (fuel := 13) (by kernel_rfl) hE (tk_loadPA 2 (N := 8) (k := .u32) (v := y1147.2) (m := (0 : Int)) rfl rfl rfl rfl hE rfl hS rfl rfl (by kernel_rfl) (by kernel_rfl) (kL (j := 2) hS rfl List.not_mem_nil) (fun a hE => ?_))
        refine tW 10 2043 (fuel := 12) (by kernel_rfl) hE (fun M => tk_indexPA (N := 8) (k := .u32) (m := (2 : Int)) rfl rfl rfl rfl hE rfl rfl rfl (by kernel_rfl) (by kernel_rfl) (fun a hE => ?_))
        refine tT 11 4091 (fuel := 11) (by kernel_rfl) hE (tk_loadPA 2 (N := 8) (k := .u32) (v := y1147.2) (m := (2 : Int)) rfl rfl rfl rfl hE rfl hS rfl rfl (by kernel_rfl) (by kernel_rfl) (kL (j := 2) hS rfl List.not_mem_nil) (fun a hE => ?_))
        refine tW 12 8187 (fuel := 10) (by kernel_rfl) hE (fun M => tk_pure (.int .u32 ((band .u32 (vget (y1147.2) (Int.toNat ((0 : Int)))) (vget (y1147.2) (Int.toNat ((2 : Int))))))) hE rfl rfl rfl rfl (fun _ _ _ e => by cases e) (by kernel_rfl) (fun a hE => ?_))
        refine tW 13 16379 (fuel := 9) (by kernel_rfl) hE (fun M => tk_pure (.int .u32 ((bxor .u32 (band .u32 (vget (y1147.2) (Int.toNat ((0 : Int)))) (vget (y1147.2) (Int.toNat ((1 : Int))))) (band .u32 (vget (y1147.2) (Int.toNat ((0 : Int)))) (vget (y1147.2) (Int.toNat ((2 : Int)))))))) hE rfl rfl rfl rfl (fun _ _ _ e => by cases e) (by kernel_rfl) (fun a hE => ?_))
        refine tW 14 32763 (fuel := 8) (by kernel_rfl) hE (fun M => tk_indexPA (N := 8) (k := .u32) (m := (1 : Int)) rfl rfl rfl rfl hE rfl rfl rfl (by kernel_rfl) (by kernel_rfl) (fun a hE => ?_))
        refine tT 15 65531 (fuel := 7) (by kernel_rfl) hE (tk_loadPA 2 (N := 8) (k := .u32) (v := y1147.2) (m := (1 : Int)) rfl rfl rfl rfl hE rfl hS rfl rfl (by kernel_rfl) (by kernel_rfl) (kL (j := 2) hS rfl List.not_mem_nil) (fun a hE => ?_))
        refine tW 16 131067 (fuel := 6) (by kernel_rfl) hE (fun M => tk_indexPA (N := 8) (k := .u32) (m := (2 : Int)) rfl rfl rfl rfl hE rfl rfl rfl (by kernel_rfl) (by kernel_rfl) (fun a hE => ?_))
        refine tT 17 262139 (fuel := 5) (by kernel_rfl) hE (tk_loadPA 2 (N := 8) (k := .u32) (v := y1147.2) (m := (2 : Int)) rfl rfl rfl rfl hE rfl hS rfl rfl (by kernel_rfl) (by kernel_rfl) (kL (j := 2) hS rfl List.not_mem_nil) (fun a hE => ?_))
        refine tW 18 524283 (fuel := 4) (by kernel_rfl) hE (fun M => tk_pure (.int .u32 ((band .u32 (vget (y1147.2) (Int.toNat ((1 : Int)))) (vget (y1147.2) (Int.toNat ((2 : Int))))))) hE rfl rfl rfl rfl (fun _ _ _ e => by cases e) (by kernel_rfl) (fun a hE => ?_))
        refine tW 19 1048571 (fuel := 3) (by kernel_rfl) hE (fun M => tk_pure (.int .u32 ((bxor .u32 (bxor .u32 (band .u32 (vget (y1147.2) (Int.toNat ((0 : Int)))) (vget (y1147.2) (Int.toNat ((1 : Int))))) (band .u32 (vget (y1147.2) (Int.toNat ((0 : Int)))) (vget (y1147.2) (Int.toNat ((2 : Int)))))) (band .u32 (vget (y1147.2) (Int.toNat ((1 : Int)))) (vget (y1147.2) (Int.toNat ((2 : Int)))))))) hE rfl rfl rfl rfl (fun _ _ _ e => by cases e) (by kernel_rfl) (fun a hE => ?_))
        obtain ⟨r1329, h1330, hf⟩ := bind_some hf
        refine oG 2 1048575 (fuel := 2) (by kernel_rfl) (op_call rfl rfl rfl rfl hE rfl rfl rfl rfl (by kernel_rfl) (sha_turned.calls (g := g) h1330 (hS.st.fore (L := [])) ) (fun a v w hR hE => ?_))
        obtain ⟨D1331, rfl, hS1⟩ := hR
        refine ⟨(hS1.keeps.sub (M' := []) trivial).mono (fun _ h => h), ?_⟩
        have le1333 := hS1.dle
        have hS := hS.callR hS1 rfl .n
        clear hS1
        refine tW 20 2097151 (fuel := 1) (by kernel_rfl) hE (fun M => tk_pure (.int .u32 ((IntKind.wrap .u32 (r1329 + (bxor .u32 (bxor .u32 (band .u32 (vget (y1147.2) (Int.toNat ((0 : Int)))) (vget (y1147.2) (Int.toNat ((1 : Int))))) (band .u32 (vget (y1147.2) (Int.toNat ((0 : Int)))) (vget (y1147.2) (Int.toNat ((2 : Int)))))) (band .u32 (vget (y1147.2) (Int.toNat ((1 : Int)))) (vget (y1147.2) (Int.toNat ((2 : Int)))))))))) hE rfl rfl rfl rfl (fun _ _ _ e => by cases e) (by kernel_rfl) (fun a hE => ?_))
        refine tW 21 4194303 (fuel := 0) (by kernel_rfl) hE (fun M => tk_pure (.int .u32 ((IntKind.wrap .u32 (r1329 + (bxor .u32 (bxor .u32 (band .u32 (vget (y1147.2) (Int.toNat ((0 : Int)))) (vget (y1147.2) (Int.toNat ((1 : Int))))) (band .u32 (vget (y1147.2) (Int.toNat ((0 : Int)))) (vget (y1147.2) (Int.toNat ((2 : Int)))))) (band .u32 (vget (y1147.2) (Int.toNat ((1 : Int)))) (vget (y1147.2) (Int.toNat ((2 : Int)))))))))) hE rfl rfl rfl rfl (fun _ _ _ e => by cases e) (by kernel_rfl) (fun a hE => ?_))
        refine doneG (by kernel_rfl) ?_
        refine wpIn_seq ?_
        refine region_draw (fun j => Keeps (mfOf [(2, [b746])] j)) (by kernel_rfl) ?_
        have hS := hS.drew
        first | generalize w.drew = w at hS ⊢ | generalize w0.drew = w at hS ⊢
        refine tW 0 1 (fuel := 2) (by kernel_rfl) hE (fun M => tk_slicePA (N := 8) (k := .u32) (zl := 1) (zh := 8) rfl rfl rfl rfl hE rfl rfl (by kernel_rfl) ⟨_, rfl⟩ rfl (by kernel_rfl) (fun a hE => ?_))
        refine tW 1 3 (fuel := 1) (by kernel_rfl) hE (fun M => tk_slicePA (N := 8) (k := .u32) (zl := 0) (zh := 7) rfl rfl rfl rfl hE rfl rfl (by kernel_rfl) rfl ⟨_, rfl⟩ (by kernel_rfl) (fun a hE => ?_))
        have hS := hS.pk (.c 2 rfl (.c 0 rfl (.c 1 rfl .n))) rfl
        obtain ⟨v1336, hv1337, hf⟩ := bind_some hf
        replace hv1337 := Option.some.inj hv1337
        refine oG 2 7 (fuel := 0) (by kernel_rfl) (op_copyPA (e := 93) (N := 8) (k := .u32) (v := y1147.2) (cc := 7) (p := 1) (q := 0) rfl rfl rfl rfl rfl hE rfl hS rfl rfl (by kernel_rfl) (by kernel_rfl) (by kernel_rfl) (by kernel_rfl) (fun a w hkp hE hS => ⟨hkp.mono (fun _ h => h), ?_⟩))
        clear hkp
        rw [hv1337] at hS
        refine doneG (by kernel_rfl) ?_
        refine wpIn_seq ?_
        refine region_at ?_
        refine at_op (op_tk hE (tk_indexPA (N := 8) (k := .u32) (m := (4 : Int)) rfl rfl rfl rfl hE rfl rfl rfl (by kernel_rfl) (by kernel_rfl) (fun a hE => ?_))) rfl
        refine at_op (op_tk hE (tk_loadPA 0 (N := 8) (k := .u32) (v := v1336) (m := (4 : Int)) rfl rfl rfl rfl hE rfl hS rfl rfl (by kernel_rfl) (by kernel_rfl) (kL (j := 0) hS rfl List.not_mem_nil) (fun a hE => ?_))) rfl
        refine segN 2 (j := 4) [(74, .int .u32 ((IntKind.wrap .u32 ((vget (v1336) (Int.toNat ((4 : Int)))) + (IntKind.wrap .u32 ((IntKind.wrap .u32 ((IntKind.wrap .u32 ((IntKind.wrap .u32 ((vget (y1147.2) (Int.toNat ((7 : Int)))) + r1319)) + (bxor .u32 (band .u32 (vget (y1147.2) (Int.toNat ((4 : Int)))) (vget (y1147.2) (Int.toNat ((5 : Int))))) (band .u32 (bnot .u32 (vget (y1147.2) (Int.toNat ((4 : Int))))) (vget (y1147.2) (Int.toNat ((6 : Int)))))))) + (vget (gl_K) (Int.toNat (y1147.1))))) + x1296))))))] hE (by kernel_rfl) rfl (fun a hE => ?_)
        refine at_op (op_tk hE (tk_indexPA (N := 8) (k := .u32) (m := (4 : Int)) rfl rfl rfl rfl hE rfl rfl rfl (by kernel_rfl) (by kernel_rfl) (fun a hE => ?_))) rfl
        obtain ⟨v1338, hv1339, hf⟩ := bind_some hf
        replace hv1339 := Option.some.inj hv1339
        refine at_op (op_storePA (N := 8) (k := .u32) (v := v1336) (m := (4 : Int)) (z := (IntKind.wrap .u32 ((vget (v1336) (Int.toNat ((4 : Int)))) + (IntKind.wrap .u32 ((IntKind.wrap .u32 ((IntKind.wrap .u32 ((IntKind.wrap .u32 ((vget (y1147.2) (Int.toNat ((7 : Int)))) + r1319)) + (bxor .u32 (band .u32 (vget (y1147.2) (Int.toNat ((4 : Int)))) (vget (y1147.2) (Int.toNat ((5 : Int))))) (band .u32 (bnot .u32 (vget (y1147.2) (Int.toNat ((4 : Int))))) (vget (y1147.2) (Int.toNat ((6 : Int)))))))) + (vget (gl_K) (Int.toNat (y1147.1))))) + x1296))))) rfl rfl rfl rfl hE hS rfl rfl (by kernel_rfl) (by kernel_rfl) (fun a w _ hE hS => ?_)) rfl
        rw [hv1339] at hS
        refine at_end rfl ?_
        refine region_at ?_
        refine segN 3 (j := 3) [(78, .int .u32 ((IntKind.wrap .u32 ((IntKind.wrap .u32 ((IntKind.wrap .u32 ((IntKind.wrap .u32 ((IntKind.wrap .u32 ((vget (y1147.2) (Int.toNat ((7 : Int)))) + r1319)) + (bxor .u32 (band .u32 (vget (y1147.2) (Int.toNat ((4 : Int)))) (vget (y1147.2) (Int.toNat ((5 : Int))))) (band .u32 (bnot .u32 (vget (y1147.2) (Int.toNat ((4 : Int))))) (vget (y1147.2) (Int.toNat ((6 : Int)))))))) + (vget (gl_K) (Int.toNat (y1147.1))))) + x1296)) + (IntKind.wrap .u32 (r1329 + (bxor .u32 (bxor .u32 (band .u32 (vget (y1147.2) (Int.toNat ((0 : Int)))) (vget (y1147.2) (Int.toNat ((1 : Int))))) (band .u32 (vget (y1147.2) (Int.toNat ((0 : Int)))) (vget (y1147.2) (Int.toNat ((2 : Int)))))) (band .u32 (vget (y1147.2) (Int.toNat ((1 : Int)))) (vget (y1147.2) (Int.toNat ((2 : Int))))))))))))] hE (by kernel_rfl) rfl (fun a hE => ?_)
        refine at_op (op_tk hE (tk_indexPA (N := 8) (k := .u32) (m := (0 : Int)) rfl rfl rfl rfl hE rfl rfl rfl (by kernel_rfl) (by kernel_rfl) (fun a hE => ?_))) rfl
        obtain ⟨v1340, hv1341, hf⟩ := bind_some hf
        replace hv1341 := Option.some.inj hv1341
        refine at_op (op_storePA (N := 8) (k := .u32) (v := v1338) (m := (0 : Int)) (z := (IntKind.wrap .u32 ((IntKind.wrap .u32 ((IntKind.wrap .u32 ((IntKind.wrap .u32 ((IntKind.wrap .u32 ((vget (y1147.2) (Int.toNat ((7 : Int)))) + r1319)) + (bxor .u32 (band .u32 (vget (y1147.2) (Int.toNat ((4 : Int)))) (vget (y1147.2) (Int.toNat ((5 : Int))))) (band .u32 (bnot .u32 (vget (y1147.2) (Int.toNat ((4 : Int))))) (vget (y1147.2) (Int.toNat ((6 : Int)))))))) + (vget (gl_K) (Int.toNat (y1147.1))))) + x1296)) + (IntKind.wrap .u32 (r1329 + (bxor .u32 (bxor .u32 (band .u32 (vget (y1147.2) (Int.toNat ((0 : Int)))) (vget (y1147.2) (Int.toNat ((1 : Int))))) (band .u32 (vget (y1147.2) (Int.toNat ((0 : Int)))) (vget (y1147.2) (Int.toNat ((2 : Int)))))) (band .u32 (vget (y1147.2) (Int.toNat ((1 : Int)))) (vget (y1147.2) (Int.toNat ((2 : Int))))))))))) rfl rfl rfl rfl hE hS rfl rfl (by kernel_rfl) (by kernel_rfl) (fun a w _ hE hS => ?_)) rfl
        rw [hv1341] at hS
        refine at_end rfl ?_
        refine region_at ?_
        refine segN 2 (j := 2) [(18, .int .i64 ((IntKind.wrap .i64 (y1147.1 + (1 : Int)))))] hE (by kernel_rfl) rfl (fun a hE => ?_)
        refine at_end rfl ?_
        have hS := hS.pk (.c 1 rfl (.c 2 rfl (.c 0 rfl .n))) rfl
        exact ⟨((IntKind.wrap .i64 (y1147.1 + (1 : Int))), v1340), D1331, hE.weak (by kernel_rfl), hS, (Snap.le.trans (Snap.le.trans le1149 le1323) le1333), hf⟩
      · replace hf := cond_f hb hf
        clear hb
        refine wpIn_exit ?_
        obtain rfl := Option.some.inj hf
        exact ⟨y1147.2, D1148, hE.weak (by kernel_rfl), hS, le1149, rfl⟩

set_option maxRecDepth 100000 in
set_option maxHeartbeats 4000000 in
theorem sha_Sum.calls {K : Nat} {g w0 : World} {D0 : Snap} {x1 : (List (List Int))} {A2 : Option Addr} {c3 : Nat} {r : ((Vector Int 32))} (hf : sha_Sum.f K x1 = some r) (hS0 : St g w0 D0 []) (h4 : Sl (kdSlice (kdInt .u8)) D0 A2 c3 (x1)) (hG0 : Cell (kdArr .u32 8) D0 0 0 gl_First) (hG1 : Cell (kdArr .u32 64) D0 1 0 gl_K) :
    CallsIn (Fw none) 0 Tryd.prog 60 (List.toArray [.slice A2 (List.length (x1)) c3]) w0 (fun e w' => ∃ v, e = .returned v ∧ ∃ (D1 : Snap), v = .agg (List.toArray (acells .u8 32 (r))) ∧ Stp g w0 D0 [] w' D1 []) := by
  unfold sha_Sum.f at hf
  have hS := Stp.refl hS0
  clear hS0
  refine calls_bodyM (n := 38) Tryd.func60 rfl Tryd.ntmps60 rfl (fun a hE => ?_)
  have hE : Env a 38 [] [(0, .slice A2 (List.length (x1)) c3)] := hE
  refine wpIn_seq ?_
  refine region_at ?_
  refine at_op (op_alloc (z := .agg (List.toArray (acells .u8 32 ((Vector.replicate 32 (0 : Int)))))) rfl rfl rfl rfl hE rfl hS (by kernel_rfl) (fun a b432 w _ hE hS => ?_)) rfl
  refine at_end rfl ?_
  refine wpIn_seq ?_
  refine region_at ?_
  refine segN 1 (j := 1) [(8, .slice A2 (List.length (x1)) c3)] hE (by kernel_rfl) rfl (fun a hE => ?_)
  obtain ⟨r434, h435, hf⟩ := bind_some hf
  refine at_op (op_call rfl rfl rfl rfl hE rfl rfl rfl rfl (by kernel_rfl) (slices_Concat_byte_byte.calls (g := g) h435 (hS.st.fore (L := [])) h4) (fun a v w hR hE => ?_)) rfl
  obtain ⟨D436, A438, c439, q440, rfl, hS1, h441⟩ := hR
  have le443 := hS1.dle
  have hS := hS.callR hS1 rfl (.c .n)
  clear hS1
  refine segN 1 (j := 3) [(3, .slice A438 (List.length (r434)) c439)] hE (by kernel_rfl) rfl (fun a hE => ?_)
  refine at_end rfl ?_
  refine wpIn_seq ?_
  refine region_at ?_
  obtain ⟨cs444, C445, T446, fr447, hr448, hb449, hc450⟩ := (hG0.mono le443)
  obtain rfl := hr448
  refine at_op (op_tk hE (tk_loadX (off0 := 0) (off := 0) (c := acells .u32 8 (gl_First)) (.agg (List.toArray (acells .u32 8 (gl_First)))) rfl rfl rfl rfl hE rfl hS rfl hb449 hc450 (by kernel_rfl) (by kernel_rfl) (kD hS dn_nil) (fun a hE => ?_))) rfl
  refine at_op (op_alloc (z := .agg (List.toArray (acells .u32 8 ((Vector.replicate 8 (0 : Int)))))) rfl rfl rfl rfl hE rfl hS (by kernel_rfl) (fun a b451 w _ hE hS => ?_)) rfl
  refine at_op (op_store (v := .agg (List.toArray (acells .u32 8 (gl_First)))) (acells .u32 8 (gl_First)) rfl rfl rfl rfl hE hS rfl rfl (by kernel_rfl) (by kernel_rfl) (by kernel_rfl) (by kernel_rfl) (by kernel_rfl) (fun a w _ hE hS => ?_)) rfl
  refine at_end rfl ?_
  refine wpIn_seq ?_
  refine wpIn_seq ?_
  refine region_at ?_
  refine segN 3 (j := 3) [(11, .slice A438 (List.length (r434)) c439), (13, .int .i64 (((List.length (r434) : Nat) : Int)))] hE (by kernel_rfl) rfl (fun a hE => ?_)
  obtain ⟨r607, h608, hf⟩ := bind_some hf
  refine at_op (op_call rfl rfl rfl rfl hE rfl rfl rfl rfl (by kernel_rfl) (sha_Fill.calls (g := g) h608 (hS.st.fore (L := [])) ) (fun a v w hR hE => ?_)) rfl
  obtain ⟨D609, A611, c612, q613, rfl, hS1, h614⟩ := hR
  have le616 := hS1.dle
  have hS := hS.callR hS1 rfl (.c .n)
  clear hS1
  obtain ⟨D617, q620, le618, hS, h621, h619⟩ := hS.lent h614
  have hS := hS.pk (.c 2 rfl (.c 0 rfl (.c 1 rfl (.c 3 rfl .n)))) rfl
  obtain ⟨l622, h623, hf⟩ := bind_some hf
  refine at_op (g_append (K := (kdInt .u8)) (e := 5) (bytes := 1) (l := r434) (m := r607) rfl rfl rfl rfl hE rfl hS rfl rfl (by kernel_rfl) rfl rfl (h441.mono (Snap.le.trans le616 le618)) h619 h623 (fun a A624 c625 q626 w _ hE h627 hS => ?_)) rfl
  obtain ⟨D629, q632, le630, hS, h633, h631⟩ := hS.lent h627
  obtain ⟨r634, h635, hf⟩ := bind_some hf
  refine at_op (op_call rfl rfl rfl rfl hE rfl rfl rfl rfl (by kernel_rfl) (sha_blocks.calls (g := g) h635 (hS.st.fore (L := [])) h631) (fun a v w hR hE => ?_)) rfl
  obtain ⟨D636, b638, A640, c641, rfl, hS1, h642⟩ := hR
  have le643 := hS1.dle
  have hS := hS.callR hS1 rfl (.c .n)
  clear hS1
  refine at_end rfl ?_
  refine wpIn_block ?_
  have hEo650 := hE
  refine range_in2 (captured := #[.pointer (some ⟨b638, 0, none⟩)]) hE hS rfl (by kernel_rfl) (fun fn649 l647 d648 w q645 hq646 hS => ?_)
  refine calls_body (n := 13) Tryd.func91 rfl Tryd.ntmps91 rfl (fun a hE => ?_)
  have hE : Env a 13 [] [(0, .func (.yield l647) #[] #[]), (1, .pointer (some ⟨b638, 0, none⟩))] := hE
  obtain ⟨s734, hf, hs735⟩ := bind_some hf
  have hS := hS.pk (.c 6 rfl (.c 5 rfl (.c 2 rfl (.c 0 rfl (.c 1 rfl .n))))) rfl
  refine block_loop (fun a w => ∃ (z728 : (Vector Int 8) × (List Int)), ∃ (A731 : Option Addr), ∃ (c732 : Nat), ∃ (D729 : Snap), Env a 13 [] [] ∧ Stp g w0 D0 [] w D729 [bx b432 23 (acells .u8 32 ((Vector.replicate 32 (0 : Int)))), bx b451 94 (acells .u32 8 (z728.1)), bx b638 25 ([.slice A731 (List.length (z728.2)) c732]), q645 .ready none, dk d648] ∧ Snap.le D636 D729 ∧ Sl (kdInt .u8) D729 A731 c732 (z728.2) ∧ z728 = s734) (fun k a w => ∃ (y691 : (Vector Int 8) × (List Int)), ∃ (A694 : Option Addr), ∃ (c695 : Nat), ∃ (D692 : Snap), Env a 13 [] [(0, .func (.yield l647) #[] #[]), (1, .pointer (some ⟨b638, 0, none⟩))] ∧ Stp g w0 D0 [] w D692 [bx b432 23 (acells .u8 32 ((Vector.replicate 32 (0 : Int)))), bx b451 94 (acells .u32 8 (y691.1)), bx b638 25 ([.slice A694 (List.length (y691.2)) c695]), q645 .ready none, dk d648] ∧ Snap.le D636 D692 ∧ Sl (kdInt .u8) D692 A694 c695 (y691.2) ∧ sha_Sum_l1.l K k y691 = some s734) K ?_ ?_ ?_
  · exact ⟨(gl_First, r634), A640, c641, D636, hE.weak (by kernel_rfl), hS, Snap.le.refl _, h642, hf⟩
  · clear hE hS hf
    rintro a w ⟨z728, A731, c732, D729, hE, hS, le730, h733, rfl⟩
    have hf := hs735
    clear hs735
    refine ret_genN ([]) hE (by rw [show Tryd.f91.results.toList = [] from rfl]; rfl) ?_
    have hS := hS.pk (.c 3 rfl (.c 0 rfl (.c 1 rfl (.c 2 rfl (.c 4 rfl .n))))) rfl
    refine range_done2 hq646 hS hEo650 (fun w a hS hE => ?_)
    refine wpIn_seq ?_
    refine region_at ?_
    refine at_op (op_alloc (z := .agg (List.toArray (acells .u8 32 ((Vector.replicate 32 (0 : Int)))))) rfl rfl rfl rfl hE rfl hS (by kernel_rfl) (fun a b761 w _ hE hS => ?_)) rfl
    refine at_end rfl ?_
    refine wpIn_seq ?_
    refine wpIn_seq ?_
    refine region_at ?_
    refine segN 1 (j := 1) [(21, .int .i64 ((0 : Int)))] hE (by kernel_rfl) rfl (fun a hE => ?_)
    refine at_end rfl ?_
    obtain ⟨s847, hf, hs848⟩ := bind_some hf
    have hS := hS.pk (.c 1 rfl (.c 2 rfl (.c 0 rfl (.c 4 rfl .n)))) rfl
    refine block_loop (fun a w => ∃ (z844 : (Vector Int 32)), ∃ (D845 : Snap), Env a 38 [markD d648] [(2, .pointer (some ⟨b432, 0, none⟩)), (6, .pointer (some ⟨b761, 0, none⟩))] ∧ Stp g w0 D0 [] w D845 [bx b432 23 (acells .u8 32 ((Vector.replicate 32 (0 : Int)))), bx b761 23 (acells .u8 32 (z844)), dk d648] ∧ Snap.le D729 D845 ∧ z844 = s847) (fun k a w => ∃ (y828 : Int × (Vector Int 32)), ∃ (D829 : Snap), Env a 38 [markD d648] [(2, .pointer (some ⟨b432, 0, none⟩)), (4, .pointer (some ⟨b451, 0, none⟩)), (6, .pointer (some ⟨b761, 0, none⟩)), (21, .int .i64 (y828.1))] ∧ Stp g w0 D0 [] w D829 [bx b432 23 (acells .u8 32 ((Vector.replicate 32 (0 : Int)))), bx b451 94 (acells .u32 8 (z728.1)), bx b761 23 (acells .u8 32 (y828.2)), dk d648] ∧ Snap.le D729 D829 ∧ sha_Sum_l2.l K z728 k y828 = some s847) K ?_ ?_ ?_
    · exact ⟨((0 : Int), (Vector.replicate 32 (0 : Int))), D729, hE.weak (by kernel_rfl), hS, Snap.le.refl _, hf⟩
    · clear hE hS hf
      rintro a w ⟨z844, D845, hE, hS, le846, rfl⟩
      have hf := hs848
      clear hs848
      refine wpIn_seq ?_
      refine region_at ?_
      refine at_op (op_tk hE (tk_load 1 (.agg (List.toArray (acells .u8 32 (z844)))) rfl rfl rfl rfl hE rfl hS rfl rfl (by kernel_rfl) (kL (j := 1) hS rfl List.not_mem_nil) (fun a hE => ?_))) rfl
      refine at_op (op_store (v := .agg (List.toArray (acells .u8 32 (z844)))) (acells .u8 32 (z844)) rfl rfl rfl rfl hE hS rfl rfl (by kernel_rfl) (by kernel_rfl) (by kernel_rfl) (by kernel_rfl) (by kernel_rfl) (fun a w _ hE hS => ?_)) rfl
      refine at_end rfl ?_
      refine wpIn_ret ?_
      have hS := hS.pk (.c 2 rfl (.c 0 rfl (.c 1 rfl .n))) rfl
      obtain rfl := Option.some.inj hf
      repeat (with_reducible first | refine then_ret ?_ | refine block_ret ?_ | refine qx_ret ?_)
      refine ret_M1 ([.agg (List.toArray (acells .u8 32 (z844)))]) hE hS (fun w hS => ⟨by rw [show Tryd.f60.results.toList = [.cell 2 23] from rfl]; exact ⟨_, _, _, 0, _, _, rfl, rfl, hS.heapAt (j := 0) rfl, by kernel_rfl, rfl⟩, ?_⟩)
      have hS := hS.pk .n rfl
      exact ⟨_, rfl, D845, rfl, hS⟩
    · clear hE hS hf
      rintro k a w ⟨y828, D829, hE, hS, le830, hf⟩
      obtain ⟨k, rfl, hf⟩ := sha_Sum_l2.some _ hf
      refine ⟨k, rfl, ?_⟩
      unfold sha_Sum_l2.b at hf
      refine wpIn_seq ?_
      refine region_at ?_
      refine segN 1 (j := 1) [(22, .bool ((decide (y828.1 < (32 : Int)))))] hE (by kernel_rfl) rfl (fun a hE => ?_)
      refine at_end rfl ?_
      refine wpIn_seq ?_
      refine cond_split hE (b := (decide (y828.1 < (32 : Int)))) rfl (fun hb => ?_) (fun hb => ?_)
      · replace hf := cond_t hb hf
        clear hb
        refine wpIn_skip ?_
        refine wpIn_seq ?_
        refine wpIn_block ?_
        refine wpIn_seq ?_
        refine region_at ?_
        refine segN 2 (j := 2) [(7, .int .i64 (y828.1))] hE (by kernel_rfl) rfl (fun a hE => ?_)
        refine at_end rfl ?_
        refine region_at ?_
        refine segN 3 (j := 3) [(24, .int .i64 (y828.1)), (26, .int .i64 ((IntKind.wrap .i64 (Int.tdiv y828.1 4))))] hE (by kernel_rfl) rfl (fun a hE => ?_)
        obtain ⟨hm854, hf⟩ := chk_some hf
        refine at_op (op_tk hE (tk_indexPA (N := 8) (k := .u32) (m := (IntKind.wrap .i64 (Int.tdiv y828.1 4))) rfl rfl rfl rfl hE rfl rfl rfl (by kernel_rfl) hm854 (fun a hE => ?_))) rfl
        refine at_op (op_tk hE (tk_loadPA 1 (N := 8) (k := .u32) (v := z728.1) (m := (IntKind.wrap .i64 (Int.tdiv y828.1 4))) rfl rfl rfl rfl hE rfl hS rfl rfl (by kernel_rfl) hm854 (kL (j := 1) hS rfl List.not_mem_nil) (fun a hE => ?_))) rfl
        refine segN 4 (j := 9) [(32, .int .i64 ((IntKind.wrap .i64 ((24 : Int) - (IntKind.wrap .i64 ((8 : Int) * (Int.tmod y828.1 4)))))))] hE (by kernel_rfl) rfl (fun a hE => ?_)
        obtain ⟨hq855, hf⟩ := chk_not hf
        refine at_op (op_tk hE (tk_bin (r := .int .u32 ((Int.fdiv (vget (z728.1) (Int.toNat ((IntKind.wrap .i64 (Int.tdiv y828.1 4))))) (2 ^ (min (Int.toNat (IntKind.wrap .i64 ((24 : Int) - (IntKind.wrap .i64 ((8 : Int) * (Int.tmod y828.1 4)))))) 32))))) rfl rfl rfl rfl hE rfl rfl rfl (shr_run hq855) (fun a hE => ?_))) rfl
        refine segN 1 (j := 11) [(34, .int .u8 ((IntKind.wrap .u8 (Int.fdiv (vget (z728.1) (Int.toNat ((IntKind.wrap .i64 (Int.tdiv y828.1 4))))) (2 ^ (min (Int.toNat (IntKind.wrap .i64 ((24 : Int) - (IntKind.wrap .i64 ((8 : Int) * (Int.tmod y828.1 4)))))) 32))))))] hE (by kernel_rfl) rfl (fun a hE => ?_)
        obtain ⟨hm856, hf⟩ := chk_some hf
        refine at_op (op_tk hE (tk_indexPA (N := 32) (k := .u8) (m := y828.1) rfl rfl rfl rfl hE rfl rfl rfl (by kernel_rfl) hm856 (fun a hE => ?_))) rfl
        have hS := hS.pk (.c 2 rfl (.c 0 rfl (.c 1 rfl (.c 3 rfl .n)))) rfl
        obtain ⟨v857, hv858, hf⟩ := bind_some hf
        replace hv858 := Option.some.inj hv858
        refine at_op (op_storePA (N := 32) (k := .u8) (v := y828.2) (m := y828.1) (z := (IntKind.wrap .u8 (Int.fdiv (vget (z728.1) (Int.toNat ((IntKind.wrap .i64 (Int.tdiv y828.1 4))))) (2 ^ (min (Int.toNat (IntKind.wrap .i64 ((24 : Int) - (IntKind.wrap .i64 ((8 : Int) * (Int.tmod y828.1 4)))))) 32))))) rfl rfl rfl rfl hE hS rfl rfl (by kernel_rfl) hm856 (fun a w _ hE hS => ?_)) rfl
        rw [hv858] at hS
        refine at_end rfl ?_
        refine region_at ?_
        refine segN 2 (j := 2) [(21, .int .i64 ((IntKind.wrap .i64 (y828.1 + (1 : Int)))))] hE (by kernel_rfl) rfl (fun a hE => ?_)
        refine at_end rfl ?_
        have hS := hS.pk (.c 1 rfl (.c 2 rfl (.c 0 rfl (.c 3 rfl .n)))) rfl
        exact ⟨((IntKind.wrap .i64 (y828.1 + (1 : Int))), v857), D829, hE.weak (by kernel_rfl), hS, le830, hf⟩
      · replace hf := cond_f hb hf
        clear hb
        refine wpIn_exit ?_
        obtain rfl := Option.some.inj hf
        have hS := hS.pk (.c 0 rfl (.c 2 rfl (.c 3 rfl .n))) rfl
        exact ⟨y828.2, D829, hE.weak (by kernel_rfl), hS, le830, rfl⟩
  · clear hE hS hf
    rintro k a w ⟨y691, A694, c695, D692, hE, hS, le693, h696, hf⟩
    obtain ⟨k, rfl, hf⟩ := sha_Sum_l1.some hf
    refine ⟨k, rfl, ?_⟩
    unfold sha_Sum_l1.b at hf
    refine wpIn_seq ?_
    refine wpIn_seq ?_
    refine region_at ?_
    refine at_op (op_tk hE (tk_load 2 (.slice A694 (List.length (y691.2)) c695) rfl rfl rfl rfl hE rfl hS rfl rfl (by kernel_rfl) (kL (j := 2) hS rfl List.not_mem_nil) (fun a hE => ?_))) rfl
    refine segN 2 (j := 3) [(5, .bool ((decide ((64 : Int) ≤ ((List.length (y691.2) : Nat) : Int)))))] hE (by kernel_rfl) rfl (fun a hE => ?_)
    refine at_end rfl ?_
    refine cond_split hE (b := (decide ((64 : Int) ≤ ((List.length (y691.2) : Nat) : Int)))) rfl (fun hb => ?_) (fun hb => ?_)
    · replace hf := cond_t hb hf
      clear hb
      refine wpIn_skip ?_
      refine wpIn_seq ?_
      refine wpIn_block ?_
      refine wpIn_seq ?_
      refine region_at ?_
      refine segN 1 (j := 1) [(8, .func (.yield l647) #[] #[])] hE (by kernel_rfl) rfl (fun a hE => ?_)
      refine at_op (op_tk hE (tk_load 2 (.slice A694 (List.length (y691.2)) c695) rfl rfl rfl rfl hE rfl hS rfl rfl (by kernel_rfl) (kL (j := 2) hS rfl List.not_mem_nil) (fun a hE => ?_))) rfl
      obtain ⟨l746, h747, hf⟩ := bind_some hf
      refine at_op (op_tk hE (g_slice (K := (kdInt .u8)) (e := 5) (by_ := 1) (zl := 1) rfl rfl rfl rfl hE rfl rfl (by kernel_rfl) rfl ⟨_, rfl⟩ h696 h747 (fun a A748 c749 hE h750 => ?_))) rfl
      have hS := hS.pk (.c 3 rfl (.c 0 rfl (.c 1 rfl (.c 2 rfl (.c 4 rfl .n))))) rfl
      refine at_op (op_yield2 (args := [.slice A748 (List.length (l746)) c749]) hq646 rfl rfl rfl rfl hE rfl rfl rfl hS hEo650 rfl (by kernel_rfl) (fun a hE => ?_)) rfl
      refine region_at ?_
      refine segN 1 (j := 1) [(5, .slice A748 (List.length (l746)) c749)] hE (by kernel_rfl) rfl (fun a hE => ?_)
      refine at_end rfl ?_
      refine begin_in2 hq646 hS (fun w hS => ?_)
      refine wpIn_block ?_
      refine region_at ?_
      refine at_op (op_tk hE (tk_load 2 (.agg (List.toArray (acells .u32 8 (y691.1)))) rfl rfl rfl rfl hE rfl hS rfl rfl (by kernel_rfl) (kL (j := 2) hS rfl List.not_mem_nil) (fun a hE => ?_))) rfl
      refine segN 1 (j := 2) [(19, .slice A748 (List.length (l746)) c749)] hE (by kernel_rfl) rfl (fun a hE => ?_)
      obtain ⟨r751, h752, hf⟩ := bind_some hf
      refine at_op (op_call rfl rfl rfl rfl hE rfl rfl rfl rfl (by kernel_rfl) (sha_Turn.calls (g := g) h752 (hS.st.fore (L := [])) h750 (hG1.mono (Snap.le.trans (Snap.le.trans (Snap.le.trans (Snap.le.trans (Snap.le.trans le443 le616) le618) le630) le643) le693))) (fun a v w hR hE => ?_)) rfl
      obtain ⟨D753, rfl, hS1⟩ := hR
      have le755 := hS1.dle
      have hS := hS.callR hS1 rfl .n
      clear hS1
      have hS := hS.pk (.c 2 rfl (.c 0 rfl (.c 1 rfl (.c 3 rfl (.c 4 rfl .n))))) rfl
      refine at_op (op_store (v := .agg (List.toArray (acells .u32 8 (r751)))) (acells .u32 8 (r751)) rfl rfl rfl rfl hE hS rfl rfl (by kernel_rfl) (by kernel_rfl) (by kernel_rfl) (by kernel_rfl) (by kernel_rfl) (fun a w _ hE hS => ?_)) rfl
      refine at_end rfl ?_
      have hS := hS.pk (.c 1 rfl (.c 0 rfl (.c 2 rfl (.c 3 rfl (.c 4 rfl .n))))) rfl
      refine round_normal2 (a1 := a) hq646 hS (fun w a hS hE => ?_)
      refine segN 1 (j := 5) [(12, .bool false)] hE (by kernel_rfl) rfl (fun a hE => ?_)
      refine at_end rfl ?_
      refine wpIn_cond_false (hE.eval rfl) ?_
      refine wpIn_skip ?_
      refine region_at ?_
      refine at_op (op_tk hE (tk_load 3 (.slice A694 (List.length (y691.2)) c695) rfl rfl rfl rfl hE rfl hS rfl rfl (by kernel_rfl) (kL (j := 3) hS rfl List.not_mem_nil) (fun a hE => ?_))) rfl
      obtain ⟨l756, h757, hf⟩ := bind_some hf
      refine at_op (op_tk hE (g_slice (K := (kdInt .u8)) (e := 5) (by_ := 1) (zl := 1) rfl rfl rfl rfl hE rfl rfl (by kernel_rfl) ⟨_, rfl⟩ rfl (h696.mono le755) h757 (fun a A758 c759 hE h760 => ?_))) rfl
      have hS := hS.pk (.c 3 rfl (.c 0 rfl (.c 1 rfl (.c 2 rfl (.c 4 rfl .n))))) rfl
      refine at_op (op_store (v := .slice A758 (List.length (l756)) c759) ([.slice A758 (List.length (l756)) c759]) rfl rfl rfl rfl hE hS rfl rfl (by kernel_rfl) (by kernel_rfl) (by kernel_rfl) (by kernel_rfl) (by kernel_rfl) (fun a w _ hE hS => ?_)) rfl
      refine at_end rfl ?_
      have hS := hS.pk (.c 3 rfl (.c 2 rfl (.c 0 rfl (.c 1 rfl (.c 4 rfl .n))))) rfl
      exact ⟨(r751, l756), A758, c759, D753, hE.weak (by kernel_rfl), hS, (Snap.le.trans le693 le755), h760, hf⟩
    · replace hf := cond_f hb hf
      clear hb
      refine wpIn_exit ?_
      obtain rfl := Option.some.inj hf
      exact ⟨(y691.1, y691.2), A694, c695, D692, hE.weak (by kernel_rfl), hS, le693, h696, rfl⟩

set_option maxRecDepth 100000 in
set_option maxHeartbeats 4000000 in
theorem mac_Of.calls {K : Nat} {g w0 : World} {D0 : Snap} {x1 : Int} {x2 : (List (List Int))} {A3 : Option Addr} {c4 : Nat} {r : ((Vector Int 32))} (hf : mac_Of.f K x1 x2 = some r) (hS0 : St g w0 D0 []) (h5 : Sl (kdSlice (kdInt .u8)) D0 A3 c4 (x2)) (hG0 : Cell (kdArr .u32 8) D0 0 0 gl_First) (hG1 : Cell (kdArr .u32 64) D0 1 0 gl_K) :
    CallsIn (Fw none) 0 Tryd.prog 31 (List.toArray [.int .i64 (x1), .slice A3 (List.length (x2)) c4]) w0 (fun e w' => ∃ v, e = .returned v ∧ ∃ (D1 : Snap), v = .agg (List.toArray (acells .u8 32 (r))) ∧ Stp g w0 D0 [] w' D1 []) := by
  unfold mac_Of.f at hf
  have hS := Stp.refl hS0
  clear hS0
  refine calls_body (n := 12) Tryd.func31 rfl Tryd.ntmps31 rfl (fun a hE => ?_)
  have hE : Env a 12 [] [(0, .int .i64 (x1)), (1, .slice A3 (List.length (x2)) c4)] := hE
  refine wpIn_seq ?_
  refine region_at ?_
  refine at_op (op_alloc (z := .agg (List.toArray (acells .u8 32 ((Vector.replicate 32 (0 : Int)))))) rfl rfl rfl rfl hE rfl hS (by kernel_rfl) (fun a b46 w _ hE hS => ?_)) rfl
  refine at_end rfl ?_
  refine wpIn_seq ?_
  refine region_at ?_
  refine segN 2 (j := 2) [(6, .int .u8 ((IntKind.wrap .u8 x1)))] hE (by kernel_rfl) rfl (fun a hE => ?_)
  refine at_op (op_buildSlice (K := (kdInt .u8)) (e := 5) (cs := [.int .u8 ((IntKind.wrap .u8 x1))] ++ []) ([(IntKind.wrap .u8 x1)] : List Int) rfl rfl rfl rfl hE rfl hS rfl (by kernel_rfl) rfl rfl (by exact (show RL (kdInt .u8) D0 ([(IntKind.wrap .u8 x1)] : List Int) ([.int .u8 ((IntKind.wrap .u8 x1))] ++ []) from ⟨_, _, rfl, rfl, rfl⟩)) (fun a A48 q49 w _ hE h50 hS => ?_)) rfl
  refine segN 1 (j := 4) [(8, .slice A3 (List.length (x2)) c4)] hE (by kernel_rfl) rfl (fun a hE => ?_)
  obtain ⟨r52, h53, hf⟩ := bind_some hf
  refine at_op (op_call rfl rfl rfl rfl hE rfl rfl rfl rfl (by kernel_rfl) (mac_joined_byte.calls (g := g) h53 (hS.st.fore (L := [])) h5) (fun a v w hR hE => ?_)) rfl
  obtain ⟨D54, A56, c57, q58, rfl, hS1, h59⟩ := hR
  have le61 := hS1.dle
  have hS := hS.callR hS1 rfl (.c .n)
  clear hS1
  have hS := hS.pk (.c 1 rfl (.c 0 rfl (.c 2 rfl .n))) rfl
  obtain ⟨D62, q65, le63, hS, h66, h64⟩ := hS.lent (h50.mono le61)
  have hS := hS.pk (.c 1 rfl (.c 0 rfl (.c 2 rfl .n))) rfl
  obtain ⟨D67, q70, le68, hS, h71, h69⟩ := hS.lent (h59.mono le63)
  refine at_op (op_buildSlice (K := (kdSlice (kdInt .u8))) (e := 25) (cs := [.slice A48 (List.length (([(IntKind.wrap .u8 x1)] : List Int))) 1] ++ ([.slice A56 (List.length (r52)) c57] ++ [])) ([([(IntKind.wrap .u8 x1)] : List Int), r52] : List (List Int)) rfl rfl rfl rfl hE rfl hS rfl (by kernel_rfl) rfl rfl (by exact (show RL (kdSlice (kdInt .u8)) D67 ([([(IntKind.wrap .u8 x1)] : List Int), r52] : List (List Int)) ([.slice A48 (List.length (([(IntKind.wrap .u8 x1)] : List Int))) 1] ++ ([.slice A56 (List.length (r52)) c57] ++ [])) from ⟨_, _, rfl, (kslice (h64.mono le68)), ⟨_, _, rfl, (kslice h69), rfl⟩⟩)) (fun a A72 q73 w _ hE h74 hS => ?_)) rfl
  obtain ⟨D76, q79, le77, hS, h80, h78⟩ := hS.lent h74
  obtain ⟨r81, h82, hf⟩ := bind_some hf
  refine at_op (op_call rfl rfl rfl rfl hE rfl rfl rfl rfl (by kernel_rfl) (sha_Sum.calls (g := g) h82 (hS.st.fore (L := [])) h78 (hG0.mono (Snap.le.trans (Snap.le.trans (Snap.le.trans le61 le63) le68) le77)) (hG1.mono (Snap.le.trans (Snap.le.trans (Snap.le.trans le61 le63) le68) le77))) (fun a v w hR hE => ?_)) rfl
  obtain ⟨D83, rfl, hS1⟩ := hR
  have le85 := hS1.dle
  have hS := hS.callR hS1 rfl .n
  clear hS1
  have hS := hS.pk (.c 3 rfl (.c 0 rfl (.c 1 rfl (.c 2 rfl .n)))) rfl
  refine at_op (op_store (v := .agg (List.toArray (acells .u8 32 (r81)))) (acells .u8 32 (r81)) rfl rfl rfl rfl hE hS rfl rfl (by kernel_rfl) (by kernel_rfl) (by kernel_rfl) (by kernel_rfl) (by kernel_rfl) (fun a w _ hE hS => ?_)) rfl
  refine at_end rfl ?_
  refine wpIn_ret ?_
  obtain rfl := Option.some.inj hf
  repeat (with_reducible first | refine then_ret ?_ | refine block_ret ?_ | refine qx_ret ?_)
  refine ret_gen ([.agg (List.toArray (acells .u8 32 (r81)))]) hE (by rw [show Tryd.f31.results.toList = [.cell 4 23] from rfl]; exact ⟨_, _, _, 0, _, _, rfl, rfl, hS.heapAt (j := 0) rfl, by kernel_rfl, rfl⟩) ?_
  have hS := hS.pk .n rfl
  exact ⟨_, rfl, D83, rfl, hS⟩

set_option maxRecDepth 100000 in
set_option maxHeartbeats 4000000 in
theorem rec_Com.calls {K : Nat} {g w0 : World} {D0 : Snap} {x1 : T_api_Rec} {A2 : Option Addr} {c3 : Nat} {A5 : Option Addr} {c6 : Nat} {r : ((Vector Int 32))} (hf : rec_Com.f K x1 = some r) (hS0 : St g w0 D0 []) (h4 : Sl kd_T_api_Step D0 A2 c3 (x1.fSteps)) (h7 : Sl (kdInt .u8) D0 A5 c6 (x1.fData)) (hG0 : Cell (kdArr .u32 8) D0 0 0 gl_First) (hG1 : Cell (kdArr .u32 64) D0 1 0 gl_K) :
    CallsIn (Fw none) 0 Tryd.prog 13 (List.toArray [.agg (List.toArray (c_T_api_Rec (x1) A2 c3 A5 c6))]) w0 (fun e w' => ∃ v, e = .returned v ∧ ∃ (D1 : Snap), v = .agg (List.toArray (acells .u8 32 (r))) ∧ Stp g w0 D0 [] w' D1 []) := by
  unfold rec_Com.f at hf
  have hS := Stp.refl hS0
  clear hS0
  refine calls_body (n := 24) Tryd.func13 rfl Tryd.ntmps13 rfl (fun a hE => ?_)
  have hE : Env a 24 [] [(0, .agg (List.toArray (c_T_api_Rec (x1) A2 c3 A5 c6)))] := hE
  refine wpIn_seq ?_
  refine region_at ?_
  refine at_op (op_box rfl rfl rfl rfl hE rfl hS rfl (fun a b114 w _ hE hS => ?_)) rfl
  refine at_op (op_alloc (z := .agg (List.toArray (acells .u8 32 ((Vector.replicate 32 (0 : Int)))))) rfl rfl rfl rfl hE rfl hS (by kernel_rfl) (fun a b116 w _ hE hS => ?_)) rfl
  refine at_end rfl ?_
  refine wpIn_seq ?_
  refine wpIn_block ?_
  obtain ⟨j213, hj214, hf⟩ := jn_elim hf
  refine seq_join (fun a w => ∃ (y138 : Bool), ∃ (D139 : Snap), Env a 24 [] [(1, .pointer (some ⟨b114, 0, none⟩)), (2, .pointer (some ⟨b116, 0, none⟩)), (3, .bool (y138))] ∧ Stp g w0 D0 [] w D139 [bx b114 27 (c_T_api_Rec (x1) A2 c3 A5 c6), bx b116 23 (acells .u8 32 ((Vector.replicate 32 (0 : Int))))] ∧ Snap.le D0 D139 ∧ j213 y138 = some r) ?_ ?_
  · clear hj214
    refine region_at ?_
    refine at_op (op_tk hE (tk_load 1 (.agg (List.toArray (c_T_api_Rec (x1) A2 c3 A5 c6))) rfl rfl rfl rfl hE rfl hS rfl rfl (by kernel_rfl) (kL (j := 1) hS rfl List.not_mem_nil) (fun a hE => ?_))) rfl
    obtain ⟨r215, h216, hf⟩ := bind_some hf
    refine at_op (op_call rfl rfl rfl rfl hE rfl rfl rfl rfl (by kernel_rfl) (rec_Right.calls (g := g) h216 (hS.st.fore (L := [])) h4 h7) (fun a v w hR hE => ?_)) rfl
    obtain ⟨D217, rfl, hS1⟩ := hR
    have le219 := hS1.dle
    have hS := hS.callR hS1 rfl .n
    clear hS1
    refine segN 2 (j := 4) [(7, .bool ((!r215)))] hE (by kernel_rfl) rfl (fun a hE => ?_)
    cases hb : (!r215)
    · replace hf := cond_f hb hf
      have hE := hE.know (t := 7) (b := (!r215)) (b' := false) rfl hb
      clear hb
      refine at_op (op_tk hE (g_fieldAddr (fo := 0) (ft := 3) 0 rfl rfl rfl rfl hE rfl rfl (by kernel_rfl) rfl (fun a hE => ?_))) rfl
      refine at_op (op_tk hE (tk_load 1 (.int .i64 (x1.fKind)) rfl rfl rfl rfl hE rfl hS rfl rfl (by kernel_rfl) (kL (j := 1) hS rfl List.not_mem_nil) (fun a hE => ?_))) rfl
      refine segN 3 (j := 9) [(3, .bool ((!decide (x1.fKind = (1 : Int)))))] hE (by kernel_rfl) rfl (fun a hE => ?_)
      refine at_end rfl ?_
      have hS := hS.pk (.c 1 rfl (.c 0 rfl .n)) rfl
      exact ⟨(!decide (x1.fKind = (1 : Int))), D217, hE.weak (by kernel_rfl), hS, le219, hf⟩
    · replace hf := cond_t hb hf
      have hE := hE.know (t := 7) (b := (!r215)) (b' := true) rfl hb
      clear hb
      refine segN 5 (j := 9) [(3, .bool true)] hE (by kernel_rfl) rfl (fun a hE => ?_)
      refine at_end rfl ?_
      have hS := hS.pk (.c 1 rfl (.c 0 rfl .n)) rfl
      exact ⟨true, D217, hE.weak (by kernel_rfl), hS, le219, hf⟩
  · clear hE hS
    rintro a w ⟨y138, D139, hE, hS, le140, hf⟩
    replace hf := hj214 _ hf
    clear hj214
    refine cond_split hE (b := y138) rfl (fun hb => ?_) (fun hb => ?_)
    · replace hf := cond_t hb hf
      clear hb
      refine wpIn_seq ?_
      refine region_at ?_
      refine at_op (op_tk hE (tk_build (acells .u8 32 ((vofL 32 [(0 : Int), (0 : Int), (0 : Int), (0 : Int), (0 : Int), (0 : Int), (0 : Int), (0 : Int), (0 : Int), (0 : Int), (0 : Int), (0 : Int), (0 : Int), (0 : Int), (0 : Int), (0 : Int), (0 : Int), (0 : Int), (0 : Int), (0 : Int), (0 : Int), (0 : Int), (0 : Int), (0 : Int), (0 : Int), (0 : Int), (0 : Int), (0 : Int), (0 : Int), (0 : Int), (0 : Int), (0 : Int)]))) rfl rfl rfl rfl hE rfl rfl (by kernel_rfl) (fun a hE => ?_))) rfl
      have hS := hS.pk (.c 1 rfl (.c 0 rfl .n)) rfl
      refine at_op (op_store (v := .agg (List.toArray (acells .u8 32 ((vofL 32 [(0 : Int), (0 : Int), (0 : Int), (0 : Int), (0 : Int), (0 : Int), (0 : Int), (0 : Int), (0 : Int), (0 : Int), (0 : Int), (0 : Int), (0 : Int), (0 : Int), (0 : Int), (0 : Int), (0 : Int), (0 : Int), (0 : Int), (0 : Int), (0 : Int), (0 : Int), (0 : Int), (0 : Int), (0 : Int), (0 : Int), (0 : Int), (0 : Int), (0 : Int), (0 : Int), (0 : Int), (0 : Int)]))))) (acells .u8 32 ((vofL 32 [(0 : Int), (0 : Int), (0 : Int), (0 : Int), (0 : Int), (0 : Int), (0 : Int), (0 : Int), (0 : Int), (0 : Int), (0 : Int), (0 : Int), (0 : Int), (0 : Int), (0 : Int), (0 : Int), (0 : Int), (0 : Int), (0 : Int), (0 : Int), (0 : Int), (0 : Int), (0 : Int), (0 : Int), (0 : Int), (0 : Int), (0 : Int), (0 : Int), (0 : Int), (0 : Int), (0 : Int), (0 : Int)]))) rfl rfl rfl rfl hE hS rfl rfl (by kernel_rfl) (by kernel_rfl) (by kernel_rfl) (by kernel_rfl) (by kernel_rfl) (fun a w _ hE hS => ?_)) rfl
      refine at_end rfl ?_
      refine wpIn_ret ?_
      obtain rfl := Option.some.inj hf
      repeat (with_reducible first | refine then_ret ?_ | refine block_ret ?_ | refine qx_ret ?_)
      refine ret_gen ([.agg (List.toArray (acells .u8 32 ((vofL 32 [(0 : Int), (0 : Int), (0 : Int), (0 : Int), (0 : Int), (0 : Int), (0 : Int), (0 : Int), (0 : Int), (0 : Int), (0 : Int), (0 : Int), (0 : Int), (0 : Int), (0 : Int), (0 : Int), (0 : Int), (0 : Int), (0 : Int), (0 : Int), (0 : Int), (0 : Int), (0 : Int), (0 : Int), (0 : Int), (0 : Int), (0 : Int), (0 : Int), (0 : Int), (0 : Int), (0 : Int), (0 : Int)]))))]) hE (by rw [show Tryd.f13.results.toList = [.cell 2 23] from rfl]; exact ⟨_, _, _, 0, _, _, rfl, rfl, hS.heapAt (j := 0) rfl, by kernel_rfl, rfl⟩) ?_
      have hS := hS.pk .n rfl
      exact ⟨_, rfl, D139, rfl, hS⟩
    · replace hf := cond_f hb hf
      clear hb
      refine wpIn_seq ?_
      refine region_at ?_
      refine at_op (op_tk hE (g_fieldAddr (fo := 76) (ft := 4) 76 rfl rfl rfl rfl hE rfl rfl (by kernel_rfl) rfl (fun a hE => ?_))) rfl
      refine at_op (op_tk hE (tk_load 0 (.bool (x1.fGone)) rfl rfl rfl rfl hE rfl hS rfl rfl (by kernel_rfl) (kL (j := 0) hS rfl List.not_mem_nil) (fun a hE => ?_))) rfl
      refine segN 1 (j := 3) [(13, .bool (x1.fGone))] hE (by kernel_rfl) rfl (fun a hE => ?_)
      refine at_end rfl ?_
      refine cond_split hE (b := x1.fGone) rfl (fun hb => ?_) (fun hb => ?_)
      · replace hf := cond_t hb hf
        clear hb
        refine wpIn_seq ?_
        refine region_at ?_
        refine at_op (op_tk hE (g_fieldAddr (fo := 77) (ft := 23) 77 rfl rfl rfl rfl hE rfl rfl (by kernel_rfl) rfl (fun a hE => ?_))) rfl
        refine at_op (op_tk hE (tk_load 0 (.agg (List.toArray (acells .u8 32 (x1.fCom)))) rfl rfl rfl rfl hE rfl hS rfl rfl (by kernel_rfl) (kL (j := 0) hS rfl List.not_mem_nil) (fun a hE => ?_))) rfl
        have hS := hS.pk (.c 1 rfl (.c 0 rfl .n)) rfl
        refine at_op (op_store (v := .agg (List.toArray (acells .u8 32 (x1.fCom)))) (acells .u8 32 (x1.fCom)) rfl rfl rfl rfl hE hS rfl rfl (by kernel_rfl) (by kernel_rfl) (by kernel_rfl) (by kernel_rfl) (by kernel_rfl) (fun a w _ hE hS => ?_)) rfl
        refine at_end rfl ?_
        refine wpIn_ret ?_
        obtain rfl := Option.some.inj hf
        repeat (with_reducible first | refine then_ret ?_ | refine block_ret ?_ | refine qx_ret ?_)
        refine ret_gen ([.agg (List.toArray (acells .u8 32 (x1.fCom)))]) hE (by rw [show Tryd.f13.results.toList = [.cell 2 23] from rfl]; exact ⟨_, _, _, 0, _, _, rfl, rfl, hS.heapAt (j := 0) rfl, by kernel_rfl, rfl⟩) ?_
        have hS := hS.pk .n rfl
        exact ⟨_, rfl, D139, rfl, hS⟩
      · replace hf := cond_f hb hf
        clear hb
        refine wpIn_skip ?_
        refine wpIn_seq ?_
        refine region_draw (fun j => Keeps (mfOf [(6, [b116])] j)) (by kernel_rfl) ?_
        have hS := hS.drew
        first | generalize w.drew = w at hS ⊢ | generalize w0.drew = w at hS ⊢
        refine tW 0 1 (fuel := 6) (by kernel_rfl) hE (fun M => g_fieldAddr (fo := 44) (ft := 23) 44 rfl rfl rfl rfl hE rfl rfl (by kernel_rfl) rfl (fun a hE => ?_))
        obtain ⟨D177, le178, e179, hS⟩ := hS.freezeB
        have hc180 : Cell kd_T_api_Rec D177 b114 0 (x1) := ⟨c_T_api_Rec (x1) A2 c3 A5 c6, _, _, _, (kd_T_api_Rec_mk (D := D177) (x := x1) rfl rfl rfl rfl rfl rfl rfl rfl rfl rfl rfl (kslice (h4.mono (Snap.le.trans le140 le178))) (kslice (h7.mono (Snap.le.trans le140 le178))) rfl rfl rfl), e179, fun j u hu => by simpa using hu⟩
        obtain ⟨l181, h182, hf⟩ := bind_some hf
        refine tW 1 3 (fuel := 5) (by kernel_rfl) hE (fun M => tk_sliceArrAt (kk := .u8) (e := 5) (v := x1.fSalt) (off := 44) (cs := c_T_api_Rec (x1) A2 c3 A5 c6) rfl rfl rfl rfl hE rfl rfl (by kernel_rfl) rfl rfl e179 (by kernel_rfl) rfl h182 (fun a A183 c184 hE h185 => ?_))
        refine tW 2 7 (fuel := 4) (by kernel_rfl) hE (fun M => g_fieldAddr (fo := 43) (ft := 25) (0 + 43) rfl rfl rfl rfl hE rfl rfl (by kernel_rfl) rfl (fun a hE => ?_))
        obtain ⟨cs186, C187, T188, fr189, hr190, hb191, hc192⟩ := hc180
        obtain ⟨A193, c194, A196, c197, rfl, h195, h198⟩ := kd_T_api_Rec_el hr190
        refine tT 3 15 (fuel := 3) (by kernel_rfl) hE (tk_loadX (off0 := 0) (off := 43) (c := c_T_api_Rec (x1) A193 c194 A196 c197) (.slice A196 (List.length (x1.fData)) c197) rfl rfl rfl rfl hE rfl hS rfl hb191 hc192 (by kernel_rfl) (by kernel_rfl) (kD hS dn_nil) (fun a hE => ?_))
        refine oG 4 31 (fuel := 2) (by kernel_rfl) (op_buildSlice (K := (kdSlice (kdInt .u8))) (e := 25) (cs := [.slice A183 (List.length (l181)) c184] ++ ([.slice A196 (List.length (x1.fData)) c197] ++ [])) ([l181, x1.fData] : List (List Int)) rfl rfl rfl rfl hE rfl hS rfl (by kernel_rfl) rfl rfl (by exact (show RL (kdSlice (kdInt .u8)) D177 ([l181, x1.fData] : List (List Int)) ([.slice A183 (List.length (l181)) c184] ++ ([.slice A196 (List.length (x1.fData)) c197] ++ [])) from ⟨_, _, rfl, (kslice h185), ⟨_, _, rfl, (kslice h198), rfl⟩⟩)) (fun a A199 q200 w hkp hE h201 hS => ⟨hkp.mono (fun _ h => absurd h List.not_mem_nil), ?_⟩))
        clear hkp
        obtain ⟨D203, q206, le204, hS, h207, h205⟩ := hS.lent h201
        obtain ⟨r208, h209, hf⟩ := bind_some hf
        refine oG 5 63 (fuel := 1) (by kernel_rfl) (op_call rfl rfl rfl rfl hE rfl rfl rfl rfl (by kernel_rfl) (mac_Of.calls (g := g) h209 (hS.st.fore (L := [])) h205 (hG0.mono (Snap.le.trans (Snap.le.trans le140 le178) le204)) (hG1.mono (Snap.le.trans (Snap.le.trans le140 le178) le204))) (fun a v w hR hE => ?_))
        obtain ⟨D210, rfl, hS1⟩ := hR
        refine ⟨(hS1.keeps.sub (M' := []) trivial).mono (fun _ h => h), ?_⟩
        have le212 := hS1.dle
        have hS := hS.callR hS1 rfl .n
        clear hS1
        have hS := hS.pk (.c 1 rfl (.c 0 rfl .n)) rfl
        refine oG 6 127 (fuel := 0) (by kernel_rfl) (op_store (v := .agg (List.toArray (acells .u8 32 (r208)))) (acells .u8 32 (r208)) rfl rfl rfl rfl hE hS rfl rfl (by kernel_rfl) (by kernel_rfl) (by kernel_rfl) (by kernel_rfl) (by kernel_rfl) (fun a w hkp hE hS => ⟨hkp.mono (fun _ h => h), ?_⟩))
        clear hkp
        refine doneG (by kernel_rfl) ?_
        refine wpIn_ret ?_
        obtain rfl := Option.some.inj hf
        repeat (with_reducible first | refine then_ret ?_ | refine block_ret ?_ | refine qx_ret ?_)
        refine ret_gen ([.agg (List.toArray (acells .u8 32 (r208)))]) hE (by rw [show Tryd.f13.results.toList = [.cell 2 23] from rfl]; exact ⟨_, _, _, 0, _, _, rfl, rfl, hS.heapAt (j := 0) rfl, by kernel_rfl, rfl⟩) ?_
        have hS := hS.pk .n rfl
        exact ⟨_, rfl, D210, rfl, hS⟩

set_option maxRecDepth 100000 in
set_option maxHeartbeats 4000000 in
theorem rec_Redact.calls {K : Nat} {g w0 : World} {D0 : Snap} {x1 : T_api_Rec} {A2 : Option Addr} {c3 : Nat} {A5 : Option Addr} {c6 : Nat} {r : (T_api_Rec)} (hf : rec_Redact.f K x1 = some r) (hS0 : St g w0 D0 []) (h4 : Sl kd_T_api_Step D0 A2 c3 (x1.fSteps)) (h7 : Sl (kdInt .u8) D0 A5 c6 (x1.fData)) (hG0 : Cell (kdArr .u32 8) D0 0 0 gl_First) (hG1 : Cell (kdArr .u32 64) D0 1 0 gl_K) :
    CallsIn (Fw none) 0 Tryd.prog 16 (List.toArray [.agg (List.toArray (c_T_api_Rec (x1) A2 c3 A5 c6))]) w0 (fun e w' => ∃ v, e = .returned v ∧ ∃ (D1 : Snap) (A90 : Option Addr) (c91 : Nat) (A93 : Option Addr) (c94 : Nat), v = .agg (List.toArray (c_T_api_Rec ((T_api_Rec.mk (r.fKind) (r.fSaga) (r.fSeq) (r.fStep) (r.fTry) (r.fBack) (r.fGood) (r.fEnd) (r.fPart) (r.fEpoch) (r.fTag) (r.fSteps) (r.fData) (r.fSalt) (r.fGone) (r.fCom))) A90 c91 A93 c94)) ∧ Stp g w0 D0 [] w' D1 [] ∧ Sl kd_T_api_Step D1 A90 c91 (r.fSteps) ∧ Sl (kdInt .u8) D1 A93 c94 (r.fData)) := by
  unfold rec_Redact.f at hf
  have hS := Stp.refl hS0
  clear hS0
  refine calls_body (n := 20) Tryd.func16 rfl Tryd.ntmps16 rfl (fun a hE => ?_)
  have hE : Env a 20 [] [(0, .agg (List.toArray (c_T_api_Rec (x1) A2 c3 A5 c6)))] := hE
  refine wpIn_seq ?_
  refine region_at ?_
  refine at_op (op_box rfl rfl rfl rfl hE rfl hS rfl (fun a b96 w _ hE hS => ?_)) rfl
  refine at_op (op_alloc (z := .agg (List.toArray (c_T_api_Rec (z_T_api_Rec) none 0 none 0))) rfl rfl rfl rfl hE rfl hS (by kernel_rfl) (fun a b98 w _ hE hS => ?_)) rfl
  refine at_end rfl ?_
  refine wpIn_seq ?_
  obtain ⟨j171, hj172, hf⟩ := jn_elim hf
  refine seq_join (fun a w => ∃ (y120 : Bool), ∃ (D121 : Snap), Env a 20 [] [(1, .pointer (some ⟨b96, 0, none⟩)), (2, .pointer (some ⟨b98, 0, none⟩)), (10, .bool (y120))] ∧ Stp g w0 D0 [] w D121 [bx b96 27 (c_T_api_Rec (x1) A2 c3 A5 c6), bx b98 27 (c_T_api_Rec (z_T_api_Rec) none 0 none 0)] ∧ Snap.le D0 D121 ∧ j171 y120 = some r) ?_ ?_
  · clear hj172
    refine region_at ?_
    refine at_op (op_tk hE (tk_load 1 (.agg (List.toArray (c_T_api_Rec (x1) A2 c3 A5 c6))) rfl rfl rfl rfl hE rfl hS rfl rfl (by kernel_rfl) (kL (j := 1) hS rfl List.not_mem_nil) (fun a hE => ?_))) rfl
    obtain ⟨r173, h174, hf⟩ := bind_some hf
    refine at_op (op_call rfl rfl rfl rfl hE rfl rfl rfl rfl (by kernel_rfl) (rec_Right.calls (g := g) h174 (hS.st.fore (L := [])) h4 h7) (fun a v w hR hE => ?_)) rfl
    obtain ⟨D175, rfl, hS1⟩ := hR
    have le177 := hS1.dle
    have hS := hS.callR hS1 rfl .n
    clear hS1
    refine segN 2 (j := 4) [(6, .bool ((!r173)))] hE (by kernel_rfl) rfl (fun a hE => ?_)
    cases hb : (!r173)
    · replace hf := cond_f hb hf
      have hE := hE.know (t := 6) (b := (!r173)) (b' := false) rfl hb
      clear hb
      refine at_op (op_tk hE (g_fieldAddr (fo := 0) (ft := 3) 0 rfl rfl rfl rfl hE rfl rfl (by kernel_rfl) rfl (fun a hE => ?_))) rfl
      refine at_op (op_tk hE (tk_load 1 (.int .i64 (x1.fKind)) rfl rfl rfl rfl hE rfl hS rfl rfl (by kernel_rfl) (kL (j := 1) hS rfl List.not_mem_nil) (fun a hE => ?_))) rfl
      refine segN 2 (j := 8) [(10, .bool ((!decide (x1.fKind = (1 : Int)))))] hE (by kernel_rfl) rfl (fun a hE => ?_)
      refine at_end rfl ?_
      have hS := hS.pk (.c 1 rfl (.c 0 rfl .n)) rfl
      exact ⟨(!decide (x1.fKind = (1 : Int))), D175, hE.weak (by kernel_rfl), hS, le177, hf⟩
    · replace hf := cond_t hb hf
      have hE := hE.know (t := 6) (b := (!r173)) (b' := true) rfl hb
      clear hb
      refine segN 4 (j := 8) [(10, .bool true)] hE (by kernel_rfl) rfl (fun a hE => ?_)
      refine at_end rfl ?_
      have hS := hS.pk (.c 1 rfl (.c 0 rfl .n)) rfl
      exact ⟨true, D175, hE.weak (by kernel_rfl), hS, le177, hf⟩
  · clear hE hS
    rintro a w ⟨y120, D121, hE, hS, le122, hf⟩
    replace hf := hj172 _ hf
    clear hj172
    refine cond_split hE (b := y120) rfl (fun hb => ?_) (fun hb => ?_)
    · replace hf := cond_t hb hf
      clear hb
      refine wpIn_seq ?_
      refine region_at ?_
      refine at_op (op_tk hE (tk_load 0 (.agg (List.toArray (c_T_api_Rec (x1) A2 c3 A5 c6))) rfl rfl rfl rfl hE rfl hS rfl rfl (by kernel_rfl) (kL (j := 0) hS rfl List.not_mem_nil) (fun a hE => ?_))) rfl
      have hS := hS.pk (.c 1 rfl (.c 0 rfl .n)) rfl
      refine at_op (op_store (v := .agg (List.toArray (c_T_api_Rec (x1) A2 c3 A5 c6))) (c_T_api_Rec (x1) A2 c3 A5 c6) rfl rfl rfl rfl hE hS rfl rfl (by kernel_rfl) (by kernel_rfl) (by kernel_rfl) (by kernel_rfl) (by kernel_rfl) (fun a w _ hE hS => ?_)) rfl
      refine at_end rfl ?_
      refine wpIn_ret ?_
      obtain rfl := Option.some.inj hf
      repeat (with_reducible first | refine then_ret ?_ | refine block_ret ?_ | refine qx_ret ?_)
      refine ret_gen ([.agg (List.toArray (c_T_api_Rec (x1) A2 c3 A5 c6))]) hE (by rw [show Tryd.f16.results.toList = [.cell 2 27] from rfl]; exact ⟨_, _, _, 0, _, _, rfl, rfl, hS.heapAt (j := 0) rfl, by kernel_rfl, rfl⟩) ?_
      have hS := hS.pk .n rfl
      exact ⟨_, rfl, D121, A2, c3, A5, c6, rfl, hS, (h4.mono le122), (h7.mono le122)⟩
    · replace hf := cond_f hb hf
      clear hb
      refine wpIn_skip ?_
      refine wpIn_seq ?_
      refine region_draw (fun j => Keeps (mfOf [(8, [b98])] j)) (by kernel_rfl) ?_
      have hS := hS.drew
      first | generalize w.drew = w at hS ⊢ | generalize w0.drew = w at hS ⊢
      refine tW 0 1 (fuel := 8) (by kernel_rfl) hE (fun M => g_fieldAddr (fo := 1) (ft := 3) 1 rfl rfl rfl rfl hE rfl rfl (by kernel_rfl) rfl (fun a hE => ?_))
      refine tT 1 3 (fuel := 7) (by kernel_rfl) hE (tk_load 0 (.int .i64 (x1.fSaga)) rfl rfl rfl rfl hE rfl hS rfl rfl (by kernel_rfl) (kL (j := 0) hS rfl List.not_mem_nil) (fun a hE => ?_))
      refine tW 2 7 (fuel := 6) (by kernel_rfl) hE (fun M => g_fieldAddr (fo := 42) (ft := 24) 42 rfl rfl rfl rfl hE rfl rfl (by kernel_rfl) rfl (fun a hE => ?_))
      refine tT 3 15 (fuel := 5) (by kernel_rfl) hE (tk_load 0 (.slice A2 (List.length (x1.fSteps)) c3) rfl rfl rfl rfl hE rfl hS rfl rfl (by kernel_rfl) (kL (j := 0) hS rfl List.not_mem_nil) (fun a hE => ?_))
      refine tT 5 47 (fuel := 4) (by kernel_rfl) hE (tk_load 0 (.agg (List.toArray (c_T_api_Rec (x1) A2 c3 A5 c6))) rfl rfl rfl rfl hE rfl hS rfl rfl (by kernel_rfl) (kL (j := 0) hS rfl List.not_mem_nil) (fun a hE => ?_))
      obtain ⟨r147, h148, hf⟩ := bind_some hf
      refine oG 4 63 (fuel := 3) (by kernel_rfl) (op_call rfl rfl rfl rfl hE rfl rfl rfl rfl (by kernel_rfl) (slices_Clone_api_Step_api_Step.calls (g := g) h148 (hS.st.fore (L := [])) (h4.mono le122)) (fun a v w hR hE => ?_))
      obtain ⟨D149, A151, c152, q153, rfl, hS1, h154⟩ := hR
      refine ⟨(hS1.keeps.sub (M' := []) trivial).mono (fun _ h => h), ?_⟩
      have le156 := hS1.dle
      have hS := hS.callR hS1 rfl (.c .n)
      clear hS1
      obtain ⟨r157, h158, hf⟩ := bind_some hf
      refine oG 6 127 (fuel := 2) (by kernel_rfl) (op_call rfl rfl rfl rfl hE rfl rfl rfl rfl (by kernel_rfl) (rec_Com.calls (g := g) h158 (hS.st.fore (L := [])) (h4.mono (Snap.le.trans le122 le156)) (h7.mono (Snap.le.trans le122 le156)) (hG0.mono (Snap.le.trans le122 le156)) (hG1.mono (Snap.le.trans le122 le156))) (fun a v w hR hE => ?_))
      obtain ⟨D159, rfl, hS1⟩ := hR
      refine ⟨(hS1.keeps.sub (M' := []) trivial).mono (fun _ h => h), ?_⟩
      have le161 := hS1.dle
      have hS := hS.callR hS1 rfl .n
      clear hS1
      obtain ⟨D162, q165, le163, hS, h166, h164⟩ := hS.lent (h154.mono le161)
      refine tW 7 255 (fuel := 1) (by kernel_rfl) hE (fun M => tk_build (c_T_api_Rec ({ z_T_api_Rec with fKind := (1 : Int), fSaga := x1.fSaga, fSteps := r147, fGone := true, fCom := r157 }) A151 c152 none 0) rfl rfl rfl rfl hE rfl rfl (by kernel_rfl) (fun a hE => ?_))
      have hS := hS.pk (.c 2 rfl (.c 0 rfl (.c 1 rfl .n))) rfl
      obtain ⟨v167, hv168, hf⟩ := bind_some hf
      replace hv168 := Option.some.inj hv168
      refine oG 8 511 (fuel := 0) (by kernel_rfl) (op_store (v := .agg (List.toArray (c_T_api_Rec ({ z_T_api_Rec with fKind := (1 : Int), fSaga := x1.fSaga, fSteps := r147, fGone := true, fCom := r157 }) A151 c152 none 0))) (c_T_api_Rec (v167) A151 c152 none 0) rfl rfl rfl rfl hE hS rfl rfl (by kernel_rfl) (by kernel_rfl) (by kernel_rfl) (by kernel_rfl) (by rw [← hv168]; kernel_rfl) (fun a w hkp hE hS => ⟨hkp.mono (fun _ h => h), ?_⟩))
      clear hkp
      have h169 : Sl kd_T_api_Step D162 A151 c152 (v167.fSteps) := by rw [← hv168]; exact h164
      have h170 : Sl (kdInt .u8) D162 none 0 (v167.fData) := by rw [← hv168]; exact (Sl.nil (kdInt .u8) D162)
      refine doneG (by kernel_rfl) ?_
      refine wpIn_ret ?_
      obtain rfl := Option.some.inj hf
      repeat (with_reducible first | refine then_ret ?_ | refine block_ret ?_ | refine qx_ret ?_)
      refine ret_gen ([.agg (List.toArray (c_T_api_Rec (v167) A151 c152 none 0))]) hE (by rw [show Tryd.f16.results.toList = [.cell 2 27] from rfl]; exact ⟨_, _, _, 0, _, _, rfl, rfl, hS.heapAt (j := 0) rfl, by kernel_rfl, rfl⟩) ?_
      have hS := hS.pk .n rfl
      exact ⟨_, rfl, D162, A151, c152, none, 0, rfl, hS, h169, h170⟩

set_option maxRecDepth 100000 in
set_option maxHeartbeats 4000000 in
theorem inspeximusref01_Bytes.calls {K : Nat} {g w0 : World} {D0 : Snap} {x1 : (List Int)} {x5 : (List Int)} {A2 : Option Addr} {c3 : Nat} {A6 : Option Addr} {c7 : Nat} {r : (Bool)} (hf : inspeximusref01_Bytes.f K x1 x5 = some r) (hS0 : St g w0 D0 []) (h4 : Sl (kdInt .u8) D0 A2 c3 (x1)) (h8 : Sl (kdInt .u8) D0 A6 c7 (x5)) :
    CallsIn (Fw none) 0 Tryd.prog 19 (List.toArray [.slice A2 (List.length (x1)) c3, .slice A6 (List.length (x5)) c7]) w0 (fun e w' => ∃ v, e = .returned v ∧ ∃ (D1 : Snap), v = .bool (r) ∧ Stp g w0 D0 [] w' D1 []) := by
  unfold inspeximusref01_Bytes.f at hf
  have hS := Stp.refl hS0
  clear hS0
  refine calls_body (n := 26) Tryd.func19 rfl Tryd.ntmps19 rfl (fun a hE => ?_)
  have hE : Env a 26 [] [(0, .slice A2 (List.length (x1)) c3), (1, .slice A6 (List.length (x5)) c7)] := hE
  refine wpIn_seq ?_
  refine region_at ?_
  refine segN 1 (j := 1) [(4, .bool false)] hE (by kernel_rfl) rfl (fun a hE => ?_)
  refine at_end rfl ?_
  refine wpIn_seq ?_
  refine wpIn_seq ?_
  refine region_at ?_
  refine segN 5 (j := 5) [(10, .bool ((!decide (((List.length (x1) : Nat) : Int) = ((List.length (x5) : Nat) : Int)))))] hE (by kernel_rfl) rfl (fun a hE => ?_)
  refine at_end rfl ?_
  refine cond_split hE (b := (!decide (((List.length (x1) : Nat) : Int) = ((List.length (x5) : Nat) : Int)))) rfl (fun hb => ?_) (fun hb => ?_)
  · replace hf := cond_t hb hf
    clear hb
    refine wpIn_seq ?_
    refine region_at ?_
    refine segN 1 (j := 1) [(4, .bool false)] hE (by kernel_rfl) rfl (fun a hE => ?_)
    refine at_end rfl ?_
    refine wpIn_ret ?_
    obtain rfl := Option.some.inj hf
    repeat (with_reducible first | refine then_ret ?_ | refine block_ret ?_ | refine qx_ret ?_)
    refine ret_gen ([.bool false]) hE (by rw [show Tryd.f19.results.toList = [.tmp 4] from rfl]; exact ⟨_, _, rfl, rfl, rfl⟩) ?_
    exact ⟨_, rfl, D0, rfl, hS⟩
  · replace hf := cond_f hb hf
    clear hb
    refine wpIn_skip ?_
    refine wpIn_seq ?_
    refine wpIn_seq ?_
    refine region_at ?_
    refine segN 1 (j := 1) [(5, .int .i64 ((0 : Int)))] hE (by kernel_rfl) rfl (fun a hE => ?_)
    refine at_end rfl ?_
    obtain ⟨s1152, hf, hs1153⟩ := bind_some hf
    refine block_loop (fun a w => ∃ (z1149 : Unit), ∃ (D1150 : Snap), Env a 26 [] [] ∧ Stp g w0 D0 [] w D1150 [] ∧ Snap.le D0 D1150 ∧ (Sum.inr z1149) = s1152) (fun k a w => ∃ (y1047 : Int), ∃ (D1048 : Snap), Env a 26 [] [(0, .slice A2 (List.length (x1)) c3), (1, .slice A6 (List.length (x5)) c7), (5, .int .i64 (y1047))] ∧ Stp g w0 D0 [] w D1048 [] ∧ Snap.le D0 D1048 ∧ inspeximusref01_Bytes_l1.l K x1 x5 k y1047 = some s1152) K ?_ ?_ ?_
    · exact ⟨(0 : Int), D0, hE.weak (by kernel_rfl), hS, Snap.le.refl _, hf⟩
    · clear hE hS hf
      rintro a w ⟨z1149, D1150, hE, hS, le1151, rfl⟩
      have hf := hs1153
      clear hs1153
      refine wpIn_seq ?_
      refine region_at ?_
      refine segN 1 (j := 1) [(4, .bool true)] hE (by kernel_rfl) rfl (fun a hE => ?_)
      refine at_end rfl ?_
      refine wpIn_ret ?_
      obtain rfl := Option.some.inj hf
      repeat (with_reducible first | refine then_ret ?_ | refine block_ret ?_ | refine qx_ret ?_)
      refine ret_gen ([.bool true]) hE (by rw [show Tryd.f19.results.toList = [.tmp 4] from rfl]; exact ⟨_, _, rfl, rfl, rfl⟩) ?_
      exact ⟨_, rfl, D1150, rfl, hS⟩
    · clear hE hS hf
      rintro k a w ⟨y1047, D1048, hE, hS, le1049, hf⟩
      obtain ⟨k, rfl, hf⟩ := inspeximusref01_Bytes_l1.some _ _ hf
      refine ⟨k, rfl, ?_⟩
      unfold inspeximusref01_Bytes_l1.b at hf
      refine wpIn_seq ?_
      refine wpIn_seq ?_
      refine region_at ?_
      refine segN 4 (j := 4) [(14, .bool ((decide (y1047 < ((List.length (x1) : Nat) : Int)))))] hE (by kernel_rfl) rfl (fun a hE => ?_)
      refine at_end rfl ?_
      refine cond_split hE (b := (decide (y1047 < ((List.length (x1) : Nat) : Int)))) rfl (fun hb => ?_) (fun hb => ?_)
      · replace hf := cond_t hb hf
        clear hb
        refine wpIn_skip ?_
        refine wpIn_seq ?_
        refine wpIn_block ?_
        refine wpIn_seq ?_
        refine region_draw (fun j => Keeps (mfOf [] j)) (by kernel_rfl) ?_
        have hS := hS.drew
        first | generalize w.drew = w at hS ⊢ | generalize w0.drew = w at hS ⊢
        refine tW 0 1 (fuel := 8) (by kernel_rfl) hE (fun M => tk_pure (.slice A2 (List.length (x1)) c3) hE rfl rfl rfl rfl (fun _ _ _ e => by cases e) (by kernel_rfl) (fun a hE => ?_))
        refine tW 1 3 (fuel := 7) (by kernel_rfl) hE (fun M => tk_pure (.int .i64 (y1047)) hE rfl rfl rfl rfl (fun _ _ _ e => by cases e) (by kernel_rfl) (fun a hE => ?_))
        refine tW 4 19 (fuel := 6) (by kernel_rfl) hE (fun M => tk_pure (.slice A6 (List.length (x5)) c7) hE rfl rfl rfl rfl (fun _ _ _ e => by cases e) (by kernel_rfl) (fun a hE => ?_))
        refine tW 5 51 (fuel := 5) (by kernel_rfl) hE (fun M => tk_pure (.int .i64 (y1047)) hE rfl rfl rfl rfl (fun _ _ _ e => by cases e) (by kernel_rfl) (fun a hE => ?_))
        obtain ⟨x1226, h1227, hf⟩ := bind_some hf
        refine tW 2 55 (fuel := 4) (by kernel_rfl) hE (fun M => g_index (K := (kdInt .u8)) (e := 5) (by_ := 1) (zl := 1) rfl rfl rfl rfl hE rfl rfl rfl (by kernel_rfl) rfl (h4.mono le1049) h1227 (fun a b1228 o1229 hE h1230 => ?_))
        obtain ⟨cs1231, C1232, T1233, fr1234, hr1235, hb1236, hc1237⟩ := h1230
        obtain rfl := hr1235
        refine tT 3 63 (fuel := 3) (by kernel_rfl) hE (tk_loadX (off0 := o1229) (off := 0) (c := [.int .u8 (x1226)]) (.int .u8 (x1226)) rfl rfl rfl rfl hE rfl hS rfl hb1236 hc1237 (by kernel_rfl) (by kernel_rfl) (kD hS dn_nil) (fun a hE => ?_))
        obtain ⟨x1238, h1239, hf⟩ := bind_some hf
        refine tW 6 127 (fuel := 2) (by kernel_rfl) hE (fun M => g_index (K := (kdInt .u8)) (e := 5) (by_ := 1) (zl := 1) rfl rfl rfl rfl hE rfl rfl rfl (by kernel_rfl) rfl (h8.mono le1049) h1239 (fun a b1240 o1241 hE h1242 => ?_))
        obtain ⟨cs1243, C1244, T1245, fr1246, hr1247, hb1248, hc1249⟩ := h1242
        obtain rfl := hr1247
        refine tT 7 255 (fuel := 1) (by kernel_rfl) hE (tk_loadX (off0 := o1241) (off := 0) (c := [.int .u8 (x1238)]) (.int .u8 (x1238)) rfl rfl rfl rfl hE rfl hS rfl hb1248 hc1249 (by kernel_rfl) (by kernel_rfl) (kD hS dn_nil) (fun a hE => ?_))
        refine tW 8 511 (fuel := 0) (by kernel_rfl) hE (fun M => tk_pure (.bool ((!decide (x1226 = x1238)))) hE rfl rfl rfl rfl (fun _ _ _ e => by cases e) (by kernel_rfl) (fun a hE => ?_))
        refine doneG (by kernel_rfl) ?_
        refine cond_split hE (b := (!decide (x1226 = x1238))) rfl (fun hb => ?_) (fun hb => ?_)
        · replace hf := cond_t hb hf
          clear hb
          refine wpIn_seq ?_
          refine region_at ?_
          refine segN 1 (j := 1) [(4, .bool false)] hE (by kernel_rfl) rfl (fun a hE => ?_)
          refine at_end rfl ?_
          refine wpIn_ret ?_
          obtain rfl := Option.some.inj hf
          replace hf := hs1153
          obtain rfl := Option.some.inj hf
          repeat (with_reducible first | refine then_ret ?_ | refine block_ret ?_ | refine qx_ret ?_)
          refine ret_gen ([.bool false]) hE (by rw [show Tryd.f19.results.toList = [.tmp 4] from rfl]; exact ⟨_, _, rfl, rfl, rfl⟩) ?_
          exact ⟨_, rfl, D1048, rfl, hS⟩
        · replace hf := cond_f hb hf
          clear hb
          refine wpIn_skip ?_
          refine region_at ?_
          refine segN 3 (j := 3) [(5, .int .i64 ((IntKind.wrap .i64 (y1047 + (1 : Int)))))] hE (by kernel_rfl) rfl (fun a hE => ?_)
          refine at_end rfl ?_
          exact ⟨(IntKind.wrap .i64 (y1047 + (1 : Int))), D1048, hE.weak (by kernel_rfl), hS, le1049, hf⟩
      · replace hf := cond_f hb hf
        clear hb
        refine wpIn_exit ?_
        obtain rfl := Option.some.inj hf
        exact ⟨(), D1048, hE.weak (by kernel_rfl), hS, le1049, rfl⟩

set_option maxRecDepth 100000 in
set_option maxHeartbeats 4000000 in
theorem rec_Sealed_1.calls {K : Nat} {g w0 : World} {D0 : Snap} {x3 : T_api_Rec} {b1 : Nat} {A4 : Option Addr} {c5 : Nat} {A7 : Option Addr} {c8 : Nat} {r : ((List Int))} (hf : rec_Sealed_1.f K x3 = some r) (hS0 : St g w0 D0 [bx b1 27 (c_T_api_Rec (x3) A4 c5 A7 c8)]) (h6 : Sl kd_T_api_Step D0 A4 c5 (x3.fSteps)) (h9 : Sl (kdInt .u8) D0 A7 c8 (x3.fData)) (hG0 : Cell (kdArr .u32 8) D0 0 0 gl_First) (hG1 : Cell (kdArr .u32 64) D0 1 0 gl_K) :
    CallsIn (Fw none) 0 Tryd.prog 39 (List.toArray [.pointer (some ⟨b1, 0, none⟩)]) w0 (fun e w' => ∃ v, e = .returned v ∧ ∃ (D1 : Snap) (A25 : Option Addr) (c26 : Nat) (q27 : Blk), v = .slice A25 (List.length (r)) c26 ∧ Stp g w0 D0 [bx b1 27 (c_T_api_Rec (x3) A4 c5 A7 c8)] w' D1 [bx b1 27 (c_T_api_Rec (x3) A4 c5 A7 c8), q27] ∧ OwnD (kdInt .u8) 5 D1 A25 c26 (r) q27) := by
  unfold rec_Sealed_1.f at hf
  have hS := Stp.refl hS0
  clear hS0
  refine calls_body (n := 5) Tryd.func39 rfl Tryd.ntmps39 rfl (fun a hE => ?_)
  have hE : Env a 5 [] [(0, .pointer (some ⟨b1, 0, none⟩))] := hE
  refine wpIn_seq ?_
  refine region_at ?_
  refine segN 1 (j := 1) [(1, .slice none 0 0)] hE (by kernel_rfl) rfl (fun a hE => ?_)
  refine at_end rfl ?_
  refine wpIn_seq ?_
  refine region_at ?_
  refine at_op (op_tk hE (tk_load 0 (.agg (List.toArray (c_T_api_Rec (x3) A4 c5 A7 c8))) rfl rfl rfl rfl hE rfl hS rfl rfl (by kernel_rfl) (kL (j := 0) hS rfl List.not_mem_nil) (fun a hE => ?_))) rfl
  obtain ⟨r30, h31, hf⟩ := bind_some hf
  refine at_op (op_call rfl rfl rfl rfl hE rfl rfl rfl rfl (by kernel_rfl) (rec_Com.calls (g := g) h31 (hS.st.fore (L := [])) h6 h9 hG0 hG1) (fun a v w hR hE => ?_)) rfl
  obtain ⟨D32, rfl, hS1⟩ := hR
  have le34 := hS1.dle
  have hS := hS.callR hS1 rfl .n
  clear hS1
  obtain ⟨r35, h36, hf⟩ := bind_some hf
  refine at_op (op_call rfl rfl rfl rfl hE rfl rfl rfl rfl (by kernel_rfl) (wire_Hash.calls (g := g) h36 (hS.st.fore (L := [])) ) (fun a v w hR hE => ?_)) rfl
  obtain ⟨D37, A39, c40, q41, rfl, hS1, h42⟩ := hR
  have le44 := hS1.dle
  have hS := hS.callR hS1 rfl (.c .n)
  clear hS1
  refine segN 1 (j := 4) [(1, .slice A39 (List.length (r35)) c40)] hE (by kernel_rfl) rfl (fun a hE => ?_)
  refine at_end rfl ?_
  refine wpIn_ret ?_
  obtain rfl := Option.some.inj hf
  repeat (with_reducible first | refine then_ret ?_ | refine block_ret ?_ | refine qx_ret ?_)
  refine ret_gen ([.slice A39 (List.length (r35)) c40]) hE (by rw [show Tryd.f39.results.toList = [.tmp 1] from rfl]; exact ⟨_, _, rfl, rfl, rfl⟩) ?_
  have hS := hS.pk (.c 1 rfl (.c 0 rfl .n)) rfl
  exact ⟨_, rfl, D37, A39, c40, q41, rfl, hS, h42⟩

set_option maxRecDepth 100000 in
set_option maxHeartbeats 4000000 in
theorem rec_put_v2.calls {K : Nat} {g w0 : World} {D0 : Snap} {x3 : T_api_Rec} {x10 : T_api_Rec} {b1 : Nat} {A4 : Option Addr} {c5 : Nat} {A7 : Option Addr} {c8 : Nat} {A11 : Option Addr} {c12 : Nat} {A14 : Option Addr} {c15 : Nat} {r : ((List Int))} (hf : rec_put_v2.f K x3 x10 = some r) (hS0 : St g w0 D0 [bx b1 27 (c_T_api_Rec (x10) A11 c12 A14 c15)]) (h6 : Sl kd_T_api_Step D0 A4 c5 (x3.fSteps)) (h9 : Sl (kdInt .u8) D0 A7 c8 (x3.fData)) (h13 : Sl kd_T_api_Step D0 A11 c12 (x10.fSteps)) (h16 : Sl (kdInt .u8) D0 A14 c15 (x10.fData)) (hG0 : Cell (kdArr .u32 8) D0 0 0 gl_First) (hG1 : Cell (kdArr .u32 64) D0 1 0 gl_K) :
    CallsIn (Fw none) 0 Tryd.prog 38 (List.toArray [.agg (List.toArray (c_T_api_Rec (x3) A4 c5 A7 c8)), .func (.func 39) #[] #[.pointer (some ⟨b1, 0, none⟩)]]) w0 (fun e w' => ∃ v, e = .returned v ∧ ∃ (D1 : Snap) (A1107 : Option Addr) (c1108 : Nat) (q1109 : Blk), v = .slice A1107 (List.length (r)) c1108 ∧ Stp g w0 D0 [bx b1 27 (c_T_api_Rec (x10) A11 c12 A14 c15)] w' D1 [bx b1 27 (c_T_api_Rec (x10) A11 c12 A14 c15), q1109] ∧ OwnD (kdInt .u8) 5 D1 A1107 c1108 (r) q1109) := by
  unfold rec_put_v2.f at hf
  have hS := Stp.refl hS0
  clear hS0
  refine calls_body (n := 29) Tryd.func38 rfl Tryd.ntmps38 rfl (fun a hE => ?_)
  have hE : Env a 29 [] [(0, .agg (List.toArray (c_T_api_Rec (x3) A4 c5 A7 c8))), (1, .func (.func 39) #[] #[.pointer (some ⟨b1, 0, none⟩)])] := hE
  refine wpIn_seq ?_
  refine region_at ?_
  refine at_op (op_box rfl rfl rfl rfl hE rfl hS rfl (fun a b1112 w _ hE hS => ?_)) rfl
  refine segN 1 (j := 2) [(4, .slice none 0 0)] hE (by kernel_rfl) rfl (fun a hE => ?_)
  refine at_end rfl ?_
  refine wpIn_seq ?_
  refine wpIn_seq ?_
  refine region_at ?_
  refine at_op (op_tk hE (tk_load 0 (.agg (List.toArray (c_T_api_Rec (x3) A4 c5 A7 c8))) rfl rfl rfl rfl hE rfl hS rfl rfl (by kernel_rfl) (kL (j := 0) hS rfl List.not_mem_nil) (fun a hE => ?_))) rfl
  obtain ⟨r1119, h1120, hf⟩ := bind_some hf
  refine at_op (op_call rfl rfl rfl rfl hE rfl rfl rfl rfl (by kernel_rfl) (rec_Right.calls (g := g) h1120 (hS.st.fore (L := [])) h6 h9) (fun a v w hR hE => ?_)) rfl
  obtain ⟨D1121, rfl, hS1⟩ := hR
  have le1123 := hS1.dle
  have hS := hS.callR hS1 rfl .n
  clear hS1
  refine segN 1 (j := 3) [(8, .bool ((!r1119)))] hE (by kernel_rfl) rfl (fun a hE => ?_)
  refine at_end rfl ?_
  refine cond_split hE (b := (!r1119)) rfl (fun hb => ?_) (fun hb => ?_)
  · replace hf := cond_t hb hf
    clear hb
    refine wpIn_seq ?_
    refine region_at ?_
    refine segN 1 (j := 1) [(4, .slice none 0 0)] hE (by kernel_rfl) rfl (fun a hE => ?_)
    refine at_end rfl ?_
    refine wpIn_ret ?_
    have hS := hS.nils
    obtain rfl := Option.some.inj hf
    repeat (with_reducible first | refine then_ret ?_ | refine block_ret ?_ | refine qx_ret ?_)
    refine ret_gen ([.slice none 0 0]) hE (by rw [show Tryd.f38.results.toList = [.tmp 4] from rfl]; exact ⟨_, _, rfl, rfl, rfl⟩) ?_
    have hS := hS.pk (.c 2 rfl (.c 0 rfl .n)) rfl
    exact ⟨_, rfl, D1121, none, 0, none, rfl, hS, (OwnD.nil (kdInt .u8) 5 D1121)⟩
  · replace hf := cond_f hb hf
    clear hb
    refine wpIn_skip ?_
    obtain ⟨j1689, hj1690, hf⟩ := jn_elim hf
    refine seq_join (fun a w => ∃ (y1637 : (List Int)), ∃ (A1640 : Option Addr), ∃ (c1641 : Nat), ∃ (q1642 : Blk), ∃ (D1638 : Snap), Env a 29 [] [(1, .func (.func 39) #[] #[.pointer (some ⟨b1, 0, none⟩)]), (2, .pointer (some ⟨b1112, 0, none⟩)), (5, .slice A1640 (List.length (y1637)) c1641)] ∧ Stp g w0 D0 [bx b1 27 (c_T_api_Rec (x10) A11 c12 A14 c15)] w D1638 [bx b1 27 (c_T_api_Rec (x10) A11 c12 A14 c15), bx b1112 27 (c_T_api_Rec (x3) A4 c5 A7 c8), q1642] ∧ Snap.le D1121 D1638 ∧ OwnD (kdInt .u8) 5 D1638 A1640 c1641 (y1637) q1642 ∧ j1689 y1637 = some r) ?_ ?_
    · clear hj1690
      refine region_draw (fun j => Keeps (mfOf [] j)) (by kernel_rfl) ?_
      have hS := hS.drew
      first | generalize w.drew = w at hS ⊢ | generalize w0.drew = w at hS ⊢
      refine tW 0 1 (fuel := 12) (by kernel_rfl) hE (fun M => g_fieldAddr (fo := 0) (ft := 3) 0 rfl rfl rfl rfl hE rfl rfl (by kernel_rfl) rfl (fun a hE => ?_))
      refine tT 1 3 (fuel := 11) (by kernel_rfl) hE (tk_load 0 (.int .i64 (x3.fKind)) rfl rfl rfl rfl hE rfl hS rfl rfl (by kernel_rfl) (kL (j := 0) hS rfl List.not_mem_nil) (fun a hE => ?_))
      refine tW 4 19 (fuel := 10) (by kernel_rfl) hE (fun M => g_fieldAddr (fo := 0) (ft := 3) 0 rfl rfl rfl rfl hE rfl rfl (by kernel_rfl) rfl (fun a hE => ?_))
      refine tT 5 51 (fuel := 9) (by kernel_rfl) hE (tk_load 0 (.int .i64 (x3.fKind)) rfl rfl rfl rfl hE rfl hS rfl rfl (by kernel_rfl) (kL (j := 0) hS rfl List.not_mem_nil) (fun a hE => ?_))
      refine tT 8 307 (fuel := 8) (by kernel_rfl) hE (tk_load 0 (.agg (List.toArray (c_T_api_Rec (x3) A4 c5 A7 c8))) rfl rfl rfl rfl hE rfl hS rfl rfl (by kernel_rfl) (kL (j := 0) hS rfl List.not_mem_nil) (fun a hE => ?_))
      obtain ⟨r1947, h1948, hf⟩ := bind_some hf
      refine oG 2 311 (fuel := 7) (by kernel_rfl) (op_call rfl rfl rfl rfl hE rfl rfl rfl rfl (by kernel_rfl) (wire_Num.calls (g := g) h1948 (hS.st.fore (L := [])) ) (fun a v w hR hE => ?_))
      obtain ⟨D1949, A1951, c1952, q1953, rfl, hS1, h1954⟩ := hR
      refine ⟨(hS1.keeps.sub (M' := []) trivial).mono (fun _ h => h), ?_⟩
      have le1956 := hS1.dle
      have hS := hS.callR hS1 rfl (.c .n)
      clear hS1
      obtain ⟨r1957, h1958, hf⟩ := bind_some hf
      refine oG 3 319 (fuel := 6) (by kernel_rfl) (op_call rfl rfl rfl rfl hE rfl rfl rfl rfl (by kernel_rfl) (rec_forms.calls (g := g) h1958 (hS.st.fore (L := [])) ) (fun a v w hR hE => ?_))
      obtain ⟨D1959, rfl, hS1⟩ := hR
      refine ⟨(hS1.keeps.sub (M' := []) trivial).mono (fun _ h => h), ?_⟩
      have le1961 := hS1.dle
      have hS := hS.callR hS1 rfl .n
      clear hS1
      cases hb : decide (x3.fKind = (0 : Int))
      · replace hf := cond_f hb hf
        clear hb
        cases hb : decide (x3.fKind = (1 : Int))
        · replace hf := cond_f hb hf
          clear hb
          cases hb : decide (x3.fKind = (2 : Int))
          · replace hf := cond_f hb hf
            clear hb
            cases hb : decide (x3.fKind = (3 : Int))
            · replace hf := cond_f hb hf
              clear hb
              cases hb : decide (x3.fKind = (4 : Int))
              · replace hf := cond_f hb hf
                clear hb
                cases hb : decide (x3.fKind = (5 : Int))
                · replace hf := cond_f hb hf
                  clear hb
                  cases hb : decide (x3.fKind = (6 : Int))
                  · replace hf := cond_f hb hf
                    clear hb
                    cases hf
                  · replace hf := cond_t hb hf
                    have hk2163 := of_decide_eq_true hb
                    clear hb
                    refine tW 6 383 (fuel := 5) (by kernel_rfl) hE (fun M => tk_indexV (N := 7) (e := 79) (sz := 1) (cs := ([.nilFunc]) ++ (([.func (.func 85) #[] #[]]) ++ (([.func (.func 86) #[] #[]]) ++ (([.func (.func 87) #[] #[]]) ++ (([.func (.func 86) #[] #[]]) ++ (([.func (.func 89) #[] #[]]) ++ (([.func (.func 90) #[] #[]])))))))) 6 (.agg (List.toArray ([.func (.func 90) #[] #[]]))) rfl rfl rfl rfl hE rfl rfl rfl hk2163 (by kernel_rfl) (by kernel_rfl) (by kernel_rfl) (fun a hE => ?_))
                    refine tW 7 511 (fuel := 4) (by kernel_rfl) hE (fun M => g_field (cs := [.func (.func 90) #[] #[]]) (fo := 0) (ft := 34) (.func (.func 90) #[] #[]) rfl rfl rfl rfl hE rfl rfl (by kernel_rfl) (by kernel_rfl) (fun a hE => ?_))
                    obtain ⟨r2164, h2165, hf⟩ := bind_some hf
                    refine oG 9 1023 (fuel := 3) (by kernel_rfl) (op_call rfl rfl rfl rfl hE rfl rfl rfl rfl (by kernel_rfl) (rec_forms_3.calls (g := g) h2165 (hS.st.fore (L := [])) (h6.mono (Snap.le.trans (Snap.le.trans le1123 le1956) le1961)) (h9.mono (Snap.le.trans (Snap.le.trans le1123 le1956) le1961))) (fun a v w hR hE => ?_))
                    obtain ⟨D2166, A2168, c2169, q2170, rfl, hS1, h2171⟩ := hR
                    refine ⟨(hS1.keeps.sub (M' := []) trivial).mono (fun _ h => h), ?_⟩
                    have le2173 := hS1.dle
                    have hS := hS.callR hS1 rfl (.c .n)
                    clear hS1
                    have hS := hS.pk (.c 1 rfl (.c 0 rfl (.c 2 rfl (.c 3 rfl .n)))) rfl
                    obtain ⟨D2174, q2177, le2175, hS, h2178, h2176⟩ := hS.lent (h1954.mono (Snap.le.trans le1961 le2173))
                    have hS := hS.pk (.c 1 rfl (.c 0 rfl (.c 2 rfl (.c 3 rfl .n)))) rfl
                    obtain ⟨D2179, q2182, le2180, hS, h2183, h2181⟩ := hS.lent (h2171.mono le2175)
                    refine oG 10 2047 (fuel := 2) (by kernel_rfl) (op_buildSlice (K := (kdSlice (kdInt .u8))) (e := 25) (cs := [.slice A1951 (List.length (r1947)) c1952] ++ ([.slice A2168 (List.length (r2164)) c2169] ++ [])) ([r1947, r2164] : List (List Int)) rfl rfl rfl rfl hE rfl hS rfl (by kernel_rfl) rfl rfl (by exact (show RL (kdSlice (kdInt .u8)) D2179 ([r1947, r2164] : List (List Int)) ([.slice A1951 (List.length (r1947)) c1952] ++ ([.slice A2168 (List.length (r2164)) c2169] ++ [])) from ⟨_, _, rfl, (kslice (h2176.mono le2180)), ⟨_, _, rfl, (kslice h2181), rfl⟩⟩)) (fun a A2184 q2185 w hkp hE h2186 hS => ⟨hkp.mono (fun _ h => absurd h List.not_mem_nil), ?_⟩))
                    clear hkp
                    obtain ⟨D2188, q2191, le2189, hS, h2192, h2190⟩ := hS.lent h2186
                    obtain ⟨r2193, h2194, hf⟩ := bind_some hf
                    refine oG 11 4095 (fuel := 1) (by kernel_rfl) (op_call rfl rfl rfl rfl hE rfl rfl rfl rfl (by kernel_rfl) (wire_All.calls (g := g) h2194 (hS.st.fore (L := [])) h2190) (fun a v w hR hE => ?_))
                    obtain ⟨D2195, A2197, c2198, q2199, rfl, hS1, h2200⟩ := hR
                    refine ⟨(hS1.keeps.sub (M' := []) trivial).mono (fun _ h => h), ?_⟩
                    have le2202 := hS1.dle
                    have hS := hS.callR hS1 rfl (.c .n)
                    clear hS1
                    refine tW 12 8191 (fuel := 0) (by kernel_rfl) hE (fun M => tk_pure (.slice A2197 (List.length (r2193)) c2198) hE rfl rfl rfl rfl (fun _ _ _ e => by cases e) (by kernel_rfl) (fun a hE => ?_))
                    refine doneG (by kernel_rfl) ?_
                    have hS := hS.pk (.c 5 rfl (.c 4 rfl (.c 0 rfl .n))) rfl
                    exact ⟨r2193, A2197, c2198, q2199, D2195, hE.weak (by kernel_rfl), hS, (Snap.le.trans (Snap.le.trans (Snap.le.trans (Snap.le.trans (Snap.le.trans (Snap.le.trans le1956 le1961) le2173) le2175) le2180) le2189) le2202), h2200, hf⟩
                · replace hf := cond_t hb hf
                  have hk2123 := of_decide_eq_true hb
                  clear hb
                  refine tW 6 383 (fuel := 5) (by kernel_rfl) hE (fun M => tk_indexV (N := 7) (e := 79) (sz := 1) (cs := ([.nilFunc]) ++ (([.func (.func 85) #[] #[]]) ++ (([.func (.func 86) #[] #[]]) ++ (([.func (.func 87) #[] #[]]) ++ (([.func (.func 86) #[] #[]]) ++ (([.func (.func 89) #[] #[]]) ++ (([.func (.func 90) #[] #[]])))))))) 5 (.agg (List.toArray ([.func (.func 89) #[] #[]]))) rfl rfl rfl rfl hE rfl rfl rfl hk2123 (by kernel_rfl) (by kernel_rfl) (by kernel_rfl) (fun a hE => ?_))
                  refine tW 7 511 (fuel := 4) (by kernel_rfl) hE (fun M => g_field (cs := [.func (.func 89) #[] #[]]) (fo := 0) (ft := 34) (.func (.func 89) #[] #[]) rfl rfl rfl rfl hE rfl rfl (by kernel_rfl) (by kernel_rfl) (fun a hE => ?_))
                  obtain ⟨r2124, h2125, hf⟩ := bind_some hf
                  refine oG 9 1023 (fuel := 3) (by kernel_rfl) (op_call rfl rfl rfl rfl hE rfl rfl rfl rfl (by kernel_rfl) (rec_forms_2.calls (g := g) h2125 (hS.st.fore (L := [])) (h6.mono (Snap.le.trans (Snap.le.trans le1123 le1956) le1961)) (h9.mono (Snap.le.trans (Snap.le.trans le1123 le1956) le1961))) (fun a v w hR hE => ?_))
                  obtain ⟨D2126, A2128, c2129, q2130, rfl, hS1, h2131⟩ := hR
                  refine ⟨(hS1.keeps.sub (M' := []) trivial).mono (fun _ h => h), ?_⟩
                  have le2133 := hS1.dle
                  have hS := hS.callR hS1 rfl (.c .n)
                  clear hS1
                  have hS := hS.pk (.c 1 rfl (.c 0 rfl (.c 2 rfl (.c 3 rfl .n)))) rfl
                  obtain ⟨D2134, q2137, le2135, hS, h2138, h2136⟩ := hS.lent (h1954.mono (Snap.le.trans le1961 le2133))
                  have hS := hS.pk (.c 1 rfl (.c 0 rfl (.c 2 rfl (.c 3 rfl .n)))) rfl
                  obtain ⟨D2139, q2142, le2140, hS, h2143, h2141⟩ := hS.lent (h2131.mono le2135)
                  refine oG 10 2047 (fuel := 2) (by kernel_rfl) (op_buildSlice (K := (kdSlice (kdInt .u8))) (e := 25) (cs := [.slice A1951 (List.length (r1947)) c1952] ++ ([.slice A2128 (List.length (r2124)) c2129] ++ [])) ([r1947, r2124] : List (List Int)) rfl rfl rfl rfl hE rfl hS rfl (by kernel_rfl) rfl rfl (by exact (show RL (kdSlice (kdInt .u8)) D2139 ([r1947, r2124] : List (List Int)) ([.slice A1951 (List.length (r1947)) c1952] ++ ([.slice A2128 (List.length (r2124)) c2129] ++ [])) from ⟨_, _, rfl, (kslice (h2136.mono le2140)), ⟨_, _, rfl, (kslice h2141), rfl⟩⟩)) (fun a A2144 q2145 w hkp hE h2146 hS => ⟨hkp.mono (fun _ h => absurd h List.not_mem_nil), ?_⟩))
                  clear hkp
                  obtain ⟨D2148, q2151, le2149, hS, h2152, h2150⟩ := hS.lent h2146
                  obtain ⟨r2153, h2154, hf⟩ := bind_some hf
                  refine oG 11 4095 (fuel := 1) (by kernel_rfl) (op_call rfl rfl rfl rfl hE rfl rfl rfl rfl (by kernel_rfl) (wire_All.calls (g := g) h2154 (hS.st.fore (L := [])) h2150) (fun a v w hR hE => ?_))
                  obtain ⟨D2155, A2157, c2158, q2159, rfl, hS1, h2160⟩ := hR
                  refine ⟨(hS1.keeps.sub (M' := []) trivial).mono (fun _ h => h), ?_⟩
                  have le2162 := hS1.dle
                  have hS := hS.callR hS1 rfl (.c .n)
                  clear hS1
                  refine tW 12 8191 (fuel := 0) (by kernel_rfl) hE (fun M => tk_pure (.slice A2157 (List.length (r2153)) c2158) hE rfl rfl rfl rfl (fun _ _ _ e => by cases e) (by kernel_rfl) (fun a hE => ?_))
                  refine doneG (by kernel_rfl) ?_
                  have hS := hS.pk (.c 5 rfl (.c 4 rfl (.c 0 rfl .n))) rfl
                  exact ⟨r2153, A2157, c2158, q2159, D2155, hE.weak (by kernel_rfl), hS, (Snap.le.trans (Snap.le.trans (Snap.le.trans (Snap.le.trans (Snap.le.trans (Snap.le.trans le1956 le1961) le2133) le2135) le2140) le2149) le2162), h2160, hf⟩
              · replace hf := cond_t hb hf
                have hk2083 := of_decide_eq_true hb
                clear hb
                refine tW 6 383 (fuel := 5) (by kernel_rfl) hE (fun M => tk_indexV (N := 7) (e := 79) (sz := 1) (cs := ([.nilFunc]) ++ (([.func (.func 85) #[] #[]]) ++ (([.func (.func 86) #[] #[]]) ++ (([.func (.func 87) #[] #[]]) ++ (([.func (.func 86) #[] #[]]) ++ (([.func (.func 89) #[] #[]]) ++ (([.func (.func 90) #[] #[]])))))))) 4 (.agg (List.toArray ([.func (.func 86) #[] #[]]))) rfl rfl rfl rfl hE rfl rfl rfl hk2083 (by kernel_rfl) (by kernel_rfl) (by kernel_rfl) (fun a hE => ?_))
                refine tW 7 511 (fuel := 4) (by kernel_rfl) hE (fun M => g_field (cs := [.func (.func 86) #[] #[]]) (fo := 0) (ft := 34) (.func (.func 86) #[] #[]) rfl rfl rfl rfl hE rfl rfl (by kernel_rfl) (by kernel_rfl) (fun a hE => ?_))
                obtain ⟨r2084, h2085, hf⟩ := bind_some hf
                refine oG 9 1023 (fuel := 3) (by kernel_rfl) (op_call rfl rfl rfl rfl hE rfl rfl rfl rfl (by kernel_rfl) (rec_call.calls (g := g) h2085 (hS.st.fore (L := [])) (h6.mono (Snap.le.trans (Snap.le.trans le1123 le1956) le1961)) (h9.mono (Snap.le.trans (Snap.le.trans le1123 le1956) le1961))) (fun a v w hR hE => ?_))
                obtain ⟨D2086, A2088, c2089, q2090, rfl, hS1, h2091⟩ := hR
                refine ⟨(hS1.keeps.sub (M' := []) trivial).mono (fun _ h => h), ?_⟩
                have le2093 := hS1.dle
                have hS := hS.callR hS1 rfl (.c .n)
                clear hS1
                have hS := hS.pk (.c 1 rfl (.c 0 rfl (.c 2 rfl (.c 3 rfl .n)))) rfl
                obtain ⟨D2094, q2097, le2095, hS, h2098, h2096⟩ := hS.lent (h1954.mono (Snap.le.trans le1961 le2093))
                have hS := hS.pk (.c 1 rfl (.c 0 rfl (.c 2 rfl (.c 3 rfl .n)))) rfl
                obtain ⟨D2099, q2102, le2100, hS, h2103, h2101⟩ := hS.lent (h2091.mono le2095)
                refine oG 10 2047 (fuel := 2) (by kernel_rfl) (op_buildSlice (K := (kdSlice (kdInt .u8))) (e := 25) (cs := [.slice A1951 (List.length (r1947)) c1952] ++ ([.slice A2088 (List.length (r2084)) c2089] ++ [])) ([r1947, r2084] : List (List Int)) rfl rfl rfl rfl hE rfl hS rfl (by kernel_rfl) rfl rfl (by exact (show RL (kdSlice (kdInt .u8)) D2099 ([r1947, r2084] : List (List Int)) ([.slice A1951 (List.length (r1947)) c1952] ++ ([.slice A2088 (List.length (r2084)) c2089] ++ [])) from ⟨_, _, rfl, (kslice (h2096.mono le2100)), ⟨_, _, rfl, (kslice h2101), rfl⟩⟩)) (fun a A2104 q2105 w hkp hE h2106 hS => ⟨hkp.mono (fun _ h => absurd h List.not_mem_nil), ?_⟩))
                clear hkp
                obtain ⟨D2108, q2111, le2109, hS, h2112, h2110⟩ := hS.lent h2106
                obtain ⟨r2113, h2114, hf⟩ := bind_some hf
                refine oG 11 4095 (fuel := 1) (by kernel_rfl) (op_call rfl rfl rfl rfl hE rfl rfl rfl rfl (by kernel_rfl) (wire_All.calls (g := g) h2114 (hS.st.fore (L := [])) h2110) (fun a v w hR hE => ?_))
                obtain ⟨D2115, A2117, c2118, q2119, rfl, hS1, h2120⟩ := hR
                refine ⟨(hS1.keeps.sub (M' := []) trivial).mono (fun _ h => h), ?_⟩
                have le2122 := hS1.dle
                have hS := hS.callR hS1 rfl (.c .n)
                clear hS1
                refine tW 12 8191 (fuel := 0) (by kernel_rfl) hE (fun M => tk_pure (.slice A2117 (List.length (r2113)) c2118) hE rfl rfl rfl rfl (fun _ _ _ e => by cases e) (by kernel_rfl) (fun a hE => ?_))
                refine doneG (by kernel_rfl) ?_
                have hS := hS.pk (.c 5 rfl (.c 4 rfl (.c 0 rfl .n))) rfl
                exact ⟨r2113, A2117, c2118, q2119, D2115, hE.weak (by kernel_rfl), hS, (Snap.le.trans (Snap.le.trans (Snap.le.trans (Snap.le.trans (Snap.le.trans (Snap.le.trans le1956 le1961) le2093) le2095) le2100) le2109) le2122), h2120, hf⟩
            · replace hf := cond_t hb hf
              have hk2043 := of_decide_eq_true hb
              clear hb
              refine tW 6 383 (fuel := 5) (by kernel_rfl) hE (fun M => tk_indexV (N := 7) (e := 79) (sz := 1) (cs := ([.nilFunc]) ++ (([.func (.func 85) #[] #[]]) ++ (([.func (.func 86) #[] #[]]) ++ (([.func (.func 87) #[] #[]]) ++ (([.func (.func 86) #[] #[]]) ++ (([.func (.func 89) #[] #[]]) ++ (([.func (.func 90) #[] #[]])))))))) 3 (.agg (List.toArray ([.func (.func 87) #[] #[]]))) rfl rfl rfl rfl hE rfl rfl rfl hk2043 (by kernel_rfl) (by kernel_rfl) (by kernel_rfl) (fun a hE => ?_))
              refine tW 7 511 (fuel := 4) (by kernel_rfl) hE (fun M => g_field (cs := [.func (.func 87) #[] #[]]) (fo := 0) (ft := 34) (.func (.func 87) #[] #[]) rfl rfl rfl rfl hE rfl rfl (by kernel_rfl) (by kernel_rfl) (fun a hE => ?_))
              obtain ⟨r2044, h2045, hf⟩ := bind_some hf
              refine oG 9 1023 (fuel := 3) (by kernel_rfl) (op_call rfl rfl rfl rfl hE rfl rfl rfl rfl (by kernel_rfl) (rec_forms_1.calls (g := g) h2045 (hS.st.fore (L := [])) (h6.mono (Snap.le.trans (Snap.le.trans le1123 le1956) le1961)) (h9.mono (Snap.le.trans (Snap.le.trans le1123 le1956) le1961))) (fun a v w hR hE => ?_))
              obtain ⟨D2046, A2048, c2049, q2050, rfl, hS1, h2051⟩ := hR
              refine ⟨(hS1.keeps.sub (M' := []) trivial).mono (fun _ h => h), ?_⟩
              have le2053 := hS1.dle
              have hS := hS.callR hS1 rfl (.c .n)
              clear hS1
              have hS := hS.pk (.c 1 rfl (.c 0 rfl (.c 2 rfl (.c 3 rfl .n)))) rfl
              obtain ⟨D2054, q2057, le2055, hS, h2058, h2056⟩ := hS.lent (h1954.mono (Snap.le.trans le1961 le2053))
              have hS := hS.pk (.c 1 rfl (.c 0 rfl (.c 2 rfl (.c 3 rfl .n)))) rfl
              obtain ⟨D2059, q2062, le2060, hS, h2063, h2061⟩ := hS.lent (h2051.mono le2055)
              refine oG 10 2047 (fuel := 2) (by kernel_rfl) (op_buildSlice (K := (kdSlice (kdInt .u8))) (e := 25) (cs := [.slice A1951 (List.length (r1947)) c1952] ++ ([.slice A2048 (List.length (r2044)) c2049] ++ [])) ([r1947, r2044] : List (List Int)) rfl rfl rfl rfl hE rfl hS rfl (by kernel_rfl) rfl rfl (by exact (show RL (kdSlice (kdInt .u8)) D2059 ([r1947, r2044] : List (List Int)) ([.slice A1951 (List.length (r1947)) c1952] ++ ([.slice A2048 (List.length (r2044)) c2049] ++ [])) from ⟨_, _, rfl, (kslice (h2056.mono le2060)), ⟨_, _, rfl, (kslice h2061), rfl⟩⟩)) (fun a A2064 q2065 w hkp hE h2066 hS => ⟨hkp.mono (fun _ h => absurd h List.not_mem_nil), ?_⟩))
              clear hkp
              obtain ⟨D2068, q2071, le2069, hS, h2072, h2070⟩ := hS.lent h2066
              obtain ⟨r2073, h2074, hf⟩ := bind_some hf
              refine oG 11 4095 (fuel := 1) (by kernel_rfl) (op_call rfl rfl rfl rfl hE rfl rfl rfl rfl (by kernel_rfl) (wire_All.calls (g := g) h2074 (hS.st.fore (L := [])) h2070) (fun a v w hR hE => ?_))
              obtain ⟨D2075, A2077, c2078, q2079, rfl, hS1, h2080⟩ := hR
              refine ⟨(hS1.keeps.sub (M' := []) trivial).mono (fun _ h => h), ?_⟩
              have le2082 := hS1.dle
              have hS := hS.callR hS1 rfl (.c .n)
              clear hS1
              refine tW 12 8191 (fuel := 0) (by kernel_rfl) hE (fun M => tk_pure (.slice A2077 (List.length (r2073)) c2078) hE rfl rfl rfl rfl (fun _ _ _ e => by cases e) (by kernel_rfl) (fun a hE => ?_))
              refine doneG (by kernel_rfl) ?_
              have hS := hS.pk (.c 5 rfl (.c 4 rfl (.c 0 rfl .n))) rfl
              exact ⟨r2073, A2077, c2078, q2079, D2075, hE.weak (by kernel_rfl), hS, (Snap.le.trans (Snap.le.trans (Snap.le.trans (Snap.le.trans (Snap.le.trans (Snap.le.trans le1956 le1961) le2053) le2055) le2060) le2069) le2082), h2080, hf⟩
          · replace hf := cond_t hb hf
            have hk2003 := of_decide_eq_true hb
            clear hb
            refine tW 6 383 (fuel := 5) (by kernel_rfl) hE (fun M => tk_indexV (N := 7) (e := 79) (sz := 1) (cs := ([.nilFunc]) ++ (([.func (.func 85) #[] #[]]) ++ (([.func (.func 86) #[] #[]]) ++ (([.func (.func 87) #[] #[]]) ++ (([.func (.func 86) #[] #[]]) ++ (([.func (.func 89) #[] #[]]) ++ (([.func (.func 90) #[] #[]])))))))) 2 (.agg (List.toArray ([.func (.func 86) #[] #[]]))) rfl rfl rfl rfl hE rfl rfl rfl hk2003 (by kernel_rfl) (by kernel_rfl) (by kernel_rfl) (fun a hE => ?_))
            refine tW 7 511 (fuel := 4) (by kernel_rfl) hE (fun M => g_field (cs := [.func (.func 86) #[] #[]]) (fo := 0) (ft := 34) (.func (.func 86) #[] #[]) rfl rfl rfl rfl hE rfl rfl (by kernel_rfl) (by kernel_rfl) (fun a hE => ?_))
            obtain ⟨r2004, h2005, hf⟩ := bind_some hf
            refine oG 9 1023 (fuel := 3) (by kernel_rfl) (op_call rfl rfl rfl rfl hE rfl rfl rfl rfl (by kernel_rfl) (rec_call.calls (g := g) h2005 (hS.st.fore (L := [])) (h6.mono (Snap.le.trans (Snap.le.trans le1123 le1956) le1961)) (h9.mono (Snap.le.trans (Snap.le.trans le1123 le1956) le1961))) (fun a v w hR hE => ?_))
            obtain ⟨D2006, A2008, c2009, q2010, rfl, hS1, h2011⟩ := hR
            refine ⟨(hS1.keeps.sub (M' := []) trivial).mono (fun _ h => h), ?_⟩
            have le2013 := hS1.dle
            have hS := hS.callR hS1 rfl (.c .n)
            clear hS1
            have hS := hS.pk (.c 1 rfl (.c 0 rfl (.c 2 rfl (.c 3 rfl .n)))) rfl
            obtain ⟨D2014, q2017, le2015, hS, h2018, h2016⟩ := hS.lent (h1954.mono (Snap.le.trans le1961 le2013))
            have hS := hS.pk (.c 1 rfl (.c 0 rfl (.c 2 rfl (.c 3 rfl .n)))) rfl
            obtain ⟨D2019, q2022, le2020, hS, h2023, h2021⟩ := hS.lent (h2011.mono le2015)
            refine oG 10 2047 (fuel := 2) (by kernel_rfl) (op_buildSlice (K := (kdSlice (kdInt .u8))) (e := 25) (cs := [.slice A1951 (List.length (r1947)) c1952] ++ ([.slice A2008 (List.length (r2004)) c2009] ++ [])) ([r1947, r2004] : List (List Int)) rfl rfl rfl rfl hE rfl hS rfl (by kernel_rfl) rfl rfl (by exact (show RL (kdSlice (kdInt .u8)) D2019 ([r1947, r2004] : List (List Int)) ([.slice A1951 (List.length (r1947)) c1952] ++ ([.slice A2008 (List.length (r2004)) c2009] ++ [])) from ⟨_, _, rfl, (kslice (h2016.mono le2020)), ⟨_, _, rfl, (kslice h2021), rfl⟩⟩)) (fun a A2024 q2025 w hkp hE h2026 hS => ⟨hkp.mono (fun _ h => absurd h List.not_mem_nil), ?_⟩))
            clear hkp
            obtain ⟨D2028, q2031, le2029, hS, h2032, h2030⟩ := hS.lent h2026
            obtain ⟨r2033, h2034, hf⟩ := bind_some hf
            refine oG 11 4095 (fuel := 1) (by kernel_rfl) (op_call rfl rfl rfl rfl hE rfl rfl rfl rfl (by kernel_rfl) (wire_All.calls (g := g) h2034 (hS.st.fore (L := [])) h2030) (fun a v w hR hE => ?_))
            obtain ⟨D2035, A2037, c2038, q2039, rfl, hS1, h2040⟩ := hR
            refine ⟨(hS1.keeps.sub (M' := []) trivial).mono (fun _ h => h), ?_⟩
            have le2042 := hS1.dle
            have hS := hS.callR hS1 rfl (.c .n)
            clear hS1
            refine tW 12 8191 (fuel := 0) (by kernel_rfl) hE (fun M => tk_pure (.slice A2037 (List.length (r2033)) c2038) hE rfl rfl rfl rfl (fun _ _ _ e => by cases e) (by kernel_rfl) (fun a hE => ?_))
            refine doneG (by kernel_rfl) ?_
            have hS := hS.pk (.c 5 rfl (.c 4 rfl (.c 0 rfl .n))) rfl
            exact ⟨r2033, A2037, c2038, q2039, D2035, hE.weak (by kernel_rfl), hS, (Snap.le.trans (Snap.le.trans (Snap.le.trans (Snap.le.trans (Snap.le.trans (Snap.le.trans le1956 le1961) le2013) le2015) le2020) le2029) le2042), h2040, hf⟩
        · replace hf := cond_t hb hf
          have hk1963 := of_decide_eq_true hb
          clear hb
          refine tW 6 383 (fuel := 5) (by kernel_rfl) hE (fun M => tk_indexV (N := 7) (e := 79) (sz := 1) (cs := ([.nilFunc]) ++ (([.func (.func 85) #[] #[]]) ++ (([.func (.func 86) #[] #[]]) ++ (([.func (.func 87) #[] #[]]) ++ (([.func (.func 86) #[] #[]]) ++ (([.func (.func 89) #[] #[]]) ++ (([.func (.func 90) #[] #[]])))))))) 1 (.agg (List.toArray ([.func (.func 85) #[] #[]]))) rfl rfl rfl rfl hE rfl rfl rfl hk1963 (by kernel_rfl) (by kernel_rfl) (by kernel_rfl) (fun a hE => ?_))
          refine tW 7 511 (fuel := 4) (by kernel_rfl) hE (fun M => g_field (cs := [.func (.func 85) #[] #[]]) (fo := 0) (ft := 34) (.func (.func 85) #[] #[]) rfl rfl rfl rfl hE rfl rfl (by kernel_rfl) (by kernel_rfl) (fun a hE => ?_))
          obtain ⟨r1964, h1965, hf⟩ := bind_some hf
          refine oG 9 1023 (fuel := 3) (by kernel_rfl) (op_call rfl rfl rfl rfl hE rfl rfl rfl rfl (by kernel_rfl) (rec_begin.calls (g := g) h1965 (hS.st.fore (L := [])) (h6.mono (Snap.le.trans (Snap.le.trans le1123 le1956) le1961)) (h9.mono (Snap.le.trans (Snap.le.trans le1123 le1956) le1961))) (fun a v w hR hE => ?_))
          obtain ⟨D1966, A1968, c1969, q1970, rfl, hS1, h1971⟩ := hR
          refine ⟨(hS1.keeps.sub (M' := []) trivial).mono (fun _ h => h), ?_⟩
          have le1973 := hS1.dle
          have hS := hS.callR hS1 rfl (.c .n)
          clear hS1
          have hS := hS.pk (.c 1 rfl (.c 0 rfl (.c 2 rfl (.c 3 rfl .n)))) rfl
          obtain ⟨D1974, q1977, le1975, hS, h1978, h1976⟩ := hS.lent (h1954.mono (Snap.le.trans le1961 le1973))
          have hS := hS.pk (.c 1 rfl (.c 0 rfl (.c 2 rfl (.c 3 rfl .n)))) rfl
          obtain ⟨D1979, q1982, le1980, hS, h1983, h1981⟩ := hS.lent (h1971.mono le1975)
          refine oG 10 2047 (fuel := 2) (by kernel_rfl) (op_buildSlice (K := (kdSlice (kdInt .u8))) (e := 25) (cs := [.slice A1951 (List.length (r1947)) c1952] ++ ([.slice A1968 (List.length (r1964)) c1969] ++ [])) ([r1947, r1964] : List (List Int)) rfl rfl rfl rfl hE rfl hS rfl (by kernel_rfl) rfl rfl (by exact (show RL (kdSlice (kdInt .u8)) D1979 ([r1947, r1964] : List (List Int)) ([.slice A1951 (List.length (r1947)) c1952] ++ ([.slice A1968 (List.length (r1964)) c1969] ++ [])) from ⟨_, _, rfl, (kslice (h1976.mono le1980)), ⟨_, _, rfl, (kslice h1981), rfl⟩⟩)) (fun a A1984 q1985 w hkp hE h1986 hS => ⟨hkp.mono (fun _ h => absurd h List.not_mem_nil), ?_⟩))
          clear hkp
          obtain ⟨D1988, q1991, le1989, hS, h1992, h1990⟩ := hS.lent h1986
          obtain ⟨r1993, h1994, hf⟩ := bind_some hf
          refine oG 11 4095 (fuel := 1) (by kernel_rfl) (op_call rfl rfl rfl rfl hE rfl rfl rfl rfl (by kernel_rfl) (wire_All.calls (g := g) h1994 (hS.st.fore (L := [])) h1990) (fun a v w hR hE => ?_))
          obtain ⟨D1995, A1997, c1998, q1999, rfl, hS1, h2000⟩ := hR
          refine ⟨(hS1.keeps.sub (M' := []) trivial).mono (fun _ h => h), ?_⟩
          have le2002 := hS1.dle
          have hS := hS.callR hS1 rfl (.c .n)
          clear hS1
          refine tW 12 8191 (fuel := 0) (by kernel_rfl) hE (fun M => tk_pure (.slice A1997 (List.length (r1993)) c1998) hE rfl rfl rfl rfl (fun _ _ _ e => by cases e) (by kernel_rfl) (fun a hE => ?_))
          refine doneG (by kernel_rfl) ?_
          have hS := hS.pk (.c 5 rfl (.c 4 rfl (.c 0 rfl .n))) rfl
          exact ⟨r1993, A1997, c1998, q1999, D1995, hE.weak (by kernel_rfl), hS, (Snap.le.trans (Snap.le.trans (Snap.le.trans (Snap.le.trans (Snap.le.trans (Snap.le.trans le1956 le1961) le1973) le1975) le1980) le1989) le2002), h2000, hf⟩
      · replace hf := cond_t hb hf
        have hk1962 := of_decide_eq_true hb
        clear hb
        refine tW 6 383 (fuel := 5) (by kernel_rfl) hE (fun M => tk_indexV (N := 7) (e := 79) (sz := 1) (cs := ([.nilFunc]) ++ (([.func (.func 85) #[] #[]]) ++ (([.func (.func 86) #[] #[]]) ++ (([.func (.func 87) #[] #[]]) ++ (([.func (.func 86) #[] #[]]) ++ (([.func (.func 89) #[] #[]]) ++ (([.func (.func 90) #[] #[]])))))))) 0 (.agg (List.toArray ([.nilFunc]))) rfl rfl rfl rfl hE rfl rfl rfl hk1962 (by kernel_rfl) (by kernel_rfl) (by kernel_rfl) (fun a hE => ?_))
        refine tW 7 511 (fuel := 4) (by kernel_rfl) hE (fun M => g_field (cs := [.nilFunc]) (fo := 0) (ft := 34) (.nilFunc) rfl rfl rfl rfl hE rfl rfl (by kernel_rfl) (by kernel_rfl) (fun a hE => ?_))
        cases hf
    · clear hE hS
      rintro a w ⟨y1637, A1640, c1641, q1642, D1638, hE, hS, le1639, h1643, hf⟩
      replace hf := hj1690 _ hf
      clear hj1690
      refine wpIn_seq ?_
      refine wpIn_seq ?_
      refine region_at ?_
      refine at_op (op_tk hE (g_fieldAddr (fo := 0) (ft := 3) 0 rfl rfl rfl rfl hE rfl rfl (by kernel_rfl) rfl (fun a hE => ?_))) rfl
      refine at_op (op_tk hE (tk_load 1 (.int .i64 (x3.fKind)) rfl rfl rfl rfl hE rfl hS rfl rfl (by kernel_rfl) (kL (j := 1) hS rfl List.not_mem_nil) (fun a hE => ?_))) rfl
      refine segN 1 (j := 3) [(23, .bool ((decide (x3.fKind = (1 : Int)))))] hE (by kernel_rfl) rfl (fun a hE => ?_)
      refine at_end rfl ?_
      refine cond_split hE (b := (decide (x3.fKind = (1 : Int)))) rfl (fun hb => ?_) (fun hb => ?_)
      · replace hf := cond_t hb hf
        clear hb
        refine region_at ?_
        refine segN 2 (j := 2) [(24, .slice A1640 (List.length (y1637)) c1641), (25, .func (.func 39) #[] #[.pointer (some ⟨b1, 0, none⟩)])] hE (by kernel_rfl) rfl (fun a hE => ?_)
        obtain ⟨r1667, h1668, hf⟩ := bind_some hf
        refine at_op (op_call rfl rfl rfl rfl hE rfl rfl rfl rfl (by kernel_rfl) (rec_Sealed_1.calls (g := g) h1668 (hS.st.fore (L := [bx b1 27 (c_T_api_Rec (x10) A11 c12 A14 c15)])) (h13.mono (Snap.le.trans le1123 le1639)) (h16.mono (Snap.le.trans le1123 le1639)) (hG0.mono (Snap.le.trans le1123 le1639)) (hG1.mono (Snap.le.trans le1123 le1639))) (fun a v w hR hE => ?_)) rfl
        obtain ⟨D1669, A1671, c1672, q1673, rfl, hS1, h1674⟩ := hR
        have le1676 := hS1.dle
        have hS := hS.callR hS1 rfl (.c (.c .n))
        clear hS1
        have hS := hS.pk (.c 1 rfl (.c 0 rfl (.c 2 rfl (.c 3 rfl .n)))) rfl
        obtain ⟨D1677, q1680, le1678, hS, h1681, h1679⟩ := hS.lent h1674
        have hS := hS.pk (.c 3 rfl (.c 0 rfl (.c 1 rfl (.c 2 rfl .n)))) rfl
        obtain ⟨l1682, h1683, hf⟩ := bind_some hf
        refine at_op (g_append (K := (kdInt .u8)) (e := 5) (bytes := 1) (l := y1637) (m := r1667) rfl rfl rfl rfl hE rfl hS rfl rfl (by kernel_rfl) rfl rfl (h1643.mono (Snap.le.trans le1676 le1678)) h1679 h1683 (fun a A1684 c1685 q1686 w _ hE h1687 hS => ?_)) rfl
        refine segN 1 (j := 5) [(5, .slice A1684 (List.length (l1682)) c1685)] hE (by kernel_rfl) rfl (fun a hE => ?_)
        refine at_end rfl ?_
        refine wpIn_seq ?_
        refine region_at ?_
        refine segN 2 (j := 2) [(4, .slice A1684 (List.length (l1682)) c1685)] hE (by kernel_rfl) rfl (fun a hE => ?_)
        refine at_end rfl ?_
        refine wpIn_ret ?_
        obtain rfl := Option.some.inj hf
        repeat (with_reducible first | refine then_ret ?_ | refine block_ret ?_ | refine qx_ret ?_)
        refine ret_gen ([.slice A1684 (List.length (l1682)) c1685]) hE (by rw [show Tryd.f38.results.toList = [.tmp 4] from rfl]; exact ⟨_, _, rfl, rfl, rfl⟩) ?_
        have hS := hS.pk (.c 2 rfl (.c 0 rfl .n)) rfl
        exact ⟨_, rfl, D1677, A1684, c1685, q1686, rfl, hS, h1687⟩
      · replace hf := cond_f hb hf
        clear hb
        refine wpIn_skip ?_
        refine wpIn_seq ?_
        refine region_at ?_
        refine segN 2 (j := 2) [(4, .slice A1640 (List.length (y1637)) c1641)] hE (by kernel_rfl) rfl (fun a hE => ?_)
        refine at_end rfl ?_
        refine wpIn_ret ?_
        obtain rfl := Option.some.inj hf
        repeat (with_reducible first | refine then_ret ?_ | refine block_ret ?_ | refine qx_ret ?_)
        refine ret_gen ([.slice A1640 (List.length (y1637)) c1641]) hE (by rw [show Tryd.f38.results.toList = [.tmp 4] from rfl]; exact ⟨_, _, rfl, rfl, rfl⟩) ?_
        have hS := hS.pk (.c 0 rfl (.c 2 rfl .n)) rfl
        exact ⟨_, rfl, D1638, A1640, c1641, q1642, rfl, hS, h1643⟩

set_option maxRecDepth 100000 in
set_option maxHeartbeats 4000000 in
theorem rec_Sealed.calls {K : Nat} {g w0 : World} {D0 : Snap} {x1 : T_api_Rec} {A2 : Option Addr} {c3 : Nat} {A5 : Option Addr} {c6 : Nat} {r : ((List Int))} (hf : rec_Sealed.f K x1 = some r) (hS0 : St g w0 D0 []) (h4 : Sl kd_T_api_Step D0 A2 c3 (x1.fSteps)) (h7 : Sl (kdInt .u8) D0 A5 c6 (x1.fData)) (hG0 : Cell (kdArr .u32 8) D0 0 0 gl_First) (hG1 : Cell (kdArr .u32 64) D0 1 0 gl_K) :
    CallsIn (Fw none) 0 Tryd.prog 20 (List.toArray [.agg (List.toArray (c_T_api_Rec (x1) A2 c3 A5 c6))]) w0 (fun e w' => ∃ v, e = .returned v ∧ ∃ (D1 : Snap) (A20 : Option Addr) (c21 : Nat) (q22 : Blk), v = .slice A20 (List.length (r)) c21 ∧ Stp g w0 D0 [] w' D1 [q22] ∧ OwnD (kdInt .u8) 5 D1 A20 c21 (r) q22) := by
  unfold rec_Sealed.f at hf
  have hS := Stp.refl hS0
  clear hS0
  refine calls_body (n := 6) Tryd.func20 rfl Tryd.ntmps20 rfl (fun a hE => ?_)
  have hE : Env a 6 [] [(0, .agg (List.toArray (c_T_api_Rec (x1) A2 c3 A5 c6)))] := hE
  refine wpIn_seq ?_
  refine region_at ?_
  refine at_op (op_box rfl rfl rfl rfl hE rfl hS rfl (fun a b25 w _ hE hS => ?_)) rfl
  refine segN 1 (j := 2) [(2, .slice none 0 0)] hE (by kernel_rfl) rfl (fun a hE => ?_)
  refine at_end rfl ?_
  refine wpIn_seq ?_
  refine region_at ?_
  refine at_op (op_tk hE (tk_load 0 (.agg (List.toArray (c_T_api_Rec (x1) A2 c3 A5 c6))) rfl rfl rfl rfl hE rfl hS rfl rfl (by kernel_rfl) (kL (j := 0) hS rfl List.not_mem_nil) (fun a hE => ?_))) rfl
  refine segN 1 (j := 2) [(4, .func (.func 39) #[] #[.pointer (some ⟨b25, 0, none⟩)])] hE (by kernel_rfl) rfl (fun a hE => ?_)
  obtain ⟨r27, h28, hf⟩ := bind_some hf
  refine at_op (op_call rfl rfl rfl rfl hE rfl rfl rfl rfl (by kernel_rfl) (rec_put_v2.calls (g := g) h28 (hS.st.fore (L := [bx b25 27 (c_T_api_Rec (x1) A2 c3 A5 c6)])) h4 h7 h4 h7 hG0 hG1) (fun a v w hR hE => ?_)) rfl
  obtain ⟨D29, A31, c32, q33, rfl, hS1, h34⟩ := hR
  have le36 := hS1.dle
  have hS := hS.callR hS1 rfl (.c (.c .n))
  clear hS1
  refine segN 1 (j := 4) [(2, .slice A31 (List.length (r27)) c32)] hE (by kernel_rfl) rfl (fun a hE => ?_)
  refine at_end rfl ?_
  refine wpIn_ret ?_
  obtain rfl := Option.some.inj hf
  repeat (with_reducible first | refine then_ret ?_ | refine block_ret ?_ | refine qx_ret ?_)
  refine ret_gen ([.slice A31 (List.length (r27)) c32]) hE (by rw [show Tryd.f20.results.toList = [.tmp 2] from rfl]; exact ⟨_, _, rfl, rfl, rfl⟩) ?_
  have hS := hS.pk (.c 1 rfl .n) rfl
  exact ⟨_, rfl, D29, A31, c32, q33, rfl, hS, h34⟩

set_option maxRecDepth 100000 in
set_option maxHeartbeats 4000000 in
theorem inspeximuslaw04_alive.calls {K : Nat} {g w0 : World} {D0 : Snap} {r : (Bool)} (hf : inspeximuslaw04_alive.f K = some r) (hS0 : St g w0 D0 []) (hG0 : Cell (kdArr .u32 8) D0 0 0 gl_First) (hG1 : Cell (kdArr .u32 64) D0 1 0 gl_K) :
    CallsIn (Fw none) 0 Tryd.prog 9 (List.toArray []) w0 (fun e w' => ∃ v, e = .returned v ∧ ∃ (D1 : Snap), v = .bool (r) ∧ Stp g w0 D0 [] w' D1 []) := by
  unfold inspeximuslaw04_alive.f at hf
  have hS := Stp.refl hS0
  clear hS0
  refine calls_body (n := 77) Tryd.func9 rfl Tryd.ntmps9 rfl (fun a hE => ?_)
  have hE : Env a 77 [] [] := hE
  refine wpIn_seq ?_
  refine region_at ?_
  refine segN 1 (j := 1) [(0, .bool false)] hE (by kernel_rfl) rfl (fun a hE => ?_)
  refine at_end rfl ?_
  refine wpIn_seq ?_
  refine region_at ?_
  refine at_op (op_tk hE (tk_build (c_T_api_Rec ({ z_T_api_Rec with fKind := (6 : Int), fPart := (1 : Int), fEpoch := (2 : Int) }) none 0 none 0) rfl rfl rfl rfl hE rfl rfl (by kernel_rfl) (fun a hE => ?_))) rfl
  obtain ⟨r437, h438, hf⟩ := bind_some hf
  refine at_op (op_call rfl rfl rfl rfl hE rfl rfl rfl rfl (by kernel_rfl) (rec_Open.calls (g := g) h438 (hS.st.fore (L := [])) (Sl.nil kd_T_api_Step D0) (Sl.nil (kdInt .u8) D0)) (fun a v w hR hE => ?_)) rfl
  obtain ⟨D439, A441, c442, q443, rfl, hS1, h444⟩ := hR
  have le446 := hS1.dle
  have hS := hS.callR hS1 rfl (.c .n)
  clear hS1
  refine segN 1 (j := 3) [(1, .slice A441 (List.length (r437)) c442)] hE (by kernel_rfl) rfl (fun a hE => ?_)
  refine at_end rfl ?_
  refine wpIn_seq ?_
  refine region_at ?_
  refine at_op (op_tk hE (tk_build (c_T_api_Step ((T_api_Step.mk ((1 : Int)) ((1 : Int))))) rfl rfl rfl rfl hE rfl rfl (by kernel_rfl) (fun a hE => ?_))) rfl
  refine at_op (op_buildSlice (K := kd_T_api_Step) (e := 37) (cs := (c_T_api_Step ((T_api_Step.mk ((1 : Int)) ((1 : Int))))) ++ []) ([(T_api_Step.mk ((1 : Int)) ((1 : Int)))] : List T_api_Step) rfl rfl rfl rfl hE rfl hS rfl (by kernel_rfl) rfl rfl (by exact (show RL kd_T_api_Step D439 ([(T_api_Step.mk ((1 : Int)) ((1 : Int)))] : List T_api_Step) ((c_T_api_Step ((T_api_Step.mk ((1 : Int)) ((1 : Int))))) ++ []) from ⟨_, _, rfl, (kd_T_api_Step_mk (D := D439) (x := (T_api_Step.mk ((1 : Int)) ((1 : Int)))) rfl rfl), rfl⟩)) (fun a A447 q448 w _ hE h449 hS => ?_)) rfl
  refine at_op (op_buildSlice (K := (kdInt .u8)) (e := 5) (cs := [.int .u8 ((97 : Int))] ++ []) ([(97 : Int)] : List Int) rfl rfl rfl rfl hE rfl hS rfl (by kernel_rfl) rfl rfl (by exact (show RL (kdInt .u8) D439 ([(97 : Int)] : List Int) ([.int .u8 ((97 : Int))] ++ []) from ⟨_, _, rfl, rfl, rfl⟩)) (fun a A451 q452 w _ hE h453 hS => ?_)) rfl
  refine at_op (op_lit (T := 5) (l := ([(97 : Int)] : List Int)) rfl rfl rfl rfl hE rfl hS rfl (by kernel_rfl) h453 (by kernel_rfl) (fun a D455 w _ le456 hE h457 hS => ?_)) rfl
  obtain ⟨D458, q461, le459, hS, h462, h460⟩ := hS.lent (h449.mono le456)
  refine at_op (op_tk hE (tk_build (c_T_api_Rec ({ z_T_api_Rec with fKind := (1 : Int), fSaga := (3 : Int), fSteps := ([(T_api_Step.mk ((1 : Int)) ((1 : Int)))] : List T_api_Step), fData := ([(97 : Int)] : List Int) }) A447 1 A451 1) rfl rfl rfl rfl hE rfl rfl (by kernel_rfl) (fun a hE => ?_))) rfl
  refine at_op (op_alloc (z := .agg (List.toArray (c_T_api_Rec (z_T_api_Rec) none 0 none 0))) rfl rfl rfl rfl hE rfl hS (by kernel_rfl) (fun a b463 w _ hE hS => ?_)) rfl
  obtain ⟨v465, hv466, hf⟩ := bind_some hf
  replace hv466 := Option.some.inj hv466
  refine at_op (op_store (v := .agg (List.toArray (c_T_api_Rec ({ z_T_api_Rec with fKind := (1 : Int), fSaga := (3 : Int), fSteps := ([(T_api_Step.mk ((1 : Int)) ((1 : Int)))] : List T_api_Step), fData := ([(97 : Int)] : List Int) }) A447 1 A451 1))) (c_T_api_Rec (v465) A447 1 A451 1) rfl rfl rfl rfl hE hS rfl rfl (by kernel_rfl) (by kernel_rfl) (by kernel_rfl) (by kernel_rfl) (by rw [← hv466]; kernel_rfl) (fun a w _ hE hS => ?_)) rfl
  have h467 : Sl kd_T_api_Step D458 A447 1 (v465.fSteps) := by rw [← hv466]; exact h460
  have h468 : Sl (kdInt .u8) D455 A451 1 (v465.fData) := by rw [← hv466]; exact h457
  refine at_end rfl ?_
  refine wpIn_seq ?_
  refine region_at ?_
  refine at_op (op_tk hE (tk_load 0 (.agg (List.toArray (c_T_api_Rec (v465) A447 1 A451 1))) rfl rfl rfl rfl hE rfl hS rfl rfl (by kernel_rfl) (kL (j := 0) hS rfl List.not_mem_nil) (fun a hE => ?_))) rfl
  have hS := hS.pk (.c 0 rfl (.c 2 rfl .n)) rfl
  obtain ⟨r469, h470, hf⟩ := bind_some hf
  refine at_op (op_call rfl rfl rfl rfl hE rfl rfl rfl rfl (by kernel_rfl) (rec_Open.calls (g := g) h470 (hS.st.fore (L := [])) h467 (h468.mono le459)) (fun a v w hR hE => ?_)) rfl
  obtain ⟨D471, A473, c474, q475, rfl, hS1, h476⟩ := hR
  have le478 := hS1.dle
  have hS := hS.callR hS1 rfl (.c .n)
  clear hS1
  obtain ⟨D479, q482, le480, hS, h483, h481⟩ := hS.lent h476
  obtain ⟨r484, h485, hf⟩ := bind_some hf
  refine at_op (op_call rfl rfl rfl rfl hE rfl rfl rfl rfl (by kernel_rfl) (rec_Get.calls (g := g) h485 (hS.st.fore (L := [])) h481) (fun a v w hR hE => ?_)) rfl
  obtain ⟨D486, A488, c489, A491, c492, rfl, hS1, h490, h493⟩ := hR
  have le494 := hS1.dle
  have hS := hS.callR hS1 rfl .n
  clear hS1
  refine segN 3 (j := 6) [(19, .agg (List.toArray (c_T_api_Rec (r484.1) A488 c489 A491 c492))), (20, .int .i64 (r484.2))] hE (by kernel_rfl) rfl (fun a hE => ?_)
  refine at_op (op_alloc (z := .agg (List.toArray (c_T_api_Rec (z_T_api_Rec) none 0 none 0))) rfl rfl rfl rfl hE rfl hS (by kernel_rfl) (fun a b495 w _ hE hS => ?_)) rfl
  refine at_op (op_store (v := .agg (List.toArray (c_T_api_Rec (r484.1) A488 c489 A491 c492))) (c_T_api_Rec (r484.1) A488 c489 A491 c492) rfl rfl rfl rfl hE hS rfl rfl (by kernel_rfl) (by kernel_rfl) (by kernel_rfl) (by kernel_rfl) (by kernel_rfl) (fun a w _ hE hS => ?_)) rfl
  refine segN 1 (j := 9) [(4, .int .i64 (r484.2))] hE (by kernel_rfl) rfl (fun a hE => ?_)
  refine at_end rfl ?_
  refine wpIn_seq ?_
  refine region_at ?_
  refine at_op (op_buildSlice (K := (kdInt .u8)) (e := 5) (cs := [.int .u8 ((9 : Int))] ++ []) ([(9 : Int)] : List Int) rfl rfl rfl rfl hE rfl hS rfl (by kernel_rfl) rfl rfl (by exact (show RL (kdInt .u8) D486 ([(9 : Int)] : List Int) ([.int .u8 ((9 : Int))] ++ []) from ⟨_, _, rfl, rfl, rfl⟩)) (fun a A497 q498 w _ hE h499 hS => ?_)) rfl
  obtain ⟨D501, q504, le502, hS, h505, h503⟩ := hS.lent h499
  have hS := hS.pk (.c 0 rfl (.c 1 rfl (.c 3 rfl (.c 4 rfl .n)))) rfl
  obtain ⟨r506, h507, hf⟩ := bind_some hf
  refine at_op (op_call rfl rfl rfl rfl hE rfl rfl rfl rfl (by kernel_rfl) (rec_Get.calls (g := g) h507 (hS.st.fore (L := [])) h503) (fun a v w hR hE => ?_)) rfl
  obtain ⟨D508, A510, c511, A513, c514, rfl, hS1, h512, h515⟩ := hR
  have le516 := hS1.dle
  have hS := hS.callR hS1 rfl .n
  clear hS1
  refine segN 3 (j := 5) [(24, .agg (List.toArray (c_T_api_Rec (r506.1) A510 c511 A513 c514))), (25, .int .i64 (r506.2))] hE (by kernel_rfl) rfl (fun a hE => ?_)
  refine at_op (op_alloc (z := .agg (List.toArray (c_T_api_Rec (z_T_api_Rec) none 0 none 0))) rfl rfl rfl rfl hE rfl hS (by kernel_rfl) (fun a b517 w _ hE hS => ?_)) rfl
  refine at_op (op_store (v := .agg (List.toArray (c_T_api_Rec (r506.1) A510 c511 A513 c514))) (c_T_api_Rec (r506.1) A510 c511 A513 c514) rfl rfl rfl rfl hE hS rfl rfl (by kernel_rfl) (by kernel_rfl) (by kernel_rfl) (by kernel_rfl) (by kernel_rfl) (fun a w _ hE hS => ?_)) rfl
  refine segN 1 (j := 8) [(6, .int .i64 (r506.2))] hE (by kernel_rfl) rfl (fun a hE => ?_)
  refine at_end rfl ?_
  refine wpIn_seq ?_
  refine region_at ?_
  refine at_op (op_tk hE (tk_load 3 (.agg (List.toArray (c_T_api_Rec (v465) A447 1 A451 1))) rfl rfl rfl rfl hE rfl hS rfl rfl (by kernel_rfl) (kL (j := 3) hS rfl List.not_mem_nil) (fun a hE => ?_))) rfl
  have hS := hS.pk (.c 0 rfl (.c 2 rfl (.c 3 rfl (.c 4 rfl .n)))) rfl
  obtain ⟨r519, h520, hf⟩ := bind_some hf
  refine at_op (op_call rfl rfl rfl rfl hE rfl rfl rfl rfl (by kernel_rfl) (rec_Redact.calls (g := g) h520 (hS.st.fore (L := [])) (h467.mono (Snap.le.trans (Snap.le.trans (Snap.le.trans (Snap.le.trans le478 le480) le494) le502) le516)) (h468.mono (Snap.le.trans (Snap.le.trans (Snap.le.trans (Snap.le.trans (Snap.le.trans le459 le478) le480) le494) le502) le516)) (hG0.mono (Snap.le.trans (Snap.le.trans (Snap.le.trans (Snap.le.trans (Snap.le.trans (Snap.le.trans (Snap.le.trans le446 le456) le459) le478) le480) le494) le502) le516)) (hG1.mono (Snap.le.trans (Snap.le.trans (Snap.le.trans (Snap.le.trans (Snap.le.trans (Snap.le.trans (Snap.le.trans le446 le456) le459) le478) le480) le494) le502) le516))) (fun a v w hR hE => ?_)) rfl
  obtain ⟨D521, A523, c524, A526, c527, rfl, hS1, h525, h528⟩ := hR
  have le529 := hS1.dle
  have hS := hS.callR hS1 rfl .n
  clear hS1
  refine at_op (op_alloc (z := .agg (List.toArray (c_T_api_Rec (z_T_api_Rec) none 0 none 0))) rfl rfl rfl rfl hE rfl hS (by kernel_rfl) (fun a b530 w _ hE hS => ?_)) rfl
  refine at_op (op_store (v := .agg (List.toArray (c_T_api_Rec (r519) A523 c524 A526 c527))) (c_T_api_Rec (r519) A523 c524 A526 c527) rfl rfl rfl rfl hE hS rfl rfl (by kernel_rfl) (by kernel_rfl) (by kernel_rfl) (by kernel_rfl) (by kernel_rfl) (fun a w _ hE hS => ?_)) rfl
  refine at_end rfl ?_
  obtain ⟨j703, hj704, hf⟩ := jn_elim hf
  refine seq_join (fun a w => ∃ (y700 : Bool), ∃ (D701 : Snap), Env a 77 [] [(0, .bool (y700))] ∧ Stp g w0 D0 [] w D701 [] ∧ Snap.le D521 D701 ∧ j703 y700 = some r) ?_ ?_
  · clear hj704
    refine region_draw (fun j => Keeps (mfOf [] j)) (by kernel_rfl) ?_
    have hS := hS.drew
    first | generalize w.drew = w at hS ⊢ | generalize w0.drew = w at hS ⊢
    refine tW 0 1 (fuel := 49) (by kernel_rfl) hE (fun M => tk_pure (.slice A441 (List.length (r437)) c442) hE rfl rfl rfl rfl (fun _ _ _ e => by cases e) (by kernel_rfl) (fun a hE => ?_))
    refine oG 1 3 (fuel := 48) (by kernel_rfl) (op_buildSlice (K := (kdInt .u8)) (e := 5) (cs := [.int .u8 ((6 : Int))] ++ ([.int .u8 ((1 : Int))] ++ ([.int .u8 ((2 : Int))] ++ []))) ([(6 : Int), (1 : Int), (2 : Int)] : List Int) rfl rfl rfl rfl hE rfl hS rfl (by kernel_rfl) rfl rfl (by exact (show RL (kdInt .u8) D521 ([(6 : Int), (1 : Int), (2 : Int)] : List Int) ([.int .u8 ((6 : Int))] ++ ([.int .u8 ((1 : Int))] ++ ([.int .u8 ((2 : Int))] ++ []))) from ⟨_, _, rfl, rfl, ⟨_, _, rfl, rfl, ⟨_, _, rfl, rfl, rfl⟩⟩⟩)) (fun a A789 q790 w hkp hE h791 hS => ⟨hkp.mono (fun _ h => absurd h List.not_mem_nil), ?_⟩))
    clear hkp
    have hS := hS.pk (.c 5 rfl (.c 0 rfl (.c 1 rfl (.c 2 rfl (.c 3 rfl (.c 4 rfl .n)))))) rfl
    obtain ⟨D793, q796, le794, hS, h797, h795⟩ := hS.lent (h444.mono (Snap.le.trans (Snap.le.trans (Snap.le.trans (Snap.le.trans (Snap.le.trans (Snap.le.trans (Snap.le.trans le456 le459) le478) le480) le494) le502) le516) le529))
    have hS := hS.pk (.c 1 rfl (.c 0 rfl (.c 2 rfl (.c 3 rfl (.c 4 rfl (.c 5 rfl .n)))))) rfl
    obtain ⟨D798, q801, le799, hS, h802, h800⟩ := hS.lent (h791.mono le794)
    obtain ⟨r803, h804, hf⟩ := bind_some hf
    refine oG 2 7 (fuel := 47) (by kernel_rfl) (op_call rfl rfl rfl rfl hE rfl rfl rfl rfl (by kernel_rfl) (inspeximusref01_Bytes.calls (g := g) h804 (hS.st.fore (L := [])) (h795.mono le799) h800) (fun a v w hR hE => ?_))
    obtain ⟨D805, rfl, hS1⟩ := hR
    refine ⟨(hS1.keeps.sub (M' := []) trivial).mono (fun _ h => h), ?_⟩
    have le807 := hS1.dle
    have hS := hS.callR hS1 rfl .n
    clear hS1
    refine tW 3 15 (fuel := 46) (by kernel_rfl) hE (fun M => tk_pure (.bool (r803)) hE rfl rfl rfl rfl (fun _ _ _ e => by cases e) (by kernel_rfl) (fun a hE => ?_))
    cases hb : r803
    · replace hf := cond_f hb hf
      have hE := hE.know (t := 31) (b := r803) (b' := false) rfl hb
      clear hb
      refine tW 4 31 (fuel := 45) (by kernel_rfl) hE (fun M => tk_skip hE rfl rfl rfl rfl (fun a hE => ?_))
      refine tW 5 63 (fuel := 44) (by kernel_rfl) hE (fun M => tk_skip hE rfl rfl rfl rfl (fun a hE => ?_))
      refine tW 6 127 (fuel := 43) (by kernel_rfl) hE (fun M => tk_pure (.bool false) hE rfl rfl rfl rfl (fun _ _ _ e => by cases e) (by kernel_rfl) (fun a hE => ?_))
      refine tW 7 255 (fuel := 42) (by kernel_rfl) hE (fun M => tk_pure (.bool false) hE rfl rfl rfl rfl (fun _ _ _ e => by cases e) (by kernel_rfl) (fun a hE => ?_))
      refine tW 8 511 (fuel := 41) (by kernel_rfl) hE (fun M => tk_skip hE rfl rfl rfl rfl (fun a hE => ?_))
      refine tW 9 1023 (fuel := 40) (by kernel_rfl) hE (fun M => tk_skip hE rfl rfl rfl rfl (fun a hE => ?_))
      refine tW 10 2047 (fuel := 39) (by kernel_rfl) hE (fun M => tk_pure (.bool false) hE rfl rfl rfl rfl (fun _ _ _ e => by cases e) (by kernel_rfl) (fun a hE => ?_))
      refine tW 11 4095 (fuel := 38) (by kernel_rfl) hE (fun M => tk_pure (.bool false) hE rfl rfl rfl rfl (fun _ _ _ e => by cases e) (by kernel_rfl) (fun a hE => ?_))
      refine tW 12 8191 (fuel := 37) (by kernel_rfl) hE (fun M => tk_skip hE rfl rfl rfl rfl (fun a hE => ?_))
      refine tW 13 16383 (fuel := 36) (by kernel_rfl) hE (fun M => tk_skip hE rfl rfl rfl rfl (fun a hE => ?_))
      refine tW 14 32767 (fuel := 35) (by kernel_rfl) hE (fun M => tk_skip hE rfl rfl rfl rfl (fun a hE => ?_))
      refine tW 15 65535 (fuel := 34) (by kernel_rfl) hE (fun M => tk_pure (.bool false) hE rfl rfl rfl rfl (fun _ _ _ e => by cases e) (by kernel_rfl) (fun a hE => ?_))
      refine tW 16 131071 (fuel := 33) (by kernel_rfl) hE (fun M => tk_pure (.bool false) hE rfl rfl rfl rfl (fun _ _ _ e => by cases e) (by kernel_rfl) (fun a hE => ?_))
      refine tW 17 262143 (fuel := 32) (by kernel_rfl) hE (fun M => tk_skip hE rfl rfl rfl rfl (fun a hE => ?_))
      refine tW 18 524287 (fuel := 31) (by kernel_rfl) hE (fun M => tk_skip hE rfl rfl rfl rfl (fun a hE => ?_))
      refine tW 19 1048575 (fuel := 30) (by kernel_rfl) hE (fun M => tk_pure (.bool false) hE rfl rfl rfl rfl (fun _ _ _ e => by cases e) (by kernel_rfl) (fun a hE => ?_))
      refine tW 20 2097151 (fuel := 29) (by kernel_rfl) hE (fun M => tk_pure (.bool false) hE rfl rfl rfl rfl (fun _ _ _ e => by cases e) (by kernel_rfl) (fun a hE => ?_))
      refine tW 21 4194303 (fuel := 28) (by kernel_rfl) hE (fun M => tk_skip hE rfl rfl rfl rfl (fun a hE => ?_))
      refine tW 22 8388607 (fuel := 27) (by kernel_rfl) hE (fun M => tk_skip hE rfl rfl rfl rfl (fun a hE => ?_))
      refine tW 23 16777215 (fuel := 26) (by kernel_rfl) hE (fun M => tk_skip hE rfl rfl rfl rfl (fun a hE => ?_))
      refine tW 24 33554431 (fuel := 25) (by kernel_rfl) hE (fun M => tk_pure (.bool false) hE rfl rfl rfl rfl (fun _ _ _ e => by cases e) (by kernel_rfl) (fun a hE => ?_))
      refine tW 25 67108863 (fuel := 24) (by kernel_rfl) hE (fun M => tk_pure (.bool false) hE rfl rfl rfl rfl (fun _ _ _ e => by cases e) (by kernel_rfl) (fun a hE => ?_))
      refine tW 26 134217727 (fuel := 23) (by kernel_rfl) hE (fun M => tk_skip hE rfl rfl rfl rfl (fun a hE => ?_))
      refine tW 27 268435455 (fuel := 22) (by kernel_rfl) hE (fun M => tk_skip hE rfl rfl rfl rfl (fun a hE => ?_))
      refine tW 28 536870911 (fuel := 21) (by kernel_rfl) hE (fun M => tk_pure (.bool false) hE rfl rfl rfl rfl (fun _ _ _ e => by cases e) (by kernel_rfl) (fun a hE => ?_))
      refine tW 29 1073741823 (fuel := 20) (by kernel_rfl) hE (fun M => tk_pure (.bool false) hE rfl rfl rfl rfl (fun _ _ _ e => by cases e) (by kernel_rfl) (fun a hE => ?_))
      refine tW 30 2147483647 (fuel := 19) (by kernel_rfl) hE (fun M => tk_skip hE rfl rfl rfl rfl (fun a hE => ?_))
      refine tW 31 4294967295 (fuel := 18) (by kernel_rfl) hE (fun M => tk_skip hE rfl rfl rfl rfl (fun a hE => ?_))
      refine tW 32 8589934591 (fuel := 17) (by kernel_rfl) hE (fun M => tk_skip hE rfl rfl rfl rfl (fun a hE => ?_))
      refine tW 33 17179869183 (fuel := 16) (by kernel_rfl) hE (fun M => tk_skip hE rfl rfl rfl rfl (fun a hE => ?_))
      refine tW 34 34359738367 (fuel := 15) (by kernel_rfl) hE (fun M => tk_skip hE rfl rfl rfl rfl (fun a hE => ?_))
      refine tW 35 68719476735 (fuel := 14) (by kernel_rfl) hE (fun M => tk_pure (.bool false) hE rfl rfl rfl rfl (fun _ _ _ e => by cases e) (by kernel_rfl) (fun a hE => ?_))
      refine tW 36 137438953471 (fuel := 13) (by kernel_rfl) hE (fun M => tk_pure (.bool false) hE rfl rfl rfl rfl (fun _ _ _ e => by cases e) (by kernel_rfl) (fun a hE => ?_))
      refine tW 37 274877906943 (fuel := 12) (by kernel_rfl) hE (fun M => tk_skip hE rfl rfl rfl rfl (fun a hE => ?_))
      refine tW 38 549755813887 (fuel := 11) (by kernel_rfl) hE (fun M => tk_skip hE rfl rfl rfl rfl (fun a hE => ?_))
      refine tW 39 1099511627775 (fuel := 10) (by kernel_rfl) hE (fun M => tk_skip hE rfl rfl rfl rfl (fun a hE => ?_))
      refine tW 40 2199023255551 (fuel := 9) (by kernel_rfl) hE (fun M => tk_skip hE rfl rfl rfl rfl (fun a hE => ?_))
      refine tW 41 4398046511103 (fuel := 8) (by kernel_rfl) hE (fun M => tk_skip hE rfl rfl rfl rfl (fun a hE => ?_))
      refine tW 42 8796093022207 (fuel := 7) (by kernel_rfl) hE (fun M => tk_pure (.bool false) hE rfl rfl rfl rfl (fun _ _ _ e => by cases e) (by kernel_rfl) (fun a hE => ?_))
      refine tW 43 17592186044415 (fuel := 6) (by kernel_rfl) hE (fun M => tk_pure (.bool false) hE rfl rfl rfl rfl (fun _ _ _ e => by cases e) (by kernel_rfl) (fun a hE => ?_))
      refine tW 44 35184372088831 (fuel := 5) (by kernel_rfl) hE (fun M => tk_skip hE rfl rfl rfl rfl (fun a hE => ?_))
      refine tW 45 70368744177663 (fuel := 4) (by kernel_rfl) hE (fun M => tk_skip hE rfl rfl rfl rfl (fun a hE => ?_))
      refine tW 46 140737488355327 (fuel := 3) (by kernel_rfl) hE (fun M => tk_skip hE rfl rfl rfl rfl (fun a hE => ?_))
      refine tW 47 281474976710655 (fuel := 2) (by kernel_rfl) hE (fun M => tk_skip hE rfl rfl rfl rfl (fun a hE => ?_))
      refine tW 48 562949953421311 (fuel := 1) (by kernel_rfl) hE (fun M => tk_pure (.bool false) hE rfl rfl rfl rfl (fun _ _ _ e => by cases e) (by kernel_rfl) (fun a hE => ?_))
      refine tW 49 1125899906842623 (fuel := 0) (by kernel_rfl) hE (fun M => tk_pure (.bool false) hE rfl rfl rfl rfl (fun _ _ _ e => by cases e) (by kernel_rfl) (fun a hE => ?_))
      refine doneG (by kernel_rfl) ?_
      have hS := hS.pk .n rfl
      exact ⟨false, D805, hE.weak (by kernel_rfl), hS, (Snap.le.trans (Snap.le.trans le794 le799) le807), hf⟩
    · replace hf := cond_t hb hf
      have hE := hE.know (t := 31) (b := r803) (b' := true) rfl hb
      clear hb
      refine tW 4 31 (fuel := 45) (by kernel_rfl) hE (fun M => tk_pure (.int .i64 (r484.2)) hE rfl rfl rfl rfl (fun _ _ _ e => by cases e) (by kernel_rfl) (fun a hE => ?_))
      refine tW 5 63 (fuel := 44) (by kernel_rfl) hE (fun M => tk_pure (.bool ((decide (r484.2 = (0 : Int))))) hE rfl rfl rfl rfl (fun _ _ _ e => by cases e) (by kernel_rfl) (fun a hE => ?_))
      refine tW 6 127 (fuel := 43) (by kernel_rfl) hE (fun M => tk_pure (.bool ((decide (r484.2 = (0 : Int))))) hE rfl rfl rfl rfl (fun _ _ _ e => by cases e) (by kernel_rfl) (fun a hE => ?_))
      refine tW 7 255 (fuel := 42) (by kernel_rfl) hE (fun M => tk_pure (.bool ((decide (r484.2 = (0 : Int))))) hE rfl rfl rfl rfl (fun _ _ _ e => by cases e) (by kernel_rfl) (fun a hE => ?_))
      cases hb : (decide (r484.2 = (0 : Int)))
      · replace hf := cond_f hb hf
        have hE := hE.know (t := 35) (b := (decide (r484.2 = (0 : Int)))) (b' := false) rfl hb
        clear hb
        refine tW 8 511 (fuel := 41) (by kernel_rfl) hE (fun M => tk_skip hE rfl rfl rfl rfl (fun a hE => ?_))
        refine tW 9 1023 (fuel := 40) (by kernel_rfl) hE (fun M => tk_skip hE rfl rfl rfl rfl (fun a hE => ?_))
        refine tW 10 2047 (fuel := 39) (by kernel_rfl) hE (fun M => tk_pure (.bool false) hE rfl rfl rfl rfl (fun _ _ _ e => by cases e) (by kernel_rfl) (fun a hE => ?_))
        refine tW 11 4095 (fuel := 38) (by kernel_rfl) hE (fun M => tk_pure (.bool false) hE rfl rfl rfl rfl (fun _ _ _ e => by cases e) (by kernel_rfl) (fun a hE => ?_))
        refine tW 12 8191 (fuel := 37) (by kernel_rfl) hE (fun M => tk_skip hE rfl rfl rfl rfl (fun a hE => ?_))
        refine tW 13 16383 (fuel := 36) (by kernel_rfl) hE (fun M => tk_skip hE rfl rfl rfl rfl (fun a hE => ?_))
        refine tW 14 32767 (fuel := 35) (by kernel_rfl) hE (fun M => tk_skip hE rfl rfl rfl rfl (fun a hE => ?_))
        refine tW 15 65535 (fuel := 34) (by kernel_rfl) hE (fun M => tk_pure (.bool false) hE rfl rfl rfl rfl (fun _ _ _ e => by cases e) (by kernel_rfl) (fun a hE => ?_))
        refine tW 16 131071 (fuel := 33) (by kernel_rfl) hE (fun M => tk_pure (.bool false) hE rfl rfl rfl rfl (fun _ _ _ e => by cases e) (by kernel_rfl) (fun a hE => ?_))
        refine tW 17 262143 (fuel := 32) (by kernel_rfl) hE (fun M => tk_skip hE rfl rfl rfl rfl (fun a hE => ?_))
        refine tW 18 524287 (fuel := 31) (by kernel_rfl) hE (fun M => tk_skip hE rfl rfl rfl rfl (fun a hE => ?_))
        refine tW 19 1048575 (fuel := 30) (by kernel_rfl) hE (fun M => tk_pure (.bool false) hE rfl rfl rfl rfl (fun _ _ _ e => by cases e) (by kernel_rfl) (fun a hE => ?_))
        refine tW 20 2097151 (fuel := 29) (by kernel_rfl) hE (fun M => tk_pure (.bool false) hE rfl rfl rfl rfl (fun _ _ _ e => by cases e) (by kernel_rfl) (fun a hE => ?_))
        refine tW 21 4194303 (fuel := 28) (by kernel_rfl) hE (fun M => tk_skip hE rfl rfl rfl rfl (fun a hE => ?_))
        refine tW 22 8388607 (fuel := 27) (by kernel_rfl) hE (fun M => tk_skip hE rfl rfl rfl rfl (fun a hE => ?_))
        refine tW 23 16777215 (fuel := 26) (by kernel_rfl) hE (fun M => tk_skip hE rfl rfl rfl rfl (fun a hE => ?_))
        refine tW 24 33554431 (fuel := 25) (by kernel_rfl) hE (fun M => tk_pure (.bool false) hE rfl rfl rfl rfl (fun _ _ _ e => by cases e) (by kernel_rfl) (fun a hE => ?_))
        refine tW 25 67108863 (fuel := 24) (by kernel_rfl) hE (fun M => tk_pure (.bool false) hE rfl rfl rfl rfl (fun _ _ _ e => by cases e) (by kernel_rfl) (fun a hE => ?_))
        refine tW 26 134217727 (fuel := 23) (by kernel_rfl) hE (fun M => tk_skip hE rfl rfl rfl rfl (fun a hE => ?_))
        refine tW 27 268435455 (fuel := 22) (by kernel_rfl) hE (fun M => tk_skip hE rfl rfl rfl rfl (fun a hE => ?_))
        refine tW 28 536870911 (fuel := 21) (by kernel_rfl) hE (fun M => tk_pure (.bool false) hE rfl rfl rfl rfl (fun _ _ _ e => by cases e) (by kernel_rfl) (fun a hE => ?_))
        refine tW 29 1073741823 (fuel := 20) (by kernel_rfl) hE (fun M => tk_pure (.bool false) hE rfl rfl rfl rfl (fun _ _ _ e => by cases e) (by kernel_rfl) (fun a hE => ?_))
        refine tW 30 2147483647 (fuel := 19) (by kernel_rfl) hE (fun M => tk_skip hE rfl rfl rfl rfl (fun a hE => ?_))
        refine tW 31 4294967295 (fuel := 18) (by kernel_rfl) hE (fun M => tk_skip hE rfl rfl rfl rfl (fun a hE => ?_))
        refine tW 32 8589934591 (fuel := 17) (by kernel_rfl) hE (fun M => tk_skip hE rfl rfl rfl rfl (fun a hE => ?_))
        refine tW 33 17179869183 (fuel := 16) (by kernel_rfl) hE (fun M => tk_skip hE rfl rfl rfl rfl (fun a hE => ?_))
        refine tW 34 34359738367 (fuel := 15) (by kernel_rfl) hE (fun M => tk_skip hE rfl rfl rfl rfl (fun a hE => ?_))
        refine tW 35 68719476735 (fuel := 14) (by kernel_rfl) hE (fun M => tk_pure (.bool false) hE rfl rfl rfl rfl (fun _ _ _ e => by cases e) (by kernel_rfl) (fun a hE => ?_))
        refine tW 36 137438953471 (fuel := 13) (by kernel_rfl) hE (fun M => tk_pure (.bool false) hE rfl rfl rfl rfl (fun _ _ _ e => by cases e) (by kernel_rfl) (fun a hE => ?_))
        refine tW 37 274877906943 (fuel := 12) (by kernel_rfl) hE (fun M => tk_skip hE rfl rfl rfl rfl (fun a hE => ?_))
        refine tW 38 549755813887 (fuel := 11) (by kernel_rfl) hE (fun M => tk_skip hE rfl rfl rfl rfl (fun a hE => ?_))
        refine tW 39 1099511627775 (fuel := 10) (by kernel_rfl) hE (fun M => tk_skip hE rfl rfl rfl rfl (fun a hE => ?_))
        refine tW 40 2199023255551 (fuel := 9) (by kernel_rfl) hE (fun M => tk_skip hE rfl rfl rfl rfl (fun a hE => ?_))
        refine tW 41 4398046511103 (fuel := 8) (by kernel_rfl) hE (fun M => tk_skip hE rfl rfl rfl rfl (fun a hE => ?_))
        refine tW 42 8796093022207 (fuel := 7) (by kernel_rfl) hE (fun M => tk_pure (.bool false) hE rfl rfl rfl rfl (fun _ _ _ e => by cases e) (by kernel_rfl) (fun a hE => ?_))
        refine tW 43 17592186044415 (fuel := 6) (by kernel_rfl) hE (fun M => tk_pure (.bool false) hE rfl rfl rfl rfl (fun _ _ _ e => by cases e) (by kernel_rfl) (fun a hE => ?_))
        refine tW 44 35184372088831 (fuel := 5) (by kernel_rfl) hE (fun M => tk_skip hE rfl rfl rfl rfl (fun a hE => ?_))
        refine tW 45 70368744177663 (fuel := 4) (by kernel_rfl) hE (fun M => tk_skip hE rfl rfl rfl rfl (fun a hE => ?_))
        refine tW 46 140737488355327 (fuel := 3) (by kernel_rfl) hE (fun M => tk_skip hE rfl rfl rfl rfl (fun a hE => ?_))
        refine tW 47 281474976710655 (fuel := 2) (by kernel_rfl) hE (fun M => tk_skip hE rfl rfl rfl rfl (fun a hE => ?_))
        refine tW 48 562949953421311 (fuel := 1) (by kernel_rfl) hE (fun M => tk_pure (.bool false) hE rfl rfl rfl rfl (fun _ _ _ e => by cases e) (by kernel_rfl) (fun a hE => ?_))
        refine tW 49 1125899906842623 (fuel := 0) (by kernel_rfl) hE (fun M => tk_pure (.bool false) hE rfl rfl rfl rfl (fun _ _ _ e => by cases e) (by kernel_rfl) (fun a hE => ?_))
        refine doneG (by kernel_rfl) ?_
        have hS := hS.pk .n rfl
        exact ⟨false, D805, hE.weak (by kernel_rfl), hS, (Snap.le.trans (Snap.le.trans le794 le799) le807), hf⟩
      · replace hf := cond_t hb hf
        have hE := hE.know (t := 35) (b := (decide (r484.2 = (0 : Int)))) (b' := true) rfl hb
        clear hb
        refine tW 8 511 (fuel := 41) (by kernel_rfl) hE (fun M => tk_pure (.int .i64 (r506.2)) hE rfl rfl rfl rfl (fun _ _ _ e => by cases e) (by kernel_rfl) (fun a hE => ?_))
        refine tW 9 1023 (fuel := 40) (by kernel_rfl) hE (fun M => tk_pure (.bool ((decide (r506.2 = (2 : Int))))) hE rfl rfl rfl rfl (fun _ _ _ e => by cases e) (by kernel_rfl) (fun a hE => ?_))
        refine tW 10 2047 (fuel := 39) (by kernel_rfl) hE (fun M => tk_pure (.bool ((decide (r506.2 = (2 : Int))))) hE rfl rfl rfl rfl (fun _ _ _ e => by cases e) (by kernel_rfl) (fun a hE => ?_))
        refine tW 11 4095 (fuel := 38) (by kernel_rfl) hE (fun M => tk_pure (.bool ((decide (r506.2 = (2 : Int))))) hE rfl rfl rfl rfl (fun _ _ _ e => by cases e) (by kernel_rfl) (fun a hE => ?_))
        cases hb : (decide (r506.2 = (2 : Int)))
        · replace hf := cond_f hb hf
          have hE := hE.know (t := 39) (b := (decide (r506.2 = (2 : Int)))) (b' := false) rfl hb
          clear hb
          refine tW 12 8191 (fuel := 37) (by kernel_rfl) hE (fun M => tk_skip hE rfl rfl rfl rfl (fun a hE => ?_))
          refine tW 13 16383 (fuel := 36) (by kernel_rfl) hE (fun M => tk_skip hE rfl rfl rfl rfl (fun a hE => ?_))
          refine tW 14 32767 (fuel := 35) (by kernel_rfl) hE (fun M => tk_skip hE rfl rfl rfl rfl (fun a hE => ?_))
          refine tW 15 65535 (fuel := 34) (by kernel_rfl) hE (fun M => tk_pure (.bool false) hE rfl rfl rfl rfl (fun _ _ _ e => by cases e) (by kernel_rfl) (fun a hE => ?_))
          refine tW 16 131071 (fuel := 33) (by kernel_rfl) hE (fun M => tk_pure (.bool false) hE rfl rfl rfl rfl (fun _ _ _ e => by cases e) (by kernel_rfl) (fun a hE => ?_))
          refine tW 17 262143 (fuel := 32) (by kernel_rfl) hE (fun M => tk_skip hE rfl rfl rfl rfl (fun a hE => ?_))
          refine tW 18 524287 (fuel := 31) (by kernel_rfl) hE (fun M => tk_skip hE rfl rfl rfl rfl (fun a hE => ?_))
          refine tW 19 1048575 (fuel := 30) (by kernel_rfl) hE (fun M => tk_pure (.bool false) hE rfl rfl rfl rfl (fun _ _ _ e => by cases e) (by kernel_rfl) (fun a hE => ?_))
          refine tW 20 2097151 (fuel := 29) (by kernel_rfl) hE (fun M => tk_pure (.bool false) hE rfl rfl rfl rfl (fun _ _ _ e => by cases e) (by kernel_rfl) (fun a hE => ?_))
          refine tW 21 4194303 (fuel := 28) (by kernel_rfl) hE (fun M => tk_skip hE rfl rfl rfl rfl (fun a hE => ?_))
          refine tW 22 8388607 (fuel := 27) (by kernel_rfl) hE (fun M => tk_skip hE rfl rfl rfl rfl (fun a hE => ?_))
          refine tW 23 16777215 (fuel := 26) (by kernel_rfl) hE (fun M => tk_skip hE rfl rfl rfl rfl (fun a hE => ?_))
          refine tW 24 33554431 (fuel := 25) (by kernel_rfl) hE (fun M => tk_pure (.bool false) hE rfl rfl rfl rfl (fun _ _ _ e => by cases e) (by kernel_rfl) (fun a hE => ?_))
          refine tW 25 67108863 (fuel := 24) (by kernel_rfl) hE (fun M => tk_pure (.bool false) hE rfl rfl rfl rfl (fun _ _ _ e => by cases e) (by kernel_rfl) (fun a hE => ?_))
          refine tW 26 134217727 (fuel := 23) (by kernel_rfl) hE (fun M => tk_skip hE rfl rfl rfl rfl (fun a hE => ?_))
          refine tW 27 268435455 (fuel := 22) (by kernel_rfl) hE (fun M => tk_skip hE rfl rfl rfl rfl (fun a hE => ?_))
          refine tW 28 536870911 (fuel := 21) (by kernel_rfl) hE (fun M => tk_pure (.bool false) hE rfl rfl rfl rfl (fun _ _ _ e => by cases e) (by kernel_rfl) (fun a hE => ?_))
          refine tW 29 1073741823 (fuel := 20) (by kernel_rfl) hE (fun M => tk_pure (.bool false) hE rfl rfl rfl rfl (fun _ _ _ e => by cases e) (by kernel_rfl) (fun a hE => ?_))
          refine tW 30 2147483647 (fuel := 19) (by kernel_rfl) hE (fun M => tk_skip hE rfl rfl rfl rfl (fun a hE => ?_))
          refine tW 31 4294967295 (fuel := 18) (by kernel_rfl) hE (fun M => tk_skip hE rfl rfl rfl rfl (fun a hE => ?_))
          refine tW 32 8589934591 (fuel := 17) (by kernel_rfl) hE (fun M => tk_skip hE rfl rfl rfl rfl (fun a hE => ?_))
          refine tW 33 17179869183 (fuel := 16) (by kernel_rfl) hE (fun M => tk_skip hE rfl rfl rfl rfl (fun a hE => ?_))
          refine tW 34 34359738367 (fuel := 15) (by kernel_rfl) hE (fun M => tk_skip hE rfl rfl rfl rfl (fun a hE => ?_))
          refine tW 35 68719476735 (fuel := 14) (by kernel_rfl) hE (fun M => tk_pure (.bool false) hE rfl rfl rfl rfl (fun _ _ _ e => by cases e) (by kernel_rfl) (fun a hE => ?_))
          refine tW 36 137438953471 (fuel := 13) (by kernel_rfl) hE (fun M => tk_pure (.bool false) hE rfl rfl rfl rfl (fun _ _ _ e => by cases e) (by kernel_rfl) (fun a hE => ?_))
          refine tW 37 274877906943 (fuel := 12) (by kernel_rfl) hE (fun M => tk_skip hE rfl rfl rfl rfl (fun a hE => ?_))
          refine tW 38 549755813887 (fuel := 11) (by kernel_rfl) hE (fun M => tk_skip hE rfl rfl rfl rfl (fun a hE => ?_))
          refine tW 39 1099511627775 (fuel := 10) (by kernel_rfl) hE (fun M => tk_skip hE rfl rfl rfl rfl (fun a hE => ?_))
          refine tW 40 2199023255551 (fuel := 9) (by kernel_rfl) hE (fun M => tk_skip hE rfl rfl rfl rfl (fun a hE => ?_))
          refine tW 41 4398046511103 (fuel := 8) (by kernel_rfl) hE (fun M => tk_skip hE rfl rfl rfl rfl (fun a hE => ?_))
          refine tW 42 8796093022207 (fuel := 7) (by kernel_rfl) hE (fun M => tk_pure (.bool false) hE rfl rfl rfl rfl (fun _ _ _ e => by cases e) (by kernel_rfl) (fun a hE => ?_))
          refine tW 43 17592186044415 (fuel := 6) (by kernel_rfl) hE (fun M => tk_pure (.bool false) hE rfl rfl rfl rfl (fun _ _ _ e => by cases e) (by kernel_rfl) (fun a hE => ?_))
          refine tW 44 35184372088831 (fuel := 5) (by kernel_rfl) hE (fun M => tk_skip hE rfl rfl rfl rfl (fun a hE => ?_))
          refine tW 45 70368744177663 (fuel := 4) (by kernel_rfl) hE (fun M => tk_skip hE rfl rfl rfl rfl (fun a hE => ?_))
          refine tW 46 140737488355327 (fuel := 3) (by kernel_rfl) hE (fun M => tk_skip hE rfl rfl rfl rfl (fun a hE => ?_))
          refine tW 47 281474976710655 (fuel := 2) (by kernel_rfl) hE (fun M => tk_skip hE rfl rfl rfl rfl (fun a hE => ?_))
          refine tW 48 562949953421311 (fuel := 1) (by kernel_rfl) hE (fun M => tk_pure (.bool false) hE rfl rfl rfl rfl (fun _ _ _ e => by cases e) (by kernel_rfl) (fun a hE => ?_))
          refine tW 49 1125899906842623 (fuel := 0) (by kernel_rfl) hE (fun M => tk_pure (.bool false) hE rfl rfl rfl rfl (fun _ _ _ e => by cases e) (by kernel_rfl) (fun a hE => ?_))
          refine doneG (by kernel_rfl) ?_
          have hS := hS.pk .n rfl
          exact ⟨false, D805, hE.weak (by kernel_rfl), hS, (Snap.le.trans (Snap.le.trans le794 le799) le807), hf⟩
        · replace hf := cond_t hb hf
          have hE := hE.know (t := 39) (b := (decide (r506.2 = (2 : Int)))) (b' := true) rfl hb
          clear hb
          refine tT 12 8191 (fuel := 37) (by kernel_rfl) hE (tk_load 5 (.agg (List.toArray (c_T_api_Rec (v465) A447 1 A451 1))) rfl rfl rfl rfl hE rfl hS rfl rfl (by kernel_rfl) (kL (j := 5) hS rfl List.not_mem_nil) (fun a hE => ?_))
          refine tT 13 16383 (fuel := 36) (by kernel_rfl) hE (tk_load 4 (.agg (List.toArray (c_T_api_Rec (r484.1) A488 c489 A491 c492))) rfl rfl rfl rfl hE rfl hS rfl rfl (by kernel_rfl) (kL (j := 4) hS rfl List.not_mem_nil) (fun a hE => ?_))
          obtain ⟨r808, h809, hf⟩ := bind_some hf
          refine oG 14 32767 (fuel := 35) (by kernel_rfl) (op_call rfl rfl rfl rfl hE rfl rfl rfl rfl (by kernel_rfl) (rec_Same.calls (g := g) h809 (hS.st.fore (L := [])) (h467.mono (Snap.le.trans (Snap.le.trans (Snap.le.trans (Snap.le.trans (Snap.le.trans (Snap.le.trans (Snap.le.trans (Snap.le.trans le478 le480) le494) le502) le516) le529) le794) le799) le807)) (h468.mono (Snap.le.trans (Snap.le.trans (Snap.le.trans (Snap.le.trans (Snap.le.trans (Snap.le.trans (Snap.le.trans (Snap.le.trans (Snap.le.trans le459 le478) le480) le494) le502) le516) le529) le794) le799) le807)) (h490.mono (Snap.le.trans (Snap.le.trans (Snap.le.trans (Snap.le.trans (Snap.le.trans le502 le516) le529) le794) le799) le807)) (h493.mono (Snap.le.trans (Snap.le.trans (Snap.le.trans (Snap.le.trans (Snap.le.trans le502 le516) le529) le794) le799) le807))) (fun a v w hR hE => ?_))
          obtain ⟨D810, rfl, hS1⟩ := hR
          refine ⟨(hS1.keeps.sub (M' := []) trivial).mono (fun _ h => h), ?_⟩
          have le812 := hS1.dle
          have hS := hS.callR hS1 rfl .n
          clear hS1
          refine tW 15 65535 (fuel := 34) (by kernel_rfl) hE (fun M => tk_pure (.bool (r808)) hE rfl rfl rfl rfl (fun _ _ _ e => by cases e) (by kernel_rfl) (fun a hE => ?_))
          refine tW 16 131071 (fuel := 33) (by kernel_rfl) hE (fun M => tk_pure (.bool (r808)) hE rfl rfl rfl rfl (fun _ _ _ e => by cases e) (by kernel_rfl) (fun a hE => ?_))
          cases hb : r808
          · replace hf := cond_f hb hf
            have hE := hE.know (t := 44) (b := r808) (b' := false) rfl hb
            clear hb
            refine tW 17 262143 (fuel := 32) (by kernel_rfl) hE (fun M => tk_skip hE rfl rfl rfl rfl (fun a hE => ?_))
            refine tW 18 524287 (fuel := 31) (by kernel_rfl) hE (fun M => tk_skip hE rfl rfl rfl rfl (fun a hE => ?_))
            refine tW 19 1048575 (fuel := 30) (by kernel_rfl) hE (fun M => tk_pure (.bool false) hE rfl rfl rfl rfl (fun _ _ _ e => by cases e) (by kernel_rfl) (fun a hE => ?_))
            refine tW 20 2097151 (fuel := 29) (by kernel_rfl) hE (fun M => tk_pure (.bool false) hE rfl rfl rfl rfl (fun _ _ _ e => by cases e) (by kernel_rfl) (fun a hE => ?_))
            refine tW 21 4194303 (fuel := 28) (by kernel_rfl) hE (fun M => tk_skip hE rfl rfl rfl rfl (fun a hE => ?_))
            refine tW 22 8388607 (fuel := 27) (by kernel_rfl) hE (fun M => tk_skip hE rfl rfl rfl rfl (fun a hE => ?_))
            refine tW 23 16777215 (fuel := 26) (by kernel_rfl) hE (fun M => tk_skip hE rfl rfl rfl rfl (fun a hE => ?_))
            refine tW 24 33554431 (fuel := 25) (by kernel_rfl) hE (fun M => tk_pure (.bool false) hE rfl rfl rfl rfl (fun _ _ _ e => by cases e) (by kernel_rfl) (fun a hE => ?_))
            refine tW 25 67108863 (fuel := 24) (by kernel_rfl) hE (fun M => tk_pure (.bool false) hE rfl rfl rfl rfl (fun _ _ _ e => by cases e) (by kernel_rfl) (fun a hE => ?_))
            refine tW 26 134217727 (fuel := 23) (by kernel_rfl) hE (fun M => tk_skip hE rfl rfl rfl rfl (fun a hE => ?_))
            refine tW 27 268435455 (fuel := 22) (by kernel_rfl) hE (fun M => tk_skip hE rfl rfl rfl rfl (fun a hE => ?_))
            refine tW 28 536870911 (fuel := 21) (by kernel_rfl) hE (fun M => tk_pure (.bool false) hE rfl rfl rfl rfl (fun _ _ _ e => by cases e) (by kernel_rfl) (fun a hE => ?_))
            refine tW 29 1073741823 (fuel := 20) (by kernel_rfl) hE (fun M => tk_pure (.bool false) hE rfl rfl rfl rfl (fun _ _ _ e => by cases e) (by kernel_rfl) (fun a hE => ?_))
            refine tW 30 2147483647 (fuel := 19) (by kernel_rfl) hE (fun M => tk_skip hE rfl rfl rfl rfl (fun a hE => ?_))
            refine tW 31 4294967295 (fuel := 18) (by kernel_rfl) hE (fun M => tk_skip hE rfl rfl rfl rfl (fun a hE => ?_))
            refine tW 32 8589934591 (fuel := 17) (by kernel_rfl) hE (fun M => tk_skip hE rfl rfl rfl rfl (fun a hE => ?_))
            refine tW 33 17179869183 (fuel := 16) (by kernel_rfl) hE (fun M => tk_skip hE rfl rfl rfl rfl (fun a hE => ?_))
            refine tW 34 34359738367 (fuel := 15) (by kernel_rfl) hE (fun M => tk_skip hE rfl rfl rfl rfl (fun a hE => ?_))
            refine tW 35 68719476735 (fuel := 14) (by kernel_rfl) hE (fun M => tk_pure (.bool false) hE rfl rfl rfl rfl (fun _ _ _ e => by cases e) (by kernel_rfl) (fun a hE => ?_))
            refine tW 36 137438953471 (fuel := 13) (by kernel_rfl) hE (fun M => tk_pure (.bool false) hE rfl rfl rfl rfl (fun _ _ _ e => by cases e) (by kernel_rfl) (fun a hE => ?_))
            refine tW 37 274877906943 (fuel := 12) (by kernel_rfl) hE (fun M => tk_skip hE rfl rfl rfl rfl (fun a hE => ?_))
            refine tW 38 549755813887 (fuel := 11) (by kernel_rfl) hE (fun M => tk_skip hE rfl rfl rfl rfl (fun a hE => ?_))
            refine tW 39 1099511627775 (fuel := 10) (by kernel_rfl) hE (fun M => tk_skip hE rfl rfl rfl rfl (fun a hE => ?_))
            refine tW 40 2199023255551 (fuel := 9) (by kernel_rfl) hE (fun M => tk_skip hE rfl rfl rfl rfl (fun a hE => ?_))
            refine tW 41 4398046511103 (fuel := 8) (by kernel_rfl) hE (fun M => tk_skip hE rfl rfl rfl rfl (fun a hE => ?_))
            refine tW 42 8796093022207 (fuel := 7) (by kernel_rfl) hE (fun M => tk_pure (.bool false) hE rfl rfl rfl rfl (fun _ _ _ e => by cases e) (by kernel_rfl) (fun a hE => ?_))
            refine tW 43 17592186044415 (fuel := 6) (by kernel_rfl) hE (fun M => tk_pure (.bool false) hE rfl rfl rfl rfl (fun _ _ _ e => by cases e) (by kernel_rfl) (fun a hE => ?_))
            refine tW 44 35184372088831 (fuel := 5) (by kernel_rfl) hE (fun M => tk_skip hE rfl rfl rfl rfl (fun a hE => ?_))
            refine tW 45 70368744177663 (fuel := 4) (by kernel_rfl) hE (fun M => tk_skip hE rfl rfl rfl rfl (fun a hE => ?_))
            refine tW 46 140737488355327 (fuel := 3) (by kernel_rfl) hE (fun M => tk_skip hE rfl rfl rfl rfl (fun a hE => ?_))
            refine tW 47 281474976710655 (fuel := 2) (by kernel_rfl) hE (fun M => tk_skip hE rfl rfl rfl rfl (fun a hE => ?_))
            refine tW 48 562949953421311 (fuel := 1) (by kernel_rfl) hE (fun M => tk_pure (.bool false) hE rfl rfl rfl rfl (fun _ _ _ e => by cases e) (by kernel_rfl) (fun a hE => ?_))
            refine tW 49 1125899906842623 (fuel := 0) (by kernel_rfl) hE (fun M => tk_pure (.bool false) hE rfl rfl rfl rfl (fun _ _ _ e => by cases e) (by kernel_rfl) (fun a hE => ?_))
            refine doneG (by kernel_rfl) ?_
            have hS := hS.pk .n rfl
            exact ⟨false, D810, hE.weak (by kernel_rfl), hS, (Snap.le.trans (Snap.le.trans (Snap.le.trans le794 le799) le807) le812), hf⟩
          · replace hf := cond_t hb hf
            have hE := hE.know (t := 44) (b := r808) (b' := true) rfl hb
            clear hb
            refine tT 17 262143 (fuel := 32) (by kernel_rfl) hE (tk_load 5 (.agg (List.toArray (c_T_api_Rec (v465) A447 1 A451 1))) rfl rfl rfl rfl hE rfl hS rfl rfl (by kernel_rfl) (kL (j := 5) hS rfl List.not_mem_nil) (fun a hE => ?_))
            obtain ⟨r813, h814, hf⟩ := bind_some hf
            refine oG 18 524287 (fuel := 31) (by kernel_rfl) (op_call rfl rfl rfl rfl hE rfl rfl rfl rfl (by kernel_rfl) (rec_Right.calls (g := g) h814 (hS.st.fore (L := [])) (h467.mono (Snap.le.trans (Snap.le.trans (Snap.le.trans (Snap.le.trans (Snap.le.trans (Snap.le.trans (Snap.le.trans (Snap.le.trans (Snap.le.trans le478 le480) le494) le502) le516) le529) le794) le799) le807) le812)) (h468.mono (Snap.le.trans (Snap.le.trans (Snap.le.trans (Snap.le.trans (Snap.le.trans (Snap.le.trans (Snap.le.trans (Snap.le.trans (Snap.le.trans (Snap.le.trans le459 le478) le480) le494) le502) le516) le529) le794) le799) le807) le812))) (fun a v w hR hE => ?_))
            obtain ⟨D815, rfl, hS1⟩ := hR
            refine ⟨(hS1.keeps.sub (M' := []) trivial).mono (fun _ h => h), ?_⟩
            have le817 := hS1.dle
            have hS := hS.callR hS1 rfl .n
            clear hS1
            refine tW 19 1048575 (fuel := 30) (by kernel_rfl) hE (fun M => tk_pure (.bool (r813)) hE rfl rfl rfl rfl (fun _ _ _ e => by cases e) (by kernel_rfl) (fun a hE => ?_))
            refine tW 20 2097151 (fuel := 29) (by kernel_rfl) hE (fun M => tk_pure (.bool (r813)) hE rfl rfl rfl rfl (fun _ _ _ e => by cases e) (by kernel_rfl) (fun a hE => ?_))
            cases hb : r813
            · replace hf := cond_f hb hf
              have hE := hE.know (t := 48) (b := r813) (b' := false) rfl hb
              clear hb
              refine tW 21 4194303 (fuel := 28) (by kernel_rfl) hE (fun M => tk_skip hE rfl rfl rfl rfl (fun a hE => ?_))
              refine tW 22 8388607 (fuel := 27) (by kernel_rfl) hE (fun M => tk_skip hE rfl rfl rfl rfl (fun a hE => ?_))
              refine tW 23 16777215 (fuel := 26) (by kernel_rfl) hE (fun M => tk_skip hE rfl rfl rfl rfl (fun a hE => ?_))
              refine tW 24 33554431 (fuel := 25) (by kernel_rfl) hE (fun M => tk_pure (.bool false) hE rfl rfl rfl rfl (fun _ _ _ e => by cases e) (by kernel_rfl) (fun a hE => ?_))
              refine tW 25 67108863 (fuel := 24) (by kernel_rfl) hE (fun M => tk_pure (.bool false) hE rfl rfl rfl rfl (fun _ _ _ e => by cases e) (by kernel_rfl) (fun a hE => ?_))
              refine tW 26 134217727 (fuel := 23) (by kernel_rfl) hE (fun M => tk_skip hE rfl rfl rfl rfl (fun a hE => ?_))
              refine tW 27 268435455 (fuel := 22) (by kernel_rfl) hE (fun M => tk_skip hE rfl rfl rfl rfl (fun a hE => ?_))
              refine tW 28 536870911 (fuel := 21) (by kernel_rfl) hE (fun M => tk_pure (.bool false) hE rfl rfl rfl rfl (fun _ _ _ e => by cases e) (by kernel_rfl) (fun a hE => ?_))
              refine tW 29 1073741823 (fuel := 20) (by kernel_rfl) hE (fun M => tk_pure (.bool false) hE rfl rfl rfl rfl (fun _ _ _ e => by cases e) (by kernel_rfl) (fun a hE => ?_))
              refine tW 30 2147483647 (fuel := 19) (by kernel_rfl) hE (fun M => tk_skip hE rfl rfl rfl rfl (fun a hE => ?_))
              refine tW 31 4294967295 (fuel := 18) (by kernel_rfl) hE (fun M => tk_skip hE rfl rfl rfl rfl (fun a hE => ?_))
              refine tW 32 8589934591 (fuel := 17) (by kernel_rfl) hE (fun M => tk_skip hE rfl rfl rfl rfl (fun a hE => ?_))
              refine tW 33 17179869183 (fuel := 16) (by kernel_rfl) hE (fun M => tk_skip hE rfl rfl rfl rfl (fun a hE => ?_))
              refine tW 34 34359738367 (fuel := 15) (by kernel_rfl) hE (fun M => tk_skip hE rfl rfl rfl rfl (fun a hE => ?_))
              refine tW 35 68719476735 (fuel := 14) (by kernel_rfl) hE (fun M => tk_pure (.bool false) hE rfl rfl rfl rfl (fun _ _ _ e => by cases e) (by kernel_rfl) (fun a hE => ?_))
              refine tW 36 137438953471 (fuel := 13) (by kernel_rfl) hE (fun M => tk_pure (.bool false) hE rfl rfl rfl rfl (fun _ _ _ e => by cases e) (by kernel_rfl) (fun a hE => ?_))
              refine tW 37 274877906943 (fuel := 12) (by kernel_rfl) hE (fun M => tk_skip hE rfl rfl rfl rfl (fun a hE => ?_))
              refine tW 38 549755813887 (fuel := 11) (by kernel_rfl) hE (fun M => tk_skip hE rfl rfl rfl rfl (fun a hE => ?_))
              refine tW 39 1099511627775 (fuel := 10) (by kernel_rfl) hE (fun M => tk_skip hE rfl rfl rfl rfl (fun a hE => ?_))
              refine tW 40 2199023255551 (fuel := 9) (by kernel_rfl) hE (fun M => tk_skip hE rfl rfl rfl rfl (fun a hE => ?_))
              refine tW 41 4398046511103 (fuel := 8) (by kernel_rfl) hE (fun M => tk_skip hE rfl rfl rfl rfl (fun a hE => ?_))
              refine tW 42 8796093022207 (fuel := 7) (by kernel_rfl) hE (fun M => tk_pure (.bool false) hE rfl rfl rfl rfl (fun _ _ _ e => by cases e) (by kernel_rfl) (fun a hE => ?_))
              refine tW 43 17592186044415 (fuel := 6) (by kernel_rfl) hE (fun M => tk_pure (.bool false) hE rfl rfl rfl rfl (fun _ _ _ e => by cases e) (by kernel_rfl) (fun a hE => ?_))
              refine tW 44 35184372088831 (fuel := 5) (by kernel_rfl) hE (fun M => tk_skip hE rfl rfl rfl rfl (fun a hE => ?_))
              refine tW 45 70368744177663 (fuel := 4) (by kernel_rfl) hE (fun M => tk_skip hE rfl rfl rfl rfl (fun a hE => ?_))
              refine tW 46 140737488355327 (fuel := 3) (by kernel_rfl) hE (fun M => tk_skip hE rfl rfl rfl rfl (fun a hE => ?_))
              refine tW 47 281474976710655 (fuel := 2) (by kernel_rfl) hE (fun M => tk_skip hE rfl rfl rfl rfl (fun a hE => ?_))
              refine tW 48 562949953421311 (fuel := 1) (by kernel_rfl) hE (fun M => tk_pure (.bool false) hE rfl rfl rfl rfl (fun _ _ _ e => by cases e) (by kernel_rfl) (fun a hE => ?_))
              refine tW 49 1125899906842623 (fuel := 0) (by kernel_rfl) hE (fun M => tk_pure (.bool false) hE rfl rfl rfl rfl (fun _ _ _ e => by cases e) (by kernel_rfl) (fun a hE => ?_))
              refine doneG (by kernel_rfl) ?_
              have hS := hS.pk .n rfl
              exact ⟨false, D815, hE.weak (by kernel_rfl), hS, (Snap.le.trans (Snap.le.trans (Snap.le.trans (Snap.le.trans le794 le799) le807) le812) le817), hf⟩
            · replace hf := cond_t hb hf
              have hE := hE.know (t := 48) (b := r813) (b' := true) rfl hb
              clear hb
              refine tW 21 4194303 (fuel := 28) (by kernel_rfl) hE (fun M => tk_build (c_T_api_Rec (z_T_api_Rec) none 0 none 0) rfl rfl rfl rfl hE rfl rfl (by kernel_rfl) (fun a hE => ?_))
              obtain ⟨r818, h819, hf⟩ := bind_some hf
              refine oG 22 8388607 (fuel := 27) (by kernel_rfl) (op_call rfl rfl rfl rfl hE rfl rfl rfl rfl (by kernel_rfl) (rec_Right.calls (g := g) h819 (hS.st.fore (L := [])) (Sl.nil kd_T_api_Step D815) (Sl.nil (kdInt .u8) D815)) (fun a v w hR hE => ?_))
              obtain ⟨D820, rfl, hS1⟩ := hR
              refine ⟨(hS1.keeps.sub (M' := []) trivial).mono (fun _ h => h), ?_⟩
              have le822 := hS1.dle
              have hS := hS.callR hS1 rfl .n
              clear hS1
              refine tW 23 16777215 (fuel := 26) (by kernel_rfl) hE (fun M => tk_pure (.bool ((!r818))) hE rfl rfl rfl rfl (fun _ _ _ e => by cases e) (by kernel_rfl) (fun a hE => ?_))
              refine tW 24 33554431 (fuel := 25) (by kernel_rfl) hE (fun M => tk_pure (.bool ((!r818))) hE rfl rfl rfl rfl (fun _ _ _ e => by cases e) (by kernel_rfl) (fun a hE => ?_))
              refine tW 25 67108863 (fuel := 24) (by kernel_rfl) hE (fun M => tk_pure (.bool ((!r818))) hE rfl rfl rfl rfl (fun _ _ _ e => by cases e) (by kernel_rfl) (fun a hE => ?_))
              cases hb : (!r818)
              · replace hf := cond_f hb hf
                have hE := hE.know (t := 53) (b := (!r818)) (b' := false) rfl hb
                clear hb
                refine tW 26 134217727 (fuel := 23) (by kernel_rfl) hE (fun M => tk_skip hE rfl rfl rfl rfl (fun a hE => ?_))
                refine tW 27 268435455 (fuel := 22) (by kernel_rfl) hE (fun M => tk_skip hE rfl rfl rfl rfl (fun a hE => ?_))
                refine tW 28 536870911 (fuel := 21) (by kernel_rfl) hE (fun M => tk_pure (.bool false) hE rfl rfl rfl rfl (fun _ _ _ e => by cases e) (by kernel_rfl) (fun a hE => ?_))
                refine tW 29 1073741823 (fuel := 20) (by kernel_rfl) hE (fun M => tk_pure (.bool false) hE rfl rfl rfl rfl (fun _ _ _ e => by cases e) (by kernel_rfl) (fun a hE => ?_))
                refine tW 30 2147483647 (fuel := 19) (by kernel_rfl) hE (fun M => tk_skip hE rfl rfl rfl rfl (fun a hE => ?_))
                refine tW 31 4294967295 (fuel := 18) (by kernel_rfl) hE (fun M => tk_skip hE rfl rfl rfl rfl (fun a hE => ?_))
                refine tW 32 8589934591 (fuel := 17) (by kernel_rfl) hE (fun M => tk_skip hE rfl rfl rfl rfl (fun a hE => ?_))
                refine tW 33 17179869183 (fuel := 16) (by kernel_rfl) hE (fun M => tk_skip hE rfl rfl rfl rfl (fun a hE => ?_))
                refine tW 34 34359738367 (fuel := 15) (by kernel_rfl) hE (fun M => tk_skip hE rfl rfl rfl rfl (fun a hE => ?_))
                refine tW 35 68719476735 (fuel := 14) (by kernel_rfl) hE (fun M => tk_pure (.bool false) hE rfl rfl rfl rfl (fun _ _ _ e => by cases e) (by kernel_rfl) (fun a hE => ?_))
                refine tW 36 137438953471 (fuel := 13) (by kernel_rfl) hE (fun M => tk_pure (.bool false) hE rfl rfl rfl rfl (fun _ _ _ e => by cases e) (by kernel_rfl) (fun a hE => ?_))
                refine tW 37 274877906943 (fuel := 12) (by kernel_rfl) hE (fun M => tk_skip hE rfl rfl rfl rfl (fun a hE => ?_))
                refine tW 38 549755813887 (fuel := 11) (by kernel_rfl) hE (fun M => tk_skip hE rfl rfl rfl rfl (fun a hE => ?_))
                refine tW 39 1099511627775 (fuel := 10) (by kernel_rfl) hE (fun M => tk_skip hE rfl rfl rfl rfl (fun a hE => ?_))
                refine tW 40 2199023255551 (fuel := 9) (by kernel_rfl) hE (fun M => tk_skip hE rfl rfl rfl rfl (fun a hE => ?_))
                refine tW 41 4398046511103 (fuel := 8) (by kernel_rfl) hE (fun M => tk_skip hE rfl rfl rfl rfl (fun a hE => ?_))
                refine tW 42 8796093022207 (fuel := 7) (by kernel_rfl) hE (fun M => tk_pure (.bool false) hE rfl rfl rfl rfl (fun _ _ _ e => by cases e) (by kernel_rfl) (fun a hE => ?_))
                refine tW 43 17592186044415 (fuel := 6) (by kernel_rfl) hE (fun M => tk_pure (.bool false) hE rfl rfl rfl rfl (fun _ _ _ e => by cases e) (by kernel_rfl) (fun a hE => ?_))
                refine tW 44 35184372088831 (fuel := 5) (by kernel_rfl) hE (fun M => tk_skip hE rfl rfl rfl rfl (fun a hE => ?_))
                refine tW 45 70368744177663 (fuel := 4) (by kernel_rfl) hE (fun M => tk_skip hE rfl rfl rfl rfl (fun a hE => ?_))
                refine tW 46 140737488355327 (fuel := 3) (by kernel_rfl) hE (fun M => tk_skip hE rfl rfl rfl rfl (fun a hE => ?_))
                refine tW 47 281474976710655 (fuel := 2) (by kernel_rfl) hE (fun M => tk_skip hE rfl rfl rfl rfl (fun a hE => ?_))
                refine tW 48 562949953421311 (fuel := 1) (by kernel_rfl) hE (fun M => tk_pure (.bool false) hE rfl rfl rfl rfl (fun _ _ _ e => by cases e) (by kernel_rfl) (fun a hE => ?_))
                refine tW 49 1125899906842623 (fuel := 0) (by kernel_rfl) hE (fun M => tk_pure (.bool false) hE rfl rfl rfl rfl (fun _ _ _ e => by cases e) (by kernel_rfl) (fun a hE => ?_))
                refine doneG (by kernel_rfl) ?_
                have hS := hS.pk .n rfl
                exact ⟨false, D820, hE.weak (by kernel_rfl), hS, (Snap.le.trans (Snap.le.trans (Snap.le.trans (Snap.le.trans (Snap.le.trans le794 le799) le807) le812) le817) le822), hf⟩
              · replace hf := cond_t hb hf
                have hE := hE.know (t := 53) (b := (!r818)) (b' := true) rfl hb
                clear hb
                refine tW 26 134217727 (fuel := 23) (by kernel_rfl) hE (fun M => g_fieldAddr (fo := 76) (ft := 4) 76 rfl rfl rfl rfl hE rfl rfl (by kernel_rfl) rfl (fun a hE => ?_))
                refine tT 27 268435455 (fuel := 22) (by kernel_rfl) hE (tk_load 2 (.bool (r519.fGone)) rfl rfl rfl rfl hE rfl hS rfl rfl (by kernel_rfl) (kL (j := 2) hS rfl List.not_mem_nil) (fun a hE => ?_))
                refine tW 28 536870911 (fuel := 21) (by kernel_rfl) hE (fun M => tk_pure (.bool (r519.fGone)) hE rfl rfl rfl rfl (fun _ _ _ e => by cases e) (by kernel_rfl) (fun a hE => ?_))
                refine tW 29 1073741823 (fuel := 20) (by kernel_rfl) hE (fun M => tk_pure (.bool (r519.fGone)) hE rfl rfl rfl rfl (fun _ _ _ e => by cases e) (by kernel_rfl) (fun a hE => ?_))
                cases hb : r519.fGone
                · replace hf := cond_f hb hf
                  have hE := hE.know (t := 57) (b := r519.fGone) (b' := false) rfl hb
                  clear hb
                  refine tW 30 2147483647 (fuel := 19) (by kernel_rfl) hE (fun M => tk_skip hE rfl rfl rfl rfl (fun a hE => ?_))
                  refine tW 31 4294967295 (fuel := 18) (by kernel_rfl) hE (fun M => tk_skip hE rfl rfl rfl rfl (fun a hE => ?_))
                  refine tW 32 8589934591 (fuel := 17) (by kernel_rfl) hE (fun M => tk_skip hE rfl rfl rfl rfl (fun a hE => ?_))
                  refine tW 33 17179869183 (fuel := 16) (by kernel_rfl) hE (fun M => tk_skip hE rfl rfl rfl rfl (fun a hE => ?_))
                  refine tW 34 34359738367 (fuel := 15) (by kernel_rfl) hE (fun M => tk_skip hE rfl rfl rfl rfl (fun a hE => ?_))
                  refine tW 35 68719476735 (fuel := 14) (by kernel_rfl) hE (fun M => tk_pure (.bool false) hE rfl rfl rfl rfl (fun _ _ _ e => by cases e) (by kernel_rfl) (fun a hE => ?_))
                  refine tW 36 137438953471 (fuel := 13) (by kernel_rfl) hE (fun M => tk_pure (.bool false) hE rfl rfl rfl rfl (fun _ _ _ e => by cases e) (by kernel_rfl) (fun a hE => ?_))
                  refine tW 37 274877906943 (fuel := 12) (by kernel_rfl) hE (fun M => tk_skip hE rfl rfl rfl rfl (fun a hE => ?_))
                  refine tW 38 549755813887 (fuel := 11) (by kernel_rfl) hE (fun M => tk_skip hE rfl rfl rfl rfl (fun a hE => ?_))
                  refine tW 39 1099511627775 (fuel := 10) (by kernel_rfl) hE (fun M => tk_skip hE rfl rfl rfl rfl (fun a hE => ?_))
                  refine tW 40 2199023255551 (fuel := 9) (by kernel_rfl) hE (fun M => tk_skip hE rfl rfl rfl rfl (fun a hE => ?_))
                  refine tW 41 4398046511103 (fuel := 8) (by kernel_rfl) hE (fun M => tk_skip hE rfl rfl rfl rfl (fun a hE => ?_))
                  refine tW 42 8796093022207 (fuel := 7) (by kernel_rfl) hE (fun M => tk_pure (.bool false) hE rfl rfl rfl rfl (fun _ _ _ e => by cases e) (by kernel_rfl) (fun a hE => ?_))
                  refine tW 43 17592186044415 (fuel := 6) (by kernel_rfl) hE (fun M => tk_pure (.bool false) hE rfl rfl rfl rfl (fun _ _ _ e => by cases e) (by kernel_rfl) (fun a hE => ?_))
                  refine tW 44 35184372088831 (fuel := 5) (by kernel_rfl) hE (fun M => tk_skip hE rfl rfl rfl rfl (fun a hE => ?_))
                  refine tW 45 70368744177663 (fuel := 4) (by kernel_rfl) hE (fun M => tk_skip hE rfl rfl rfl rfl (fun a hE => ?_))
                  refine tW 46 140737488355327 (fuel := 3) (by kernel_rfl) hE (fun M => tk_skip hE rfl rfl rfl rfl (fun a hE => ?_))
                  refine tW 47 281474976710655 (fuel := 2) (by kernel_rfl) hE (fun M => tk_skip hE rfl rfl rfl rfl (fun a hE => ?_))
                  refine tW 48 562949953421311 (fuel := 1) (by kernel_rfl) hE (fun M => tk_pure (.bool false) hE rfl rfl rfl rfl (fun _ _ _ e => by cases e) (by kernel_rfl) (fun a hE => ?_))
                  refine tW 49 1125899906842623 (fuel := 0) (by kernel_rfl) hE (fun M => tk_pure (.bool false) hE rfl rfl rfl rfl (fun _ _ _ e => by cases e) (by kernel_rfl) (fun a hE => ?_))
                  refine doneG (by kernel_rfl) ?_
                  have hS := hS.pk .n rfl
                  exact ⟨false, D820, hE.weak (by kernel_rfl), hS, (Snap.le.trans (Snap.le.trans (Snap.le.trans (Snap.le.trans (Snap.le.trans le794 le799) le807) le812) le817) le822), hf⟩
                · replace hf := cond_t hb hf
                  have hE := hE.know (t := 57) (b := r519.fGone) (b' := true) rfl hb
                  clear hb
                  refine tW 30 2147483647 (fuel := 19) (by kernel_rfl) hE (fun M => g_fieldAddr (fo := 77) (ft := 23) 77 rfl rfl rfl rfl hE rfl rfl (by kernel_rfl) rfl (fun a hE => ?_))
                  refine tT 31 4294967295 (fuel := 18) (by kernel_rfl) hE (tk_load 2 (.agg (List.toArray (acells .u8 32 (r519.fCom)))) rfl rfl rfl rfl hE rfl hS rfl rfl (by kernel_rfl) (kL (j := 2) hS rfl List.not_mem_nil) (fun a hE => ?_))
                  refine tT 32 8589934591 (fuel := 17) (by kernel_rfl) hE (tk_load 5 (.agg (List.toArray (c_T_api_Rec (v465) A447 1 A451 1))) rfl rfl rfl rfl hE rfl hS rfl rfl (by kernel_rfl) (kL (j := 5) hS rfl List.not_mem_nil) (fun a hE => ?_))
                  obtain ⟨r823, h824, hf⟩ := bind_some hf
                  refine oG 33 17179869183 (fuel := 16) (by kernel_rfl) (op_call rfl rfl rfl rfl hE rfl rfl rfl rfl (by kernel_rfl) (rec_Com.calls (g := g) h824 (hS.st.fore (L := [])) (h467.mono (Snap.le.trans (Snap.le.trans (Snap.le.trans (Snap.le.trans (Snap.le.trans (Snap.le.trans (Snap.le.trans (Snap.le.trans (Snap.le.trans (Snap.le.trans (Snap.le.trans le478 le480) le494) le502) le516) le529) le794) le799) le807) le812) le817) le822)) (h468.mono (Snap.le.trans (Snap.le.trans (Snap.le.trans (Snap.le.trans (Snap.le.trans (Snap.le.trans (Snap.le.trans (Snap.le.trans (Snap.le.trans (Snap.le.trans (Snap.le.trans (Snap.le.trans le459 le478) le480) le494) le502) le516) le529) le794) le799) le807) le812) le817) le822)) (hG0.mono (Snap.le.trans (Snap.le.trans (Snap.le.trans (Snap.le.trans (Snap.le.trans (Snap.le.trans (Snap.le.trans (Snap.le.trans (Snap.le.trans (Snap.le.trans (Snap.le.trans (Snap.le.trans (Snap.le.trans (Snap.le.trans le446 le456) le459) le478) le480) le494) le502) le516) le529) le794) le799) le807) le812) le817) le822)) (hG1.mono (Snap.le.trans (Snap.le.trans (Snap.le.trans (Snap.le.trans (Snap.le.trans (Snap.le.trans (Snap.le.trans (Snap.le.trans (Snap.le.trans (Snap.le.trans (Snap.le.trans (Snap.le.trans (Snap.le.trans (Snap.le.trans le446 le456) le459) le478) le480) le494) le502) le516) le529) le794) le799) le807) le812) le817) le822))) (fun a v w hR hE => ?_))
                  obtain ⟨D825, rfl, hS1⟩ := hR
                  refine ⟨(hS1.keeps.sub (M' := []) trivial).mono (fun _ h => h), ?_⟩
                  have le827 := hS1.dle
                  have hS := hS.callR hS1 rfl .n
                  clear hS1
                  refine tW 34 34359738367 (fuel := 15) (by kernel_rfl) hE (fun M => tk_bin (r := .bool ((decide (r519.fCom = r823)))) rfl rfl rfl rfl hE rfl rfl rfl (eqagg_run (by kernel_rfl) (EqR_arr (k := .u8) (N := 32) (by kernel_rfl))) (fun a hE => ?_))
                  refine tW 35 68719476735 (fuel := 14) (by kernel_rfl) hE (fun M => tk_pure (.bool ((decide (r519.fCom = r823)))) hE rfl rfl rfl rfl (fun _ _ _ e => by cases e) (by kernel_rfl) (fun a hE => ?_))
                  refine tW 36 137438953471 (fuel := 13) (by kernel_rfl) hE (fun M => tk_pure (.bool ((decide (r519.fCom = r823)))) hE rfl rfl rfl rfl (fun _ _ _ e => by cases e) (by kernel_rfl) (fun a hE => ?_))
                  cases hb : (decide (r519.fCom = r823))
                  · replace hf := cond_f hb hf
                    have hE := hE.know (t := 64) (b := (decide (r519.fCom = r823))) (b' := false) rfl hb
                    clear hb
                    refine tW 37 274877906943 (fuel := 12) (by kernel_rfl) hE (fun M => tk_skip hE rfl rfl rfl rfl (fun a hE => ?_))
                    refine tW 38 549755813887 (fuel := 11) (by kernel_rfl) hE (fun M => tk_skip hE rfl rfl rfl rfl (fun a hE => ?_))
                    refine tW 39 1099511627775 (fuel := 10) (by kernel_rfl) hE (fun M => tk_skip hE rfl rfl rfl rfl (fun a hE => ?_))
                    refine tW 40 2199023255551 (fuel := 9) (by kernel_rfl) hE (fun M => tk_skip hE rfl rfl rfl rfl (fun a hE => ?_))
                    refine tW 41 4398046511103 (fuel := 8) (by kernel_rfl) hE (fun M => tk_skip hE rfl rfl rfl rfl (fun a hE => ?_))
                    refine tW 42 8796093022207 (fuel := 7) (by kernel_rfl) hE (fun M => tk_pure (.bool false) hE rfl rfl rfl rfl (fun _ _ _ e => by cases e) (by kernel_rfl) (fun a hE => ?_))
                    refine tW 43 17592186044415 (fuel := 6) (by kernel_rfl) hE (fun M => tk_pure (.bool false) hE rfl rfl rfl rfl (fun _ _ _ e => by cases e) (by kernel_rfl) (fun a hE => ?_))
                    refine tW 44 35184372088831 (fuel := 5) (by kernel_rfl) hE (fun M => tk_skip hE rfl rfl rfl rfl (fun a hE => ?_))
                    refine tW 45 70368744177663 (fuel := 4) (by kernel_rfl) hE (fun M => tk_skip hE rfl rfl rfl rfl (fun a hE => ?_))
                    refine tW 46 140737488355327 (fuel := 3) (by kernel_rfl) hE (fun M => tk_skip hE rfl rfl rfl rfl (fun a hE => ?_))
                    refine tW 47 281474976710655 (fuel := 2) (by kernel_rfl) hE (fun M => tk_skip hE rfl rfl rfl rfl (fun a hE => ?_))
                    refine tW 48 562949953421311 (fuel := 1) (by kernel_rfl) hE (fun M => tk_pure (.bool false) hE rfl rfl rfl rfl (fun _ _ _ e => by cases e) (by kernel_rfl) (fun a hE => ?_))
                    refine tW 49 1125899906842623 (fuel := 0) (by kernel_rfl) hE (fun M => tk_pure (.bool false) hE rfl rfl rfl rfl (fun _ _ _ e => by cases e) (by kernel_rfl) (fun a hE => ?_))
                    refine doneG (by kernel_rfl) ?_
                    have hS := hS.pk .n rfl
                    exact ⟨false, D825, hE.weak (by kernel_rfl), hS, (Snap.le.trans (Snap.le.trans (Snap.le.trans (Snap.le.trans (Snap.le.trans (Snap.le.trans le794 le799) le807) le812) le817) le822) le827), hf⟩
                  · replace hf := cond_t hb hf
                    have hE := hE.know (t := 64) (b := (decide (r519.fCom = r823))) (b' := true) rfl hb
                    clear hb
                    refine tT 37 274877906943 (fuel := 12) (by kernel_rfl) hE (tk_load 5 (.agg (List.toArray (c_T_api_Rec (v465) A447 1 A451 1))) rfl rfl rfl rfl hE rfl hS rfl rfl (by kernel_rfl) (kL (j := 5) hS rfl List.not_mem_nil) (fun a hE => ?_))
                    refine tT 39 824633720831 (fuel := 11) (by kernel_rfl) hE (tk_load 2 (.agg (List.toArray (c_T_api_Rec (r519) A523 c524 A526 c527))) rfl rfl rfl rfl hE rfl hS rfl rfl (by kernel_rfl) (kL (j := 2) hS rfl List.not_mem_nil) (fun a hE => ?_))
                    obtain ⟨r828, h829, hf⟩ := bind_some hf
                    refine oG 38 1099511627775 (fuel := 10) (by kernel_rfl) (op_call rfl rfl rfl rfl hE rfl rfl rfl rfl (by kernel_rfl) (rec_Sealed.calls (g := g) h829 (hS.st.fore (L := [])) (h467.mono (Snap.le.trans (Snap.le.trans (Snap.le.trans (Snap.le.trans (Snap.le.trans (Snap.le.trans (Snap.le.trans (Snap.le.trans (Snap.le.trans (Snap.le.trans (Snap.le.trans (Snap.le.trans le478 le480) le494) le502) le516) le529) le794) le799) le807) le812) le817) le822) le827)) (h468.mono (Snap.le.trans (Snap.le.trans (Snap.le.trans (Snap.le.trans (Snap.le.trans (Snap.le.trans (Snap.le.trans (Snap.le.trans (Snap.le.trans (Snap.le.trans (Snap.le.trans (Snap.le.trans (Snap.le.trans le459 le478) le480) le494) le502) le516) le529) le794) le799) le807) le812) le817) le822) le827)) (hG0.mono (Snap.le.trans (Snap.le.trans (Snap.le.trans (Snap.le.trans (Snap.le.trans (Snap.le.trans (Snap.le.trans (Snap.le.trans (Snap.le.trans (Snap.le.trans (Snap.le.trans (Snap.le.trans (Snap.le.trans (Snap.le.trans (Snap.le.trans le446 le456) le459) le478) le480) le494) le502) le516) le529) le794) le799) le807) le812) le817) le822) le827)) (hG1.mono (Snap.le.trans (Snap.le.trans (Snap.le.trans (Snap.le.trans (Snap.le.trans (Snap.le.trans (Snap.le.trans (Snap.le.trans (Snap.le.trans (Snap.le.trans (Snap.le.trans (Snap.le.trans (Snap.le.trans (Snap.le.trans (Snap.le.trans le446 le456) le459) le478) le480) le494) le502) le516) le529) le794) le799) le807) le812) le817) le822) le827))) (fun a v w hR hE => ?_))
                    obtain ⟨D830, A832, c833, q834, rfl, hS1, h835⟩ := hR
                    refine ⟨(hS1.keeps.sub (M' := []) trivial).mono (fun _ h => h), ?_⟩
                    have le837 := hS1.dle
                    have hS := hS.callR hS1 rfl (.c .n)
                    clear hS1
                    obtain ⟨r838, h839, hf⟩ := bind_some hf
                    refine oG 40 2199023255551 (fuel := 9) (by kernel_rfl) (op_call rfl rfl rfl rfl hE rfl rfl rfl rfl (by kernel_rfl) (rec_Sealed.calls (g := g) h839 (hS.st.fore (L := [])) (h525.mono (Snap.le.trans (Snap.le.trans (Snap.le.trans (Snap.le.trans (Snap.le.trans (Snap.le.trans (Snap.le.trans le794 le799) le807) le812) le817) le822) le827) le837)) (h528.mono (Snap.le.trans (Snap.le.trans (Snap.le.trans (Snap.le.trans (Snap.le.trans (Snap.le.trans (Snap.le.trans le794 le799) le807) le812) le817) le822) le827) le837)) (hG0.mono (Snap.le.trans (Snap.le.trans (Snap.le.trans (Snap.le.trans (Snap.le.trans (Snap.le.trans (Snap.le.trans (Snap.le.trans (Snap.le.trans (Snap.le.trans (Snap.le.trans (Snap.le.trans (Snap.le.trans (Snap.le.trans (Snap.le.trans (Snap.le.trans le446 le456) le459) le478) le480) le494) le502) le516) le529) le794) le799) le807) le812) le817) le822) le827) le837)) (hG1.mono (Snap.le.trans (Snap.le.trans (Snap.le.trans (Snap.le.trans (Snap.le.trans (Snap.le.trans (Snap.le.trans (Snap.le.trans (Snap.le.trans (Snap.le.trans (Snap.le.trans (Snap.le.trans (Snap.le.trans (Snap.le.trans (Snap.le.trans (Snap.le.trans le446 le456) le459) le478) le480) le494) le502) le516) le529) le794) le799) le807) le812) le817) le822) le827) le837))) (fun a v w hR hE => ?_))
                    obtain ⟨D840, A842, c843, q844, rfl, hS1, h845⟩ := hR
                    refine ⟨(hS1.keeps.sub (M' := []) trivial).mono (fun _ h => h), ?_⟩
                    have le847 := hS1.dle
                    have hS := hS.callR hS1 rfl (.c .n)
                    clear hS1
                    have hS := hS.pk (.c 1 rfl (.c 0 rfl (.c 2 rfl (.c 3 rfl (.c 4 rfl (.c 5 rfl (.c 6 rfl (.c 7 rfl .n)))))))) rfl
                    obtain ⟨D848, q851, le849, hS, h852, h850⟩ := hS.lent (h835.mono le847)
                    have hS := hS.pk (.c 1 rfl (.c 0 rfl (.c 2 rfl (.c 3 rfl (.c 4 rfl (.c 5 rfl (.c 6 rfl (.c 7 rfl .n)))))))) rfl
                    obtain ⟨D853, q856, le854, hS, h857, h855⟩ := hS.lent (h845.mono le849)
                    obtain ⟨r858, h859, hf⟩ := bind_some hf
                    refine oG 41 4398046511103 (fuel := 8) (by kernel_rfl) (op_call rfl rfl rfl rfl hE rfl rfl rfl rfl (by kernel_rfl) (inspeximusref01_Bytes.calls (g := g) h859 (hS.st.fore (L := [])) (h850.mono le854) h855) (fun a v w hR hE => ?_))
                    obtain ⟨D860, rfl, hS1⟩ := hR
                    refine ⟨(hS1.keeps.sub (M' := []) trivial).mono (fun _ h => h), ?_⟩
                    have le862 := hS1.dle
                    have hS := hS.callR hS1 rfl .n
                    clear hS1
                    refine tW 42 8796093022207 (fuel := 7) (by kernel_rfl) hE (fun M => tk_pure (.bool (r858)) hE rfl rfl rfl rfl (fun _ _ _ e => by cases e) (by kernel_rfl) (fun a hE => ?_))
                    refine tW 43 17592186044415 (fuel := 6) (by kernel_rfl) hE (fun M => tk_pure (.bool (r858)) hE rfl rfl rfl rfl (fun _ _ _ e => by cases e) (by kernel_rfl) (fun a hE => ?_))
                    cases hb : r858
                    · replace hf := cond_f hb hf
                      have hE := hE.know (t := 71) (b := r858) (b' := false) rfl hb
                      clear hb
                      refine tW 44 35184372088831 (fuel := 5) (by kernel_rfl) hE (fun M => tk_skip hE rfl rfl rfl rfl (fun a hE => ?_))
                      refine tW 45 70368744177663 (fuel := 4) (by kernel_rfl) hE (fun M => tk_skip hE rfl rfl rfl rfl (fun a hE => ?_))
                      refine tW 46 140737488355327 (fuel := 3) (by kernel_rfl) hE (fun M => tk_skip hE rfl rfl rfl rfl (fun a hE => ?_))
                      refine tW 47 281474976710655 (fuel := 2) (by kernel_rfl) hE (fun M => tk_skip hE rfl rfl rfl rfl (fun a hE => ?_))
                      refine tW 48 562949953421311 (fuel := 1) (by kernel_rfl) hE (fun M => tk_pure (.bool false) hE rfl rfl rfl rfl (fun _ _ _ e => by cases e) (by kernel_rfl) (fun a hE => ?_))
                      refine tW 49 1125899906842623 (fuel := 0) (by kernel_rfl) hE (fun M => tk_pure (.bool false) hE rfl rfl rfl rfl (fun _ _ _ e => by cases e) (by kernel_rfl) (fun a hE => ?_))
                      refine doneG (by kernel_rfl) ?_
                      have hS := hS.pk .n rfl
                      exact ⟨false, D860, hE.weak (by kernel_rfl), hS, (Snap.le.trans (Snap.le.trans (Snap.le.trans (Snap.le.trans (Snap.le.trans (Snap.le.trans (Snap.le.trans (Snap.le.trans (Snap.le.trans (Snap.le.trans (Snap.le.trans le794 le799) le807) le812) le817) le822) le827) le837) le847) le849) le854) le862), hf⟩
                    · replace hf := cond_t hb hf
                      have hE := hE.know (t := 71) (b := r858) (b' := true) rfl hb
                      clear hb
                      refine tT 44 35184372088831 (fuel := 5) (by kernel_rfl) hE (tk_load 4 (.agg (List.toArray (c_T_api_Rec (r519) A523 c524 A526 c527))) rfl rfl rfl rfl hE rfl hS rfl rfl (by kernel_rfl) (kL (j := 4) hS rfl List.not_mem_nil) (fun a hE => ?_))
                      obtain ⟨r863, h864, hf⟩ := bind_some hf
                      refine oG 45 70368744177663 (fuel := 4) (by kernel_rfl) (op_call rfl rfl rfl rfl hE rfl rfl rfl rfl (by kernel_rfl) (rec_Open.calls (g := g) h864 (hS.st.fore (L := [])) (h525.mono (Snap.le.trans (Snap.le.trans (Snap.le.trans (Snap.le.trans (Snap.le.trans (Snap.le.trans (Snap.le.trans (Snap.le.trans (Snap.le.trans (Snap.le.trans (Snap.le.trans le794 le799) le807) le812) le817) le822) le827) le837) le847) le849) le854) le862)) (h528.mono (Snap.le.trans (Snap.le.trans (Snap.le.trans (Snap.le.trans (Snap.le.trans (Snap.le.trans (Snap.le.trans (Snap.le.trans (Snap.le.trans (Snap.le.trans (Snap.le.trans le794 le799) le807) le812) le817) le822) le827) le837) le847) le849) le854) le862))) (fun a v w hR hE => ?_))
                      obtain ⟨D865, A867, c868, q869, rfl, hS1, h870⟩ := hR
                      refine ⟨(hS1.keeps.sub (M' := []) trivial).mono (fun _ h => h), ?_⟩
                      have le872 := hS1.dle
                      have hS := hS.callR hS1 rfl (.c .n)
                      clear hS1
                      refine tW 46 140737488355327 (fuel := 3) (by kernel_rfl) hE (fun M => tk_pure (.int .i64 (((List.length (r863) : Nat) : Int))) hE rfl rfl rfl rfl (fun _ _ _ e => by cases e) (by kernel_rfl) (fun a hE => ?_))
                      refine tW 47 281474976710655 (fuel := 2) (by kernel_rfl) hE (fun M => tk_pure (.bool ((decide (((List.length (r863) : Nat) : Int) = (38 : Int))))) hE rfl rfl rfl rfl (fun _ _ _ e => by cases e) (by kernel_rfl) (fun a hE => ?_))
                      refine tW 48 562949953421311 (fuel := 1) (by kernel_rfl) hE (fun M => tk_pure (.bool ((decide (((List.length (r863) : Nat) : Int) = (38 : Int))))) hE rfl rfl rfl rfl (fun _ _ _ e => by cases e) (by kernel_rfl) (fun a hE => ?_))
                      refine tW 49 1125899906842623 (fuel := 0) (by kernel_rfl) hE (fun M => tk_pure (.bool ((decide (((List.length (r863) : Nat) : Int) = (38 : Int))))) hE rfl rfl rfl rfl (fun _ _ _ e => by cases e) (by kernel_rfl) (fun a hE => ?_))
                      refine doneG (by kernel_rfl) ?_
                      have hS := hS.pk .n rfl
                      exact ⟨(decide (((List.length (r863) : Nat) : Int) = (38 : Int))), D865, hE.weak (by kernel_rfl), hS, (Snap.le.trans (Snap.le.trans (Snap.le.trans (Snap.le.trans (Snap.le.trans (Snap.le.trans (Snap.le.trans (Snap.le.trans (Snap.le.trans (Snap.le.trans (Snap.le.trans (Snap.le.trans le794 le799) le807) le812) le817) le822) le827) le837) le847) le849) le854) le862) le872), hf⟩
  · clear hE hS
    rintro a w ⟨y700, D701, hE, hS, le702, hf⟩
    replace hf := hj704 _ hf
    clear hj704
    refine wpIn_ret ?_
    obtain rfl := Option.some.inj hf
    repeat (with_reducible first | refine then_ret ?_ | refine block_ret ?_ | refine qx_ret ?_)
    refine ret_gen ([.bool (y700)]) hE (by rw [show Tryd.f9.results.toList = [.tmp 0] from rfl]; exact ⟨_, _, rfl, rfl, rfl⟩) ?_
    exact ⟨_, rfl, D701, rfl, hS⟩

set_option maxRecDepth 100000 in
set_option maxHeartbeats 4000000 in
theorem inspeximusref04_Great.calls {K : Nat} {g w0 : World} {D0 : Snap} {x1 : T_api_Rec} {A2 : Option Addr} {c3 : Nat} {A5 : Option Addr} {c6 : Nat} {r : (Bool)} (hf : inspeximusref04_Great.f K x1 = some r) (hS0 : St g w0 D0 []) (h4 : Sl kd_T_api_Step D0 A2 c3 (x1.fSteps)) (h7 : Sl (kdInt .u8) D0 A5 c6 (x1.fData)) :
    CallsIn (Fw none) 0 Tryd.prog 10 (List.toArray [.agg (List.toArray (c_T_api_Rec (x1) A2 c3 A5 c6))]) w0 (fun e w' => ∃ v, e = .returned v ∧ ∃ (D1 : Snap), v = .bool (r) ∧ Stp g w0 D0 [] w' D1 []) := by
  unfold inspeximusref04_Great.f at hf
  have hS := Stp.refl hS0
  clear hS0
  refine calls_body (n := 13) Tryd.func10 rfl Tryd.ntmps10 rfl (fun a hE => ?_)
  have hE : Env a 13 [] [(0, .agg (List.toArray (c_T_api_Rec (x1) A2 c3 A5 c6)))] := hE
  refine wpIn_seq ?_
  refine region_at ?_
  refine at_op (op_box rfl rfl rfl rfl hE rfl hS rfl (fun a b10 w _ hE hS => ?_)) rfl
  refine segN 1 (j := 2) [(2, .bool false)] hE (by kernel_rfl) rfl (fun a hE => ?_)
  refine at_end rfl ?_
  refine wpIn_seq ?_
  refine region_at ?_
  refine at_op (op_tk hE (g_fieldAddr (fo := 42) (ft := 24) 42 rfl rfl rfl rfl hE rfl rfl (by kernel_rfl) rfl (fun a hE => ?_))) rfl
  refine at_op (op_tk hE (tk_load 0 (.slice A2 (List.length (x1.fSteps)) c3) rfl rfl rfl rfl hE rfl hS rfl rfl (by kernel_rfl) (kL (j := 0) hS rfl List.not_mem_nil) (fun a hE => ?_))) rfl
  refine segN 3 (j := 5) [(7, .bool ((decide ((30 : Int) < ((List.length (x1.fSteps) : Nat) : Int)))))] hE (by kernel_rfl) rfl (fun a hE => ?_)
  cases hb : (decide ((30 : Int) < ((List.length (x1.fSteps) : Nat) : Int)))
  · replace hf := cond_f hb hf
    have hE := hE.know (t := 7) (b := (decide ((30 : Int) < ((List.length (x1.fSteps) : Nat) : Int)))) (b' := false) rfl hb
    clear hb
    refine at_op (op_tk hE (g_fieldAddr (fo := 43) (ft := 25) 43 rfl rfl rfl rfl hE rfl rfl (by kernel_rfl) rfl (fun a hE => ?_))) rfl
    refine at_op (op_tk hE (tk_load 0 (.slice A5 (List.length (x1.fData)) c6) rfl rfl rfl rfl hE rfl hS rfl rfl (by kernel_rfl) (kL (j := 0) hS rfl List.not_mem_nil) (fun a hE => ?_))) rfl
    refine segN 4 (j := 11) [(2, .bool ((decide ((300 : Int) < ((List.length (x1.fData) : Nat) : Int)))))] hE (by kernel_rfl) rfl (fun a hE => ?_)
    refine at_end rfl ?_
    refine wpIn_ret ?_
    obtain rfl := Option.some.inj hf
    repeat (with_reducible first | refine then_ret ?_ | refine block_ret ?_ | refine qx_ret ?_)
    refine ret_gen ([.bool ((decide ((300 : Int) < ((List.length (x1.fData) : Nat) : Int))))]) hE (by rw [show Tryd.f10.results.toList = [.tmp 2] from rfl]; exact ⟨_, _, rfl, rfl, rfl⟩) ?_
    have hS := hS.pk .n rfl
    exact ⟨_, rfl, D0, rfl, hS⟩
  · replace hf := cond_t hb hf
    have hE := hE.know (t := 7) (b := (decide ((30 : Int) < ((List.length (x1.fSteps) : Nat) : Int)))) (b' := true) rfl hb
    clear hb
    refine segN 6 (j := 11) [(2, .bool true)] hE (by kernel_rfl) rfl (fun a hE => ?_)
    refine at_end rfl ?_
    refine wpIn_ret ?_
    obtain rfl := Option.some.inj hf
    repeat (with_reducible first | refine then_ret ?_ | refine block_ret ?_ | refine qx_ret ?_)
    refine ret_gen ([.bool true]) hE (by rw [show Tryd.f10.results.toList = [.tmp 2] from rfl]; exact ⟨_, _, rfl, rfl, rfl⟩) ?_
    have hS := hS.pk .n rfl
    exact ⟨_, rfl, D0, rfl, hS⟩

end Go.Proofs.YtlcnliiampfigaaDoor
