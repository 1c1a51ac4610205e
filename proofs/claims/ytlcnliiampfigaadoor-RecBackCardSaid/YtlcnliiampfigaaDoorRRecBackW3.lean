/-
  Proved, text by text: a call of a function of the cut comes to what its plain function computes.
  Conditions: those that each theorem names.
-/
import Derived.Test.YtlcnliiampfigaaDoorProg
import Derived.Test.YtlcnliiampfigaaDoorRRecBackW2
set_option linter.unusedVariables false
namespace Go.Proofs.YtlcnliiampfigaaDoor
open Go Go.Sep

set_option maxRecDepth 100000 in
set_option maxHeartbeats 4000000 in
theorem inspeximuslaw04_RecBack.calls {K : Nat} {g w0 : World} {D0 : Snap} {x1 : T_api_Rec} {x8 : (List Int)} {A2 : Option Addr} {c3 : Nat} {A5 : Option Addr} {c6 : Nat} {A9 : Option Addr} {c10 : Nat} {r : (Bool)} (hf : inspeximuslaw04_RecBack.f K x1 x8 = some r) (hS0 : St g w0 D0 []) (h4 : Sl kd_T_api_Step D0 A2 c3 (x1.fSteps)) (h7 : Sl (kdInt .u8) D0 A5 c6 (x1.fData)) (h11 : Sl (kdInt .u8) D0 A9 c10 (x8)) (hG0 : Cell (kdArr .u32 8) D0 0 0 gl_First) (hG1 : Cell (kdArr .u32 64) D0 1 0 gl_K) :
    CallsIn (Fw none) 0 Tryd.prog 8 (List.toArray [.agg (List.toArray (c_T_api_Rec (x1) A2 c3 A5 c6)), .slice A9 (List.length (x8)) c10]) w0 (fun e w' => ∃ v, e = .returned v ∧ ∃ (D1 : Snap), v = .bool (r) ∧ Stp g w0 D0 [] w' D1 []) := by
  unfold inspeximuslaw04_RecBack.f at hf
  have hS := Stp.refl hS0
  clear hS0
  refine calls_body (n := 101) Tryd.func8 rfl Tryd.ntmps8 rfl (fun a hE => ?_)
  have hE : Env a 101 [] [(0, .agg (List.toArray (c_T_api_Rec (x1) A2 c3 A5 c6))), (1, .slice A9 (List.length (x8)) c10)] := hE
  refine wpIn_seq ?_
  refine region_at ?_
  refine at_op (op_box rfl rfl rfl rfl hE rfl hS rfl (fun a b690 w _ hE hS => ?_)) rfl
  refine segN 1 (j := 2) [(4, .bool false)] hE (by kernel_rfl) rfl (fun a hE => ?_)
  refine at_end rfl ?_
  refine wpIn_seq ?_
  refine wpIn_seq ?_
  refine region_at ?_
  obtain ⟨r697, h698, hf⟩ := bind_some hf
  refine at_op (op_call rfl rfl rfl rfl hE rfl rfl rfl rfl (by kernel_rfl) (inspeximuslaw04_alive.calls (g := g) h698 (hS.st.fore (L := [])) hG0 hG1) (fun a v w hR hE => ?_)) rfl
  obtain ⟨D699, rfl, hS1⟩ := hR
  have le701 := hS1.dle
  have hS := hS.callR hS1 rfl .n
  clear hS1
  refine segN 1 (j := 2) [(11, .bool ((!r697)))] hE (by kernel_rfl) rfl (fun a hE => ?_)
  refine at_end rfl ?_
  refine cond_split hE (b := (!r697)) rfl (fun hb => ?_) (fun hb => ?_)
  · replace hf := cond_t hb hf
    clear hb
    refine wpIn_seq ?_
    refine region_at ?_
    refine segN 1 (j := 1) [(4, .bool false)] hE (by kernel_rfl) rfl (fun a hE => ?_)
    refine at_end rfl ?_
    refine wpIn_ret ?_
    obtain rfl := Option.some.inj hf
    repeat (with_reducible first | refine then_ret ?_ | refine block_ret ?_ | refine qx_ret ?_)
    refine ret_gen ([.bool false]) hE (by rw [show Tryd.f8.results.toList = [.tmp 4] from rfl]; exact ⟨_, _, rfl, rfl, rfl⟩) ?_
    have hS := hS.pk .n rfl
    exact ⟨_, rfl, D699, rfl, hS⟩
  · replace hf := cond_f hb hf
    clear hb
    refine wpIn_skip ?_
    refine wpIn_seq ?_
    obtain ⟨j1356, hj1357, hf⟩ := jn_elim hf
    refine seq_join (fun a w => ∃ (y737 : Bool), ∃ (D738 : Snap), Env a 101 [] [(1, .slice A9 (List.length (x8)) c10), (2, .pointer (some ⟨b690, 0, none⟩)), (23, .bool (y737))] ∧ Stp g w0 D0 [] w D738 [bx b690 27 (c_T_api_Rec (x1) A2 c3 A5 c6)] ∧ Snap.le D699 D738 ∧ j1356 y737 = some r) ?_ ?_
    · clear hj1357
      refine region_at ?_
      refine at_op (op_tk hE (tk_load 0 (.agg (List.toArray (c_T_api_Rec (x1) A2 c3 A5 c6))) rfl rfl rfl rfl hE rfl hS rfl rfl (by kernel_rfl) (kL (j := 0) hS rfl List.not_mem_nil) (fun a hE => ?_))) rfl
      obtain ⟨r1358, h1359, hf⟩ := bind_some hf
      refine at_op (op_call rfl rfl rfl rfl hE rfl rfl rfl rfl (by kernel_rfl) (inspeximusref04_Great.calls (g := g) h1359 (hS.st.fore (L := [])) (h4.mono le701) (h7.mono le701)) (fun a v w hR hE => ?_)) rfl
      obtain ⟨D1360, rfl, hS1⟩ := hR
      have le1362 := hS1.dle
      have hS := hS.callR hS1 rfl .n
      clear hS1
      refine segN 1 (j := 3) [(14, .bool (r1358))] hE (by kernel_rfl) rfl (fun a hE => ?_)
      cases hb : r1358
      · replace hf := cond_f hb hf
        have hE := hE.know (t := 14) (b := r1358) (b' := false) rfl hb
        clear hb
        refine segN 5 (j := 8) [(19, .bool ((decide ((100 : Int) < ((List.length (x8) : Nat) : Int)))))] hE (by kernel_rfl) rfl (fun a hE => ?_)
        cases hb : (decide ((100 : Int) < ((List.length (x8) : Nat) : Int)))
        · replace hf := cond_f hb hf
          have hE := hE.know (t := 19) (b := (decide ((100 : Int) < ((List.length (x8) : Nat) : Int)))) (b' := false) rfl hb
          clear hb
          refine at_op (op_tk hE (tk_load 0 (.agg (List.toArray (c_T_api_Rec (x1) A2 c3 A5 c6))) rfl rfl rfl rfl hE rfl hS rfl rfl (by kernel_rfl) (kL (j := 0) hS rfl List.not_mem_nil) (fun a hE => ?_))) rfl
          obtain ⟨r1363, h1364, hf⟩ := bind_some hf
          refine at_op (op_call rfl rfl rfl rfl hE rfl rfl rfl rfl (by kernel_rfl) (rec_Right.calls (g := g) h1364 (hS.st.fore (L := [])) (h4.mono (Snap.le.trans le701 le1362)) (h7.mono (Snap.le.trans le701 le1362))) (fun a v w hR hE => ?_)) rfl
          obtain ⟨D1365, rfl, hS1⟩ := hR
          have le1367 := hS1.dle
          have hS := hS.callR hS1 rfl .n
          clear hS1
          refine segN 2 (j := 12) [(23, .bool ((!r1363)))] hE (by kernel_rfl) rfl (fun a hE => ?_)
          refine at_end rfl ?_
          exact ⟨(!r1363), D1365, hE.weak (by kernel_rfl), hS, (Snap.le.trans le1362 le1367), hf⟩
        · replace hf := cond_t hb hf
          have hE := hE.know (t := 19) (b := (decide ((100 : Int) < ((List.length (x8) : Nat) : Int)))) (b' := true) rfl hb
          clear hb
          refine segN 4 (j := 12) [(23, .bool true)] hE (by kernel_rfl) rfl (fun a hE => ?_)
          refine at_end rfl ?_
          exact ⟨true, D1360, hE.weak (by kernel_rfl), hS, le1362, hf⟩
      · replace hf := cond_t hb hf
        have hE := hE.know (t := 14) (b := r1358) (b' := true) rfl hb
        clear hb
        refine segN 9 (j := 12) [(23, .bool true)] hE (by kernel_rfl) rfl (fun a hE => ?_)
        refine at_end rfl ?_
        exact ⟨true, D1360, hE.weak (by kernel_rfl), hS, le1362, hf⟩
    · clear hE hS
      rintro a w ⟨y737, D738, hE, hS, le739, hf⟩
      replace hf := hj1357 _ hf
      clear hj1357
      refine cond_split hE (b := y737) rfl (fun hb => ?_) (fun hb => ?_)
      · replace hf := cond_t hb hf
        clear hb
        refine wpIn_seq ?_
        refine region_at ?_
        refine segN 1 (j := 1) [(4, .bool true)] hE (by kernel_rfl) rfl (fun a hE => ?_)
        refine at_end rfl ?_
        refine wpIn_ret ?_
        obtain rfl := Option.some.inj hf
        repeat (with_reducible first | refine then_ret ?_ | refine block_ret ?_ | refine qx_ret ?_)
        refine ret_gen ([.bool true]) hE (by rw [show Tryd.f8.results.toList = [.tmp 4] from rfl]; exact ⟨_, _, rfl, rfl, rfl⟩) ?_
        have hS := hS.pk .n rfl
        exact ⟨_, rfl, D738, rfl, hS⟩
      · replace hf := cond_f hb hf
        clear hb
        refine wpIn_skip ?_
        refine wpIn_seq ?_
        refine region_at ?_
        refine at_op (op_tk hE (tk_load 0 (.agg (List.toArray (c_T_api_Rec (x1) A2 c3 A5 c6))) rfl rfl rfl rfl hE rfl hS rfl rfl (by kernel_rfl) (kL (j := 0) hS rfl List.not_mem_nil) (fun a hE => ?_))) rfl
        obtain ⟨r740, h741, hf⟩ := bind_some hf
        refine at_op (op_call rfl rfl rfl rfl hE rfl rfl rfl rfl (by kernel_rfl) (rec_Open.calls (g := g) h741 (hS.st.fore (L := [])) (h4.mono (Snap.le.trans le701 le739)) (h7.mono (Snap.le.trans le701 le739))) (fun a v w hR hE => ?_)) rfl
        obtain ⟨D742, A744, c745, q746, rfl, hS1, h747⟩ := hR
        have le749 := hS1.dle
        have hS := hS.callR hS1 rfl (.c .n)
        clear hS1
        refine segN 1 (j := 3) [(5, .slice A744 (List.length (r740)) c745)] hE (by kernel_rfl) rfl (fun a hE => ?_)
        refine at_end rfl ?_
        refine wpIn_seq ?_
        refine region_at ?_
        refine segN 1 (j := 1) [(27, .slice A744 (List.length (r740)) c745)] hE (by kernel_rfl) rfl (fun a hE => ?_)
        obtain ⟨D750, q753, le751, hS, h754, h752⟩ := hS.lent h747
        obtain ⟨r755, h756, hf⟩ := bind_some hf
        refine at_op (op_call rfl rfl rfl rfl hE rfl rfl rfl rfl (by kernel_rfl) (rec_Get.calls (g := g) h756 (hS.st.fore (L := [])) h752) (fun a v w hR hE => ?_)) rfl
        obtain ⟨D757, A759, c760, A762, c763, rfl, hS1, h761, h764⟩ := hR
        have le765 := hS1.dle
        have hS := hS.callR hS1 rfl .n
        clear hS1
        refine segN 3 (j := 5) [(29, .agg (List.toArray (c_T_api_Rec (r755.1) A759 c760 A762 c763))), (30, .int .i64 (r755.2))] hE (by kernel_rfl) rfl (fun a hE => ?_)
        refine at_op (op_alloc (z := .agg (List.toArray (c_T_api_Rec (z_T_api_Rec) none 0 none 0))) rfl rfl rfl rfl hE rfl hS (by kernel_rfl) (fun a b766 w _ hE hS => ?_)) rfl
        refine at_op (op_store (v := .agg (List.toArray (c_T_api_Rec (r755.1) A759 c760 A762 c763))) (c_T_api_Rec (r755.1) A759 c760 A762 c763) rfl rfl rfl rfl hE hS rfl rfl (by kernel_rfl) (by kernel_rfl) (by kernel_rfl) (by kernel_rfl) (by kernel_rfl) (fun a w _ hE hS => ?_)) rfl
        refine segN 1 (j := 8) [(7, .int .i64 (r755.2))] hE (by kernel_rfl) rfl (fun a hE => ?_)
        refine at_end rfl ?_
        refine wpIn_seq ?_
        obtain ⟨j1329, hj1330, hf⟩ := jn_elim hf
        refine seq_join (fun a w => ∃ (y848 : Bool), ∃ (D849 : Snap), Env a 101 [] [(1, .slice A9 (List.length (x8)) c10), (2, .pointer (some ⟨b690, 0, none⟩)), (5, .slice A744 (List.length (r740)) c745), (45, .bool (y848))] ∧ Stp g w0 D0 [] w D849 [bx b690 27 (c_T_api_Rec (x1) A2 c3 A5 c6), q753] ∧ Snap.le D757 D849 ∧ j1329 y848 = some r) ?_ ?_
        · clear hj1330
          refine region_at ?_
          refine segN 3 (j := 3) [(33, .bool ((!decide (r755.2 = (0 : Int)))))] hE (by kernel_rfl) rfl (fun a hE => ?_)
          cases hb : (!decide (r755.2 = (0 : Int)))
          · replace hf := cond_f hb hf
            have hE := hE.know (t := 33) (b := (!decide (r755.2 = (0 : Int)))) (b' := false) rfl hb
            clear hb
            refine at_op (op_tk hE (tk_load 2 (.agg (List.toArray (c_T_api_Rec (x1) A2 c3 A5 c6))) rfl rfl rfl rfl hE rfl hS rfl rfl (by kernel_rfl) (kL (j := 2) hS rfl List.not_mem_nil) (fun a hE => ?_))) rfl
            refine at_op (op_tk hE (tk_load 0 (.agg (List.toArray (c_T_api_Rec (r755.1) A759 c760 A762 c763))) rfl rfl rfl rfl hE rfl hS rfl rfl (by kernel_rfl) (kL (j := 0) hS rfl List.not_mem_nil) (fun a hE => ?_))) rfl
            obtain ⟨r1331, h1332, hf⟩ := bind_some hf
            refine at_op (op_call rfl rfl rfl rfl hE rfl rfl rfl rfl (by kernel_rfl) (rec_Same.calls (g := g) h1332 (hS.st.fore (L := [])) (h4.mono (Snap.le.trans (Snap.le.trans (Snap.le.trans (Snap.le.trans le701 le739) le749) le751) le765)) (h7.mono (Snap.le.trans (Snap.le.trans (Snap.le.trans (Snap.le.trans le701 le739) le749) le751) le765)) h761 h764) (fun a v w hR hE => ?_)) rfl
            obtain ⟨D1333, rfl, hS1⟩ := hR
            have le1335 := hS1.dle
            have hS := hS.callR hS1 rfl .n
            clear hS1
            refine segN 3 (j := 9) [(39, .bool ((!r1331)))] hE (by kernel_rfl) rfl (fun a hE => ?_)
            cases hb : (!r1331)
            · replace hf := cond_f hb hf
              have hE := hE.know (t := 39) (b := (!r1331)) (b' := false) rfl hb
              clear hb
              refine at_op (op_tk hE (tk_load 0 (.agg (List.toArray (c_T_api_Rec (r755.1) A759 c760 A762 c763))) rfl rfl rfl rfl hE rfl hS rfl rfl (by kernel_rfl) (kL (j := 0) hS rfl List.not_mem_nil) (fun a hE => ?_))) rfl
              obtain ⟨r1336, h1337, hf⟩ := bind_some hf
              refine at_op (op_call rfl rfl rfl rfl hE rfl rfl rfl rfl (by kernel_rfl) (rec_Open.calls (g := g) h1337 (hS.st.fore (L := [])) (h761.mono le1335) (h764.mono le1335)) (fun a v w hR hE => ?_)) rfl
              obtain ⟨D1338, A1340, c1341, q1342, rfl, hS1, h1343⟩ := hR
              have le1345 := hS1.dle
              have hS := hS.callR hS1 rfl (.c .n)
              clear hS1
              refine segN 1 (j := 12) [(42, .slice A744 (List.length (r740)) c745)] hE (by kernel_rfl) rfl (fun a hE => ?_)
              obtain ⟨D1346, q1349, le1347, hS, h1350, h1348⟩ := hS.lent h1343
              obtain ⟨r1351, h1352, hf⟩ := bind_some hf
              refine at_op (op_call rfl rfl rfl rfl hE rfl rfl rfl rfl (by kernel_rfl) (inspeximusref01_Bytes.calls (g := g) h1352 (hS.st.fore (L := [])) h1348 (h752.mono (Snap.le.trans (Snap.le.trans (Snap.le.trans le765 le1335) le1345) le1347))) (fun a v w hR hE => ?_)) rfl
              obtain ⟨D1353, rfl, hS1⟩ := hR
              have le1355 := hS1.dle
              have hS := hS.callR hS1 rfl .n
              clear hS1
              refine segN 2 (j := 15) [(45, .bool ((!r1351)))] hE (by kernel_rfl) rfl (fun a hE => ?_)
              refine at_end rfl ?_
              have hS := hS.pk (.c 3 rfl (.c 2 rfl .n)) rfl
              exact ⟨(!r1351), D1353, hE.weak (by kernel_rfl), hS, (Snap.le.trans (Snap.le.trans (Snap.le.trans le1335 le1345) le1347) le1355), hf⟩
            · replace hf := cond_t hb hf
              have hE := hE.know (t := 39) (b := (!r1331)) (b' := true) rfl hb
              clear hb
              refine segN 6 (j := 15) [(45, .bool true)] hE (by kernel_rfl) rfl (fun a hE => ?_)
              refine at_end rfl ?_
              have hS := hS.pk (.c 2 rfl (.c 1 rfl .n)) rfl
              exact ⟨true, D1333, hE.weak (by kernel_rfl), hS, le1335, hf⟩
          · replace hf := cond_t hb hf
            have hE := hE.know (t := 33) (b := (!decide (r755.2 = (0 : Int)))) (b' := true) rfl hb
            clear hb
            refine segN 12 (j := 15) [(45, .bool true)] hE (by kernel_rfl) rfl (fun a hE => ?_)
            refine at_end rfl ?_
            have hS := hS.pk (.c 2 rfl (.c 1 rfl .n)) rfl
            exact ⟨true, D757, hE.weak (by kernel_rfl), hS, Snap.le.refl _, hf⟩
        · clear hE hS
          rintro a w ⟨y848, D849, hE, hS, le850, hf⟩
          replace hf := hj1330 _ hf
          clear hj1330
          refine cond_split hE (b := y848) rfl (fun hb => ?_) (fun hb => ?_)
          · replace hf := cond_t hb hf
            clear hb
            refine wpIn_seq ?_
            refine region_at ?_
            refine segN 1 (j := 1) [(4, .bool false)] hE (by kernel_rfl) rfl (fun a hE => ?_)
            refine at_end rfl ?_
            refine wpIn_ret ?_
            obtain rfl := Option.some.inj hf
            repeat (with_reducible first | refine then_ret ?_ | refine block_ret ?_ | refine qx_ret ?_)
            refine ret_gen ([.bool false]) hE (by rw [show Tryd.f8.results.toList = [.tmp 4] from rfl]; exact ⟨_, _, rfl, rfl, rfl⟩) ?_
            have hS := hS.pk .n rfl
            exact ⟨_, rfl, D849, rfl, hS⟩
          · replace hf := cond_f hb hf
            clear hb
            refine wpIn_skip ?_
            refine wpIn_seq ?_
            refine region_at ?_
            refine segN 2 (j := 2) [(46, .slice A744 (List.length (r740)) c745), (47, .slice A9 (List.length (x8)) c10)] hE (by kernel_rfl) rfl (fun a hE => ?_)
            refine at_op (op_buildSlice (K := (kdSlice (kdInt .u8))) (e := 25) (cs := [.slice A744 (List.length (r740)) c745] ++ ([.slice A9 (List.length (x8)) c10] ++ [])) ([r740, x8] : List (List Int)) rfl rfl rfl rfl hE rfl hS rfl (by kernel_rfl) rfl rfl (by exact (show RL (kdSlice (kdInt .u8)) D849 ([r740, x8] : List (List Int)) ([.slice A744 (List.length (r740)) c745] ++ ([.slice A9 (List.length (x8)) c10] ++ [])) from ⟨_, _, rfl, (kslice (h752.mono (Snap.le.trans le765 le850))), ⟨_, _, rfl, (kslice (h11.mono (Snap.le.trans (Snap.le.trans (Snap.le.trans (Snap.le.trans (Snap.le.trans le701 le739) le749) le751) le765) le850))), rfl⟩⟩)) (fun a A851 q852 w _ hE h853 hS => ?_)) rfl
            obtain ⟨D855, q858, le856, hS, h859, h857⟩ := hS.lent h853
            obtain ⟨r860, h861, hf⟩ := bind_some hf
            refine at_op (op_call rfl rfl rfl rfl hE rfl rfl rfl rfl (by kernel_rfl) (wire_All.calls (g := g) h861 (hS.st.fore (L := [])) h857) (fun a v w hR hE => ?_)) rfl
            obtain ⟨D862, A864, c865, q866, rfl, hS1, h867⟩ := hR
            have le869 := hS1.dle
            have hS := hS.callR hS1 rfl (.c .n)
            clear hS1
            obtain ⟨D870, q873, le871, hS, h874, h872⟩ := hS.lent h867
            obtain ⟨r875, h876, hf⟩ := bind_some hf
            refine at_op (op_call rfl rfl rfl rfl hE rfl rfl rfl rfl (by kernel_rfl) (wire_Read.calls (g := g) h876 (hS.st.fore (L := [])) h872) (fun a v w hR hE => ?_)) rfl
            obtain ⟨D877, b879, A881, c882, rfl, hS1, h883⟩ := hR
            have le884 := hS1.dle
            have hS := hS.callR hS1 rfl (.c .n)
            clear hS1
            refine segN 1 (j := 6) [(8, .pointer (some ⟨b879, 0, none⟩))] hE (by kernel_rfl) rfl (fun a hE => ?_)
            refine at_end rfl ?_
            refine wpIn_seq ?_
            obtain ⟨j1279, hj1280, hf⟩ := jn_elim hf
            refine seq_join (fun a w => ∃ (y1034 : Bool), ∃ (D1035 : Snap), Env a 101 [] [(2, .pointer (some ⟨b690, 0, none⟩)), (62, .bool (y1034))] ∧ Stp g w0 D0 [] w D1035 [bx b690 27 (c_T_api_Rec (x1) A2 c3 A5 c6)] ∧ Snap.le D877 D1035 ∧ j1279 y1034 = some r) ?_ ?_
            · clear hj1280
              refine region_draw (fun j => Keeps (mfOf [(1, [b879])] j)) (by kernel_rfl) ?_
              have hS := hS.drew
              first | generalize w.drew = w at hS ⊢ | generalize w0.drew = w at hS ⊢
              refine tW 0 1 (fuel := 11) (by kernel_rfl) hE (fun M => tk_pure (.pointer (some ⟨b879, 0, none⟩)) hE rfl rfl rfl rfl (fun _ _ _ e => by cases e) (by kernel_rfl) (fun a hE => ?_))
              refine tN (T := [(1, [b879])]) [1] 2 5 (fuel := 10) (by kernel_rfl) hE (tk_load 3 (.agg (List.toArray (c_T_api_Rec (x1) A2 c3 A5 c6))) rfl rfl rfl rfl hE rfl hS rfl rfl (by kernel_rfl) (kL (j := 3) hS rfl (show b690 ∉ [b879] from (nm_cons (hS.ne (i := 3) (j := 0) (by decide) rfl rfl) List.not_mem_nil))) (fun a hE => ?_))
              have hS := hS.pk (.c 0 rfl (.c 3 rfl (.c 4 rfl .n))) rfl
              obtain ⟨r1305, h1306, hf⟩ := bind_some hf
              refine oG 1 7 (fuel := 9) (by kernel_rfl) (op_call rfl rfl rfl rfl hE rfl rfl rfl rfl (by kernel_rfl) (rec_Read.calls (g := g) h1306 (hS.st.fore (L := [bx b879 66 (c_T_wire_Reader (r875) A881 c882)])) h883) (fun a v w hR hE => ?_))
              obtain ⟨D1307, A1309, c1310, A1312, c1313, A1315, c1316, rfl, hS1, h1311, h1314, h1317⟩ := hR
              refine ⟨(hS1.keeps.sub (M' := [b879]) ⟨.inl (List.Mem.head _), trivial⟩).mono (fun _ h => h), ?_⟩
              have le1318 := hS1.dle
              have hS := hS.callR hS1 rfl (.c .n)
              clear hS1
              obtain ⟨r1319, h1320, hf⟩ := bind_some hf
              refine oG 3 15 (fuel := 8) (by kernel_rfl) (op_call rfl rfl rfl rfl hE rfl rfl rfl rfl (by kernel_rfl) (rec_Same.calls (g := g) h1320 (hS.st.fore (L := [])) h1311 h1314 (h4.mono (Snap.le.trans (Snap.le.trans (Snap.le.trans (Snap.le.trans (Snap.le.trans (Snap.le.trans (Snap.le.trans (Snap.le.trans (Snap.le.trans (Snap.le.trans le701 le739) le749) le751) le765) le850) le856) le869) le871) le884) le1318)) (h7.mono (Snap.le.trans (Snap.le.trans (Snap.le.trans (Snap.le.trans (Snap.le.trans (Snap.le.trans (Snap.le.trans (Snap.le.trans (Snap.le.trans (Snap.le.trans le701 le739) le749) le751) le765) le850) le856) le869) le871) le884) le1318))) (fun a v w hR hE => ?_))
              obtain ⟨D1321, rfl, hS1⟩ := hR
              refine ⟨(hS1.keeps.sub (M' := []) trivial).mono (fun _ h => h), ?_⟩
              have le1323 := hS1.dle
              have hS := hS.callR hS1 rfl .n
              clear hS1
              refine tW 4 31 (fuel := 7) (by kernel_rfl) hE (fun M => tk_pure (.bool ((!r1319))) hE rfl rfl rfl rfl (fun _ _ _ e => by cases e) (by kernel_rfl) (fun a hE => ?_))
              refine tW 5 63 (fuel := 6) (by kernel_rfl) hE (fun M => tk_pure (.bool ((!r1319))) hE rfl rfl rfl rfl (fun _ _ _ e => by cases e) (by kernel_rfl) (fun a hE => ?_))
              cases hb : (!r1319)
              · replace hf := cond_f hb hf
                have hE := hE.know (t := 56) (b := (!r1319)) (b' := false) rfl hb
                clear hb
                refine tW 6 127 (fuel := 5) (by kernel_rfl) hE (fun M => tk_pure (.pointer (some ⟨b879, 0, none⟩)) hE rfl rfl rfl rfl (fun _ _ _ e => by cases e) (by kernel_rfl) (fun a hE => ?_))
                refine tW 8 383 (fuel := 4) (by kernel_rfl) hE (fun M => tk_pure (.slice A9 (List.length (x8)) c10) hE rfl rfl rfl rfl (fun _ _ _ e => by cases e) (by kernel_rfl) (fun a hE => ?_))
                refine tW 9 895 (fuel := 3) (by kernel_rfl) hE (fun M => tk_pure (.int .i64 (((List.length (x8) : Nat) : Int))) hE rfl rfl rfl rfl (fun _ _ _ e => by cases e) (by kernel_rfl) (fun a hE => ?_))
                obtain ⟨r1324, h1325, hf⟩ := bind_some hf
                refine oG 7 1023 (fuel := 2) (by kernel_rfl) (op_call rfl rfl rfl rfl hE rfl rfl rfl rfl (by kernel_rfl) (wire_Reader_Left.calls (g := g) h1325 (hS.st.fore (L := [bx b879 66 (c_T_wire_Reader (r1305.2) A1315 c1316)])) (h1317.mono le1323)) (fun a v w hR hE => ?_))
                obtain ⟨D1326, rfl, hS1⟩ := hR
                refine ⟨(hS1.keeps.sub (M' := []) ⟨.inr ((hS1.heapAt (j := 0) rfl).trans (hS.heapAt (j := 0) rfl).symm), trivial⟩).mono (fun _ h => h), ?_⟩
                have le1328 := hS1.dle
                have hS := hS.callR hS1 rfl (.c .n)
                clear hS1
                refine tW 10 2047 (fuel := 1) (by kernel_rfl) hE (fun M => tk_pure (.bool ((!decide (r1324 = ((List.length (x8) : Nat) : Int))))) hE rfl rfl rfl rfl (fun _ _ _ e => by cases e) (by kernel_rfl) (fun a hE => ?_))
                refine tW 11 4095 (fuel := 0) (by kernel_rfl) hE (fun M => tk_pure (.bool ((!decide (r1324 = ((List.length (x8) : Nat) : Int))))) hE rfl rfl rfl rfl (fun _ _ _ e => by cases e) (by kernel_rfl) (fun a hE => ?_))
                refine doneG (by kernel_rfl) ?_
                have hS := hS.pk (.c 1 rfl .n) rfl
                exact ⟨(!decide (r1324 = ((List.length (x8) : Nat) : Int))), D1326, hE.weak (by kernel_rfl), hS, (Snap.le.trans (Snap.le.trans le1318 le1323) le1328), hf⟩
              · replace hf := cond_t hb hf
                have hE := hE.know (t := 56) (b := (!r1319)) (b' := true) rfl hb
                clear hb
                refine tW 6 127 (fuel := 5) (by kernel_rfl) hE (fun M => tk_skip hE rfl rfl rfl rfl (fun a hE => ?_))
                refine tW 7 255 (fuel := 4) (by kernel_rfl) hE (fun M => tk_skip hE rfl rfl rfl rfl (fun a hE => ?_))
                refine tW 8 511 (fuel := 3) (by kernel_rfl) hE (fun M => tk_skip hE rfl rfl rfl rfl (fun a hE => ?_))
                refine tW 9 1023 (fuel := 2) (by kernel_rfl) hE (fun M => tk_skip hE rfl rfl rfl rfl (fun a hE => ?_))
                refine tW 10 2047 (fuel := 1) (by kernel_rfl) hE (fun M => tk_skip hE rfl rfl rfl rfl (fun a hE => ?_))
                refine tW 11 4095 (fuel := 0) (by kernel_rfl) hE (fun M => tk_pure (.bool true) hE rfl rfl rfl rfl (fun _ _ _ e => by cases e) (by kernel_rfl) (fun a hE => ?_))
                refine doneG (by kernel_rfl) ?_
                have hS := hS.pk (.c 1 rfl .n) rfl
                exact ⟨true, D1321, hE.weak (by kernel_rfl), hS, (Snap.le.trans le1318 le1323), hf⟩
            · clear hE hS
              rintro a w ⟨y1034, D1035, hE, hS, le1036, hf⟩
              replace hf := hj1280 _ hf
              clear hj1280
              refine cond_split hE (b := y1034) rfl (fun hb => ?_) (fun hb => ?_)
              · replace hf := cond_t hb hf
                clear hb
                refine wpIn_seq ?_
                refine region_at ?_
                refine segN 1 (j := 1) [(4, .bool false)] hE (by kernel_rfl) rfl (fun a hE => ?_)
                refine at_end rfl ?_
                refine wpIn_ret ?_
                obtain rfl := Option.some.inj hf
                repeat (with_reducible first | refine then_ret ?_ | refine block_ret ?_ | refine qx_ret ?_)
                refine ret_gen ([.bool false]) hE (by rw [show Tryd.f8.results.toList = [.tmp 4] from rfl]; exact ⟨_, _, rfl, rfl, rfl⟩) ?_
                have hS := hS.pk .n rfl
                exact ⟨_, rfl, D1035, rfl, hS⟩
              · replace hf := cond_f hb hf
                clear hb
                refine wpIn_skip ?_
                refine wpIn_seq ?_
                refine region_at ?_
                refine at_op (op_tk hE (tk_load 0 (.agg (List.toArray (c_T_api_Rec (x1) A2 c3 A5 c6))) rfl rfl rfl rfl hE rfl hS rfl rfl (by kernel_rfl) (kL (j := 0) hS rfl List.not_mem_nil) (fun a hE => ?_))) rfl
                obtain ⟨r1037, h1038, hf⟩ := bind_some hf
                refine at_op (op_call rfl rfl rfl rfl hE rfl rfl rfl rfl (by kernel_rfl) (rec_Redact.calls (g := g) h1038 (hS.st.fore (L := [])) (h4.mono (Snap.le.trans (Snap.le.trans (Snap.le.trans (Snap.le.trans (Snap.le.trans (Snap.le.trans (Snap.le.trans (Snap.le.trans (Snap.le.trans (Snap.le.trans le701 le739) le749) le751) le765) le850) le856) le869) le871) le884) le1036)) (h7.mono (Snap.le.trans (Snap.le.trans (Snap.le.trans (Snap.le.trans (Snap.le.trans (Snap.le.trans (Snap.le.trans (Snap.le.trans (Snap.le.trans (Snap.le.trans le701 le739) le749) le751) le765) le850) le856) le869) le871) le884) le1036)) (hG0.mono (Snap.le.trans (Snap.le.trans (Snap.le.trans (Snap.le.trans (Snap.le.trans (Snap.le.trans (Snap.le.trans (Snap.le.trans (Snap.le.trans (Snap.le.trans le701 le739) le749) le751) le765) le850) le856) le869) le871) le884) le1036)) (hG1.mono (Snap.le.trans (Snap.le.trans (Snap.le.trans (Snap.le.trans (Snap.le.trans (Snap.le.trans (Snap.le.trans (Snap.le.trans (Snap.le.trans (Snap.le.trans le701 le739) le749) le751) le765) le850) le856) le869) le871) le884) le1036))) (fun a v w hR hE => ?_)) rfl
                obtain ⟨D1039, A1041, c1042, A1044, c1045, rfl, hS1, h1043, h1046⟩ := hR
                have le1047 := hS1.dle
                have hS := hS.callR hS1 rfl .n
                clear hS1
                refine at_op (op_alloc (z := .agg (List.toArray (c_T_api_Rec (z_T_api_Rec) none 0 none 0))) rfl rfl rfl rfl hE rfl hS (by kernel_rfl) (fun a b1048 w _ hE hS => ?_)) rfl
                refine at_op (op_store (v := .agg (List.toArray (c_T_api_Rec (r1037) A1041 c1042 A1044 c1045))) (c_T_api_Rec (r1037) A1041 c1042 A1044 c1045) rfl rfl rfl rfl hE hS rfl rfl (by kernel_rfl) (by kernel_rfl) (by kernel_rfl) (by kernel_rfl) (by kernel_rfl) (fun a w _ hE hS => ?_)) rfl
                refine at_end rfl ?_
                obtain ⟨j1165, hj1166, hf⟩ := jn_elim hf
                refine seq_join (fun a w => ∃ (y1162 : Bool), ∃ (D1163 : Snap), Env a 101 [] [(4, .bool (y1162))] ∧ Stp g w0 D0 [] w D1163 [] ∧ Snap.le D1039 D1163 ∧ j1165 y1162 = some r) ?_ ?_
                · clear hj1166
                  refine region_draw (fun j => Keeps (mfOf [] j)) (by kernel_rfl) ?_
                  have hS := hS.drew
                  first | generalize w.drew = w at hS ⊢ | generalize w0.drew = w at hS ⊢
                  refine tT 0 1 (fuel := 36) (by kernel_rfl) hE (tk_load 0 (.agg (List.toArray (c_T_api_Rec (r1037) A1041 c1042 A1044 c1045))) rfl rfl rfl rfl hE rfl hS rfl rfl (by kernel_rfl) (kL (j := 0) hS rfl List.not_mem_nil) (fun a hE => ?_))
                  obtain ⟨r1223, h1224, hf⟩ := bind_some hf
                  refine oG 1 3 (fuel := 35) (by kernel_rfl) (op_call rfl rfl rfl rfl hE rfl rfl rfl rfl (by kernel_rfl) (rec_Right.calls (g := g) h1224 (hS.st.fore (L := [])) h1043 h1046) (fun a v w hR hE => ?_))
                  obtain ⟨D1225, rfl, hS1⟩ := hR
                  refine ⟨(hS1.keeps.sub (M' := []) trivial).mono (fun _ h => h), ?_⟩
                  have le1227 := hS1.dle
                  have hS := hS.callR hS1 rfl .n
                  clear hS1
                  refine tW 2 7 (fuel := 34) (by kernel_rfl) hE (fun M => tk_pure (.bool (r1223)) hE rfl rfl rfl rfl (fun _ _ _ e => by cases e) (by kernel_rfl) (fun a hE => ?_))
                  cases hb : r1223
                  · replace hf := cond_f hb hf
                    have hE := hE.know (t := 67) (b := r1223) (b' := false) rfl hb
                    clear hb
                    refine tW 3 15 (fuel := 33) (by kernel_rfl) hE (fun M => tk_skip hE rfl rfl rfl rfl (fun a hE => ?_))
                    refine tW 4 31 (fuel := 32) (by kernel_rfl) hE (fun M => tk_skip hE rfl rfl rfl rfl (fun a hE => ?_))
                    refine tW 5 63 (fuel := 31) (by kernel_rfl) hE (fun M => tk_skip hE rfl rfl rfl rfl (fun a hE => ?_))
                    refine tW 6 127 (fuel := 30) (by kernel_rfl) hE (fun M => tk_skip hE rfl rfl rfl rfl (fun a hE => ?_))
                    refine tW 7 255 (fuel := 29) (by kernel_rfl) hE (fun M => tk_skip hE rfl rfl rfl rfl (fun a hE => ?_))
                    refine tW 8 511 (fuel := 28) (by kernel_rfl) hE (fun M => tk_pure (.bool false) hE rfl rfl rfl rfl (fun _ _ _ e => by cases e) (by kernel_rfl) (fun a hE => ?_))
                    refine tW 9 1023 (fuel := 27) (by kernel_rfl) hE (fun M => tk_pure (.bool false) hE rfl rfl rfl rfl (fun _ _ _ e => by cases e) (by kernel_rfl) (fun a hE => ?_))
                    refine tW 10 2047 (fuel := 26) (by kernel_rfl) hE (fun M => tk_skip hE rfl rfl rfl rfl (fun a hE => ?_))
                    refine tW 11 4095 (fuel := 25) (by kernel_rfl) hE (fun M => tk_skip hE rfl rfl rfl rfl (fun a hE => ?_))
                    refine tW 12 8191 (fuel := 24) (by kernel_rfl) hE (fun M => tk_skip hE rfl rfl rfl rfl (fun a hE => ?_))
                    refine tW 13 16383 (fuel := 23) (by kernel_rfl) hE (fun M => tk_skip hE rfl rfl rfl rfl (fun a hE => ?_))
                    refine tW 14 32767 (fuel := 22) (by kernel_rfl) hE (fun M => tk_pure (.bool false) hE rfl rfl rfl rfl (fun _ _ _ e => by cases e) (by kernel_rfl) (fun a hE => ?_))
                    refine tW 15 65535 (fuel := 21) (by kernel_rfl) hE (fun M => tk_pure (.bool false) hE rfl rfl rfl rfl (fun _ _ _ e => by cases e) (by kernel_rfl) (fun a hE => ?_))
                    refine tW 16 131071 (fuel := 20) (by kernel_rfl) hE (fun M => tk_skip hE rfl rfl rfl rfl (fun a hE => ?_))
                    refine tW 17 262143 (fuel := 19) (by kernel_rfl) hE (fun M => tk_skip hE rfl rfl rfl rfl (fun a hE => ?_))
                    refine tW 18 524287 (fuel := 18) (by kernel_rfl) hE (fun M => tk_skip hE rfl rfl rfl rfl (fun a hE => ?_))
                    refine tW 19 1048575 (fuel := 17) (by kernel_rfl) hE (fun M => tk_skip hE rfl rfl rfl rfl (fun a hE => ?_))
                    refine tW 20 2097151 (fuel := 16) (by kernel_rfl) hE (fun M => tk_pure (.bool false) hE rfl rfl rfl rfl (fun _ _ _ e => by cases e) (by kernel_rfl) (fun a hE => ?_))
                    refine tW 21 4194303 (fuel := 15) (by kernel_rfl) hE (fun M => tk_pure (.bool false) hE rfl rfl rfl rfl (fun _ _ _ e => by cases e) (by kernel_rfl) (fun a hE => ?_))
                    refine tW 22 8388607 (fuel := 14) (by kernel_rfl) hE (fun M => tk_skip hE rfl rfl rfl rfl (fun a hE => ?_))
                    refine tW 23 16777215 (fuel := 13) (by kernel_rfl) hE (fun M => tk_skip hE rfl rfl rfl rfl (fun a hE => ?_))
                    refine tW 24 33554431 (fuel := 12) (by kernel_rfl) hE (fun M => tk_skip hE rfl rfl rfl rfl (fun a hE => ?_))
                    refine tW 25 67108863 (fuel := 11) (by kernel_rfl) hE (fun M => tk_skip hE rfl rfl rfl rfl (fun a hE => ?_))
                    refine tW 26 134217727 (fuel := 10) (by kernel_rfl) hE (fun M => tk_pure (.bool false) hE rfl rfl rfl rfl (fun _ _ _ e => by cases e) (by kernel_rfl) (fun a hE => ?_))
                    refine tW 27 268435455 (fuel := 9) (by kernel_rfl) hE (fun M => tk_pure (.bool false) hE rfl rfl rfl rfl (fun _ _ _ e => by cases e) (by kernel_rfl) (fun a hE => ?_))
                    refine tW 28 536870911 (fuel := 8) (by kernel_rfl) hE (fun M => tk_skip hE rfl rfl rfl rfl (fun a hE => ?_))
                    refine tW 29 1073741823 (fuel := 7) (by kernel_rfl) hE (fun M => tk_skip hE rfl rfl rfl rfl (fun a hE => ?_))
                    refine tW 30 2147483647 (fuel := 6) (by kernel_rfl) hE (fun M => tk_skip hE rfl rfl rfl rfl (fun a hE => ?_))
                    refine tW 31 4294967295 (fuel := 5) (by kernel_rfl) hE (fun M => tk_skip hE rfl rfl rfl rfl (fun a hE => ?_))
                    refine tW 32 8589934591 (fuel := 4) (by kernel_rfl) hE (fun M => tk_skip hE rfl rfl rfl rfl (fun a hE => ?_))
                    refine tW 33 17179869183 (fuel := 3) (by kernel_rfl) hE (fun M => tk_skip hE rfl rfl rfl rfl (fun a hE => ?_))
                    refine tW 34 34359738367 (fuel := 2) (by kernel_rfl) hE (fun M => tk_skip hE rfl rfl rfl rfl (fun a hE => ?_))
                    refine tW 35 68719476735 (fuel := 1) (by kernel_rfl) hE (fun M => tk_pure (.bool false) hE rfl rfl rfl rfl (fun _ _ _ e => by cases e) (by kernel_rfl) (fun a hE => ?_))
                    refine tW 36 137438953471 (fuel := 0) (by kernel_rfl) hE (fun M => tk_pure (.bool false) hE rfl rfl rfl rfl (fun _ _ _ e => by cases e) (by kernel_rfl) (fun a hE => ?_))
                    refine doneG (by kernel_rfl) ?_
                    have hS := hS.pk .n rfl
                    exact ⟨false, D1225, hE.weak (by kernel_rfl), hS, le1227, hf⟩
                  · replace hf := cond_t hb hf
                    have hE := hE.know (t := 67) (b := r1223) (b' := true) rfl hb
                    clear hb
                    refine tT 3 15 (fuel := 33) (by kernel_rfl) hE (tk_load 0 (.agg (List.toArray (c_T_api_Rec (r1037) A1041 c1042 A1044 c1045))) rfl rfl rfl rfl hE rfl hS rfl rfl (by kernel_rfl) (kL (j := 0) hS rfl List.not_mem_nil) (fun a hE => ?_))
                    refine tT 5 47 (fuel := 32) (by kernel_rfl) hE (tk_load 1 (.agg (List.toArray (c_T_api_Rec (x1) A2 c3 A5 c6))) rfl rfl rfl rfl hE rfl hS rfl rfl (by kernel_rfl) (kL (j := 1) hS rfl List.not_mem_nil) (fun a hE => ?_))
                    obtain ⟨r1228, h1229, hf⟩ := bind_some hf
                    refine oG 4 63 (fuel := 31) (by kernel_rfl) (op_call rfl rfl rfl rfl hE rfl rfl rfl rfl (by kernel_rfl) (rec_Sealed.calls (g := g) h1229 (hS.st.fore (L := [])) (h1043.mono le1227) (h1046.mono le1227) (hG0.mono (Snap.le.trans (Snap.le.trans (Snap.le.trans (Snap.le.trans (Snap.le.trans (Snap.le.trans (Snap.le.trans (Snap.le.trans (Snap.le.trans (Snap.le.trans (Snap.le.trans (Snap.le.trans le701 le739) le749) le751) le765) le850) le856) le869) le871) le884) le1036) le1047) le1227)) (hG1.mono (Snap.le.trans (Snap.le.trans (Snap.le.trans (Snap.le.trans (Snap.le.trans (Snap.le.trans (Snap.le.trans (Snap.le.trans (Snap.le.trans (Snap.le.trans (Snap.le.trans (Snap.le.trans le701 le739) le749) le751) le765) le850) le856) le869) le871) le884) le1036) le1047) le1227))) (fun a v w hR hE => ?_))
                    obtain ⟨D1230, A1232, c1233, q1234, rfl, hS1, h1235⟩ := hR
                    refine ⟨(hS1.keeps.sub (M' := []) trivial).mono (fun _ h => h), ?_⟩
                    have le1237 := hS1.dle
                    have hS := hS.callR hS1 rfl (.c .n)
                    clear hS1
                    obtain ⟨r1238, h1239, hf⟩ := bind_some hf
                    refine oG 6 127 (fuel := 30) (by kernel_rfl) (op_call rfl rfl rfl rfl hE rfl rfl rfl rfl (by kernel_rfl) (rec_Sealed.calls (g := g) h1239 (hS.st.fore (L := [])) (h4.mono (Snap.le.trans (Snap.le.trans (Snap.le.trans (Snap.le.trans (Snap.le.trans (Snap.le.trans (Snap.le.trans (Snap.le.trans (Snap.le.trans (Snap.le.trans (Snap.le.trans (Snap.le.trans (Snap.le.trans le701 le739) le749) le751) le765) le850) le856) le869) le871) le884) le1036) le1047) le1227) le1237)) (h7.mono (Snap.le.trans (Snap.le.trans (Snap.le.trans (Snap.le.trans (Snap.le.trans (Snap.le.trans (Snap.le.trans (Snap.le.trans (Snap.le.trans (Snap.le.trans (Snap.le.trans (Snap.le.trans (Snap.le.trans le701 le739) le749) le751) le765) le850) le856) le869) le871) le884) le1036) le1047) le1227) le1237)) (hG0.mono (Snap.le.trans (Snap.le.trans (Snap.le.trans (Snap.le.trans (Snap.le.trans (Snap.le.trans (Snap.le.trans (Snap.le.trans (Snap.le.trans (Snap.le.trans (Snap.le.trans (Snap.le.trans (Snap.le.trans le701 le739) le749) le751) le765) le850) le856) le869) le871) le884) le1036) le1047) le1227) le1237)) (hG1.mono (Snap.le.trans (Snap.le.trans (Snap.le.trans (Snap.le.trans (Snap.le.trans (Snap.le.trans (Snap.le.trans (Snap.le.trans (Snap.le.trans (Snap.le.trans (Snap.le.trans (Snap.le.trans (Snap.le.trans le701 le739) le749) le751) le765) le850) le856) le869) le871) le884) le1036) le1047) le1227) le1237))) (fun a v w hR hE => ?_))
                    obtain ⟨D1240, A1242, c1243, q1244, rfl, hS1, h1245⟩ := hR
                    refine ⟨(hS1.keeps.sub (M' := []) trivial).mono (fun _ h => h), ?_⟩
                    have le1247 := hS1.dle
                    have hS := hS.callR hS1 rfl (.c .n)
                    clear hS1
                    have hS := hS.pk (.c 1 rfl (.c 0 rfl (.c 2 rfl (.c 3 rfl .n)))) rfl
                    obtain ⟨D1248, q1251, le1249, hS, h1252, h1250⟩ := hS.lent (h1235.mono le1247)
                    have hS := hS.pk (.c 1 rfl (.c 0 rfl (.c 2 rfl (.c 3 rfl .n)))) rfl
                    obtain ⟨D1253, q1256, le1254, hS, h1257, h1255⟩ := hS.lent (h1245.mono le1249)
                    obtain ⟨r1258, h1259, hf⟩ := bind_some hf
                    refine oG 7 255 (fuel := 29) (by kernel_rfl) (op_call rfl rfl rfl rfl hE rfl rfl rfl rfl (by kernel_rfl) (inspeximusref01_Bytes.calls (g := g) h1259 (hS.st.fore (L := [])) (h1250.mono le1254) h1255) (fun a v w hR hE => ?_))
                    obtain ⟨D1260, rfl, hS1⟩ := hR
                    refine ⟨(hS1.keeps.sub (M' := []) trivial).mono (fun _ h => h), ?_⟩
                    have le1262 := hS1.dle
                    have hS := hS.callR hS1 rfl .n
                    clear hS1
                    refine tW 8 511 (fuel := 28) (by kernel_rfl) hE (fun M => tk_pure (.bool (r1258)) hE rfl rfl rfl rfl (fun _ _ _ e => by cases e) (by kernel_rfl) (fun a hE => ?_))
                    refine tW 9 1023 (fuel := 27) (by kernel_rfl) hE (fun M => tk_pure (.bool (r1258)) hE rfl rfl rfl rfl (fun _ _ _ e => by cases e) (by kernel_rfl) (fun a hE => ?_))
                    cases hb : r1258
                    · replace hf := cond_f hb hf
                      have hE := hE.know (t := 74) (b := r1258) (b' := false) rfl hb
                      clear hb
                      refine tW 10 2047 (fuel := 26) (by kernel_rfl) hE (fun M => tk_skip hE rfl rfl rfl rfl (fun a hE => ?_))
                      refine tW 11 4095 (fuel := 25) (by kernel_rfl) hE (fun M => tk_skip hE rfl rfl rfl rfl (fun a hE => ?_))
                      refine tW 12 8191 (fuel := 24) (by kernel_rfl) hE (fun M => tk_skip hE rfl rfl rfl rfl (fun a hE => ?_))
                      refine tW 13 16383 (fuel := 23) (by kernel_rfl) hE (fun M => tk_skip hE rfl rfl rfl rfl (fun a hE => ?_))
                      refine tW 14 32767 (fuel := 22) (by kernel_rfl) hE (fun M => tk_pure (.bool false) hE rfl rfl rfl rfl (fun _ _ _ e => by cases e) (by kernel_rfl) (fun a hE => ?_))
                      refine tW 15 65535 (fuel := 21) (by kernel_rfl) hE (fun M => tk_pure (.bool false) hE rfl rfl rfl rfl (fun _ _ _ e => by cases e) (by kernel_rfl) (fun a hE => ?_))
                      refine tW 16 131071 (fuel := 20) (by kernel_rfl) hE (fun M => tk_skip hE rfl rfl rfl rfl (fun a hE => ?_))
                      refine tW 17 262143 (fuel := 19) (by kernel_rfl) hE (fun M => tk_skip hE rfl rfl rfl rfl (fun a hE => ?_))
                      refine tW 18 524287 (fuel := 18) (by kernel_rfl) hE (fun M => tk_skip hE rfl rfl rfl rfl (fun a hE => ?_))
                      refine tW 19 1048575 (fuel := 17) (by kernel_rfl) hE (fun M => tk_skip hE rfl rfl rfl rfl (fun a hE => ?_))
                      refine tW 20 2097151 (fuel := 16) (by kernel_rfl) hE (fun M => tk_pure (.bool false) hE rfl rfl rfl rfl (fun _ _ _ e => by cases e) (by kernel_rfl) (fun a hE => ?_))
                      refine tW 21 4194303 (fuel := 15) (by kernel_rfl) hE (fun M => tk_pure (.bool false) hE rfl rfl rfl rfl (fun _ _ _ e => by cases e) (by kernel_rfl) (fun a hE => ?_))
                      refine tW 22 8388607 (fuel := 14) (by kernel_rfl) hE (fun M => tk_skip hE rfl rfl rfl rfl (fun a hE => ?_))
                      refine tW 23 16777215 (fuel := 13) (by kernel_rfl) hE (fun M => tk_skip hE rfl rfl rfl rfl (fun a hE => ?_))
                      refine tW 24 33554431 (fuel := 12) (by kernel_rfl) hE (fun M => tk_skip hE rfl rfl rfl rfl (fun a hE => ?_))
                      refine tW 25 67108863 (fuel := 11) (by kernel_rfl) hE (fun M => tk_skip hE rfl rfl rfl rfl (fun a hE => ?_))
                      refine tW 26 134217727 (fuel := 10) (by kernel_rfl) hE (fun M => tk_pure (.bool false) hE rfl rfl rfl rfl (fun _ _ _ e => by cases e) (by kernel_rfl) (fun a hE => ?_))
                      refine tW 27 268435455 (fuel := 9) (by kernel_rfl) hE (fun M => tk_pure (.bool false) hE rfl rfl rfl rfl (fun _ _ _ e => by cases e) (by kernel_rfl) (fun a hE => ?_))
                      refine tW 28 536870911 (fuel := 8) (by kernel_rfl) hE (fun M => tk_skip hE rfl rfl rfl rfl (fun a hE => ?_))
                      refine tW 29 1073741823 (fuel := 7) (by kernel_rfl) hE (fun M => tk_skip hE rfl rfl rfl rfl (fun a hE => ?_))
                      refine tW 30 2147483647 (fuel := 6) (by kernel_rfl) hE (fun M => tk_skip hE rfl rfl rfl rfl (fun a hE => ?_))
                      refine tW 31 4294967295 (fuel := 5) (by kernel_rfl) hE (fun M => tk_skip hE rfl rfl rfl rfl (fun a hE => ?_))
                      refine tW 32 8589934591 (fuel := 4) (by kernel_rfl) hE (fun M => tk_skip hE rfl rfl rfl rfl (fun a hE => ?_))
                      refine tW 33 17179869183 (fuel := 3) (by kernel_rfl) hE (fun M => tk_skip hE rfl rfl rfl rfl (fun a hE => ?_))
                      refine tW 34 34359738367 (fuel := 2) (by kernel_rfl) hE (fun M => tk_skip hE rfl rfl rfl rfl (fun a hE => ?_))
                      refine tW 35 68719476735 (fuel := 1) (by kernel_rfl) hE (fun M => tk_pure (.bool false) hE rfl rfl rfl rfl (fun _ _ _ e => by cases e) (by kernel_rfl) (fun a hE => ?_))
                      refine tW 36 137438953471 (fuel := 0) (by kernel_rfl) hE (fun M => tk_pure (.bool false) hE rfl rfl rfl rfl (fun _ _ _ e => by cases e) (by kernel_rfl) (fun a hE => ?_))
                      refine doneG (by kernel_rfl) ?_
                      have hS := hS.pk .n rfl
                      exact ⟨false, D1260, hE.weak (by kernel_rfl), hS, (Snap.le.trans (Snap.le.trans (Snap.le.trans (Snap.le.trans (Snap.le.trans le1227 le1237) le1247) le1249) le1254) le1262), hf⟩
                    · replace hf := cond_t hb hf
                      have hE := hE.know (t := 74) (b := r1258) (b' := true) rfl hb
                      clear hb
                      refine tT 10 2047 (fuel := 26) (by kernel_rfl) hE (tk_load 2 (.agg (List.toArray (c_T_api_Rec (r1037) A1041 c1042 A1044 c1045))) rfl rfl rfl rfl hE rfl hS rfl rfl (by kernel_rfl) (kL (j := 2) hS rfl List.not_mem_nil) (fun a hE => ?_))
                      refine tT 12 6143 (fuel := 25) (by kernel_rfl) hE (tk_load 2 (.agg (List.toArray (c_T_api_Rec (r1037) A1041 c1042 A1044 c1045))) rfl rfl rfl rfl hE rfl hS rfl rfl (by kernel_rfl) (kL (j := 2) hS rfl List.not_mem_nil) (fun a hE => ?_))
                      obtain ⟨r1263, h1264, hf⟩ := bind_some hf
                      refine oG 11 8191 (fuel := 24) (by kernel_rfl) (op_call rfl rfl rfl rfl hE rfl rfl rfl rfl (by kernel_rfl) (rec_Redact.calls (g := g) h1264 (hS.st.fore (L := [])) (h1043.mono (Snap.le.trans (Snap.le.trans (Snap.le.trans (Snap.le.trans (Snap.le.trans le1227 le1237) le1247) le1249) le1254) le1262)) (h1046.mono (Snap.le.trans (Snap.le.trans (Snap.le.trans (Snap.le.trans (Snap.le.trans le1227 le1237) le1247) le1249) le1254) le1262)) (hG0.mono (Snap.le.trans (Snap.le.trans (Snap.le.trans (Snap.le.trans (Snap.le.trans (Snap.le.trans (Snap.le.trans (Snap.le.trans (Snap.le.trans (Snap.le.trans (Snap.le.trans (Snap.le.trans (Snap.le.trans (Snap.le.trans (Snap.le.trans (Snap.le.trans (Snap.le.trans le701 le739) le749) le751) le765) le850) le856) le869) le871) le884) le1036) le1047) le1227) le1237) le1247) le1249) le1254) le1262)) (hG1.mono (Snap.le.trans (Snap.le.trans (Snap.le.trans (Snap.le.trans (Snap.le.trans (Snap.le.trans (Snap.le.trans (Snap.le.trans (Snap.le.trans (Snap.le.trans (Snap.le.trans (Snap.le.trans (Snap.le.trans (Snap.le.trans (Snap.le.trans (Snap.le.trans (Snap.le.trans le701 le739) le749) le751) le765) le850) le856) le869) le871) le884) le1036) le1047) le1227) le1237) le1247) le1249) le1254) le1262))) (fun a v w hR hE => ?_))
                      obtain ⟨D1265, A1267, c1268, A1270, c1271, rfl, hS1, h1269, h1272⟩ := hR
                      refine ⟨(hS1.keeps.sub (M' := []) trivial).mono (fun _ h => h), ?_⟩
                      have le1273 := hS1.dle
                      have hS := hS.callR hS1 rfl .n
                      clear hS1
                      obtain ⟨r1274, h1275, hf⟩ := bind_some hf
                      refine oG 13 16383 (fuel := 23) (by kernel_rfl) (op_call rfl rfl rfl rfl hE rfl rfl rfl rfl (by kernel_rfl) (rec_Same.calls (g := g) h1275 (hS.st.fore (L := [])) h1269 h1272 (h1043.mono (Snap.le.trans (Snap.le.trans (Snap.le.trans (Snap.le.trans (Snap.le.trans (Snap.le.trans le1227 le1237) le1247) le1249) le1254) le1262) le1273)) (h1046.mono (Snap.le.trans (Snap.le.trans (Snap.le.trans (Snap.le.trans (Snap.le.trans (Snap.le.trans le1227 le1237) le1247) le1249) le1254) le1262) le1273))) (fun a v w hR hE => ?_))
                      obtain ⟨D1276, rfl, hS1⟩ := hR
                      refine ⟨(hS1.keeps.sub (M' := []) trivial).mono (fun _ h => h), ?_⟩
                      have le1278 := hS1.dle
                      have hS := hS.callR hS1 rfl .n
                      clear hS1
                      refine tW 14 32767 (fuel := 22) (by kernel_rfl) hE (fun M => tk_pure (.bool (r1274)) hE rfl rfl rfl rfl (fun _ _ _ e => by cases e) (by kernel_rfl) (fun a hE => ?_))
                      refine tW 15 65535 (fuel := 21) (by kernel_rfl) hE (fun M => tk_pure (.bool (r1274)) hE rfl rfl rfl rfl (fun _ _ _ e => by cases e) (by kernel_rfl) (fun a hE => ?_))
                      cases hb : r1274
                      · replace hf := cond_f hb hf
                        have hE := hE.know (t := 80) (b := r1274) (b' := false) rfl hb
                        clear hb
                        refine tW 16 131071 (fuel := 20) (by kernel_rfl) hE (fun M => tk_skip hE rfl rfl rfl rfl (fun a hE => ?_))
                        refine tW 17 262143 (fuel := 19) (by kernel_rfl) hE (fun M => tk_skip hE rfl rfl rfl rfl (fun a hE => ?_))
                        refine tW 18 524287 (fuel := 18) (by kernel_rfl) hE (fun M => tk_skip hE rfl rfl rfl rfl (fun a hE => ?_))
                        refine tW 19 1048575 (fuel := 17) (by kernel_rfl) hE (fun M => tk_skip hE rfl rfl rfl rfl (fun a hE => ?_))
                        refine tW 20 2097151 (fuel := 16) (by kernel_rfl) hE (fun M => tk_pure (.bool false) hE rfl rfl rfl rfl (fun _ _ _ e => by cases e) (by kernel_rfl) (fun a hE => ?_))
                        refine tW 21 4194303 (fuel := 15) (by kernel_rfl) hE (fun M => tk_pure (.bool false) hE rfl rfl rfl rfl (fun _ _ _ e => by cases e) (by kernel_rfl) (fun a hE => ?_))
                        refine tW 22 8388607 (fuel := 14) (by kernel_rfl) hE (fun M => tk_skip hE rfl rfl rfl rfl (fun a hE => ?_))
                        refine tW 23 16777215 (fuel := 13) (by kernel_rfl) hE (fun M => tk_skip hE rfl rfl rfl rfl (fun a hE => ?_))
                        refine tW 24 33554431 (fuel := 12) (by kernel_rfl) hE (fun M => tk_skip hE rfl rfl rfl rfl (fun a hE => ?_))
                        refine tW 25 67108863 (fuel := 11) (by kernel_rfl) hE (fun M => tk_skip hE rfl rfl rfl rfl (fun a hE => ?_))
                        refine tW 26 134217727 (fuel := 10) (by kernel_rfl) hE (fun M => tk_pure (.bool false) hE rfl rfl rfl rfl (fun _ _ _ e => by cases e) (by kernel_rfl) (fun a hE => ?_))
                        refine tW 27 268435455 (fuel := 9) (by kernel_rfl) hE (fun M => tk_pure (.bool false) hE rfl rfl rfl rfl (fun _ _ _ e => by cases e) (by kernel_rfl) (fun a hE => ?_))
                        refine tW 28 536870911 (fuel := 8) (by kernel_rfl) hE (fun M => tk_skip hE rfl rfl rfl rfl (fun a hE => ?_))
                        refine tW 29 1073741823 (fuel := 7) (by kernel_rfl) hE (fun M => tk_skip hE rfl rfl rfl rfl (fun a hE => ?_))
                        refine tW 30 2147483647 (fuel := 6) (by kernel_rfl) hE (fun M => tk_skip hE rfl rfl rfl rfl (fun a hE => ?_))
                        refine tW 31 4294967295 (fuel := 5) (by kernel_rfl) hE (fun M => tk_skip hE rfl rfl rfl rfl (fun a hE => ?_))
                        refine tW 32 8589934591 (fuel := 4) (by kernel_rfl) hE (fun M => tk_skip hE rfl rfl rfl rfl (fun a hE => ?_))
                        refine tW 33 17179869183 (fuel := 3) (by kernel_rfl) hE (fun M => tk_skip hE rfl rfl rfl rfl (fun a hE => ?_))
                        refine tW 34 34359738367 (fuel := 2) (by kernel_rfl) hE (fun M => tk_skip hE rfl rfl rfl rfl (fun a hE => ?_))
                        refine tW 35 68719476735 (fuel := 1) (by kernel_rfl) hE (fun M => tk_pure (.bool false) hE rfl rfl rfl rfl (fun _ _ _ e => by cases e) (by kernel_rfl) (fun a hE => ?_))
                        refine tW 36 137438953471 (fuel := 0) (by kernel_rfl) hE (fun M => tk_pure (.bool false) hE rfl rfl rfl rfl (fun _ _ _ e => by cases e) (by kernel_rfl) (fun a hE => ?_))
                        refine doneG (by kernel_rfl) ?_
                        have hS := hS.pk .n rfl
                        exact ⟨false, D1276, hE.weak (by kernel_rfl), hS, (Snap.le.trans (Snap.le.trans (Snap.le.trans (Snap.le.trans (Snap.le.trans (Snap.le.trans (Snap.le.trans le1227 le1237) le1247) le1249) le1254) le1262) le1273) le1278), hf⟩
                      · replace hf := cond_t hb hf
                        have hE := hE.know (t := 80) (b := r1274) (b' := true) rfl hb
                        clear hb
                        refine tW 16 131071 (fuel := 20) (by kernel_rfl) hE (fun M => g_fieldAddr (fo := 43) (ft := 25) 43 rfl rfl rfl rfl hE rfl rfl (by kernel_rfl) rfl (fun a hE => ?_))
                        refine tT 17 262143 (fuel := 19) (by kernel_rfl) hE (tk_load 2 (.slice A1044 (List.length (r1037.fData)) c1045) rfl rfl rfl rfl hE rfl hS rfl rfl (by kernel_rfl) (kL (j := 2) hS rfl List.not_mem_nil) (fun a hE => ?_))
                        refine tW 18 524287 (fuel := 18) (by kernel_rfl) hE (fun M => tk_pure (.int .i64 (((List.length (r1037.fData) : Nat) : Int))) hE rfl rfl rfl rfl (fun _ _ _ e => by cases e) (by kernel_rfl) (fun a hE => ?_))
                        refine tW 19 1048575 (fuel := 17) (by kernel_rfl) hE (fun M => tk_pure (.bool ((decide (((List.length (r1037.fData) : Nat) : Int) = (0 : Int))))) hE rfl rfl rfl rfl (fun _ _ _ e => by cases e) (by kernel_rfl) (fun a hE => ?_))
                        refine tW 20 2097151 (fuel := 16) (by kernel_rfl) hE (fun M => tk_pure (.bool ((decide (((List.length (r1037.fData) : Nat) : Int) = (0 : Int))))) hE rfl rfl rfl rfl (fun _ _ _ e => by cases e) (by kernel_rfl) (fun a hE => ?_))
                        refine tW 21 4194303 (fuel := 15) (by kernel_rfl) hE (fun M => tk_pure (.bool ((decide (((List.length (r1037.fData) : Nat) : Int) = (0 : Int))))) hE rfl rfl rfl rfl (fun _ _ _ e => by cases e) (by kernel_rfl) (fun a hE => ?_))
                        cases hb : (decide (((List.length (r1037.fData) : Nat) : Int) = (0 : Int)))
                        · replace hf := cond_f hb hf
                          have hE := hE.know (t := 86) (b := (decide (((List.length (r1037.fData) : Nat) : Int) = (0 : Int)))) (b' := false) rfl hb
                          clear hb
                          refine tW 22 8388607 (fuel := 14) (by kernel_rfl) hE (fun M => tk_skip hE rfl rfl rfl rfl (fun a hE => ?_))
                          refine tW 23 16777215 (fuel := 13) (by kernel_rfl) hE (fun M => tk_skip hE rfl rfl rfl rfl (fun a hE => ?_))
                          refine tW 24 33554431 (fuel := 12) (by kernel_rfl) hE (fun M => tk_skip hE rfl rfl rfl rfl (fun a hE => ?_))
                          refine tW 25 67108863 (fuel := 11) (by kernel_rfl) hE (fun M => tk_skip hE rfl rfl rfl rfl (fun a hE => ?_))
                          refine tW 26 134217727 (fuel := 10) (by kernel_rfl) hE (fun M => tk_pure (.bool false) hE rfl rfl rfl rfl (fun _ _ _ e => by cases e) (by kernel_rfl) (fun a hE => ?_))
                          refine tW 27 268435455 (fuel := 9) (by kernel_rfl) hE (fun M => tk_pure (.bool false) hE rfl rfl rfl rfl (fun _ _ _ e => by cases e) (by kernel_rfl) (fun a hE => ?_))
                          refine tW 28 536870911 (fuel := 8) (by kernel_rfl) hE (fun M => tk_skip hE rfl rfl rfl rfl (fun a hE => ?_))
                          refine tW 29 1073741823 (fuel := 7) (by kernel_rfl) hE (fun M => tk_skip hE rfl rfl rfl rfl (fun a hE => ?_))
                          refine tW 30 2147483647 (fuel := 6) (by kernel_rfl) hE (fun M => tk_skip hE rfl rfl rfl rfl (fun a hE => ?_))
                          refine tW 31 4294967295 (fuel := 5) (by kernel_rfl) hE (fun M => tk_skip hE rfl rfl rfl rfl (fun a hE => ?_))
                          refine tW 32 8589934591 (fuel := 4) (by kernel_rfl) hE (fun M => tk_skip hE rfl rfl rfl rfl (fun a hE => ?_))
                          refine tW 33 17179869183 (fuel := 3) (by kernel_rfl) hE (fun M => tk_skip hE rfl rfl rfl rfl (fun a hE => ?_))
                          refine tW 34 34359738367 (fuel := 2) (by kernel_rfl) hE (fun M => tk_skip hE rfl rfl rfl rfl (fun a hE => ?_))
                          refine tW 35 68719476735 (fuel := 1) (by kernel_rfl) hE (fun M => tk_pure (.bool false) hE rfl rfl rfl rfl (fun _ _ _ e => by cases e) (by kernel_rfl) (fun a hE => ?_))
                          refine tW 36 137438953471 (fuel := 0) (by kernel_rfl) hE (fun M => tk_pure (.bool false) hE rfl rfl rfl rfl (fun _ _ _ e => by cases e) (by kernel_rfl) (fun a hE => ?_))
                          refine doneG (by kernel_rfl) ?_
                          have hS := hS.pk .n rfl
                          exact ⟨false, D1276, hE.weak (by kernel_rfl), hS, (Snap.le.trans (Snap.le.trans (Snap.le.trans (Snap.le.trans (Snap.le.trans (Snap.le.trans (Snap.le.trans le1227 le1237) le1247) le1249) le1254) le1262) le1273) le1278), hf⟩
                        · replace hf := cond_t hb hf
                          have hE := hE.know (t := 86) (b := (decide (((List.length (r1037.fData) : Nat) : Int) = (0 : Int)))) (b' := true) rfl hb
                          clear hb
                          refine tW 22 8388607 (fuel := 14) (by kernel_rfl) hE (fun M => g_fieldAddr (fo := 44) (ft := 23) 44 rfl rfl rfl rfl hE rfl rfl (by kernel_rfl) rfl (fun a hE => ?_))
                          refine tT 23 16777215 (fuel := 13) (by kernel_rfl) hE (tk_load 2 (.agg (List.toArray (acells .u8 32 (r1037.fSalt)))) rfl rfl rfl rfl hE rfl hS rfl rfl (by kernel_rfl) (kL (j := 2) hS rfl List.not_mem_nil) (fun a hE => ?_))
                          refine tW 24 33554431 (fuel := 12) (by kernel_rfl) hE (fun M => tk_build (acells .u8 32 ((vofL 32 [(0 : Int), (0 : Int), (0 : Int), (0 : Int), (0 : Int), (0 : Int), (0 : Int), (0 : Int), (0 : Int), (0 : Int), (0 : Int), (0 : Int), (0 : Int), (0 : Int), (0 : Int), (0 : Int), (0 : Int), (0 : Int), (0 : Int), (0 : Int), (0 : Int), (0 : Int), (0 : Int), (0 : Int), (0 : Int), (0 : Int), (0 : Int), (0 : Int), (0 : Int), (0 : Int), (0 : Int), (0 : Int)]))) rfl rfl rfl rfl hE rfl rfl (by kernel_rfl) (fun a hE => ?_))
                          refine tW 25 67108863 (fuel := 11) (by kernel_rfl) hE (fun M => tk_bin (r := .bool ((decide (r1037.fSalt = (vofL 32 [(0 : Int), (0 : Int), (0 : Int), (0 : Int), (0 : Int), (0 : Int), (0 : Int), (0 : Int), (0 : Int), (0 : Int), (0 : Int), (0 : Int), (0 : Int), (0 : Int), (0 : Int), (0 : Int), (0 : Int), (0 : Int), (0 : Int), (0 : Int), (0 : Int), (0 : Int), (0 : Int), (0 : Int), (0 : Int), (0 : Int), (0 : Int), (0 : Int), (0 : Int), (0 : Int), (0 : Int), (0 : Int)]))))) rfl rfl rfl rfl hE rfl rfl rfl (eqagg_run (by kernel_rfl) (EqR_arr (k := .u8) (N := 32) (by kernel_rfl))) (fun a hE => ?_))
                          refine tW 26 134217727 (fuel := 10) (by kernel_rfl) hE (fun M => tk_pure (.bool ((decide (r1037.fSalt = (vofL 32 [(0 : Int), (0 : Int), (0 : Int), (0 : Int), (0 : Int), (0 : Int), (0 : Int), (0 : Int), (0 : Int), (0 : Int), (0 : Int), (0 : Int), (0 : Int), (0 : Int), (0 : Int), (0 : Int), (0 : Int), (0 : Int), (0 : Int), (0 : Int), (0 : Int), (0 : Int), (0 : Int), (0 : Int), (0 : Int), (0 : Int), (0 : Int), (0 : Int), (0 : Int), (0 : Int), (0 : Int), (0 : Int)]))))) hE rfl rfl rfl rfl (fun _ _ _ e => by cases e) (by kernel_rfl) (fun a hE => ?_))
                          refine tW 27 268435455 (fuel := 9) (by kernel_rfl) hE (fun M => tk_pure (.bool ((decide (r1037.fSalt = (vofL 32 [(0 : Int), (0 : Int), (0 : Int), (0 : Int), (0 : Int), (0 : Int), (0 : Int), (0 : Int), (0 : Int), (0 : Int), (0 : Int), (0 : Int), (0 : Int), (0 : Int), (0 : Int), (0 : Int), (0 : Int), (0 : Int), (0 : Int), (0 : Int), (0 : Int), (0 : Int), (0 : Int), (0 : Int), (0 : Int), (0 : Int), (0 : Int), (0 : Int), (0 : Int), (0 : Int), (0 : Int), (0 : Int)]))))) hE rfl rfl rfl rfl (fun _ _ _ e => by cases e) (by kernel_rfl) (fun a hE => ?_))
                          cases hb : (decide (r1037.fSalt = (vofL 32 [(0 : Int), (0 : Int), (0 : Int), (0 : Int), (0 : Int), (0 : Int), (0 : Int), (0 : Int), (0 : Int), (0 : Int), (0 : Int), (0 : Int), (0 : Int), (0 : Int), (0 : Int), (0 : Int), (0 : Int), (0 : Int), (0 : Int), (0 : Int), (0 : Int), (0 : Int), (0 : Int), (0 : Int), (0 : Int), (0 : Int), (0 : Int), (0 : Int), (0 : Int), (0 : Int), (0 : Int), (0 : Int)])))
                          · replace hf := cond_f hb hf
                            have hE := hE.know (t := 92) (b := (decide (r1037.fSalt = (vofL 32 [(0 : Int), (0 : Int), (0 : Int), (0 : Int), (0 : Int), (0 : Int), (0 : Int), (0 : Int), (0 : Int), (0 : Int), (0 : Int), (0 : Int), (0 : Int), (0 : Int), (0 : Int), (0 : Int), (0 : Int), (0 : Int), (0 : Int), (0 : Int), (0 : Int), (0 : Int), (0 : Int), (0 : Int), (0 : Int), (0 : Int), (0 : Int), (0 : Int), (0 : Int), (0 : Int), (0 : Int), (0 : Int)])))) (b' := false) rfl hb
                            clear hb
                            refine tW 28 536870911 (fuel := 8) (by kernel_rfl) hE (fun M => tk_skip hE rfl rfl rfl rfl (fun a hE => ?_))
                            refine tW 29 1073741823 (fuel := 7) (by kernel_rfl) hE (fun M => tk_skip hE rfl rfl rfl rfl (fun a hE => ?_))
                            refine tW 30 2147483647 (fuel := 6) (by kernel_rfl) hE (fun M => tk_skip hE rfl rfl rfl rfl (fun a hE => ?_))
                            refine tW 31 4294967295 (fuel := 5) (by kernel_rfl) hE (fun M => tk_skip hE rfl rfl rfl rfl (fun a hE => ?_))
                            refine tW 32 8589934591 (fuel := 4) (by kernel_rfl) hE (fun M => tk_skip hE rfl rfl rfl rfl (fun a hE => ?_))
                            refine tW 33 17179869183 (fuel := 3) (by kernel_rfl) hE (fun M => tk_skip hE rfl rfl rfl rfl (fun a hE => ?_))
                            refine tW 34 34359738367 (fuel := 2) (by kernel_rfl) hE (fun M => tk_skip hE rfl rfl rfl rfl (fun a hE => ?_))
                            refine tW 35 68719476735 (fuel := 1) (by kernel_rfl) hE (fun M => tk_pure (.bool false) hE rfl rfl rfl rfl (fun _ _ _ e => by cases e) (by kernel_rfl) (fun a hE => ?_))
                            refine tW 36 137438953471 (fuel := 0) (by kernel_rfl) hE (fun M => tk_pure (.bool false) hE rfl rfl rfl rfl (fun _ _ _ e => by cases e) (by kernel_rfl) (fun a hE => ?_))
                            refine doneG (by kernel_rfl) ?_
                            have hS := hS.pk .n rfl
                            exact ⟨false, D1276, hE.weak (by kernel_rfl), hS, (Snap.le.trans (Snap.le.trans (Snap.le.trans (Snap.le.trans (Snap.le.trans (Snap.le.trans (Snap.le.trans le1227 le1237) le1247) le1249) le1254) le1262) le1273) le1278), hf⟩
                          · replace hf := cond_t hb hf
                            have hE := hE.know (t := 92) (b := (decide (r1037.fSalt = (vofL 32 [(0 : Int), (0 : Int), (0 : Int), (0 : Int), (0 : Int), (0 : Int), (0 : Int), (0 : Int), (0 : Int), (0 : Int), (0 : Int), (0 : Int), (0 : Int), (0 : Int), (0 : Int), (0 : Int), (0 : Int), (0 : Int), (0 : Int), (0 : Int), (0 : Int), (0 : Int), (0 : Int), (0 : Int), (0 : Int), (0 : Int), (0 : Int), (0 : Int), (0 : Int), (0 : Int), (0 : Int), (0 : Int)])))) (b' := true) rfl hb
                            clear hb
                            refine tW 28 536870911 (fuel := 8) (by kernel_rfl) hE (fun M => g_fieldAddr (fo := 0) (ft := 3) 0 rfl rfl rfl rfl hE rfl rfl (by kernel_rfl) rfl (fun a hE => ?_))
                            refine tT 29 1073741823 (fuel := 7) (by kernel_rfl) hE (tk_load 3 (.int .i64 (x1.fKind)) rfl rfl rfl rfl hE rfl hS rfl rfl (by kernel_rfl) (kL (j := 3) hS rfl List.not_mem_nil) (fun a hE => ?_))
                            refine tW 30 2147483647 (fuel := 6) (by kernel_rfl) hE (fun M => tk_pure (.bool ((!decide (x1.fKind = (1 : Int))))) hE rfl rfl rfl rfl (fun _ _ _ e => by cases e) (by kernel_rfl) (fun a hE => ?_))
                            refine tW 31 4294967295 (fuel := 5) (by kernel_rfl) hE (fun M => tk_pure (.bool ((!decide (x1.fKind = (1 : Int))))) hE rfl rfl rfl rfl (fun _ _ _ e => by cases e) (by kernel_rfl) (fun a hE => ?_))
                            cases hb : (!decide (x1.fKind = (1 : Int)))
                            · replace hf := cond_f hb hf
                              have hE := hE.know (t := 96) (b := (!decide (x1.fKind = (1 : Int)))) (b' := false) rfl hb
                              clear hb
                              refine tW 32 8589934591 (fuel := 4) (by kernel_rfl) hE (fun M => g_fieldAddr (fo := 76) (ft := 4) 76 rfl rfl rfl rfl hE rfl rfl (by kernel_rfl) rfl (fun a hE => ?_))
                              refine tT 33 17179869183 (fuel := 3) (by kernel_rfl) hE (tk_load 2 (.bool (r1037.fGone)) rfl rfl rfl rfl hE rfl hS rfl rfl (by kernel_rfl) (kL (j := 2) hS rfl List.not_mem_nil) (fun a hE => ?_))
                              refine tW 34 34359738367 (fuel := 2) (by kernel_rfl) hE (fun M => tk_pure (.bool (r1037.fGone)) hE rfl rfl rfl rfl (fun _ _ _ e => by cases e) (by kernel_rfl) (fun a hE => ?_))
                              refine tW 35 68719476735 (fuel := 1) (by kernel_rfl) hE (fun M => tk_pure (.bool (r1037.fGone)) hE rfl rfl rfl rfl (fun _ _ _ e => by cases e) (by kernel_rfl) (fun a hE => ?_))
                              refine tW 36 137438953471 (fuel := 0) (by kernel_rfl) hE (fun M => tk_pure (.bool (r1037.fGone)) hE rfl rfl rfl rfl (fun _ _ _ e => by cases e) (by kernel_rfl) (fun a hE => ?_))
                              refine doneG (by kernel_rfl) ?_
                              have hS := hS.pk .n rfl
                              exact ⟨r1037.fGone, D1276, hE.weak (by kernel_rfl), hS, (Snap.le.trans (Snap.le.trans (Snap.le.trans (Snap.le.trans (Snap.le.trans (Snap.le.trans (Snap.le.trans le1227 le1237) le1247) le1249) le1254) le1262) le1273) le1278), hf⟩
                            · replace hf := cond_t hb hf
                              have hE := hE.know (t := 96) (b := (!decide (x1.fKind = (1 : Int)))) (b' := true) rfl hb
                              clear hb
                              refine tW 32 8589934591 (fuel := 4) (by kernel_rfl) hE (fun M => tk_skip hE rfl rfl rfl rfl (fun a hE => ?_))
                              refine tW 33 17179869183 (fuel := 3) (by kernel_rfl) hE (fun M => tk_skip hE rfl rfl rfl rfl (fun a hE => ?_))
                              refine tW 34 34359738367 (fuel := 2) (by kernel_rfl) hE (fun M => tk_pure (.bool true) hE rfl rfl rfl rfl (fun _ _ _ e => by cases e) (by kernel_rfl) (fun a hE => ?_))
                              refine tW 35 68719476735 (fuel := 1) (by kernel_rfl) hE (fun M => tk_pure (.bool true) hE rfl rfl rfl rfl (fun _ _ _ e => by cases e) (by kernel_rfl) (fun a hE => ?_))
                              refine tW 36 137438953471 (fuel := 0) (by kernel_rfl) hE (fun M => tk_pure (.bool true) hE rfl rfl rfl rfl (fun _ _ _ e => by cases e) (by kernel_rfl) (fun a hE => ?_))
                              refine doneG (by kernel_rfl) ?_
                              have hS := hS.pk .n rfl
                              exact ⟨true, D1276, hE.weak (by kernel_rfl), hS, (Snap.le.trans (Snap.le.trans (Snap.le.trans (Snap.le.trans (Snap.le.trans (Snap.le.trans (Snap.le.trans le1227 le1237) le1247) le1249) le1254) le1262) le1273) le1278), hf⟩
                · clear hE hS
                  rintro a w ⟨y1162, D1163, hE, hS, le1164, hf⟩
                  replace hf := hj1166 _ hf
                  clear hj1166
                  refine wpIn_ret ?_
                  obtain rfl := Option.some.inj hf
                  repeat (with_reducible first | refine then_ret ?_ | refine block_ret ?_ | refine qx_ret ?_)
                  refine ret_gen ([.bool (y1162)]) hE (by rw [show Tryd.f8.results.toList = [.tmp 4] from rfl]; exact ⟨_, _, rfl, rfl, rfl⟩) ?_
                  exact ⟨_, rfl, D1163, rfl, hS⟩

end Go.Proofs.YtlcnliiampfigaaDoor
