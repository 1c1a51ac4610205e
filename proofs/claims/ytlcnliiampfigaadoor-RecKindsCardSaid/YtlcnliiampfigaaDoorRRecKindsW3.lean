/-
  Proved, text by text: a call of a function of the cut comes to what its plain function computes.
  Conditions: those that each theorem names.
-/
import Derived.Test.YtlcnliiampfigaaDoorProg
import Derived.Test.YtlcnliiampfigaaDoorRRecKindsW2
set_option linter.unusedVariables false
namespace Go.Proofs.YtlcnliiampfigaaDoor
open Go Go.Sep

set_option maxRecDepth 100000 in
set_option maxHeartbeats 4000000 in
theorem inspeximuslaw04_RecKinds.calls {K : Nat} {g w0 : World} {D0 : Snap} {x1 : T_api_Rec} {A2 : Option Addr} {c3 : Nat} {A5 : Option Addr} {c6 : Nat} {r : (Bool)} (hf : inspeximuslaw04_RecKinds.f K x1 = some r) (hS0 : St g w0 D0 []) (h4 : Sl kd_T_api_Step D0 A2 c3 (x1.fSteps)) (h7 : Sl (kdInt .u8) D0 A5 c6 (x1.fData)) (hG0 : Cell (kdArr .u32 8) D0 0 0 gl_First) (hG1 : Cell (kdArr .u32 64) D0 1 0 gl_K) :
    CallsIn (Fw none) 0 Tryd.prog 6 (List.toArray [.agg (List.toArray (c_T_api_Rec (x1) A2 c3 A5 c6))]) w0 (fun e w' => ∃ v, e = .returned v ∧ ∃ (D1 : Snap), v = .bool (r) ∧ Stp g w0 D0 [] w' D1 []) := by
  unfold inspeximuslaw04_RecKinds.f at hf
  have hS := Stp.refl hS0
  clear hS0
  refine calls_body (n := 73) Tryd.func6 rfl Tryd.ntmps6 rfl (fun a hE => ?_)
  have hE : Env a 73 [] [(0, .agg (List.toArray (c_T_api_Rec (x1) A2 c3 A5 c6)))] := hE
  refine wpIn_seq ?_
  refine region_at ?_
  refine at_op (op_box rfl rfl rfl rfl hE rfl hS rfl (fun a b416 w _ hE hS => ?_)) rfl
  refine segN 1 (j := 2) [(2, .bool false)] hE (by kernel_rfl) rfl (fun a hE => ?_)
  refine at_end rfl ?_
  refine wpIn_seq ?_
  refine wpIn_seq ?_
  refine region_at ?_
  obtain ⟨r423, h424, hf⟩ := bind_some hf
  refine at_op (op_call rfl rfl rfl rfl hE rfl rfl rfl rfl (by kernel_rfl) (inspeximuslaw04_alive.calls (g := g) h424 (hS.st.fore (L := [])) hG0 hG1) (fun a v w hR hE => ?_)) rfl
  obtain ⟨D425, rfl, hS1⟩ := hR
  have le427 := hS1.dle
  have hS := hS.callR hS1 rfl .n
  clear hS1
  refine segN 1 (j := 2) [(6, .bool ((!r423)))] hE (by kernel_rfl) rfl (fun a hE => ?_)
  refine at_end rfl ?_
  refine cond_split hE (b := (!r423)) rfl (fun hb => ?_) (fun hb => ?_)
  · replace hf := cond_t hb hf
    clear hb
    refine wpIn_seq ?_
    refine region_at ?_
    refine segN 1 (j := 1) [(2, .bool false)] hE (by kernel_rfl) rfl (fun a hE => ?_)
    refine at_end rfl ?_
    refine wpIn_ret ?_
    obtain rfl := Option.some.inj hf
    repeat (with_reducible first | refine then_ret ?_ | refine block_ret ?_ | refine qx_ret ?_)
    refine ret_gen ([.bool false]) hE (by rw [show Tryd.f6.results.toList = [.tmp 2] from rfl]; exact ⟨_, _, rfl, rfl, rfl⟩) ?_
    have hS := hS.pk .n rfl
    exact ⟨_, rfl, D425, rfl, hS⟩
  · replace hf := cond_f hb hf
    clear hb
    refine wpIn_skip ?_
    refine wpIn_seq ?_
    obtain ⟨j812, hj813, hf⟩ := jn_elim hf
    refine seq_join (fun a w => ∃ (y463 : Bool), ∃ (D464 : Snap), Env a 73 [] [(1, .pointer (some ⟨b416, 0, none⟩)), (13, .bool (y463))] ∧ Stp g w0 D0 [] w D464 [bx b416 27 (c_T_api_Rec (x1) A2 c3 A5 c6)] ∧ Snap.le D425 D464 ∧ j812 y463 = some r) ?_ ?_
    · clear hj813
      refine region_at ?_
      refine at_op (op_tk hE (tk_load 0 (.agg (List.toArray (c_T_api_Rec (x1) A2 c3 A5 c6))) rfl rfl rfl rfl hE rfl hS rfl rfl (by kernel_rfl) (kL (j := 0) hS rfl List.not_mem_nil) (fun a hE => ?_))) rfl
      obtain ⟨r814, h815, hf⟩ := bind_some hf
      refine at_op (op_call rfl rfl rfl rfl hE rfl rfl rfl rfl (by kernel_rfl) (inspeximusref04_Great.calls (g := g) h815 (hS.st.fore (L := [])) (h4.mono le427) (h7.mono le427)) (fun a v w hR hE => ?_)) rfl
      obtain ⟨D816, rfl, hS1⟩ := hR
      have le818 := hS1.dle
      have hS := hS.callR hS1 rfl .n
      clear hS1
      refine segN 1 (j := 3) [(9, .bool (r814))] hE (by kernel_rfl) rfl (fun a hE => ?_)
      cases hb : r814
      · replace hf := cond_f hb hf
        have hE := hE.know (t := 9) (b := r814) (b' := false) rfl hb
        clear hb
        refine at_op (op_tk hE (tk_load 0 (.agg (List.toArray (c_T_api_Rec (x1) A2 c3 A5 c6))) rfl rfl rfl rfl hE rfl hS rfl rfl (by kernel_rfl) (kL (j := 0) hS rfl List.not_mem_nil) (fun a hE => ?_))) rfl
        obtain ⟨r819, h820, hf⟩ := bind_some hf
        refine at_op (op_call rfl rfl rfl rfl hE rfl rfl rfl rfl (by kernel_rfl) (rec_Right.calls (g := g) h820 (hS.st.fore (L := [])) (h4.mono (Snap.le.trans le427 le818)) (h7.mono (Snap.le.trans le427 le818))) (fun a v w hR hE => ?_)) rfl
        obtain ⟨D821, rfl, hS1⟩ := hR
        have le823 := hS1.dle
        have hS := hS.callR hS1 rfl .n
        clear hS1
        refine segN 2 (j := 7) [(13, .bool ((!r819)))] hE (by kernel_rfl) rfl (fun a hE => ?_)
        refine at_end rfl ?_
        exact ⟨(!r819), D821, hE.weak (by kernel_rfl), hS, (Snap.le.trans le818 le823), hf⟩
      · replace hf := cond_t hb hf
        have hE := hE.know (t := 9) (b := r814) (b' := true) rfl hb
        clear hb
        refine segN 4 (j := 7) [(13, .bool true)] hE (by kernel_rfl) rfl (fun a hE => ?_)
        refine at_end rfl ?_
        exact ⟨true, D816, hE.weak (by kernel_rfl), hS, le818, hf⟩
    · clear hE hS
      rintro a w ⟨y463, D464, hE, hS, le465, hf⟩
      replace hf := hj813 _ hf
      clear hj813
      refine cond_split hE (b := y463) rfl (fun hb => ?_) (fun hb => ?_)
      · replace hf := cond_t hb hf
        clear hb
        refine wpIn_seq ?_
        refine region_at ?_
        refine segN 1 (j := 1) [(2, .bool true)] hE (by kernel_rfl) rfl (fun a hE => ?_)
        refine at_end rfl ?_
        refine wpIn_ret ?_
        obtain rfl := Option.some.inj hf
        repeat (with_reducible first | refine then_ret ?_ | refine block_ret ?_ | refine qx_ret ?_)
        refine ret_gen ([.bool true]) hE (by rw [show Tryd.f6.results.toList = [.tmp 2] from rfl]; exact ⟨_, _, rfl, rfl, rfl⟩) ?_
        have hS := hS.pk .n rfl
        exact ⟨_, rfl, D464, rfl, hS⟩
      · replace hf := cond_f hb hf
        clear hb
        refine wpIn_skip ?_
        refine wpIn_seq ?_
        refine region_draw (fun j => Keeps (mfOf [] j)) (by kernel_rfl) ?_
        have hS := hS.drew
        first | generalize w.drew = w at hS ⊢ | generalize w0.drew = w at hS ⊢
        refine tT 0 1 (fuel := 5) (by kernel_rfl) hE (tk_load 0 (.agg (List.toArray (c_T_api_Rec (x1) A2 c3 A5 c6))) rfl rfl rfl rfl hE rfl hS rfl rfl (by kernel_rfl) (kL (j := 0) hS rfl List.not_mem_nil) (fun a hE => ?_))
        refine tT 2 5 (fuel := 4) (by kernel_rfl) hE (tk_load 0 (.agg (List.toArray (c_T_api_Rec (x1) A2 c3 A5 c6))) rfl rfl rfl rfl hE rfl hS rfl rfl (by kernel_rfl) (kL (j := 0) hS rfl List.not_mem_nil) (fun a hE => ?_))
        obtain ⟨r486, h487, hf⟩ := bind_some hf
        refine oG 1 7 (fuel := 3) (by kernel_rfl) (op_call rfl rfl rfl rfl hE rfl rfl rfl rfl (by kernel_rfl) (rec_Sealed.calls (g := g) h487 (hS.st.fore (L := [])) (h4.mono (Snap.le.trans le427 le465)) (h7.mono (Snap.le.trans le427 le465)) (hG0.mono (Snap.le.trans le427 le465)) (hG1.mono (Snap.le.trans le427 le465))) (fun a v w hR hE => ?_))
        obtain ⟨D488, A490, c491, q492, rfl, hS1, h493⟩ := hR
        refine ⟨(hS1.keeps.sub (M' := []) trivial).mono (fun _ h => h), ?_⟩
        have le495 := hS1.dle
        have hS := hS.callR hS1 rfl (.c .n)
        clear hS1
        obtain ⟨r496, h497, hf⟩ := bind_some hf
        refine oG 3 15 (fuel := 2) (by kernel_rfl) (op_call rfl rfl rfl rfl hE rfl rfl rfl rfl (by kernel_rfl) (rec_Open.calls (g := g) h497 (hS.st.fore (L := [])) (h4.mono (Snap.le.trans (Snap.le.trans le427 le465) le495)) (h7.mono (Snap.le.trans (Snap.le.trans le427 le465) le495))) (fun a v w hR hE => ?_))
        obtain ⟨D498, A500, c501, q502, rfl, hS1, h503⟩ := hR
        refine ⟨(hS1.keeps.sub (M' := []) trivial).mono (fun _ h => h), ?_⟩
        have le505 := hS1.dle
        have hS := hS.callR hS1 rfl (.c .n)
        clear hS1
        refine tW 4 31 (fuel := 1) (by kernel_rfl) hE (fun M => tk_pure (.slice A490 (List.length (r486)) c491) hE rfl rfl rfl rfl (fun _ _ _ e => by cases e) (by kernel_rfl) (fun a hE => ?_))
        refine tW 5 63 (fuel := 0) (by kernel_rfl) hE (fun M => tk_pure (.slice A500 (List.length (r496)) c501) hE rfl rfl rfl rfl (fun _ _ _ e => by cases e) (by kernel_rfl) (fun a hE => ?_))
        refine doneG (by kernel_rfl) ?_
        refine wpIn_seq ?_
        obtain ⟨j756, hj757, hf⟩ := jn_elim hf
        refine seq_join (fun a w => ∃ (y673 : Bool), ∃ (D674 : Snap), Env a 73 [] [(1, .pointer (some ⟨b416, 0, none⟩)), (3, .slice A490 (List.length (r486)) c491), (4, .slice A500 (List.length (r496)) c501), (43, .bool (y673))] ∧ Stp g w0 D0 [] w D674 [bx b416 27 (c_T_api_Rec (x1) A2 c3 A5 c6), q492, q502] ∧ Snap.le D498 D674 ∧ j756 y673 = some r) ?_ ?_
        · clear hj757
          refine region_draw (fun j => Keeps (mfOf [] j)) (by kernel_rfl) ?_
          have hS := hS.drew
          first | generalize w.drew = w at hS ⊢ | generalize w0.drew = w at hS ⊢
          refine tW 0 1 (fuel := 25) (by kernel_rfl) hE (fun M => tk_pure (.slice A490 (List.length (r486)) c491) hE rfl rfl rfl rfl (fun _ _ _ e => by cases e) (by kernel_rfl) (fun a hE => ?_))
          refine tW 1 3 (fuel := 24) (by kernel_rfl) hE (fun M => tk_pure (.int .i64 (((List.length (r486) : Nat) : Int))) hE rfl rfl rfl rfl (fun _ _ _ e => by cases e) (by kernel_rfl) (fun a hE => ?_))
          refine tW 2 7 (fuel := 23) (by kernel_rfl) hE (fun M => tk_pure (.bool ((decide (((List.length (r486) : Nat) : Int) = (0 : Int))))) hE rfl rfl rfl rfl (fun _ _ _ e => by cases e) (by kernel_rfl) (fun a hE => ?_))
          refine tW 3 15 (fuel := 22) (by kernel_rfl) hE (fun M => tk_pure (.bool ((decide (((List.length (r486) : Nat) : Int) = (0 : Int))))) hE rfl rfl rfl rfl (fun _ _ _ e => by cases e) (by kernel_rfl) (fun a hE => ?_))
          cases hb : (decide (((List.length (r486) : Nat) : Int) = (0 : Int)))
          · replace hf := cond_f hb hf
            have hE := hE.know (t := 21) (b := (decide (((List.length (r486) : Nat) : Int) = (0 : Int)))) (b' := false) rfl hb
            clear hb
            refine tW 4 31 (fuel := 21) (by kernel_rfl) hE (fun M => tk_pure (.slice A490 (List.length (r486)) c491) hE rfl rfl rfl rfl (fun _ _ _ e => by cases e) (by kernel_rfl) (fun a hE => ?_))
            obtain ⟨x785, h786, hf⟩ := bind_some hf
            refine tW 5 63 (fuel := 20) (by kernel_rfl) hE (fun M => tk_indexO (K := (kdInt .u8)) (T := 5) (by_ := 1) (zl := 1) rfl rfl rfl rfl hE rfl rfl rfl (by kernel_rfl) (h493.mono le505) h786 (fun a b787 u788 hq hE => ?_))
            subst hq
            obtain ⟨cs789, C790, hr791, hb792, hc793⟩ := OwnD.cell (h493.mono le505) h786
            obtain rfl := hr791
            refine tT 6 127 (fuel := 19) (by kernel_rfl) hE (tk_loadO 1 (off0 := Int.toNat ((0 : Int)) * 1) (off := 0) (c := [.int .u8 (x785)]) (Cl := C790) (T := 5) (fr := (0, 0)) (.int .u8 (x785)) rfl rfl rfl rfl hE rfl hS rfl (by rw [hb792]; rfl) hc793 (by kernel_rfl) (kL (j := 1) hS rfl List.not_mem_nil) (fun a hE => ?_))
            refine tW 7 255 (fuel := 18) (by kernel_rfl) hE (fun M => tk_pure (.int .i64 ((IntKind.wrap .i64 x785))) hE rfl rfl rfl rfl (fun _ _ _ e => by cases e; rfl) (by kernel_rfl) (fun a hE => ?_))
            refine tW 8 511 (fuel := 17) (by kernel_rfl) hE (fun M => g_fieldAddr (fo := 0) (ft := 3) 0 rfl rfl rfl rfl hE rfl rfl (by kernel_rfl) rfl (fun a hE => ?_))
            refine tT 9 1023 (fuel := 16) (by kernel_rfl) hE (tk_load 2 (.int .i64 (x1.fKind)) rfl rfl rfl rfl hE rfl hS rfl rfl (by kernel_rfl) (kL (j := 2) hS rfl List.not_mem_nil) (fun a hE => ?_))
            refine tW 10 2047 (fuel := 15) (by kernel_rfl) hE (fun M => tk_pure (.bool ((!decide ((IntKind.wrap .i64 x785) = x1.fKind)))) hE rfl rfl rfl rfl (fun _ _ _ e => by cases e) (by kernel_rfl) (fun a hE => ?_))
            refine tW 11 4095 (fuel := 14) (by kernel_rfl) hE (fun M => tk_pure (.bool ((!decide ((IntKind.wrap .i64 x785) = x1.fKind)))) hE rfl rfl rfl rfl (fun _ _ _ e => by cases e) (by kernel_rfl) (fun a hE => ?_))
            refine tW 12 8191 (fuel := 13) (by kernel_rfl) hE (fun M => tk_pure (.bool ((!decide ((IntKind.wrap .i64 x785) = x1.fKind)))) hE rfl rfl rfl rfl (fun _ _ _ e => by cases e) (by kernel_rfl) (fun a hE => ?_))
            cases hb : (!decide ((IntKind.wrap .i64 x785) = x1.fKind))
            · replace hf := cond_f hb hf
              have hE := hE.know (t := 30) (b := (!decide ((IntKind.wrap .i64 x785) = x1.fKind))) (b' := false) rfl hb
              clear hb
              refine tW 13 16383 (fuel := 12) (by kernel_rfl) hE (fun M => tk_pure (.slice A500 (List.length (r496)) c501) hE rfl rfl rfl rfl (fun _ _ _ e => by cases e) (by kernel_rfl) (fun a hE => ?_))
              refine tW 14 32767 (fuel := 11) (by kernel_rfl) hE (fun M => tk_pure (.int .i64 (((List.length (r496) : Nat) : Int))) hE rfl rfl rfl rfl (fun _ _ _ e => by cases e) (by kernel_rfl) (fun a hE => ?_))
              refine tW 15 65535 (fuel := 10) (by kernel_rfl) hE (fun M => tk_pure (.bool ((decide (((List.length (r496) : Nat) : Int) = (0 : Int))))) hE rfl rfl rfl rfl (fun _ _ _ e => by cases e) (by kernel_rfl) (fun a hE => ?_))
              refine tW 16 131071 (fuel := 9) (by kernel_rfl) hE (fun M => tk_pure (.bool ((decide (((List.length (r496) : Nat) : Int) = (0 : Int))))) hE rfl rfl rfl rfl (fun _ _ _ e => by cases e) (by kernel_rfl) (fun a hE => ?_))
              refine tW 17 262143 (fuel := 8) (by kernel_rfl) hE (fun M => tk_pure (.bool ((decide (((List.length (r496) : Nat) : Int) = (0 : Int))))) hE rfl rfl rfl rfl (fun _ _ _ e => by cases e) (by kernel_rfl) (fun a hE => ?_))
              cases hb : (decide (((List.length (r496) : Nat) : Int) = (0 : Int)))
              · replace hf := cond_f hb hf
                have hE := hE.know (t := 35) (b := (decide (((List.length (r496) : Nat) : Int) = (0 : Int)))) (b' := false) rfl hb
                clear hb
                refine tW 18 524287 (fuel := 7) (by kernel_rfl) hE (fun M => tk_pure (.slice A500 (List.length (r496)) c501) hE rfl rfl rfl rfl (fun _ _ _ e => by cases e) (by kernel_rfl) (fun a hE => ?_))
                refine tW 21 2621439 (fuel := 6) (by kernel_rfl) hE (fun M => tk_pure (.slice A490 (List.length (r486)) c491) hE rfl rfl rfl rfl (fun _ _ _ e => by cases e) (by kernel_rfl) (fun a hE => ?_))
                obtain ⟨x794, h795, hf⟩ := bind_some hf
                refine tW 19 3145727 (fuel := 5) (by kernel_rfl) hE (fun M => tk_indexO (K := (kdInt .u8)) (T := 5) (by_ := 1) (zl := 1) rfl rfl rfl rfl hE rfl rfl rfl (by kernel_rfl) h503 h795 (fun a b796 u797 hq hE => ?_))
                subst hq
                obtain ⟨cs798, C799, hr800, hb801, hc802⟩ := OwnD.cell h503 h795
                obtain rfl := hr800
                refine tT 20 4194303 (fuel := 4) (by kernel_rfl) hE (tk_loadO 0 (off0 := Int.toNat ((0 : Int)) * 1) (off := 0) (c := [.int .u8 (x794)]) (Cl := C799) (T := 5) (fr := (0, 0)) (.int .u8 (x794)) rfl rfl rfl rfl hE rfl hS rfl (by rw [hb801]; rfl) hc802 (by kernel_rfl) (kL (j := 0) hS rfl List.not_mem_nil) (fun a hE => ?_))
                obtain ⟨x803, h804, hf⟩ := bind_some hf
                refine tW 22 8388607 (fuel := 3) (by kernel_rfl) hE (fun M => tk_indexO (K := (kdInt .u8)) (T := 5) (by_ := 1) (zl := 1) rfl rfl rfl rfl hE rfl rfl rfl (by kernel_rfl) (h493.mono le505) h804 (fun a b805 u806 hq hE => ?_))
                obtain ⟨rfl, rfl⟩ := some_pair hq
                obtain ⟨cs807, C808, hr809, hb810, hc811⟩ := OwnD.cell (h493.mono le505) h804
                obtain rfl := hr809
                refine tT 23 16777215 (fuel := 2) (by kernel_rfl) hE (tk_loadO 1 (off0 := Int.toNat ((0 : Int)) * 1) (off := 0) (c := [.int .u8 (x803)]) (Cl := C808) (T := 5) (fr := (0, 0)) (.int .u8 (x803)) rfl rfl rfl rfl hE rfl hS rfl (by rw [hb810]; rfl) hc811 (by kernel_rfl) (kL (j := 1) hS rfl List.not_mem_nil) (fun a hE => ?_))
                refine tW 24 33554431 (fuel := 1) (by kernel_rfl) hE (fun M => tk_pure (.bool ((!decide (x794 = x803)))) hE rfl rfl rfl rfl (fun _ _ _ e => by cases e) (by kernel_rfl) (fun a hE => ?_))
                refine tW 25 67108863 (fuel := 0) (by kernel_rfl) hE (fun M => tk_pure (.bool ((!decide (x794 = x803)))) hE rfl rfl rfl rfl (fun _ _ _ e => by cases e) (by kernel_rfl) (fun a hE => ?_))
                refine doneG (by kernel_rfl) ?_
                have hS := hS.pk (.c 2 rfl (.c 1 rfl (.c 0 rfl .n))) rfl
                exact ⟨(!decide (x794 = x803)), D498, hE.weak (by kernel_rfl), hS, Snap.le.refl _, hf⟩
              · replace hf := cond_t hb hf
                have hE := hE.know (t := 35) (b := (decide (((List.length (r496) : Nat) : Int) = (0 : Int)))) (b' := true) rfl hb
                clear hb
                refine tW 18 524287 (fuel := 7) (by kernel_rfl) hE (fun M => tk_skip hE rfl rfl rfl rfl (fun a hE => ?_))
                refine tW 19 1048575 (fuel := 6) (by kernel_rfl) hE (fun M => tk_skip hE rfl rfl rfl rfl (fun a hE => ?_))
                refine tW 20 2097151 (fuel := 5) (by kernel_rfl) hE (fun M => tk_skip hE rfl rfl rfl rfl (fun a hE => ?_))
                refine tW 21 4194303 (fuel := 4) (by kernel_rfl) hE (fun M => tk_skip hE rfl rfl rfl rfl (fun a hE => ?_))
                refine tW 22 8388607 (fuel := 3) (by kernel_rfl) hE (fun M => tk_skip hE rfl rfl rfl rfl (fun a hE => ?_))
                refine tW 23 16777215 (fuel := 2) (by kernel_rfl) hE (fun M => tk_skip hE rfl rfl rfl rfl (fun a hE => ?_))
                refine tW 24 33554431 (fuel := 1) (by kernel_rfl) hE (fun M => tk_skip hE rfl rfl rfl rfl (fun a hE => ?_))
                refine tW 25 67108863 (fuel := 0) (by kernel_rfl) hE (fun M => tk_pure (.bool true) hE rfl rfl rfl rfl (fun _ _ _ e => by cases e) (by kernel_rfl) (fun a hE => ?_))
                refine doneG (by kernel_rfl) ?_
                have hS := hS.pk (.c 2 rfl (.c 1 rfl (.c 0 rfl .n))) rfl
                exact ⟨true, D498, hE.weak (by kernel_rfl), hS, Snap.le.refl _, hf⟩
            · replace hf := cond_t hb hf
              have hE := hE.know (t := 30) (b := (!decide ((IntKind.wrap .i64 x785) = x1.fKind))) (b' := true) rfl hb
              clear hb
              refine tW 13 16383 (fuel := 12) (by kernel_rfl) hE (fun M => tk_skip hE rfl rfl rfl rfl (fun a hE => ?_))
              refine tW 14 32767 (fuel := 11) (by kernel_rfl) hE (fun M => tk_skip hE rfl rfl rfl rfl (fun a hE => ?_))
              refine tW 15 65535 (fuel := 10) (by kernel_rfl) hE (fun M => tk_skip hE rfl rfl rfl rfl (fun a hE => ?_))
              refine tW 16 131071 (fuel := 9) (by kernel_rfl) hE (fun M => tk_pure (.bool true) hE rfl rfl rfl rfl (fun _ _ _ e => by cases e) (by kernel_rfl) (fun a hE => ?_))
              refine tW 17 262143 (fuel := 8) (by kernel_rfl) hE (fun M => tk_pure (.bool true) hE rfl rfl rfl rfl (fun _ _ _ e => by cases e) (by kernel_rfl) (fun a hE => ?_))
              refine tW 18 524287 (fuel := 7) (by kernel_rfl) hE (fun M => tk_skip hE rfl rfl rfl rfl (fun a hE => ?_))
              refine tW 19 1048575 (fuel := 6) (by kernel_rfl) hE (fun M => tk_skip hE rfl rfl rfl rfl (fun a hE => ?_))
              refine tW 20 2097151 (fuel := 5) (by kernel_rfl) hE (fun M => tk_skip hE rfl rfl rfl rfl (fun a hE => ?_))
              refine tW 21 4194303 (fuel := 4) (by kernel_rfl) hE (fun M => tk_skip hE rfl rfl rfl rfl (fun a hE => ?_))
              refine tW 22 8388607 (fuel := 3) (by kernel_rfl) hE (fun M => tk_skip hE rfl rfl rfl rfl (fun a hE => ?_))
              refine tW 23 16777215 (fuel := 2) (by kernel_rfl) hE (fun M => tk_skip hE rfl rfl rfl rfl (fun a hE => ?_))
              refine tW 24 33554431 (fuel := 1) (by kernel_rfl) hE (fun M => tk_skip hE rfl rfl rfl rfl (fun a hE => ?_))
              refine tW 25 67108863 (fuel := 0) (by kernel_rfl) hE (fun M => tk_pure (.bool true) hE rfl rfl rfl rfl (fun _ _ _ e => by cases e) (by kernel_rfl) (fun a hE => ?_))
              refine doneG (by kernel_rfl) ?_
              have hS := hS.pk (.c 2 rfl (.c 1 rfl (.c 0 rfl .n))) rfl
              exact ⟨true, D498, hE.weak (by kernel_rfl), hS, Snap.le.refl _, hf⟩
          · replace hf := cond_t hb hf
            have hE := hE.know (t := 21) (b := (decide (((List.length (r486) : Nat) : Int) = (0 : Int)))) (b' := true) rfl hb
            clear hb
            refine tW 4 31 (fuel := 21) (by kernel_rfl) hE (fun M => tk_skip hE rfl rfl rfl rfl (fun a hE => ?_))
            refine tW 5 63 (fuel := 20) (by kernel_rfl) hE (fun M => tk_skip hE rfl rfl rfl rfl (fun a hE => ?_))
            refine tW 6 127 (fuel := 19) (by kernel_rfl) hE (fun M => tk_skip hE rfl rfl rfl rfl (fun a hE => ?_))
            refine tW 7 255 (fuel := 18) (by kernel_rfl) hE (fun M => tk_skip hE rfl rfl rfl rfl (fun a hE => ?_))
            refine tW 8 511 (fuel := 17) (by kernel_rfl) hE (fun M => tk_skip hE rfl rfl rfl rfl (fun a hE => ?_))
            refine tW 9 1023 (fuel := 16) (by kernel_rfl) hE (fun M => tk_skip hE rfl rfl rfl rfl (fun a hE => ?_))
            refine tW 10 2047 (fuel := 15) (by kernel_rfl) hE (fun M => tk_skip hE rfl rfl rfl rfl (fun a hE => ?_))
            refine tW 11 4095 (fuel := 14) (by kernel_rfl) hE (fun M => tk_pure (.bool true) hE rfl rfl rfl rfl (fun _ _ _ e => by cases e) (by kernel_rfl) (fun a hE => ?_))
            refine tW 12 8191 (fuel := 13) (by kernel_rfl) hE (fun M => tk_pure (.bool true) hE rfl rfl rfl rfl (fun _ _ _ e => by cases e) (by kernel_rfl) (fun a hE => ?_))
            refine tW 13 16383 (fuel := 12) (by kernel_rfl) hE (fun M => tk_skip hE rfl rfl rfl rfl (fun a hE => ?_))
            refine tW 14 32767 (fuel := 11) (by kernel_rfl) hE (fun M => tk_skip hE rfl rfl rfl rfl (fun a hE => ?_))
            refine tW 15 65535 (fuel := 10) (by kernel_rfl) hE (fun M => tk_skip hE rfl rfl rfl rfl (fun a hE => ?_))
            refine tW 16 131071 (fuel := 9) (by kernel_rfl) hE (fun M => tk_pure (.bool true) hE rfl rfl rfl rfl (fun _ _ _ e => by cases e) (by kernel_rfl) (fun a hE => ?_))
            refine tW 17 262143 (fuel := 8) (by kernel_rfl) hE (fun M => tk_pure (.bool true) hE rfl rfl rfl rfl (fun _ _ _ e => by cases e) (by kernel_rfl) (fun a hE => ?_))
            refine tW 18 524287 (fuel := 7) (by kernel_rfl) hE (fun M => tk_skip hE rfl rfl rfl rfl (fun a hE => ?_))
            refine tW 19 1048575 (fuel := 6) (by kernel_rfl) hE (fun M => tk_skip hE rfl rfl rfl rfl (fun a hE => ?_))
            refine tW 20 2097151 (fuel := 5) (by kernel_rfl) hE (fun M => tk_skip hE rfl rfl rfl rfl (fun a hE => ?_))
            refine tW 21 4194303 (fuel := 4) (by kernel_rfl) hE (fun M => tk_skip hE rfl rfl rfl rfl (fun a hE => ?_))
            refine tW 22 8388607 (fuel := 3) (by kernel_rfl) hE (fun M => tk_skip hE rfl rfl rfl rfl (fun a hE => ?_))
            refine tW 23 16777215 (fuel := 2) (by kernel_rfl) hE (fun M => tk_skip hE rfl rfl rfl rfl (fun a hE => ?_))
            refine tW 24 33554431 (fuel := 1) (by kernel_rfl) hE (fun M => tk_skip hE rfl rfl rfl rfl (fun a hE => ?_))
            refine tW 25 67108863 (fuel := 0) (by kernel_rfl) hE (fun M => tk_pure (.bool true) hE rfl rfl rfl rfl (fun _ _ _ e => by cases e) (by kernel_rfl) (fun a hE => ?_))
            refine doneG (by kernel_rfl) ?_
            have hS := hS.pk (.c 2 rfl (.c 1 rfl (.c 0 rfl .n))) rfl
            exact ⟨true, D498, hE.weak (by kernel_rfl), hS, Snap.le.refl _, hf⟩
        · clear hE hS
          rintro a w ⟨y673, D674, hE, hS, le675, hf⟩
          replace hf := hj757 _ hf
          clear hj757
          refine cond_split hE (b := y673) rfl (fun hb => ?_) (fun hb => ?_)
          · replace hf := cond_t hb hf
            clear hb
            refine wpIn_seq ?_
            refine region_at ?_
            refine segN 1 (j := 1) [(2, .bool false)] hE (by kernel_rfl) rfl (fun a hE => ?_)
            refine at_end rfl ?_
            refine wpIn_ret ?_
            obtain rfl := Option.some.inj hf
            repeat (with_reducible first | refine then_ret ?_ | refine block_ret ?_ | refine qx_ret ?_)
            refine ret_gen ([.bool false]) hE (by rw [show Tryd.f6.results.toList = [.tmp 2] from rfl]; exact ⟨_, _, rfl, rfl, rfl⟩) ?_
            have hS := hS.pk .n rfl
            exact ⟨_, rfl, D674, rfl, hS⟩
          · replace hf := cond_f hb hf
            clear hb
            refine wpIn_skip ?_
            refine wpIn_seq ?_
            refine wpIn_seq ?_
            refine region_at ?_
            refine at_op (op_tk hE (g_fieldAddr (fo := 0) (ft := 3) 0 rfl rfl rfl rfl hE rfl rfl (by kernel_rfl) rfl (fun a hE => ?_))) rfl
            refine at_op (op_tk hE (tk_load 0 (.int .i64 (x1.fKind)) rfl rfl rfl rfl hE rfl hS rfl rfl (by kernel_rfl) (kL (j := 0) hS rfl List.not_mem_nil) (fun a hE => ?_))) rfl
            refine segN 1 (j := 3) [(46, .bool ((!decide (x1.fKind = (1 : Int)))))] hE (by kernel_rfl) rfl (fun a hE => ?_)
            refine at_end rfl ?_
            refine cond_split hE (b := (!decide (x1.fKind = (1 : Int)))) rfl (fun hb => ?_) (fun hb => ?_)
            · replace hf := cond_t hb hf
              clear hb
              refine wpIn_seq ?_
              refine region_at ?_
              refine segN 2 (j := 2) [(47, .slice A490 (List.length (r486)) c491), (48, .slice A500 (List.length (r496)) c501)] hE (by kernel_rfl) rfl (fun a hE => ?_)
              have hS := hS.pk (.c 1 rfl (.c 0 rfl (.c 2 rfl .n))) rfl
              obtain ⟨D736, q739, le737, hS, h740, h738⟩ := hS.lent (h493.mono (Snap.le.trans le505 le675))
              have hS := hS.pk (.c 2 rfl (.c 0 rfl (.c 1 rfl .n))) rfl
              obtain ⟨D741, q744, le742, hS, h745, h743⟩ := hS.lent (h503.mono (Snap.le.trans le675 le737))
              obtain ⟨r746, h747, hf⟩ := bind_some hf
              refine at_op (op_call rfl rfl rfl rfl hE rfl rfl rfl rfl (by kernel_rfl) (inspeximusref01_Bytes.calls (g := g) h747 (hS.st.fore (L := [])) (h738.mono le742) h743) (fun a v w hR hE => ?_)) rfl
              obtain ⟨D748, rfl, hS1⟩ := hR
              have le750 := hS1.dle
              have hS := hS.callR hS1 rfl .n
              clear hS1
              refine segN 1 (j := 4) [(50, .bool (r746))] hE (by kernel_rfl) rfl (fun a hE => ?_)
              cases hb : r746
              · replace hf := cond_f hb hf
                have hE := hE.know (t := 50) (b := r746) (b' := false) rfl hb
                clear hb
                refine segN 6 (j := 10) [(2, .bool false)] hE (by kernel_rfl) rfl (fun a hE => ?_)
                refine at_end rfl ?_
                refine wpIn_ret ?_
                obtain rfl := Option.some.inj hf
                repeat (with_reducible first | refine then_ret ?_ | refine block_ret ?_ | refine qx_ret ?_)
                refine ret_gen ([.bool false]) hE (by rw [show Tryd.f6.results.toList = [.tmp 2] from rfl]; exact ⟨_, _, rfl, rfl, rfl⟩) ?_
                have hS := hS.pk .n rfl
                exact ⟨_, rfl, D748, rfl, hS⟩
              · replace hf := cond_t hb hf
                have hE := hE.know (t := 50) (b := r746) (b' := true) rfl hb
                clear hb
                refine at_op (op_tk hE (tk_load 2 (.agg (List.toArray (c_T_api_Rec (x1) A2 c3 A5 c6))) rfl rfl rfl rfl hE rfl hS rfl rfl (by kernel_rfl) (kL (j := 2) hS rfl List.not_mem_nil) (fun a hE => ?_))) rfl
                obtain ⟨r751, h752, hf⟩ := bind_some hf
                refine at_op (op_call rfl rfl rfl rfl hE rfl rfl rfl rfl (by kernel_rfl) (rec_Com.calls (g := g) h752 (hS.st.fore (L := [])) (h4.mono (Snap.le.trans (Snap.le.trans (Snap.le.trans (Snap.le.trans (Snap.le.trans (Snap.le.trans (Snap.le.trans le427 le465) le495) le505) le675) le737) le742) le750)) (h7.mono (Snap.le.trans (Snap.le.trans (Snap.le.trans (Snap.le.trans (Snap.le.trans (Snap.le.trans (Snap.le.trans le427 le465) le495) le505) le675) le737) le742) le750)) (hG0.mono (Snap.le.trans (Snap.le.trans (Snap.le.trans (Snap.le.trans (Snap.le.trans (Snap.le.trans (Snap.le.trans le427 le465) le495) le505) le675) le737) le742) le750)) (hG1.mono (Snap.le.trans (Snap.le.trans (Snap.le.trans (Snap.le.trans (Snap.le.trans (Snap.le.trans (Snap.le.trans le427 le465) le495) le505) le675) le737) le742) le750))) (fun a v w hR hE => ?_)) rfl
                obtain ⟨D753, rfl, hS1⟩ := hR
                have le755 := hS1.dle
                have hS := hS.callR hS1 rfl .n
                clear hS1
                refine at_op (op_tk hE (tk_build (acells .u8 32 ((vofL 32 [(0 : Int), (0 : Int), (0 : Int), (0 : Int), (0 : Int), (0 : Int), (0 : Int), (0 : Int), (0 : Int), (0 : Int), (0 : Int), (0 : Int), (0 : Int), (0 : Int), (0 : Int), (0 : Int), (0 : Int), (0 : Int), (0 : Int), (0 : Int), (0 : Int), (0 : Int), (0 : Int), (0 : Int), (0 : Int), (0 : Int), (0 : Int), (0 : Int), (0 : Int), (0 : Int), (0 : Int), (0 : Int)]))) rfl rfl rfl rfl hE rfl rfl (by kernel_rfl) (fun a hE => ?_))) rfl
                refine at_op (op_tk hE (tk_bin (r := .bool ((decide (r751 = (vofL 32 [(0 : Int), (0 : Int), (0 : Int), (0 : Int), (0 : Int), (0 : Int), (0 : Int), (0 : Int), (0 : Int), (0 : Int), (0 : Int), (0 : Int), (0 : Int), (0 : Int), (0 : Int), (0 : Int), (0 : Int), (0 : Int), (0 : Int), (0 : Int), (0 : Int), (0 : Int), (0 : Int), (0 : Int), (0 : Int), (0 : Int), (0 : Int), (0 : Int), (0 : Int), (0 : Int), (0 : Int), (0 : Int)]))))) rfl rfl rfl rfl hE rfl rfl rfl (eqagg_run (by kernel_rfl) (EqR_arr (k := .u8) (N := 32) (by kernel_rfl))) (fun a hE => ?_))) rfl
                refine segN 2 (j := 10) [(2, .bool ((decide (r751 = (vofL 32 [(0 : Int), (0 : Int), (0 : Int), (0 : Int), (0 : Int), (0 : Int), (0 : Int), (0 : Int), (0 : Int), (0 : Int), (0 : Int), (0 : Int), (0 : Int), (0 : Int), (0 : Int), (0 : Int), (0 : Int), (0 : Int), (0 : Int), (0 : Int), (0 : Int), (0 : Int), (0 : Int), (0 : Int), (0 : Int), (0 : Int), (0 : Int), (0 : Int), (0 : Int), (0 : Int), (0 : Int), (0 : Int)])))))] hE (by kernel_rfl) rfl (fun a hE => ?_)
                refine at_end rfl ?_
                refine wpIn_ret ?_
                obtain rfl := Option.some.inj hf
                repeat (with_reducible first | refine then_ret ?_ | refine block_ret ?_ | refine qx_ret ?_)
                refine ret_gen ([.bool ((decide (r751 = (vofL 32 [(0 : Int), (0 : Int), (0 : Int), (0 : Int), (0 : Int), (0 : Int), (0 : Int), (0 : Int), (0 : Int), (0 : Int), (0 : Int), (0 : Int), (0 : Int), (0 : Int), (0 : Int), (0 : Int), (0 : Int), (0 : Int), (0 : Int), (0 : Int), (0 : Int), (0 : Int), (0 : Int), (0 : Int), (0 : Int), (0 : Int), (0 : Int), (0 : Int), (0 : Int), (0 : Int), (0 : Int), (0 : Int)]))))]) hE (by rw [show Tryd.f6.results.toList = [.tmp 2] from rfl]; exact ⟨_, _, rfl, rfl, rfl⟩) ?_
                have hS := hS.pk .n rfl
                exact ⟨_, rfl, D753, rfl, hS⟩
            · replace hf := cond_f hb hf
              clear hb
              refine wpIn_skip ?_
              refine wpIn_seq ?_
              refine region_at ?_
              refine segN 7 (j := 7) [(62, .bool ((decide ((IntKind.wrap .i64 (((List.length (r486) : Nat) : Int) + (1 : Int))) ≤ ((List.length (r496) : Nat) : Int)))))] hE (by kernel_rfl) rfl (fun a hE => ?_)
              cases hb : (decide ((IntKind.wrap .i64 (((List.length (r486) : Nat) : Int) + (1 : Int))) ≤ ((List.length (r496) : Nat) : Int)))
              · replace hf := cond_f hb hf
                have hE := hE.know (t := 62) (b := (decide ((IntKind.wrap .i64 (((List.length (r486) : Nat) : Int) + (1 : Int))) ≤ ((List.length (r496) : Nat) : Int)))) (b' := false) rfl hb
                clear hb
                refine segN 11 (j := 18) [(2, .bool false)] hE (by kernel_rfl) rfl (fun a hE => ?_)
                refine at_end rfl ?_
                refine wpIn_ret ?_
                obtain rfl := Option.some.inj hf
                repeat (with_reducible first | refine then_ret ?_ | refine block_ret ?_ | refine qx_ret ?_)
                refine ret_gen ([.bool false]) hE (by rw [show Tryd.f6.results.toList = [.tmp 2] from rfl]; exact ⟨_, _, rfl, rfl, rfl⟩) ?_
                have hS := hS.pk .n rfl
                exact ⟨_, rfl, D674, rfl, hS⟩
              · replace hf := cond_t hb hf
                have hE := hE.know (t := 62) (b := (decide ((IntKind.wrap .i64 (((List.length (r486) : Nat) : Int) + (1 : Int))) ≤ ((List.length (r496) : Nat) : Int)))) (b' := true) rfl hb
                clear hb
                refine at_op (op_tk hE (g_fieldAddr (fo := 76) (ft := 4) 76 rfl rfl rfl rfl hE rfl rfl (by kernel_rfl) rfl (fun a hE => ?_))) rfl
                refine at_op (op_tk hE (tk_load 0 (.bool (x1.fGone)) rfl rfl rfl rfl hE rfl hS rfl rfl (by kernel_rfl) (kL (j := 0) hS rfl List.not_mem_nil) (fun a hE => ?_))) rfl
                refine segN 6 (j := 15) [(70, .bool ((decide (((List.length (r496) : Nat) : Int) = (IntKind.wrap .i64 (((List.length (r486) : Nat) : Int) + (1 : Int)))))))] hE (by kernel_rfl) rfl (fun a hE => ?_)
                refine at_op (op_tk hE (tk_bin (r := .bool ((x1.fGone == (decide (((List.length (r496) : Nat) : Int) = (IntKind.wrap .i64 (((List.length (r486) : Nat) : Int) + (1 : Int)))))))) rfl rfl rfl rfl hE rfl rfl rfl (eqb_run (by kernel_rfl) _ _) (fun a hE => ?_))) rfl
                refine segN 2 (j := 18) [(2, .bool ((x1.fGone == (decide (((List.length (r496) : Nat) : Int) = (IntKind.wrap .i64 (((List.length (r486) : Nat) : Int) + (1 : Int))))))))] hE (by kernel_rfl) rfl (fun a hE => ?_)
                refine at_end rfl ?_
                refine wpIn_ret ?_
                obtain rfl := Option.some.inj hf
                repeat (with_reducible first | refine then_ret ?_ | refine block_ret ?_ | refine qx_ret ?_)
                refine ret_gen ([.bool ((x1.fGone == (decide (((List.length (r496) : Nat) : Int) = (IntKind.wrap .i64 (((List.length (r486) : Nat) : Int) + (1 : Int)))))))]) hE (by rw [show Tryd.f6.results.toList = [.tmp 2] from rfl]; exact ⟨_, _, rfl, rfl, rfl⟩) ?_
                have hS := hS.pk .n rfl
                exact ⟨_, rfl, D674, rfl, hS⟩

end Go.Proofs.YtlcnliiampfigaaDoor
