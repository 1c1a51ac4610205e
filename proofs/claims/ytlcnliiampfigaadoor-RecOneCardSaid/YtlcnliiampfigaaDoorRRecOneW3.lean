/-
  Proved, text by text: a call of a function of the cut comes to what its plain function computes.
  Conditions: those that each theorem names.
-/
import Derived.Test.YtlcnliiampfigaaDoorProg
import Derived.Test.YtlcnliiampfigaaDoorRRecOneW2
set_option linter.unusedVariables false
namespace Go.Proofs.YtlcnliiampfigaaDoor
open Go Go.Sep

set_option maxRecDepth 100000 in
set_option maxHeartbeats 4000000 in
theorem inspeximuslaw04_RecOne.calls {K : Nat} {g w0 : World} {D0 : Snap} {x1 : T_api_Rec} {x8 : T_api_Rec} {A2 : Option Addr} {c3 : Nat} {A5 : Option Addr} {c6 : Nat} {A9 : Option Addr} {c10 : Nat} {A12 : Option Addr} {c13 : Nat} {r : (Bool)} (hf : inspeximuslaw04_RecOne.f K x1 x8 = some r) (hS0 : St g w0 D0 []) (h4 : Sl kd_T_api_Step D0 A2 c3 (x1.fSteps)) (h7 : Sl (kdInt .u8) D0 A5 c6 (x1.fData)) (h11 : Sl kd_T_api_Step D0 A9 c10 (x8.fSteps)) (h14 : Sl (kdInt .u8) D0 A12 c13 (x8.fData)) (hG0 : Cell (kdArr .u32 8) D0 0 0 gl_First) (hG1 : Cell (kdArr .u32 64) D0 1 0 gl_K) :
    CallsIn (Fw none) 0 Tryd.prog 5 (List.toArray [.agg (List.toArray (c_T_api_Rec (x1) A2 c3 A5 c6)), .agg (List.toArray (c_T_api_Rec (x8) A9 c10 A12 c13))]) w0 (fun e w' => ∃ v, e = .returned v ∧ ∃ (D1 : Snap), v = .bool (r) ∧ Stp g w0 D0 [] w' D1 []) := by
  unfold inspeximuslaw04_RecOne.f at hf
  have hS := Stp.refl hS0
  clear hS0
  refine calls_body (n := 34) Tryd.func5 rfl Tryd.ntmps5 rfl (fun a hE => ?_)
  have hE : Env a 34 [] [(0, .agg (List.toArray (c_T_api_Rec (x1) A2 c3 A5 c6))), (1, .agg (List.toArray (c_T_api_Rec (x8) A9 c10 A12 c13)))] := hE
  refine wpIn_seq ?_
  refine region_at ?_
  refine at_op (op_box rfl rfl rfl rfl hE rfl hS rfl (fun a b243 w _ hE hS => ?_)) rfl
  refine at_op (op_box rfl rfl rfl rfl hE rfl hS rfl (fun a b245 w _ hE hS => ?_)) rfl
  refine segN 1 (j := 3) [(4, .bool false)] hE (by kernel_rfl) rfl (fun a hE => ?_)
  refine at_end rfl ?_
  refine wpIn_seq ?_
  refine wpIn_seq ?_
  refine region_at ?_
  obtain ⟨r252, h253, hf⟩ := bind_some hf
  refine at_op (op_call rfl rfl rfl rfl hE rfl rfl rfl rfl (by kernel_rfl) (inspeximuslaw04_alive.calls (g := g) h253 (hS.st.fore (L := [])) hG0 hG1) (fun a v w hR hE => ?_)) rfl
  obtain ⟨D254, rfl, hS1⟩ := hR
  have le256 := hS1.dle
  have hS := hS.callR hS1 rfl .n
  clear hS1
  refine segN 1 (j := 2) [(6, .bool ((!r252)))] hE (by kernel_rfl) rfl (fun a hE => ?_)
  refine at_end rfl ?_
  refine cond_split hE (b := (!r252)) rfl (fun hb => ?_) (fun hb => ?_)
  · replace hf := cond_t hb hf
    clear hb
    refine wpIn_seq ?_
    refine region_at ?_
    refine segN 1 (j := 1) [(4, .bool false)] hE (by kernel_rfl) rfl (fun a hE => ?_)
    refine at_end rfl ?_
    refine wpIn_ret ?_
    obtain rfl := Option.some.inj hf
    repeat (with_reducible first | refine then_ret ?_ | refine block_ret ?_ | refine qx_ret ?_)
    refine ret_gen ([.bool false]) hE (by rw [show Tryd.f5.results.toList = [.tmp 4] from rfl]; exact ⟨_, _, rfl, rfl, rfl⟩) ?_
    have hS := hS.pk .n rfl
    exact ⟨_, rfl, D254, rfl, hS⟩
  · replace hf := cond_f hb hf
    clear hb
    refine wpIn_skip ?_
    refine wpIn_seq ?_
    obtain ⟨j449, hj450, hf⟩ := jn_elim hf
    refine seq_join (fun a w => ∃ (y322 : Bool), ∃ (D323 : Snap), Env a 34 [] [(2, .pointer (some ⟨b243, 0, none⟩)), (3, .pointer (some ⟨b245, 0, none⟩)), (22, .bool (y322))] ∧ Stp g w0 D0 [] w D323 [bx b243 27 (c_T_api_Rec (x1) A2 c3 A5 c6), bx b245 27 (c_T_api_Rec (x8) A9 c10 A12 c13)] ∧ Snap.le D254 D323 ∧ j449 y322 = some r) ?_ ?_
    · clear hj450
      refine region_at ?_
      refine at_op (op_tk hE (tk_load 1 (.agg (List.toArray (c_T_api_Rec (x1) A2 c3 A5 c6))) rfl rfl rfl rfl hE rfl hS rfl rfl (by kernel_rfl) (kL (j := 1) hS rfl List.not_mem_nil) (fun a hE => ?_))) rfl
      obtain ⟨r451, h452, hf⟩ := bind_some hf
      refine at_op (op_call rfl rfl rfl rfl hE rfl rfl rfl rfl (by kernel_rfl) (inspeximusref04_Great.calls (g := g) h452 (hS.st.fore (L := [])) (h4.mono le256) (h7.mono le256)) (fun a v w hR hE => ?_)) rfl
      obtain ⟨D453, rfl, hS1⟩ := hR
      have le455 := hS1.dle
      have hS := hS.callR hS1 rfl .n
      clear hS1
      refine segN 1 (j := 3) [(9, .bool (r451))] hE (by kernel_rfl) rfl (fun a hE => ?_)
      cases hb : r451
      · replace hf := cond_f hb hf
        have hE := hE.know (t := 9) (b := r451) (b' := false) rfl hb
        clear hb
        refine at_op (op_tk hE (tk_load 0 (.agg (List.toArray (c_T_api_Rec (x8) A9 c10 A12 c13))) rfl rfl rfl rfl hE rfl hS rfl rfl (by kernel_rfl) (kL (j := 0) hS rfl List.not_mem_nil) (fun a hE => ?_))) rfl
        obtain ⟨r456, h457, hf⟩ := bind_some hf
        refine at_op (op_call rfl rfl rfl rfl hE rfl rfl rfl rfl (by kernel_rfl) (inspeximusref04_Great.calls (g := g) h457 (hS.st.fore (L := [])) (h11.mono (Snap.le.trans le256 le455)) (h14.mono (Snap.le.trans le256 le455))) (fun a v w hR hE => ?_)) rfl
        obtain ⟨D458, rfl, hS1⟩ := hR
        have le460 := hS1.dle
        have hS := hS.callR hS1 rfl .n
        clear hS1
        refine segN 2 (j := 7) [(13, .bool (r456))] hE (by kernel_rfl) rfl (fun a hE => ?_)
        cases hb : r456
        · replace hf := cond_f hb hf
          have hE := hE.know (t := 13) (b := r456) (b' := false) rfl hb
          clear hb
          refine at_op (op_tk hE (tk_load 1 (.agg (List.toArray (c_T_api_Rec (x1) A2 c3 A5 c6))) rfl rfl rfl rfl hE rfl hS rfl rfl (by kernel_rfl) (kL (j := 1) hS rfl List.not_mem_nil) (fun a hE => ?_))) rfl
          obtain ⟨r461, h462, hf⟩ := bind_some hf
          refine at_op (op_call rfl rfl rfl rfl hE rfl rfl rfl rfl (by kernel_rfl) (rec_Right.calls (g := g) h462 (hS.st.fore (L := [])) (h4.mono (Snap.le.trans (Snap.le.trans le256 le455) le460)) (h7.mono (Snap.le.trans (Snap.le.trans le256 le455) le460))) (fun a v w hR hE => ?_)) rfl
          obtain ⟨D463, rfl, hS1⟩ := hR
          have le465 := hS1.dle
          have hS := hS.callR hS1 rfl .n
          clear hS1
          refine segN 3 (j := 12) [(18, .bool ((!r461)))] hE (by kernel_rfl) rfl (fun a hE => ?_)
          cases hb : (!r461)
          · replace hf := cond_f hb hf
            have hE := hE.know (t := 18) (b := (!r461)) (b' := false) rfl hb
            clear hb
            refine at_op (op_tk hE (tk_load 0 (.agg (List.toArray (c_T_api_Rec (x8) A9 c10 A12 c13))) rfl rfl rfl rfl hE rfl hS rfl rfl (by kernel_rfl) (kL (j := 0) hS rfl List.not_mem_nil) (fun a hE => ?_))) rfl
            obtain ⟨r466, h467, hf⟩ := bind_some hf
            refine at_op (op_call rfl rfl rfl rfl hE rfl rfl rfl rfl (by kernel_rfl) (rec_Right.calls (g := g) h467 (hS.st.fore (L := [])) (h11.mono (Snap.le.trans (Snap.le.trans (Snap.le.trans le256 le455) le460) le465)) (h14.mono (Snap.le.trans (Snap.le.trans (Snap.le.trans le256 le455) le460) le465))) (fun a v w hR hE => ?_)) rfl
            obtain ⟨D468, rfl, hS1⟩ := hR
            have le470 := hS1.dle
            have hS := hS.callR hS1 rfl .n
            clear hS1
            refine segN 2 (j := 16) [(22, .bool ((!r466)))] hE (by kernel_rfl) rfl (fun a hE => ?_)
            refine at_end rfl ?_
            have hS := hS.pk (.c 1 rfl (.c 0 rfl .n)) rfl
            exact ⟨(!r466), D468, hE.weak (by kernel_rfl), hS, (Snap.le.trans (Snap.le.trans (Snap.le.trans le455 le460) le465) le470), hf⟩
          · replace hf := cond_t hb hf
            have hE := hE.know (t := 18) (b := (!r461)) (b' := true) rfl hb
            clear hb
            refine segN 4 (j := 16) [(22, .bool true)] hE (by kernel_rfl) rfl (fun a hE => ?_)
            refine at_end rfl ?_
            have hS := hS.pk (.c 1 rfl (.c 0 rfl .n)) rfl
            exact ⟨true, D463, hE.weak (by kernel_rfl), hS, (Snap.le.trans (Snap.le.trans le455 le460) le465), hf⟩
        · replace hf := cond_t hb hf
          have hE := hE.know (t := 13) (b := r456) (b' := true) rfl hb
          clear hb
          refine segN 9 (j := 16) [(22, .bool true)] hE (by kernel_rfl) rfl (fun a hE => ?_)
          refine at_end rfl ?_
          have hS := hS.pk (.c 1 rfl (.c 0 rfl .n)) rfl
          exact ⟨true, D458, hE.weak (by kernel_rfl), hS, (Snap.le.trans le455 le460), hf⟩
      · replace hf := cond_t hb hf
        have hE := hE.know (t := 9) (b := r451) (b' := true) rfl hb
        clear hb
        refine segN 13 (j := 16) [(22, .bool true)] hE (by kernel_rfl) rfl (fun a hE => ?_)
        refine at_end rfl ?_
        have hS := hS.pk (.c 1 rfl (.c 0 rfl .n)) rfl
        exact ⟨true, D453, hE.weak (by kernel_rfl), hS, le455, hf⟩
    · clear hE hS
      rintro a w ⟨y322, D323, hE, hS, le324, hf⟩
      replace hf := hj450 _ hf
      clear hj450
      refine cond_split hE (b := y322) rfl (fun hb => ?_) (fun hb => ?_)
      · replace hf := cond_t hb hf
        clear hb
        refine wpIn_seq ?_
        refine region_at ?_
        refine segN 1 (j := 1) [(4, .bool true)] hE (by kernel_rfl) rfl (fun a hE => ?_)
        refine at_end rfl ?_
        refine wpIn_ret ?_
        obtain rfl := Option.some.inj hf
        repeat (with_reducible first | refine then_ret ?_ | refine block_ret ?_ | refine qx_ret ?_)
        refine ret_gen ([.bool true]) hE (by rw [show Tryd.f5.results.toList = [.tmp 4] from rfl]; exact ⟨_, _, rfl, rfl, rfl⟩) ?_
        have hS := hS.pk .n rfl
        exact ⟨_, rfl, D323, rfl, hS⟩
      · replace hf := cond_f hb hf
        clear hb
        refine wpIn_skip ?_
        refine wpIn_seq ?_
        refine region_draw (fun j => Keeps (mfOf [] j)) (by kernel_rfl) ?_
        have hS := hS.drew
        first | generalize w.drew = w at hS ⊢ | generalize w0.drew = w at hS ⊢
        refine tT 0 1 (fuel := 11) (by kernel_rfl) hE (tk_load 0 (.agg (List.toArray (c_T_api_Rec (x1) A2 c3 A5 c6))) rfl rfl rfl rfl hE rfl hS rfl rfl (by kernel_rfl) (kL (j := 0) hS rfl List.not_mem_nil) (fun a hE => ?_))
        refine tT 2 5 (fuel := 10) (by kernel_rfl) hE (tk_load 1 (.agg (List.toArray (c_T_api_Rec (x8) A9 c10 A12 c13))) rfl rfl rfl rfl hE rfl hS rfl rfl (by kernel_rfl) (kL (j := 1) hS rfl List.not_mem_nil) (fun a hE => ?_))
        refine tT 5 37 (fuel := 9) (by kernel_rfl) hE (tk_load 0 (.agg (List.toArray (c_T_api_Rec (x1) A2 c3 A5 c6))) rfl rfl rfl rfl hE rfl hS rfl rfl (by kernel_rfl) (kL (j := 0) hS rfl List.not_mem_nil) (fun a hE => ?_))
        refine tT 7 165 (fuel := 8) (by kernel_rfl) hE (tk_load 1 (.agg (List.toArray (c_T_api_Rec (x8) A9 c10 A12 c13))) rfl rfl rfl rfl hE rfl hS rfl rfl (by kernel_rfl) (kL (j := 1) hS rfl List.not_mem_nil) (fun a hE => ?_))
        obtain ⟨r387, h388, hf⟩ := bind_some hf
        refine oG 1 167 (fuel := 7) (by kernel_rfl) (op_call rfl rfl rfl rfl hE rfl rfl rfl rfl (by kernel_rfl) (rec_Sealed.calls (g := g) h388 (hS.st.fore (L := [])) (h4.mono (Snap.le.trans le256 le324)) (h7.mono (Snap.le.trans le256 le324)) (hG0.mono (Snap.le.trans le256 le324)) (hG1.mono (Snap.le.trans le256 le324))) (fun a v w hR hE => ?_))
        obtain ⟨D389, A391, c392, q393, rfl, hS1, h394⟩ := hR
        refine ⟨(hS1.keeps.sub (M' := []) trivial).mono (fun _ h => h), ?_⟩
        have le396 := hS1.dle
        have hS := hS.callR hS1 rfl (.c .n)
        clear hS1
        obtain ⟨r397, h398, hf⟩ := bind_some hf
        refine oG 3 175 (fuel := 6) (by kernel_rfl) (op_call rfl rfl rfl rfl hE rfl rfl rfl rfl (by kernel_rfl) (rec_Sealed.calls (g := g) h398 (hS.st.fore (L := [])) (h11.mono (Snap.le.trans (Snap.le.trans le256 le324) le396)) (h14.mono (Snap.le.trans (Snap.le.trans le256 le324) le396)) (hG0.mono (Snap.le.trans (Snap.le.trans le256 le324) le396)) (hG1.mono (Snap.le.trans (Snap.le.trans le256 le324) le396))) (fun a v w hR hE => ?_))
        obtain ⟨D399, A401, c402, q403, rfl, hS1, h404⟩ := hR
        refine ⟨(hS1.keeps.sub (M' := []) trivial).mono (fun _ h => h), ?_⟩
        have le406 := hS1.dle
        have hS := hS.callR hS1 rfl (.c .n)
        clear hS1
        have hS := hS.pk (.c 1 rfl (.c 0 rfl (.c 2 rfl (.c 3 rfl .n)))) rfl
        obtain ⟨D407, q410, le408, hS, h411, h409⟩ := hS.lent (h394.mono le406)
        have hS := hS.pk (.c 1 rfl (.c 0 rfl (.c 2 rfl (.c 3 rfl .n)))) rfl
        obtain ⟨D412, q415, le413, hS, h416, h414⟩ := hS.lent (h404.mono le408)
        obtain ⟨r417, h418, hf⟩ := bind_some hf
        refine oG 4 191 (fuel := 5) (by kernel_rfl) (op_call rfl rfl rfl rfl hE rfl rfl rfl rfl (by kernel_rfl) (inspeximusref01_Bytes.calls (g := g) h418 (hS.st.fore (L := [])) (h409.mono le413) h414) (fun a v w hR hE => ?_))
        obtain ⟨D419, rfl, hS1⟩ := hR
        refine ⟨(hS1.keeps.sub (M' := []) trivial).mono (fun _ h => h), ?_⟩
        have le421 := hS1.dle
        have hS := hS.callR hS1 rfl .n
        clear hS1
        obtain ⟨r422, h423, hf⟩ := bind_some hf
        refine oG 6 255 (fuel := 4) (by kernel_rfl) (op_call rfl rfl rfl rfl hE rfl rfl rfl rfl (by kernel_rfl) (rec_Redact.calls (g := g) h423 (hS.st.fore (L := [])) (h4.mono (Snap.le.trans (Snap.le.trans (Snap.le.trans (Snap.le.trans (Snap.le.trans (Snap.le.trans le256 le324) le396) le406) le408) le413) le421)) (h7.mono (Snap.le.trans (Snap.le.trans (Snap.le.trans (Snap.le.trans (Snap.le.trans (Snap.le.trans le256 le324) le396) le406) le408) le413) le421)) (hG0.mono (Snap.le.trans (Snap.le.trans (Snap.le.trans (Snap.le.trans (Snap.le.trans (Snap.le.trans le256 le324) le396) le406) le408) le413) le421)) (hG1.mono (Snap.le.trans (Snap.le.trans (Snap.le.trans (Snap.le.trans (Snap.le.trans (Snap.le.trans le256 le324) le396) le406) le408) le413) le421))) (fun a v w hR hE => ?_))
        obtain ⟨D424, A426, c427, A429, c430, rfl, hS1, h428, h431⟩ := hR
        refine ⟨(hS1.keeps.sub (M' := []) trivial).mono (fun _ h => h), ?_⟩
        have le432 := hS1.dle
        have hS := hS.callR hS1 rfl .n
        clear hS1
        obtain ⟨r433, h434, hf⟩ := bind_some hf
        refine oG 8 511 (fuel := 3) (by kernel_rfl) (op_call rfl rfl rfl rfl hE rfl rfl rfl rfl (by kernel_rfl) (rec_Redact.calls (g := g) h434 (hS.st.fore (L := [])) (h11.mono (Snap.le.trans (Snap.le.trans (Snap.le.trans (Snap.le.trans (Snap.le.trans (Snap.le.trans (Snap.le.trans le256 le324) le396) le406) le408) le413) le421) le432)) (h14.mono (Snap.le.trans (Snap.le.trans (Snap.le.trans (Snap.le.trans (Snap.le.trans (Snap.le.trans (Snap.le.trans le256 le324) le396) le406) le408) le413) le421) le432)) (hG0.mono (Snap.le.trans (Snap.le.trans (Snap.le.trans (Snap.le.trans (Snap.le.trans (Snap.le.trans (Snap.le.trans le256 le324) le396) le406) le408) le413) le421) le432)) (hG1.mono (Snap.le.trans (Snap.le.trans (Snap.le.trans (Snap.le.trans (Snap.le.trans (Snap.le.trans (Snap.le.trans le256 le324) le396) le406) le408) le413) le421) le432))) (fun a v w hR hE => ?_))
        obtain ⟨D435, A437, c438, A440, c441, rfl, hS1, h439, h442⟩ := hR
        refine ⟨(hS1.keeps.sub (M' := []) trivial).mono (fun _ h => h), ?_⟩
        have le443 := hS1.dle
        have hS := hS.callR hS1 rfl .n
        clear hS1
        obtain ⟨r444, h445, hf⟩ := bind_some hf
        refine oG 9 1023 (fuel := 2) (by kernel_rfl) (op_call rfl rfl rfl rfl hE rfl rfl rfl rfl (by kernel_rfl) (rec_Same.calls (g := g) h445 (hS.st.fore (L := [])) (h428.mono le443) (h431.mono le443) h439 h442) (fun a v w hR hE => ?_))
        obtain ⟨D446, rfl, hS1⟩ := hR
        refine ⟨(hS1.keeps.sub (M' := []) trivial).mono (fun _ h => h), ?_⟩
        have le448 := hS1.dle
        have hS := hS.callR hS1 rfl .n
        clear hS1
        refine tW 10 2047 (fuel := 1) (by kernel_rfl) hE (fun M => tk_bin (r := .bool ((r417 == r444))) rfl rfl rfl rfl hE rfl rfl rfl (eqb_run (by kernel_rfl) _ _) (fun a hE => ?_))
        refine tW 11 4095 (fuel := 0) (by kernel_rfl) hE (fun M => tk_pure (.bool ((r417 == r444))) hE rfl rfl rfl rfl (fun _ _ _ e => by cases e) (by kernel_rfl) (fun a hE => ?_))
        refine doneG (by kernel_rfl) ?_
        refine wpIn_ret ?_
        obtain rfl := Option.some.inj hf
        repeat (with_reducible first | refine then_ret ?_ | refine block_ret ?_ | refine qx_ret ?_)
        refine ret_gen ([.bool ((r417 == r444))]) hE (by rw [show Tryd.f5.results.toList = [.tmp 4] from rfl]; exact ⟨_, _, rfl, rfl, rfl⟩) ?_
        have hS := hS.pk .n rfl
        exact ⟨_, rfl, D446, rfl, hS⟩

end Go.Proofs.YtlcnliiampfigaaDoor
