/-
  Proved, text by text: a call of a function of the cut comes to what its plain function computes.
  Conditions: those that each theorem names.
-/
import Derived.Test.YtjgaokcplofimaaGreatDoorProg
import Derived.Test.YtjgaokcplofimaaGreatDoorSepN
import Derived.Test.YtjgaokcplofimaaGreatDoorBPutsW3
set_option linter.unusedVariables false
set_option maxHeartbeats 4000000
namespace Go.Proofs.YtjgaokcplofimaaGreatDoor
open Go Go.Sep
set_option maxRecDepth 100000 in
theorem inspeximusref04_Put.calls {K : Nat} {g w0 : World} {D0 : Snap} {x1 : T_api_Rec} {x8 : Bool} {A2 : Option Addr} {c3 : Nat} {A5 : Option Addr} {c6 : Nat} {r : ((List Int))} (hf : inspeximusref04_Put.f K x1 x8 = some r) (hS0 : St g w0 D0 []) (h4 : Sl kd_T_api_Step D0 A2 c3 (x1.fSteps)) (h7 : Sl (kdInt .u8) D0 A5 c6 (x1.fData)) (hG0 : Cell (kdArr .u32 8) D0 0 0 gl_First) (hG1 : Cell (kdArr .u32 64) D0 1 0 gl_K) :
  CallsIn (Fw none) 0 Tryz.prog 29 (List.toArray [.agg (List.toArray (c_T_api_Rec (x1) A2 c3 A5 c6)), .bool (x8)]) w0 (fun e w' => ∃ v, e = .returned v ∧ ∃ (D1 : Snap) (A10 : Option Addr) (c10 : Nat) (q5 : Blk), v = .slice A10 (List.length (r)) c10 ∧ Stp g w0 D0 [] w' D1 [q5] ∧ OwnD (kdInt .u8) 5 D1 A10 c10 (r) q5) := by
 unfold inspeximusref04_Put.f at hf
 have hS := Stp.refl hS0
 clear hS0
 refine calls_body (n := 162) Tryz.func29 rfl Tryz.ntmps29 rfl fun a hE => ?_
 have hE : Env a 162 [] [(0, .agg (List.toArray (c_T_api_Rec (x1) A2 c3 A5 c6))), (1, .bool (x8))] := hE
 refine sq (ra ?_)
 refine at_op (op_box rfl rfl rfl rfl hE rfl hS rfl (fun a b1 w _ hE hS => ?_)) rfl
 refine sN 1 2 [(4, .slice none 0 0)] hE fun a hE => ?_
 refine ae ?_
 refine sq (sq (ra ?_))
 refine sM 1 1 [0] [(8, .agg (List.toArray (c_T_api_Rec (x1) A2 c3 A5 c6)))] hE hS fun a hE => ?_
 obtain ⟨r6, h8, hf⟩ := bs hf
 refine aC rfl rfl rfl rfl hE rfl rfl rfl rfl (inspeximusref04_Right.calls h8 (hS.st.fore (L := [])) h4 h7) fun a v w hR hE => ?_
 obtain ⟨D11, rfl, hS1⟩ := hR
 have le1 := hS1.dle
 have hS := hS.callR hS1 rfl .n
 refine sN 1 3 [(10, .bool ((!r6)))] hE fun a hE => ?_
 refine ae ?_
 refine cond_split hE (b := (!r6)) rfl (fun hb => ?_) (fun hb => ?_)
 ·replace hf := ct hb hf
  refine sq (ra ?_)
  refine sN 1 1 [(4, .slice none 0 0)] hE fun a hE => ?_
  refine ae ?_
  refine wpIn_ret ?_
  have hS := hS.nils
  obtain rfl := si hf
  refine ret_ ?_
  refine rT 4 (.slice none 0 0) hE ?_
  have hS := hS.p (.d 0 .n)
  exact ⟨_, rfl, D11, none, 0, none, rfl, hS, (OwnD.nil (kdInt .u8) 5 D11)⟩
 replace hf := cf hb hf
 refine wpIn_skip ?_
 refine sq (ra ?_)
 refine sM 2 2 [0] [(12, .int .i64 (x1.fKind))] hE hS fun a hE => ?_
 obtain ⟨r1, h9, hf⟩ := bs hf
 refine aC rfl rfl rfl rfl hE rfl rfl rfl rfl (inspeximusref03_Num.calls h9 (hS.st.fore (L := [])) ) fun a v w hR hE => ?_
 obtain ⟨D3, A1, c1, q6, rfl, hS1, h1⟩ := hR
 have le3 := hS1.dle
 have hS := hS.callR hS1 rfl (.c .n)
 refine sN 1 4 [(5, .slice A1 (List.length (r1)) c1)] hE fun a hE => ?_
 refine ae ?_
 obtain ⟨j1, hj1, hf⟩ := jn_elim hf
 refine seq_join (fun a w => ∃ (y3 : (List Int)), ∃ A3, ∃ c2, ∃ q1, ∃ D4, Env a 162 [] [(5, .slice A3 (List.length (y3)) c2)] ∧ Stp g w0 D0 [] w D4 [q1] ∧ Snap.le D3 D4 ∧ OwnD (kdInt .u8) 5 D4 A3 c2 (y3) q1 ∧ j1 y3 = some r) ?_ ?_
 ·clear hj1
  refine sq (ra ?_)
  refine sM 2 2 [1] [(15, .int .i64 (x1.fKind))] hE hS fun a hE => ?_
  refine ae ?_
  refine wpIn_block ?_
  refine sq (ra ?_)
  refine sN 2 2 [(26, .bool ((decide (x1.fKind = (1 : Int)))))] hE fun a hE => ?_
  refine ae ?_
  refine cond_split hE (b := (decide (x1.fKind = (1 : Int)))) rfl (fun hb => ?_) (fun hb => ?_)
  ·replace hf := ct hb hf
   refine sq (ra ?_)
   refine sM 3 3 [1] [(28, .slice A1 (List.length (r1)) c1), (30, .int .i64 (x1.fSaga))] hE hS fun a hE => ?_
   obtain ⟨r7, h10, hf⟩ := bs hf
   refine aC rfl rfl rfl rfl hE rfl rfl rfl rfl (inspeximusref03_Num.calls h10 (hS.st.fore (L := [])) ) fun a v w hR hE => ?_
   obtain ⟨D21, A33, c33, q16, rfl, hS1, h11⟩ := hR
   have le4 := hS1.dle
   have hS := hS.callR hS1 rfl (.c .n)
   obtain ⟨D22, q17, le5, hS, h123, h12⟩ := hS.lent h11
   have hS := hS.p (.d 1 (.d 0 (.d 2 .n)))
   obtain ⟨l2, h13, hf⟩ := bs hf
   refine at_op (g_append (K := (kdInt .u8)) (e := 5) (bytes := 1) (l := r1) (m := r7) rfl rfl rfl rfl hE rfl hS rfl rfl (by kernel_rfl) rfl rfl (h1.mono (le2 le4 le5)) h12 h13 (fun a A11 c11 q18 w _ hE h14 hS => ?_)) rfl
   refine sN 1 6 [(5, .slice A11 (List.length (l2)) c11)] hE fun a hE => ?_
   refine ae ?_
   refine sq (ra ?_)
   refine sM 4 4 [2] [(33, .slice A11 (List.length (l2)) c11), (36, .int .i64 (((List.length (x1.fSteps) : Nat) : Int)))] hE hS fun a hE => ?_
   have hS := hS.p (.d 0 (.d 2 .n))
   obtain ⟨r8, h15, hf⟩ := bs hf
   refine aC rfl rfl rfl rfl hE rfl rfl rfl rfl (inspeximusref03_Num.calls h15 (hS.st.fore (L := [])) ) fun a v w hR hE => ?_
   obtain ⟨D23, A34, c34, q19, rfl, hS1, h16⟩ := hR
   have le6 := hS1.dle
   have hS := hS.callR hS1 rfl (.c .n)
   obtain ⟨D7, q20, le7, hS, h124, h17⟩ := hS.lent h16
   have hS := hS.p (.d 1 (.d 0 (.d 2 .n)))
   obtain ⟨l15, h18, hf⟩ := bs hf
   refine at_op (g_append (K := (kdInt .u8)) (e := 5) (bytes := 1) (l := l2) (m := r8) rfl rfl rfl rfl hE rfl hS rfl rfl (by kernel_rfl) rfl rfl (h14.mono (le2 le6 le7)) h17 h18 (fun a A12 c12 q7 w _ hE h19 hS => ?_)) rfl
   refine sN 1 7 [(5, .slice A12 (List.length (l15)) c12)] hE fun a hE => ?_
   refine ae ?_
   refine sq (sq (ra ?_))
   refine sN 1 1 [(6, .int .i64 ((0 : Int)))] hE fun a hE => ?_
   refine ae ?_
   obtain ⟨s1, hf, hs1⟩ := bs hf
   have hS := hS.p (.d 2 (.d 0 .n))
   refine block_loop (fun a w => ∃ (z1 : (List Int)), ∃ A6, ∃ c5, ∃ q2, ∃ D6, Env a 162 [] [(1, .bool (x8)), (2, .pointer (some ⟨b1, 0, none⟩)), (5, .slice A6 (List.length (z1)) c5)] ∧ Stp g w0 D0 [] w D6 [bx b1 40 (c_T_api_Rec (x1) A2 c3 A5 c6), q2] ∧ Snap.le D7 D6 ∧ OwnD (kdInt .u8) 5 D6 A6 c5 (z1) q2 ∧ z1 = s1) (fun k a w => ∃ (y1 : (List Int) × Int), ∃ A7, ∃ c7, ∃ q3, ∃ D5, Env a 162 [] [(1, .bool (x8)), (2, .pointer (some ⟨b1, 0, none⟩)), (5, .slice A7 (List.length (y1.1)) c7), (6, .int .i64 (y1.2))] ∧ Stp g w0 D0 [] w D5 [bx b1 40 (c_T_api_Rec (x1) A2 c3 A5 c6), q3] ∧ Snap.le D7 D5 ∧ OwnD (kdInt .u8) 5 D5 A7 c7 (y1.1) q3 ∧ inspeximusref04_Put_l1.l K x1 k y1 = some s1) K ?_ ?_ ?_
   ·exact ⟨(l15, (0 : Int)), A12, c12, q7, D7, hE.wk, hS, lr, h19, hf⟩
   ·clear hE hS hf
    rintro a w ⟨z1, A6, c5, q2, D6, hE, hS, le9, h2, rfl⟩
    have hf := hs1
    clear hs1
    refine sq (ra ?_)
    refine sM 1 1 [0] [(64, .agg (List.toArray (c_T_api_Rec (x1) A2 c3 A5 c6)))] hE hS fun a hE => ?_
    obtain ⟨r2, h20, hf⟩ := bs hf
    refine aC rfl rfl rfl rfl hE rfl rfl rfl rfl (inspeximusref04_Com.calls h20 (hS.st.fore (L := [])) (h4.mono (le2 (le2 (le2 (le2 (le2 (le2 le1 le3) le4) le5) le6) le7) le9)) (h7.mono (le2 (le2 (le2 (le2 (le2 (le2 le1 le3) le4) le5) le6) le7) le9)) (hG0.mono (le2 (le2 (le2 (le2 (le2 (le2 le1 le3) le4) le5) le6) le7) le9)) (hG1.mono (le2 (le2 (le2 (le2 (le2 (le2 le1 le3) le4) le5) le6) le7) le9))) fun a v w hR hE => ?_
    obtain ⟨D12, rfl, hS1⟩ := hR
    have le10 := hS1.dle
    have hS := hS.callR hS1 rfl .n
    refine at_op (op_alloc (z := .agg (List.toArray (acells .u8 32 ((Vector.replicate 32 (0 : Int)))))) rfl rfl rfl rfl hE rfl hS (by kernel_rfl) (fun a b2 w _ hE hS => ?_)) rfl
    refine at_op (op_store (v := .agg (List.toArray (acells .u8 32 (r2)))) (acells .u8 32 (r2)) rfl rfl rfl rfl hE hS rfl rfl (by kernel_rfl) (by kernel_rfl) (by kernel_rfl) (by kernel_rfl) (by kernel_rfl) (fun a w _ hE hS => ?_)) rfl
    refine ae ?_
    obtain ⟨j2, hj2, hf⟩ := jn_elim hf
    refine seq_join (fun a w => ∃ (y2 : (List Int)), ∃ A4, ∃ c4, ∃ q4, ∃ D2, Env a 162 [] [(1, .bool (x8)), (2, .pointer (some ⟨b1, 0, none⟩)), (5, .slice A4 (List.length (y2)) c4), (7, .pointer (some ⟨b2, 0, none⟩))] ∧ Stp g w0 D0 [] w D2 [bx b1 40 (c_T_api_Rec (x1) A2 c3 A5 c6), bx b2 23 (acells .u8 32 (r2)), q4] ∧ Snap.le D12 D2 ∧ OwnD (kdInt .u8) 5 D2 A4 c4 (y2) q4 ∧ j2 y2 = some r) ?_ ?_
    ·clear hj2
     refine sq (ra ?_)
     refine sN 1 1 [(66, .bool (x8))] hE fun a hE => ?_
     refine ae ?_
     refine cond_split hE (b := x8) rfl (fun hb => ?_) (fun hb => ?_)
     ·replace hf := ct hb hf
      refine ra ?_
      refine sM 3 3 [1] [(67, .slice A6 (List.length (z1)) c5), (69, .bool (x1.fGone))] hE hS fun a hE => ?_
      obtain ⟨r3, h21, hf⟩ := bs hf
      refine aC rfl rfl rfl rfl hE rfl rfl rfl rfl (inspeximusref04_flag.calls h21 (hS.st.fore (L := [])) ) fun a v w hR hE => ?_
      obtain ⟨D24, rfl, hS1⟩ := hR
      have le34 := hS1.dle
      have hS := hS.callR hS1 rfl .n
      refine at_op (op_buildSlice (K := (kdInt .u8)) (e := 5) (cs := [.int .u8 (r3)] ++ []) ([r3] : List Int) rfl rfl rfl rfl hE rfl hS rfl (by kernel_rfl) rfl rfl (by exact ⟨_, _, rfl, rfl, rfl⟩) (fun a A35 q21 w _ hE h22 hS => ?_)) rfl
      obtain ⟨D14, q22, le35, hS, h125, h23⟩ := hS.lent h22
      have hS := hS.p (.d 3 (.d 0 (.d 1 (.d 2 .n))))
      obtain ⟨l16, h24, hf⟩ := bs hf
      refine at_op (g_append (K := (kdInt .u8)) (e := 5) (bytes := 1) (l := z1) (m := ([r3] : List Int)) rfl rfl rfl rfl hE rfl hS rfl rfl (by kernel_rfl) rfl rfl (h2.mono (le2 (le2 le10 le34) le35)) h23 h24 (fun a A13 c13 q8 w _ hE h25 hS => ?_)) rfl
      refine sN 1 7 [(5, .slice A13 (List.length (l16)) c13)] hE fun a hE => ?_
      refine ae ?_
      have hS := hS.p (.d 3 (.d 2 (.d 0 .n)))
      exact ⟨l16, A13, c13, q8, D14, hE.wk, hS, (le2 le34 le35), h25, hf⟩
     replace hf := cf hb hf
     refine wpIn_skip ?_
     have hS := hS.p (.d 1 (.d 0 (.d 2 .n)))
     exact ⟨z1, A6, c5, q2, D12, hE.wk, hS, lr, (h2.mono le10), hf⟩
    clear hE hS
    rintro a w ⟨y2, A4, c4, q4, D2, hE, hS, le30, h3, hf⟩
    replace hf := hj2 _ hf
    clear hj2
    refine sq ?_
    obtain ⟨j3, hj3, hf⟩ := jn_elim hf
    refine seq_join (fun a w => ∃ (y4 : Bool), ∃ D8, Env a 162 [] [(2, .pointer (some ⟨b1, 0, none⟩)), (5, .slice A4 (List.length (y2)) c4), (7, .pointer (some ⟨b2, 0, none⟩)), (78, .bool (y4))] ∧ Stp g w0 D0 [] w D8 [bx b1 40 (c_T_api_Rec (x1) A2 c3 A5 c6), bx b2 23 (acells .u8 32 (r2)), q4] ∧ Snap.le D2 D8 ∧ j3 y4 = some r) ?_ ?_
    ·clear hj3
     refine ra ?_
     refine sN 2 2 [(74, .bool (x8))] hE fun a hE => ?_
     refine bo (x8) (fun hb => ?_) fun hb => ?_
     ·replace hf := cf hb hf
      have hE := hE.know (t := 74) rfl hb
      refine sN 4 6 [(78, .bool false)] hE fun a hE => ?_
      exact ae ⟨false, D2, hE.wk, hS, lr, hf⟩
     replace hf := ct hb hf
     have hE := hE.know (t := 74) rfl hb
     refine sM 4 6 [0] [(78, .bool ((!x1.fGone)))] hE hS fun a hE => ?_
     exact ae ⟨(!x1.fGone), D2, hE.wk, hS, lr, hf⟩
    clear hE hS
    rintro a w ⟨y4, D8, hE, hS, le11, hf⟩
    replace hf := hj3 _ hf
    clear hj3
    refine cond_split hE (b := y4) rfl (fun hb => ?_) (fun hb => ?_)
    ·replace hf := ct hb hf
     refine sq (ra ?_)
     refine sM 2 2 [] [(79, .slice A4 (List.length (y2)) c4), (80, .pointer (some ⟨b1, 44, none⟩))] hE hS fun a hE => ?_
     obtain ⟨D13, le31, e1, hS⟩ := hS.freezeB
     have hc1 : Cell kd_T_api_Rec D13 b1 0 (x1) := ⟨c_T_api_Rec (x1) A2 c3 A5 c6, _, _, _, (kd_T_api_Rec_mk (D := D13) (x := x1) rfl rfl rfl rfl rfl rfl rfl rfl rfl rfl rfl (kslice (h4.mono (le2 (le2 (le2 (le2 (le2 (le2 (le2 (le2 (le2 (le2 le1 le3) le4) le5) le6) le7) le9) le10) le30) le11) le31))) (kslice (h7.mono (le2 (le2 (le2 (le2 (le2 (le2 (le2 (le2 (le2 (le2 le1 le3) le4) le5) le6) le7) le9) le10) le30) le11) le31))) rfl rfl rfl), e1, fun j u hu => by show (List.toArray (c_T_api_Rec (x1) A2 c3 A5 c6))[0 + j]? = some u; simpa using hu⟩
     obtain ⟨l23, h26, hf⟩ := bs hf
     refine at_op (op_tk hE (tk_sliceArrAt (kk := .u8) (e := 5) (v := x1.fSalt) (off := 44) (cs := c_T_api_Rec (x1) A2 c3 A5 c6) rfl rfl rfl rfl hE rfl rfl (by kernel_rfl) rfl rfl e1 (by kernel_rfl) rfl h26 (fun a A36 c35 hE h27 => ?_))) rfl
     have hS := hS.p (.d 1 (.d 0 .n))
     obtain ⟨l3, h28, hf⟩ := bs hf
     refine at_op (g_append (K := (kdInt .u8)) (e := 5) (bytes := 1) (l := y2) (m := l23) rfl rfl rfl rfl hE rfl hS rfl rfl (by kernel_rfl) rfl rfl (h3.mono (le2 le11 le31)) h27 h28 (fun a A14 c14 q23 w _ hE h29 hS => ?_)) rfl
     refine sN 1 5 [(5, .slice A14 (List.length (l3)) c14)] hE fun a hE => ?_
     refine ae ?_
     refine sq (ra ?_)
     refine sN 1 1 [(83, .slice A14 (List.length (l3)) c14)] hE fun a hE => ?_
     refine at_op (op_tk hE (g_fieldAddr (fo := 43) (ft := 33) (0 + 43) rfl rfl rfl rfl hE rfl rfl (by kernel_rfl) rfl (fun a hE => ?_))) rfl
     obtain ⟨cs1, C1, T1, fr1, hr1, hb1, hc2⟩ := id hc1
     obtain ⟨A32, c32, A15, c15, rfl, h126, h30⟩ := kd_T_api_Rec_el hr1
     refine at_op (op_tk hE (tk_loadX (off0 := 0) (off := 43) (c := c_T_api_Rec (x1) A32 c32 A15 c15) (.slice A15 (List.length (x1.fData)) c15) rfl rfl rfl rfl hE rfl hS rfl hb1 hc2 (by kernel_rfl) (by kernel_rfl) (kD hS dn_nil) (fun a hE => ?_))) rfl
     obtain ⟨r9, h31, hf⟩ := bs hf
     refine aC rfl rfl rfl rfl hE rfl rfl rfl rfl (inspeximusref03_Bytes.calls h31 (hS.st.fore (L := [])) h30) fun a v w hR hE => ?_
     obtain ⟨D25, A37, c36, q24, rfl, hS1, h32⟩ := hR
     have le49 := hS1.dle
     have hS := hS.callR hS1 rfl (.c .n)
     obtain ⟨D15, q25, le50, hS, h127, h33⟩ := hS.lent h32
     have hS := hS.p (.d 1 (.d 0 (.d 2 .n)))
     obtain ⟨l17, h34, hf⟩ := bs hf
     refine at_op (g_append (K := (kdInt .u8)) (e := 5) (bytes := 1) (l := l3) (m := r9) rfl rfl rfl rfl hE rfl hS rfl rfl (by kernel_rfl) rfl rfl (h29.mono (le2 le49 le50)) h33 h34 (fun a A8 c8 q9 w _ hE h35 hS => ?_)) rfl
     refine sN 1 6 [(4, .slice A8 (List.length (l17)) c8)] hE fun a hE => ?_
     refine ae ?_
     refine wpIn_ret ?_
     obtain rfl := si hf
     refine ret_ ?_
     refine rT 4 (.slice A8 (List.length (l17)) c8) hE ?_
     have hS := hS.p (.d 0 .n)
     exact ⟨_, rfl, D15, A8, c8, q9, rfl, hS, h35⟩
    replace hf := cf hb hf
    refine wpIn_skip ?_
    refine ra ?_
    refine sN 1 1 [(88, .slice A4 (List.length (y2)) c4)] hE fun a hE => ?_
    have hS := hS.p (.d 1 (.d 0 (.d 2 .n)))
    obtain ⟨D16, le36, e3, hS⟩ := hS.freezeB
    obtain ⟨l24, h36, hf⟩ := bs hf
    refine at_op (op_tk hE (g_sliceArr (kk := .u8) (e := 5) (v := r2) rfl rfl rfl rfl hE rfl rfl (by kernel_rfl) rfl rfl e3 rfl h36 (fun a A38 c37 hE h37 => ?_))) rfl
    have hS := hS.p (.d 1 (.d 0 .n))
    obtain ⟨l18, h38, hf⟩ := bs hf
    refine at_op (g_append (K := (kdInt .u8)) (e := 5) (bytes := 1) (l := y2) (m := l24) rfl rfl rfl rfl hE rfl hS rfl rfl (by kernel_rfl) rfl rfl (h3.mono (le2 le11 le36)) h37 h38 (fun a A16 c16 q10 w _ hE h39 hS => ?_)) rfl
    refine sN 1 4 [(5, .slice A16 (List.length (l18)) c16)] hE fun a hE => ?_
    refine ae ?_
    have hS := hS.p (.d 0 .n)
    exact ⟨l18, A16, c16, q10, D16, hE.wk, hS, (le2 (le2 (le2 (le2 (le2 (le2 (le2 (le2 le4 le5) le6) le7) le9) le10) le30) le11) le36), h39, hf⟩
   clear hE hS hf
   rintro k a w ⟨y1, A7, c7, q3, D5, hE, hS, le22, h5, hf⟩
   obtain ⟨k, rfl, hf⟩ := inspeximusref04_Put_l1.some _ hf
   refine ⟨k, rfl, ?_⟩
   unfold inspeximusref04_Put_l1.b at hf
   refine sq (sq (ra ?_))
   refine sM 5 5 [0] [(43, .bool ((decide (y1.2 < ((List.length (x1.fSteps) : Nat) : Int)))))] hE hS fun a hE => ?_
   refine ae ?_
   refine cond_split hE (b := (decide (y1.2 < ((List.length (x1.fSteps) : Nat) : Int)))) rfl (fun hb => ?_) (fun hb => ?_)
   ·replace hf := ct hb hf
    refine wpIn_skip ?_
    refine sq ?_
    refine wpIn_block ?_
    refine sq (ra ?_)
    refine sM 4 4 [0] [(46, .slice A7 (List.length (y1.1)) c7), (48, .slice A2 (List.length (x1.fSteps)) c3), (49, .int .i64 (y1.2))] hE hS fun a hE => ?_
    obtain ⟨x2, h40, hf⟩ := bs hf
    refine at_op (op_tk hE (g_index (K := kd_T_api_Step) (e := 85) (by_ := 16) (zl := 2) rfl rfl rfl rfl hE rfl rfl rfl (by kernel_rfl) rfl (h4.mono (le2 (le2 (le2 (le2 (le2 (le2 le1 le3) le4) le5) le6) le7) le22)) h40 (fun a b3 o1 hE h41 => ?_))) rfl
    refine at_op (op_tk hE (g_fieldAddr (fo := 0) (ft := 3) (o1 + 0) rfl rfl rfl rfl hE rfl rfl (by kernel_rfl) rfl (fun a hE => ?_))) rfl
    obtain ⟨cs2, C2, T2, fr2, hr2, hb2, hc3⟩ := id h41
    obtain ⟨rfl⟩ := kd_T_api_Step_el hr2
    refine at_op (op_tk hE (tk_loadX (off0 := o1) (off := 0) (c := c_T_api_Step (x2)) (.int .i64 (x2.fPart)) rfl rfl rfl rfl hE rfl hS rfl hb2 hc3 (by kernel_rfl) (by kernel_rfl) (kD hS dn_nil) (fun a hE => ?_))) rfl
    obtain ⟨r10, h42, hf⟩ := bs hf
    refine aC rfl rfl rfl rfl hE rfl rfl rfl rfl (inspeximusref03_Num.calls h42 (hS.st.fore (L := [])) ) fun a v w hR hE => ?_
    obtain ⟨D26, A39, c38, q26, rfl, hS1, h43⟩ := hR
    have le32 := hS1.dle
    have hS := hS.callR hS1 rfl (.c .n)
    obtain ⟨D27, q27, le33, hS, h128, h44⟩ := hS.lent h43
    have hS := hS.p (.d 2 (.d 0 (.d 1 .n)))
    obtain ⟨l4, h45, hf⟩ := bs hf
    refine at_op (g_append (K := (kdInt .u8)) (e := 5) (bytes := 1) (l := y1.1) (m := r10) rfl rfl rfl rfl hE rfl hS rfl rfl (by kernel_rfl) rfl rfl (h5.mono (le2 le32 le33)) h44 h45 (fun a A17 c17 q28 w _ hE h46 hS => ?_)) rfl
    refine sN 1 10 [(5, .slice A17 (List.length (l4)) c17)] hE fun a hE => ?_
    refine ae ?_
    refine ra ?_
    refine sM 4 4 [2] [(55, .slice A17 (List.length (l4)) c17), (57, .slice A2 (List.length (x1.fSteps)) c3), (58, .int .i64 (y1.2))] hE hS fun a hE => ?_
    obtain ⟨x3, h47, hf⟩ := bs hf
    refine at_op (op_tk hE (g_index (K := kd_T_api_Step) (e := 85) (by_ := 16) (zl := 2) rfl rfl rfl rfl hE rfl rfl rfl (by kernel_rfl) rfl (h4.mono (le2 (le2 (le2 (le2 (le2 (le2 (le2 (le2 le1 le3) le4) le5) le6) le7) le22) le32) le33)) h47 (fun a b4 o2 hE h48 => ?_))) rfl
    refine at_op (op_tk hE (g_fieldAddr (fo := 1) (ft := 3) (o2 + 1) rfl rfl rfl rfl hE rfl rfl (by kernel_rfl) rfl (fun a hE => ?_))) rfl
    obtain ⟨cs3, C3, T3, fr3, hr3, hb3, hc4⟩ := id h48
    obtain ⟨rfl⟩ := kd_T_api_Step_el hr3
    refine at_op (op_tk hE (tk_loadX (off0 := o2) (off := 1) (c := c_T_api_Step (x3)) (.int .i64 (x3.fKind)) rfl rfl rfl rfl hE rfl hS rfl hb3 hc4 (by kernel_rfl) (by kernel_rfl) (kD hS dn_nil) (fun a hE => ?_))) rfl
    have hS := hS.p (.d 0 (.d 2 .n))
    obtain ⟨r11, h49, hf⟩ := bs hf
    refine aC rfl rfl rfl rfl hE rfl rfl rfl rfl (inspeximusref03_Num.calls h49 (hS.st.fore (L := [])) ) fun a v w hR hE => ?_
    obtain ⟨D28, A40, c39, q29, rfl, hS1, h50⟩ := hR
    have le37 := hS1.dle
    have hS := hS.callR hS1 rfl (.c .n)
    obtain ⟨D17, q30, le38, hS, h129, h51⟩ := hS.lent h50
    have hS := hS.p (.d 1 (.d 0 (.d 2 .n)))
    obtain ⟨l19, h52, hf⟩ := bs hf
    refine at_op (g_append (K := (kdInt .u8)) (e := 5) (bytes := 1) (l := l4) (m := r11) rfl rfl rfl rfl hE rfl hS rfl rfl (by kernel_rfl) rfl rfl (h46.mono (le2 le37 le38)) h51 h52 (fun a A18 c18 q11 w _ hE h53 hS => ?_)) rfl
    refine sN 1 10 [(5, .slice A18 (List.length (l19)) c18)] hE fun a hE => ?_
    refine ae ?_
    refine ra ?_
    refine sN 3 3 [(6, .int .i64 ((IntKind.wrap .i64 (y1.2 + (1 : Int)))))] hE fun a hE => ?_
    refine ae ?_
    have hS := hS.p (.d 2 (.d 0 .n))
    exact ⟨(l19, (IntKind.wrap .i64 (y1.2 + (1 : Int)))), A18, c18, q11, D17, hE.wk, hS, (le2 (le2 (le2 (le2 le22 le32) le33) le37) le38), h53, hf⟩
   replace hf := cf hb hf
   refine wpIn_exit ?_
   obtain rfl := si hf
   exact ⟨y1.1, A7, c7, q3, D5, hE.wk, hS, le22, h5, rfl⟩
  replace hf := cf hb hf
  obtain ⟨j4, hj4, hf⟩ := jn_elim hf
  refine seq_join (fun a w => ∃ (y5 : Bool), ∃ D9, Env a 162 [] [(2, .pointer (some ⟨b1, 0, none⟩)), (5, .slice A1 (List.length (r1)) c1), (15, .int .i64 (x1.fKind)), (91, .bool (y5))] ∧ Stp g w0 D0 [] w D9 [bx b1 40 (c_T_api_Rec (x1) A2 c3 A5 c6), q6] ∧ Snap.le D3 D9 ∧ j4 y5 = some r) ?_ ?_
  ·clear hj4
   refine sq (ra ?_)
   refine sN 2 2 [(91, .bool ((decide (x1.fKind = (2 : Int)))))] hE fun a hE => ?_
   refine ae ?_
   refine cond_split hE (b := (decide (x1.fKind = (2 : Int)))) rfl (fun hb => ?_) (fun hb => ?_)
   ·replace hf := ct hb hf
    refine wpIn_skip ?_
    have hS := hS.p (.d 1 (.d 0 .n))
    exact ⟨(decide (x1.fKind = (2 : Int))), D3, hE.wk, hS, lr, hf⟩
   replace hf := cf hb hf
   refine sq (ra ?_)
   refine sN 2 2 [(91, .bool ((decide (x1.fKind = (3 : Int)))))] hE fun a hE => ?_
   refine ae ?_
   refine cond_split hE (b := (decide (x1.fKind = (3 : Int)))) rfl (fun hb => ?_) (fun hb => ?_)
   ·replace hf := ct hb hf
    refine wpIn_skip ?_
    have hS := hS.p (.d 1 (.d 0 .n))
    exact ⟨(decide (x1.fKind = (3 : Int))), D3, hE.wk, hS, lr, hf⟩
   replace hf := cf hb hf
   refine ra ?_
   refine sN 2 2 [(91, .bool ((decide (x1.fKind = (4 : Int)))))] hE fun a hE => ?_
   refine ae ?_
   have hS := hS.p (.d 1 (.d 0 .n))
   exact ⟨(decide (x1.fKind = (4 : Int))), D3, hE.wk, hS, lr, hf⟩
  clear hE hS
  rintro a w ⟨y5, D9, hE, hS, le8, hf⟩
  replace hf := hj4 _ hf
  clear hj4
  refine cond_split hE (b := y5) rfl (fun hb => ?_) (fun hb => ?_)
  ·replace hf := ct hb hf
   refine sq (ra ?_)
   refine sM 3 3 [0] [(95, .slice A1 (List.length (r1)) c1), (97, .int .i64 (x1.fSaga))] hE hS fun a hE => ?_
   obtain ⟨r12, h54, hf⟩ := bs hf
   refine aC rfl rfl rfl rfl hE rfl rfl rfl rfl (inspeximusref03_Num.calls h54 (hS.st.fore (L := [])) ) fun a v w hR hE => ?_
   obtain ⟨D29, A41, c40, q31, rfl, hS1, h55⟩ := hR
   have le12 := hS1.dle
   have hS := hS.callR hS1 rfl (.c .n)
   obtain ⟨D30, q32, le13, hS, h130, h56⟩ := hS.lent h55
   have hS := hS.p (.d 2 (.d 0 (.d 1 .n)))
   obtain ⟨l5, h57, hf⟩ := bs hf
   refine at_op (g_append (K := (kdInt .u8)) (e := 5) (bytes := 1) (l := r1) (m := r12) rfl rfl rfl rfl hE rfl hS rfl rfl (by kernel_rfl) rfl rfl (h1.mono (le2 (le2 le8 le12) le13)) h56 h57 (fun a A19 c19 q33 w _ hE h58 hS => ?_)) rfl
   refine sN 1 6 [(5, .slice A19 (List.length (l5)) c19)] hE fun a hE => ?_
   refine ae ?_
   refine sq (ra ?_)
   refine sM 3 3 [2] [(100, .slice A19 (List.length (l5)) c19), (102, .int .i64 (x1.fSeq))] hE hS fun a hE => ?_
   have hS := hS.p (.d 0 (.d 2 .n))
   obtain ⟨r13, h59, hf⟩ := bs hf
   refine aC rfl rfl rfl rfl hE rfl rfl rfl rfl (inspeximusref03_Num.calls h59 (hS.st.fore (L := [])) ) fun a v w hR hE => ?_
   obtain ⟨D31, A42, c41, q34, rfl, hS1, h60⟩ := hR
   have le14 := hS1.dle
   have hS := hS.callR hS1 rfl (.c .n)
   obtain ⟨D32, q35, le15, hS, h131, h61⟩ := hS.lent h60
   have hS := hS.p (.d 1 (.d 0 (.d 2 .n)))
   obtain ⟨l6, h62, hf⟩ := bs hf
   refine at_op (g_append (K := (kdInt .u8)) (e := 5) (bytes := 1) (l := l5) (m := r13) rfl rfl rfl rfl hE rfl hS rfl rfl (by kernel_rfl) rfl rfl (h58.mono (le2 le14 le15)) h61 h62 (fun a A20 c20 q36 w _ hE h63 hS => ?_)) rfl
   refine sN 1 6 [(5, .slice A20 (List.length (l6)) c20)] hE fun a hE => ?_
   refine ae ?_
   refine sq (ra ?_)
   refine sM 3 3 [2] [(105, .slice A20 (List.length (l6)) c20), (107, .int .i64 (x1.fStep))] hE hS fun a hE => ?_
   have hS := hS.p (.d 0 (.d 2 .n))
   obtain ⟨r14, h64, hf⟩ := bs hf
   refine aC rfl rfl rfl rfl hE rfl rfl rfl rfl (inspeximusref03_Num.calls h64 (hS.st.fore (L := [])) ) fun a v w hR hE => ?_
   obtain ⟨D33, A43, c42, q37, rfl, hS1, h65⟩ := hR
   have le16 := hS1.dle
   have hS := hS.callR hS1 rfl (.c .n)
   obtain ⟨D34, q38, le17, hS, h132, h66⟩ := hS.lent h65
   have hS := hS.p (.d 1 (.d 0 (.d 2 .n)))
   obtain ⟨l7, h67, hf⟩ := bs hf
   refine at_op (g_append (K := (kdInt .u8)) (e := 5) (bytes := 1) (l := l6) (m := r14) rfl rfl rfl rfl hE rfl hS rfl rfl (by kernel_rfl) rfl rfl (h63.mono (le2 le16 le17)) h66 h67 (fun a A21 c21 q39 w _ hE h68 hS => ?_)) rfl
   refine sN 1 6 [(5, .slice A21 (List.length (l7)) c21)] hE fun a hE => ?_
   refine ae ?_
   refine sq (ra ?_)
   refine sM 3 3 [2] [(110, .slice A21 (List.length (l7)) c21), (112, .int .i64 (x1.fTry))] hE hS fun a hE => ?_
   have hS := hS.p (.d 0 (.d 2 .n))
   obtain ⟨r15, h69, hf⟩ := bs hf
   refine aC rfl rfl rfl rfl hE rfl rfl rfl rfl (inspeximusref03_Num.calls h69 (hS.st.fore (L := [])) ) fun a v w hR hE => ?_
   obtain ⟨D35, A44, c43, q40, rfl, hS1, h70⟩ := hR
   have le18 := hS1.dle
   have hS := hS.callR hS1 rfl (.c .n)
   obtain ⟨D36, q41, le19, hS, h133, h71⟩ := hS.lent h70
   have hS := hS.p (.d 1 (.d 0 (.d 2 .n)))
   obtain ⟨l8, h72, hf⟩ := bs hf
   refine at_op (g_append (K := (kdInt .u8)) (e := 5) (bytes := 1) (l := l7) (m := r15) rfl rfl rfl rfl hE rfl hS rfl rfl (by kernel_rfl) rfl rfl (h68.mono (le2 le18 le19)) h71 h72 (fun a A22 c22 q42 w _ hE h73 hS => ?_)) rfl
   refine sN 1 6 [(5, .slice A22 (List.length (l8)) c22)] hE fun a hE => ?_
   refine ae ?_
   refine sq (ra ?_)
   refine sM 3 3 [2] [(115, .slice A22 (List.length (l8)) c22), (117, .bool (x1.fBack))] hE hS fun a hE => ?_
   have hS := hS.p (.d 0 (.d 2 .n))
   obtain ⟨r4, h74, hf⟩ := bs hf
   refine aC rfl rfl rfl rfl hE rfl rfl rfl rfl (inspeximusref04_flag.calls h74 (hS.st.fore (L := [])) ) fun a v w hR hE => ?_
   obtain ⟨D37, rfl, hS1⟩ := hR
   have le20 := hS1.dle
   have hS := hS.callR hS1 rfl .n
   refine at_op (op_buildSlice (K := (kdInt .u8)) (e := 5) (cs := [.int .u8 (r4)] ++ []) ([r4] : List Int) rfl rfl rfl rfl hE rfl hS rfl (by kernel_rfl) rfl rfl (by exact ⟨_, _, rfl, rfl, rfl⟩) (fun a A45 q43 w _ hE h75 hS => ?_)) rfl
   obtain ⟨D18, q44, le21, hS, h134, h76⟩ := hS.lent h75
   have hS := hS.p (.d 1 (.d 0 (.d 2 .n)))
   obtain ⟨l1, h77, hf⟩ := bs hf
   refine at_op (g_append (K := (kdInt .u8)) (e := 5) (bytes := 1) (l := l8) (m := ([r4] : List Int)) rfl rfl rfl rfl hE rfl hS rfl rfl (by kernel_rfl) rfl rfl (h73.mono (le2 le20 le21)) h76 h77 (fun a A9 c9 q12 w _ hE h6 hS => ?_)) rfl
   refine sN 1 7 [(5, .slice A9 (List.length (l1)) c9)] hE fun a hE => ?_
   refine ae ?_
   refine sq (ra ?_)
   refine sM 3 3 [2] [(123, .bool ((decide (x1.fKind = (3 : Int)))))] hE hS fun a hE => ?_
   refine ae ?_
   refine cond_split hE (b := (decide (x1.fKind = (3 : Int)))) rfl (fun hb => ?_) (fun hb => ?_)
   ·replace hf := ct hb hf
    refine sq (ra ?_)
    refine sM 3 3 [2] [(124, .slice A9 (List.length (l1)) c9), (126, .bool (x1.fGood))] hE hS fun a hE => ?_
    have hS := hS.p (.d 0 (.d 2 .n))
    obtain ⟨r5, h78, hf⟩ := bs hf
    refine aC rfl rfl rfl rfl hE rfl rfl rfl rfl (inspeximusref04_flag.calls h78 (hS.st.fore (L := [])) ) fun a v w hR hE => ?_
    obtain ⟨D38, rfl, hS1⟩ := hR
    have le23 := hS1.dle
    have hS := hS.callR hS1 rfl .n
    refine at_op (op_buildSlice (K := (kdInt .u8)) (e := 5) (cs := [.int .u8 (r5)] ++ []) ([r5] : List Int) rfl rfl rfl rfl hE rfl hS rfl (by kernel_rfl) rfl rfl (by exact ⟨_, _, rfl, rfl, rfl⟩) (fun a A46 q45 w _ hE h79 hS => ?_)) rfl
    obtain ⟨D39, q46, le24, hS, h135, h80⟩ := hS.lent h79
    have hS := hS.p (.d 1 (.d 0 (.d 2 .n)))
    obtain ⟨l9, h81, hf⟩ := bs hf
    refine at_op (g_append (K := (kdInt .u8)) (e := 5) (bytes := 1) (l := l1) (m := ([r5] : List Int)) rfl rfl rfl rfl hE rfl hS rfl rfl (by kernel_rfl) rfl rfl (h6.mono (le2 le23 le24)) h80 h81 (fun a A23 c23 q47 w _ hE h82 hS => ?_)) rfl
    refine sN 1 7 [(5, .slice A23 (List.length (l9)) c23)] hE fun a hE => ?_
    refine ae ?_
    refine sq (ra ?_)
    refine sM 3 3 [2] [(130, .slice A23 (List.length (l9)) c23), (132, .int .i64 (x1.fPart))] hE hS fun a hE => ?_
    have hS := hS.p (.d 0 (.d 2 .n))
    obtain ⟨r16, h83, hf⟩ := bs hf
    refine aC rfl rfl rfl rfl hE rfl rfl rfl rfl (inspeximusref03_Num.calls h83 (hS.st.fore (L := [])) ) fun a v w hR hE => ?_
    obtain ⟨D40, A47, c44, q48, rfl, hS1, h84⟩ := hR
    have le25 := hS1.dle
    have hS := hS.callR hS1 rfl (.c .n)
    obtain ⟨D41, q49, le26, hS, h136, h85⟩ := hS.lent h84
    have hS := hS.p (.d 1 (.d 0 (.d 2 .n)))
    obtain ⟨l10, h86, hf⟩ := bs hf
    refine at_op (g_append (K := (kdInt .u8)) (e := 5) (bytes := 1) (l := l9) (m := r16) rfl rfl rfl rfl hE rfl hS rfl rfl (by kernel_rfl) rfl rfl (h82.mono (le2 le25 le26)) h85 h86 (fun a A24 c24 q50 w _ hE h87 hS => ?_)) rfl
    refine sN 1 6 [(5, .slice A24 (List.length (l10)) c24)] hE fun a hE => ?_
    refine ae ?_
    refine sq (ra ?_)
    refine sM 3 3 [2] [(135, .slice A24 (List.length (l10)) c24), (137, .int .i64 (x1.fEpoch))] hE hS fun a hE => ?_
    have hS := hS.p (.d 0 (.d 2 .n))
    obtain ⟨r17, h88, hf⟩ := bs hf
    refine aC rfl rfl rfl rfl hE rfl rfl rfl rfl (inspeximusref03_Num.calls h88 (hS.st.fore (L := [])) ) fun a v w hR hE => ?_
    obtain ⟨D42, A48, c45, q51, rfl, hS1, h89⟩ := hR
    have le27 := hS1.dle
    have hS := hS.callR hS1 rfl (.c .n)
    obtain ⟨D43, q52, le28, hS, h137, h90⟩ := hS.lent h89
    have hS := hS.p (.d 1 (.d 0 (.d 2 .n)))
    obtain ⟨l11, h91, hf⟩ := bs hf
    refine at_op (g_append (K := (kdInt .u8)) (e := 5) (bytes := 1) (l := l10) (m := r17) rfl rfl rfl rfl hE rfl hS rfl rfl (by kernel_rfl) rfl rfl (h87.mono (le2 le27 le28)) h90 h91 (fun a A25 c25 q53 w _ hE h92 hS => ?_)) rfl
    refine sN 1 6 [(5, .slice A25 (List.length (l11)) c25)] hE fun a hE => ?_
    refine ae ?_
    refine ra ?_
    refine sM 2 2 [] [(140, .slice A25 (List.length (l11)) c25), (141, .pointer (some ⟨b1, 10, none⟩))] hE hS fun a hE => ?_
    have hS := hS.p (.d 2 (.d 0 (.d 1 .n)))
    obtain ⟨D10, le29, e2, hS⟩ := hS.freezeB
    have hc5 : Cell kd_T_api_Rec D10 b1 0 (x1) := ⟨c_T_api_Rec (x1) A2 c3 A5 c6, _, _, _, (kd_T_api_Rec_mk (D := D10) (x := x1) rfl rfl rfl rfl rfl rfl rfl rfl rfl rfl rfl (kslice (h4.mono (le2 (le2 (le2 (le2 (le2 (le2 (le2 (le2 (le2 (le2 (le2 (le2 (le2 (le2 (le2 (le2 (le2 (le2 (le2 le1 le3) le8) le12) le13) le14) le15) le16) le17) le18) le19) le20) le21) le23) le24) le25) le26) le27) le28) le29))) (kslice (h7.mono (le2 (le2 (le2 (le2 (le2 (le2 (le2 (le2 (le2 (le2 (le2 (le2 (le2 (le2 (le2 (le2 (le2 (le2 (le2 le1 le3) le8) le12) le13) le14) le15) le16) le17) le18) le19) le20) le21) le23) le24) le25) le26) le27) le28) le29))) rfl rfl rfl), e2, fun j u hu => by show (List.toArray (c_T_api_Rec (x1) A2 c3 A5 c6))[0 + j]? = some u; simpa using hu⟩
    obtain ⟨l25, h93, hf⟩ := bs hf
    refine at_op (op_tk hE (tk_sliceArrAt (kk := .u8) (e := 5) (v := x1.fTag) (off := 10) (cs := c_T_api_Rec (x1) A2 c3 A5 c6) rfl rfl rfl rfl hE rfl rfl (by kernel_rfl) rfl rfl e2 (by kernel_rfl) rfl h93 (fun a A49 c46 hE h94 => ?_))) rfl
    obtain ⟨l20, h95, hf⟩ := bs hf
    refine at_op (g_append (K := (kdInt .u8)) (e := 5) (bytes := 1) (l := l11) (m := l25) rfl rfl rfl rfl hE rfl hS rfl rfl (by kernel_rfl) rfl rfl (h92.mono le29) h94 h95 (fun a A26 c26 q13 w _ hE h96 hS => ?_)) rfl
    refine sN 1 5 [(5, .slice A26 (List.length (l20)) c26)] hE fun a hE => ?_
    refine ae ?_
    have hS := hS.p (.d 0 .n)
    exact ⟨l20, A26, c26, q13, D10, hE.wk, hS, (le2 (le2 (le2 (le2 (le2 (le2 (le2 (le2 (le2 (le2 (le2 (le2 (le2 (le2 (le2 (le2 (le2 le8 le12) le13) le14) le15) le16) le17) le18) le19) le20) le21) le23) le24) le25) le26) le27) le28) le29), h96, hf⟩
   replace hf := cf hb hf
   refine wpIn_skip ?_
   have hS := hS.p (.d 0 .n)
   exact ⟨l1, A9, c9, q12, D18, hE.wk, hS, (le2 (le2 (le2 (le2 (le2 (le2 (le2 (le2 (le2 (le2 le8 le12) le13) le14) le15) le16) le17) le18) le19) le20) le21), h6, hf⟩
  replace hf := cf hb hf
  refine sq (ra ?_)
  refine sN 2 2 [(144, .bool ((decide (x1.fKind = (5 : Int)))))] hE fun a hE => ?_
  refine ae ?_
  refine cond_split hE (b := (decide (x1.fKind = (5 : Int)))) rfl (fun hb => ?_) (fun hb => ?_)
  ·replace hf := ct hb hf
   refine sq (ra ?_)
   refine sM 3 3 [0] [(146, .slice A1 (List.length (r1)) c1), (148, .int .i64 (x1.fSaga))] hE hS fun a hE => ?_
   obtain ⟨r18, h97, hf⟩ := bs hf
   refine aC rfl rfl rfl rfl hE rfl rfl rfl rfl (inspeximusref03_Num.calls h97 (hS.st.fore (L := [])) ) fun a v w hR hE => ?_
   obtain ⟨D44, A50, c47, q54, rfl, hS1, h98⟩ := hR
   have le39 := hS1.dle
   have hS := hS.callR hS1 rfl (.c .n)
   obtain ⟨D45, q55, le40, hS, h138, h99⟩ := hS.lent h98
   have hS := hS.p (.d 2 (.d 0 (.d 1 .n)))
   obtain ⟨l12, h100, hf⟩ := bs hf
   refine at_op (g_append (K := (kdInt .u8)) (e := 5) (bytes := 1) (l := r1) (m := r18) rfl rfl rfl rfl hE rfl hS rfl rfl (by kernel_rfl) rfl rfl (h1.mono (le2 (le2 le8 le39) le40)) h99 h100 (fun a A27 c27 q56 w _ hE h101 hS => ?_)) rfl
   refine sN 1 6 [(5, .slice A27 (List.length (l12)) c27)] hE fun a hE => ?_
   refine ae ?_
   refine sq (ra ?_)
   refine sM 3 3 [2] [(151, .slice A27 (List.length (l12)) c27), (153, .int .i64 (x1.fSeq))] hE hS fun a hE => ?_
   have hS := hS.p (.d 0 (.d 2 .n))
   obtain ⟨r19, h102, hf⟩ := bs hf
   refine aC rfl rfl rfl rfl hE rfl rfl rfl rfl (inspeximusref03_Num.calls h102 (hS.st.fore (L := [])) ) fun a v w hR hE => ?_
   obtain ⟨D46, A51, c48, q57, rfl, hS1, h103⟩ := hR
   have le41 := hS1.dle
   have hS := hS.callR hS1 rfl (.c .n)
   obtain ⟨D47, q58, le42, hS, h139, h104⟩ := hS.lent h103
   have hS := hS.p (.d 1 (.d 0 (.d 2 .n)))
   obtain ⟨l13, h105, hf⟩ := bs hf
   refine at_op (g_append (K := (kdInt .u8)) (e := 5) (bytes := 1) (l := l12) (m := r19) rfl rfl rfl rfl hE rfl hS rfl rfl (by kernel_rfl) rfl rfl (h101.mono (le2 le41 le42)) h104 h105 (fun a A28 c28 q59 w _ hE h106 hS => ?_)) rfl
   refine sN 1 6 [(5, .slice A28 (List.length (l13)) c28)] hE fun a hE => ?_
   refine ae ?_
   refine ra ?_
   refine sM 3 3 [2] [(156, .slice A28 (List.length (l13)) c28), (158, .int .i64 (x1.fEnd))] hE hS fun a hE => ?_
   have hS := hS.p (.d 0 (.d 2 .n))
   obtain ⟨r20, h107, hf⟩ := bs hf
   refine aC rfl rfl rfl rfl hE rfl rfl rfl rfl (inspeximusref03_Num.calls h107 (hS.st.fore (L := [])) ) fun a v w hR hE => ?_
   obtain ⟨D48, A52, c49, q60, rfl, hS1, h108⟩ := hR
   have le43 := hS1.dle
   have hS := hS.callR hS1 rfl (.c .n)
   obtain ⟨D19, q61, le44, hS, h140, h109⟩ := hS.lent h108
   have hS := hS.p (.d 1 (.d 0 (.d 2 .n)))
   obtain ⟨l21, h110, hf⟩ := bs hf
   refine at_op (g_append (K := (kdInt .u8)) (e := 5) (bytes := 1) (l := l13) (m := r20) rfl rfl rfl rfl hE rfl hS rfl rfl (by kernel_rfl) rfl rfl (h106.mono (le2 le43 le44)) h109 h110 (fun a A29 c29 q14 w _ hE h111 hS => ?_)) rfl
   refine sN 1 6 [(5, .slice A29 (List.length (l21)) c29)] hE fun a hE => ?_
   refine ae ?_
   have hS := hS.p (.d 0 .n)
   exact ⟨l21, A29, c29, q14, D19, hE.wk, hS, (le2 (le2 (le2 (le2 (le2 (le2 le8 le39) le40) le41) le42) le43) le44), h111, hf⟩
  replace hf := cf hb hf
  refine sq (ra ?_)
  refine sM 3 3 [0] [(16, .slice A1 (List.length (r1)) c1), (18, .int .i64 (x1.fPart))] hE hS fun a hE => ?_
  obtain ⟨r21, h112, hf⟩ := bs hf
  refine aC rfl rfl rfl rfl hE rfl rfl rfl rfl (inspeximusref03_Num.calls h112 (hS.st.fore (L := [])) ) fun a v w hR hE => ?_
  obtain ⟨D49, A53, c50, q62, rfl, hS1, h113⟩ := hR
  have le45 := hS1.dle
  have hS := hS.callR hS1 rfl (.c .n)
  obtain ⟨D50, q63, le46, hS, h141, h114⟩ := hS.lent h113
  have hS := hS.p (.d 2 (.d 0 (.d 1 .n)))
  obtain ⟨l14, h115, hf⟩ := bs hf
  refine at_op (g_append (K := (kdInt .u8)) (e := 5) (bytes := 1) (l := r1) (m := r21) rfl rfl rfl rfl hE rfl hS rfl rfl (by kernel_rfl) rfl rfl (h1.mono (le2 (le2 le8 le45) le46)) h114 h115 (fun a A30 c30 q64 w _ hE h116 hS => ?_)) rfl
  refine sN 1 6 [(5, .slice A30 (List.length (l14)) c30)] hE fun a hE => ?_
  refine ae ?_
  refine ra ?_
  refine sM 3 3 [2] [(21, .slice A30 (List.length (l14)) c30), (23, .int .i64 (x1.fEpoch))] hE hS fun a hE => ?_
  have hS := hS.p (.d 0 (.d 2 .n))
  obtain ⟨r22, h117, hf⟩ := bs hf
  refine aC rfl rfl rfl rfl hE rfl rfl rfl rfl (inspeximusref03_Num.calls h117 (hS.st.fore (L := [])) ) fun a v w hR hE => ?_
  obtain ⟨D51, A54, c51, q65, rfl, hS1, h118⟩ := hR
  have le47 := hS1.dle
  have hS := hS.callR hS1 rfl (.c .n)
  obtain ⟨D20, q66, le48, hS, h142, h119⟩ := hS.lent h118
  have hS := hS.p (.d 1 (.d 0 (.d 2 .n)))
  obtain ⟨l22, h120, hf⟩ := bs hf
  refine at_op (g_append (K := (kdInt .u8)) (e := 5) (bytes := 1) (l := l14) (m := r22) rfl rfl rfl rfl hE rfl hS rfl rfl (by kernel_rfl) rfl rfl (h116.mono (le2 le47 le48)) h119 h120 (fun a A31 c31 q15 w _ hE h121 hS => ?_)) rfl
  refine sN 1 6 [(5, .slice A31 (List.length (l22)) c31)] hE fun a hE => ?_
  refine ae ?_
  have hS := hS.p (.d 0 .n)
  exact ⟨l22, A31, c31, q15, D20, hE.wk, hS, (le2 (le2 (le2 (le2 le8 le45) le46) le47) le48), h121, hf⟩
 clear hE hS
 rintro a w ⟨y3, A3, c2, q1, D4, hE, hS, le51, h122, hf⟩
 replace hf := hj1 _ hf
 clear hj1
 refine sq (ra ?_)
 refine sN 2 2 [(4, .slice A3 (List.length (y3)) c2)] hE fun a hE => ?_
 refine ae ?_
 refine wpIn_ret ?_
 obtain rfl := si hf
 refine ret_ ?_
 refine rT 4 (.slice A3 (List.length (y3)) c2) hE ?_
 exact ⟨_, rfl, D4, A3, c2, q1, rfl, hS, h122⟩
set_option maxRecDepth 100000 in
theorem inspeximusref17_Put.calls {K : Nat} {g w0 : World} {D0 : Snap} {x1 : T_api_Bundle} {A2 : Option Addr} {c3 : Nat} {A5 : Option Addr} {c6 : Nat} {r : ((List Int))} (hf : inspeximusref17_Put.f K x1 = some r) (hS0 : St g w0 D0 []) (h4 : Sl kd_T_api_Sig D0 A2 c3 (x1.fPoint.fSigs)) (h7 : Sl kd_T_api_Item D0 A5 c6 (x1.fItems)) (hG0 : Cell (kdArr .u32 8) D0 0 0 gl_First) (hG1 : Cell (kdArr .u32 64) D0 1 0 gl_K) :
  CallsIn (Fw none) 0 Tryz.prog 10 (List.toArray [.agg (List.toArray (c_T_api_Bundle (x1) A2 c3 A5 c6))]) w0 (fun e w' => ∃ v, e = .returned v ∧ ∃ (D1 : Snap) (A18 : Option Addr) (c17 : Nat) (q11 : Blk), v = .slice A18 (List.length (r)) c17 ∧ Stp g w0 D0 [] w' D1 [q11] ∧ OwnL (kdInt .u8) 5 D1 A18 c17 (r) q11) := by
 unfold inspeximusref17_Put.f at hf
 have hS := Stp.refl hS0
 clear hS0
 refine calls_body (n := 124) Tryz.func10 rfl Tryz.ntmps10 rfl fun a hE => ?_
 have hE : Env a 124 [] [(0, .agg (List.toArray (c_T_api_Bundle (x1) A2 c3 A5 c6)))] := hE
 refine sq (ra ?_)
 refine at_op (op_box rfl rfl rfl rfl hE rfl hS rfl (fun a b1 w _ hE hS => ?_)) rfl
 refine sN 1 2 [(2, .slice none 0 0)] hE fun a hE => ?_
 refine ae ?_
 refine sq (sq (ra ?_))
 refine sM 1 1 [0] [(11, .agg (List.toArray (c_T_api_Bundle (x1) A2 c3 A5 c6)))] hE hS fun a hE => ?_
 obtain ⟨r1, h9, hf⟩ := bs hf
 refine aC rfl rfl rfl rfl hE rfl rfl rfl rfl (inspeximusref17_Right.calls h9 (hS.st.fore (L := [])) h4 h7) fun a v w hR hE => ?_
 obtain ⟨D15, rfl, hS1⟩ := hR
 have le11 := hS1.dle
 have hS := hS.callR hS1 rfl .n
 refine sN 1 3 [(13, .bool ((!r1)))] hE fun a hE => ?_
 refine ae ?_
 refine cond_split hE (b := (!r1)) rfl (fun hb => ?_) (fun hb => ?_)
 ·replace hf := ct hb hf
  refine sq (ra ?_)
  refine sN 1 1 [(2, .slice none 0 0)] hE fun a hE => ?_
  refine ae ?_
  refine wpIn_ret ?_
  have hS := hS.nils
  obtain rfl := si hf
  refine ret_ ?_
  refine rT 2 (.slice none 0 0) hE ?_
  have hS := hS.p (.d 0 .n)
  exact ⟨_, rfl, D15, none, 0, none, rfl, hS, (OwnD.nil (kdInt .u8) 5 D15)⟩
 replace hf := cf hb hf
 refine wpIn_skip ?_
 refine sq (ra ?_)
 refine at_op (op_buildSlice (K := (kdInt .u8)) (e := 5) (cs := [.int .u8 ((105 : Int))] ++ ([.int .u8 ((110 : Int))] ++ ([.int .u8 ((115 : Int))] ++ ([.int .u8 ((112 : Int))] ++ [])))) ([(105 : Int), (110 : Int), (115 : Int), (112 : Int)] : List Int) rfl rfl rfl rfl hE rfl hS rfl (by kernel_rfl) rfl rfl (by exact ⟨_, _, rfl, rfl, ⟨_, _, rfl, rfl, ⟨_, _, rfl, rfl, ⟨_, _, rfl, rfl, rfl⟩⟩⟩⟩) (fun a A16 q22 w _ hE h10 hS => ?_)) rfl
 refine at_op (op_lit (T := 5) (l := ([(105 : Int), (110 : Int), (115 : Int), (112 : Int)] : List Int)) rfl rfl rfl rfl hE rfl hS rfl (by kernel_rfl) h10 (by kernel_rfl) (fun a D17 w _ le12 hE h11 hS => ?_)) rfl
 have h2 := OwnL.full 5 h11 rfl
 have hS := hS.nils
 refine sN 1 3 [(3, .slice A16 (List.length (([(105 : Int), (110 : Int), (115 : Int), (112 : Int)] : List Int))) 4)] hE fun a hE => ?_
 refine ae ?_
 obtain ⟨j1, hj1, hf⟩ := jn_elim hf
 refine seq_join (fun a w => ∃ (y4 : (List Int)), ∃ A11, ∃ c11, ∃ q8, ∃ D9, Env a 124 [] [(1, .pointer (some ⟨b1, 0, none⟩)), (3, .slice A11 (List.length (y4)) c11)] ∧ Stp g w0 D0 [] w D9 [bx b1 29 (c_T_api_Bundle (x1) A2 c3 A5 c6), q8] ∧ Snap.le D17 D9 ∧ OwnL (kdInt .u8) 5 D9 A11 c11 (y4) q8 ∧ j1 y4 = some r) ?_ ?_
 ·clear hj1
  refine sq (ra ?_)
  refine sM 2 2 [1] [(17, .bool (x1.fWhole))] hE hS fun a hE => ?_
  refine ae ?_
  refine cond_split hE (b := x1.fWhole) rfl (fun hb => ?_) (fun hb => ?_)
  ·replace hf := ct hb hf
   refine ra ?_
   refine sN 1 1 [(18, .slice A16 (List.length (([(105 : Int), (110 : Int), (115 : Int), (112 : Int)] : List Int))) 4)] hE fun a hE => ?_
   refine at_op (op_buildSlice (K := (kdInt .u8)) (e := 5) (cs := [.int .u8 ((1 : Int))] ++ []) ([(1 : Int)] : List Int) rfl rfl rfl rfl hE rfl hS rfl (by kernel_rfl) rfl rfl (by exact ⟨_, _, rfl, rfl, rfl⟩) (fun a A34 q23 w _ hE h12 hS => ?_)) rfl
   obtain ⟨D18, q24, le22, hS, h88, h13⟩ := hS.lent h12
   have hS := hS.p (.d 1 (.d 0 (.d 2 .n)))
   obtain ⟨l5, h14, hf⟩ := bs hf
   refine at_op (g_append (K := (kdInt .u8)) (e := 5) (bytes := 1) (l := ([(105 : Int), (110 : Int), (115 : Int), (112 : Int)] : List Int)) (m := ([(1 : Int)] : List Int)) rfl rfl rfl rfl hE rfl hS rfl rfl (by kernel_rfl) rfl rfl (h2.mono le22) h13 h14 (fun a A19 c18 q12 w _ hE h15 hS => ?_)) rfl
   refine sN 1 4 [(3, .slice A19 (List.length (l5)) c18)] hE fun a hE => ?_
   refine ae ?_
   have hS := hS.p (.d 2 (.d 0 .n))
   exact ⟨l5, A19, c18, q12, D18, hE.wk, hS, le22, h15, hf⟩
  replace hf := cf hb hf
  refine ra ?_
  refine sN 1 1 [(21, .slice A16 (List.length (([(105 : Int), (110 : Int), (115 : Int), (112 : Int)] : List Int))) 4)] hE fun a hE => ?_
  refine at_op (op_buildSlice (K := (kdInt .u8)) (e := 5) (cs := [.int .u8 ((0 : Int))] ++ []) ([(0 : Int)] : List Int) rfl rfl rfl rfl hE rfl hS rfl (by kernel_rfl) rfl rfl (by exact ⟨_, _, rfl, rfl, rfl⟩) (fun a A35 q25 w _ hE h16 hS => ?_)) rfl
  obtain ⟨D19, q26, le23, hS, h89, h17⟩ := hS.lent h16
  have hS := hS.p (.d 1 (.d 0 (.d 2 .n)))
  obtain ⟨l6, h18, hf⟩ := bs hf
  refine at_op (g_append (K := (kdInt .u8)) (e := 5) (bytes := 1) (l := ([(105 : Int), (110 : Int), (115 : Int), (112 : Int)] : List Int)) (m := ([(0 : Int)] : List Int)) rfl rfl rfl rfl hE rfl hS rfl rfl (by kernel_rfl) rfl rfl (h2.mono le23) h17 h18 (fun a A20 c19 q13 w _ hE h19 hS => ?_)) rfl
  refine sN 1 4 [(3, .slice A20 (List.length (l6)) c19)] hE fun a hE => ?_
  refine ae ?_
  have hS := hS.p (.d 2 (.d 0 .n))
  exact ⟨l6, A20, c19, q13, D19, hE.wk, hS, le23, h19, hf⟩
 clear hE hS
 rintro a w ⟨y4, A11, c11, q8, D9, hE, hS, le13, h20, hf⟩
 replace hf := hj1 _ hf
 clear hj1
 refine sq (ra ?_)
 refine sM 2 2 [0] [(25, .agg (List.toArray (c_T_api_Point (x1.fPoint) A2 c3)))] hE hS fun a hE => ?_
 refine at_op (op_alloc (z := .agg (List.toArray (c_T_api_Point (z_T_api_Point) none 0))) rfl rfl rfl rfl hE rfl hS (by kernel_rfl) (fun a b3 w _ hE hS => ?_)) rfl
 refine at_op (op_store (v := .agg (List.toArray (c_T_api_Point (x1.fPoint) A2 c3))) (c_T_api_Point (x1.fPoint) A2 c3) rfl rfl rfl rfl hE hS rfl rfl (by kernel_rfl) (by kernel_rfl) (by kernel_rfl) (by kernel_rfl) (by kernel_rfl) (fun a w _ hE hS => ?_)) rfl
 refine ae ?_
 refine sq (ra ?_)
 refine sM 3 3 [0] [(26, .slice A11 (List.length (y4)) c11), (28, .int .i64 (x1.fPoint.fSize))] hE hS fun a hE => ?_
 obtain ⟨r2, h21, hf⟩ := bs hf
 refine aC rfl rfl rfl rfl hE rfl rfl rfl rfl (inspeximusref03_Num.calls h21 (hS.st.fore (L := [])) ) fun a v w hR hE => ?_
 obtain ⟨D25, A36, c33, q27, rfl, hS1, h22⟩ := hR
 have le6 := hS1.dle
 have hS := hS.callR hS1 rfl (.c .n)
 obtain ⟨D26, q28, le7, hS, h90, h23⟩ := hS.lent h22
 have hS := hS.p (.d 3 (.d 0 (.d 1 (.d 2 .n))))
 obtain ⟨l2, h24, hf⟩ := bs hf
 refine at_op (g_append (K := (kdInt .u8)) (e := 5) (bytes := 1) (l := y4) (m := r2) rfl rfl rfl rfl hE rfl hS rfl rfl (by kernel_rfl) rfl rfl (h20.mono (le2 le6 le7)) h23 h24 (fun a A21 c20 q29 w _ hE h25 hS => ?_)) rfl
 refine sN 1 6 [(3, .slice A21 (List.length (l2)) c20)] hE fun a hE => ?_
 refine ae ?_
 refine sq (ra ?_)
 refine sM 2 2 [] [(31, .slice A21 (List.length (l2)) c20), (32, .pointer (some ⟨b3, 1, none⟩))] hE hS fun a hE => ?_
 have hS := hS.p (.d 2 (.d 0 (.d 1 (.d 3 .n))))
 obtain ⟨D16, le8, e1, hS⟩ := hS.freezeB
 have hc1 : Cell kd_T_api_Point D16 b3 0 (x1.fPoint) := ⟨c_T_api_Point (x1.fPoint) A2 c3, _, _, _, (kd_T_api_Point_mk (D := D16) (x := x1.fPoint) rfl rfl (kslice (h4.mono (le2 (le2 (le2 (le2 (le2 le11 le12) le13) le6) le7) le8)))), e1, fun j u hu => by show (List.toArray (c_T_api_Point (x1.fPoint) A2 c3))[0 + j]? = some u; simpa using hu⟩
 obtain ⟨l13, h26, hf⟩ := bs hf
 refine at_op (op_tk hE (tk_sliceArrAt (kk := .u8) (e := 5) (v := x1.fPoint.fRoot) (off := 1) (cs := c_T_api_Point (x1.fPoint) A2 c3) rfl rfl rfl rfl hE rfl rfl (by kernel_rfl) rfl rfl e1 (by kernel_rfl) rfl h26 (fun a A37 c34 hE h27 => ?_))) rfl
 obtain ⟨l3, h28, hf⟩ := bs hf
 refine at_op (g_append (K := (kdInt .u8)) (e := 5) (bytes := 1) (l := l2) (m := l13) rfl rfl rfl rfl hE rfl hS rfl rfl (by kernel_rfl) rfl rfl (h25.mono le8) h27 h28 (fun a A22 c21 q30 w _ hE h29 hS => ?_)) rfl
 refine sN 1 5 [(3, .slice A22 (List.length (l3)) c21)] hE fun a hE => ?_
 refine ae ?_
 refine sq (ra ?_)
 refine sN 1 1 [(35, .slice A22 (List.length (l3)) c21)] hE fun a hE => ?_
 refine at_op (op_tk hE (g_fieldAddr (fo := 33) (ft := 24) (0 + 33) rfl rfl rfl rfl hE rfl rfl (by kernel_rfl) rfl (fun a hE => ?_))) rfl
 obtain ⟨cs1, C1, T1, fr1, hr1, hb1, hc2⟩ := id hc1
 obtain ⟨A23, c22, rfl, h91⟩ := kd_T_api_Point_el hr1
 refine at_op (op_tk hE (tk_loadX (off0 := 0) (off := 33) (c := c_T_api_Point (x1.fPoint) A23 c22) (.slice A23 (List.length (x1.fPoint.fSigs)) c22) rfl rfl rfl rfl hE rfl hS rfl hb1 hc2 (by kernel_rfl) (by kernel_rfl) (kD hS dn_nil) (fun a hE => ?_))) rfl
 refine sN 1 4 [(38, .int .i64 (((List.length (x1.fPoint.fSigs) : Nat) : Int)))] hE fun a hE => ?_
 have hS := hS.p (.d 0 (.d 2 .n))
 obtain ⟨r3, h30, hf⟩ := bs hf
 refine aC rfl rfl rfl rfl hE rfl rfl rfl rfl (inspeximusref03_Num.calls h30 (hS.st.fore (L := [])) ) fun a v w hR hE => ?_
 obtain ⟨D27, A38, c35, q31, rfl, hS1, h31⟩ := hR
 have le1 := hS1.dle
 have hS := hS.callR hS1 rfl (.c .n)
 obtain ⟨D28, q32, le3, hS, h92, h32⟩ := hS.lent h31
 have hS := hS.p (.d 1 (.d 0 (.d 2 .n)))
 obtain ⟨l7, h33, hf⟩ := bs hf
 refine at_op (g_append (K := (kdInt .u8)) (e := 5) (bytes := 1) (l := l3) (m := r3) rfl rfl rfl rfl hE rfl hS rfl rfl (by kernel_rfl) rfl rfl (h29.mono (le2 le1 le3)) h32 h33 (fun a A24 c23 q33 w _ hE h34 hS => ?_)) rfl
 refine sN 1 7 [(3, .slice A24 (List.length (l7)) c23)] hE fun a hE => ?_
 refine ae ?_
 refine sq (sq (ra ?_))
 refine sN 1 1 [(5, .int .i64 ((0 : Int)))] hE fun a hE => ?_
 refine ae ?_
 obtain ⟨D12, q14, le5, hS, h35, h93⟩ := hS.lent h34
 obtain ⟨s2, hf, hs1⟩ := bs hf
 have hS := hS.p (.d 2 (.d 0 .n))
 refine block_loop (fun a w => ∃ (z1 : (List Int)), ∃ A8, ∃ c8, ∃ q2, ∃ D3, Env a 124 [] [(1, .pointer (some ⟨b1, 0, none⟩)), (3, .slice A8 (List.length (z1)) c8)] ∧ Stp g w0 D0 [] w D3 [bx b1 29 (c_T_api_Bundle (x1) A2 c3 A5 c6), q2] ∧ Snap.le D12 D3 ∧ OwnL (kdInt .u8) 5 D3 A8 c8 (z1) q2 ∧ z1 = s2) (fun k a w => ∃ (y2 : (List Int) × Int), ∃ A9, ∃ c9, ∃ q3, ∃ D4, Env a 124 [] [(1, .pointer (some ⟨b1, 0, none⟩)), (3, .slice A9 (List.length (y2.1)) c9), (4, .pointer (some ⟨b3, 0, none⟩)), (5, .int .i64 (y2.2))] ∧ Stp g w0 D0 [] w D4 [bx b1 29 (c_T_api_Bundle (x1) A2 c3 A5 c6), q3] ∧ Snap.le D12 D4 ∧ OwnL (kdInt .u8) 5 D4 A9 c9 (y2.1) q3 ∧ inspeximusref17_Put_l1.l K x1 k y2 = some s2) K ?_ ?_ ?_
 ·exact ⟨(l7, (0 : Int)), A24, c23, q14, D12, hE.wk, hS, lr, h35, hf⟩
 ·clear hE hS hf
  rintro a w ⟨z1, A8, c8, q2, D3, hE, hS, le16, h3, rfl⟩
  have hf := hs1
  clear hs1
  obtain ⟨j2, hj2, hf⟩ := jn_elim hf
  refine seq_join (fun a w => ∃ (y6 : (List Int)), ∃ A12, ∃ c12, ∃ q9, ∃ D10, Env a 124 [] [(1, .pointer (some ⟨b1, 0, none⟩)), (3, .slice A12 (List.length (y6)) c12)] ∧ Stp g w0 D0 [] w D10 [bx b1 29 (c_T_api_Bundle (x1) A2 c3 A5 c6), q9] ∧ Snap.le D3 D10 ∧ OwnL (kdInt .u8) 5 D10 A12 c12 (y6) q9 ∧ j2 y6 = some r) ?_ ?_
  ·clear hj2
   refine sq (ra ?_)
   refine sM 3 3 [0] [(68, .bool ((!x1.fWhole)))] hE hS fun a hE => ?_
   refine ae ?_
   refine cond_split hE (b := (!x1.fWhole)) rfl (fun hb => ?_) (fun hb => ?_)
   ·replace hf := ct hb hf
    refine ra ?_
    refine sM 4 4 [0] [(69, .slice A8 (List.length (z1)) c8), (72, .int .i64 (((List.length (x1.fItems) : Nat) : Int)))] hE hS fun a hE => ?_
    obtain ⟨r4, h36, hf⟩ := bs hf
    refine aC rfl rfl rfl rfl hE rfl rfl rfl rfl (inspeximusref03_Num.calls h36 (hS.st.fore (L := [])) ) fun a v w hR hE => ?_
    obtain ⟨D29, A39, c36, q34, rfl, hS1, h37⟩ := hR
    have le24 := hS1.dle
    have hS := hS.callR hS1 rfl (.c .n)
    obtain ⟨D20, q35, le25, hS, h94, h38⟩ := hS.lent h37
    have hS := hS.p (.d 2 (.d 0 (.d 1 .n)))
    obtain ⟨l8, h39, hf⟩ := bs hf
    refine at_op (g_append (K := (kdInt .u8)) (e := 5) (bytes := 1) (l := z1) (m := r4) rfl rfl rfl rfl hE rfl hS rfl rfl (by kernel_rfl) rfl rfl (h3.mono (le2 le24 le25)) h38 h39 (fun a A25 c24 q15 w _ hE h40 hS => ?_)) rfl
    refine sN 1 7 [(3, .slice A25 (List.length (l8)) c24)] hE fun a hE => ?_
    refine ae ?_
    have hS := hS.p (.d 2 (.d 0 .n))
    exact ⟨l8, A25, c24, q15, D20, hE.wk, hS, (le2 le24 le25), h40, hf⟩
   replace hf := cf hb hf
   refine wpIn_skip ?_
   exact ⟨z1, A8, c8, q2, D3, hE.wk, hS, lr, h3, hf⟩
  clear hE hS
  rintro a w ⟨y6, A12, c12, q9, D10, hE, hS, le17, h41, hf⟩
  replace hf := hj2 _ hf
  clear hj2
  refine sq (sq (ra ?_))
  refine sN 1 1 [(7, .int .i64 ((0 : Int)))] hE fun a hE => ?_
  refine ae ?_
  have hS := hS.p (.d 1 (.d 0 .n))
  obtain ⟨D13, q16, le18, hS, h42, h95⟩ := hS.lent h41
  obtain ⟨s1, hf, hs2⟩ := bs hf
  have hS := hS.p (.d 1 (.d 0 .n))
  refine block_loop (fun a w => ∃ (z2 : (List Int)), ∃ A6, ∃ c5, ∃ q4, ∃ D5, Env a 124 [] [(3, .slice A6 (List.length (z2)) c5)] ∧ Stp g w0 D0 [] w D5 [q4] ∧ Snap.le D13 D5 ∧ OwnL (kdInt .u8) 5 D5 A6 c5 (z2) q4 ∧ z2 = s1) (fun k a w => ∃ (y1 : (List Int) × Int), ∃ A7, ∃ c7, ∃ q1, ∃ D2, Env a 124 [] [(1, .pointer (some ⟨b1, 0, none⟩)), (3, .slice A7 (List.length (y1.1)) c7), (7, .int .i64 (y1.2))] ∧ Stp g w0 D0 [] w D2 [bx b1 29 (c_T_api_Bundle (x1) A2 c3 A5 c6), q1] ∧ Snap.le D13 D2 ∧ OwnL (kdInt .u8) 5 D2 A7 c7 (y1.1) q1 ∧ inspeximusref17_Put_l2.l K x1 k y1 = some s1) K ?_ ?_ ?_
  ·exact ⟨(y6, (0 : Int)), A12, c12, q16, D13, hE.wk, hS, lr, h42, hf⟩
  ·clear hE hS hf
   rintro a w ⟨z2, A6, c5, q4, D5, hE, hS, le35, h43, rfl⟩
   have hf := hs2
   clear hs2
   refine sq (ra ?_)
   refine sN 2 2 [(2, .slice A6 (List.length (z2)) c5)] hE fun a hE => ?_
   refine ae ?_
   refine wpIn_ret ?_
   obtain rfl := si hf
   refine ret_ ?_
   refine rT 2 (.slice A6 (List.length (z2)) c5) hE ?_
   exact ⟨_, rfl, D5, A6, c5, q4, rfl, hS, h43⟩
  clear hE hS hf
  rintro k a w ⟨y1, A7, c7, q1, D2, hE, hS, le9, h1, hf⟩
  obtain ⟨k, rfl, hf⟩ := inspeximusref17_Put_l2.some _ hf
  refine ⟨k, rfl, ?_⟩
  unfold inspeximusref17_Put_l2.b at hf
  refine sq (sq (ra ?_))
  refine sM 5 5 [0] [(79, .bool ((decide (y1.2 < ((List.length (x1.fItems) : Nat) : Int)))))] hE hS fun a hE => ?_
  refine ae ?_
  refine cond_split hE (b := (decide (y1.2 < ((List.length (x1.fItems) : Nat) : Int)))) rfl (fun hb => ?_) (fun hb => ?_)
  ·replace hf := ct hb hf
   refine wpIn_skip ?_
   obtain ⟨j3, hj3, hf⟩ := jn_elim hf
   refine seq_join (fun a w => ∃ (y7 : (List Int)), ∃ A13, ∃ c13, ∃ q5, ∃ D6, Env a 124 [] [(1, .pointer (some ⟨b1, 0, none⟩)), (3, .slice A13 (List.length (y7)) c13), (7, .int .i64 (y1.2))] ∧ Stp g w0 D0 [] w D6 [bx b1 29 (c_T_api_Bundle (x1) A2 c3 A5 c6), q5] ∧ Snap.le D2 D6 ∧ OwnL (kdInt .u8) 5 D6 A13 c13 (y7) q5 ∧ j3 y7 = some s1) ?_ ?_
   ·clear hj3
    refine wpIn_block ?_
    refine sq (ra ?_)
    refine sM 3 3 [0] [(83, .slice A5 (List.length (x1.fItems)) c6), (84, .int .i64 (y1.2))] hE hS fun a hE => ?_
    obtain ⟨x2, h44, hf⟩ := bs hf
    refine at_op (op_tk hE (g_index (K := kd_T_api_Item) (e := 43) (by_ := 256) (zl := 111) rfl rfl rfl rfl hE rfl rfl rfl (by kernel_rfl) rfl (h7.mono (le2 (le2 (le2 (le2 (le2 (le2 (le2 (le2 (le2 (le2 (le2 (le2 le11 le12) le13) le6) le7) le8) le1) le3) le5) le16) le17) le18) le9)) h44 (fun a b4 o3 hE h45 => ?_))) rfl
    obtain ⟨cs2, C2, T2, fr2, hr2, hb2, hc3⟩ := id h45
    obtain ⟨A1, c1, A3, c2, A4, c4, rfl, h46, h47, h48⟩ := kd_T_api_Item_el hr2
    refine at_op (op_tk hE (tk_loadX (off0 := o3) (off := 0) (c := c_T_api_Item (x2) A1 c1 A3 c2 A4 c4) (.agg (List.toArray (c_T_api_Item (x2) A1 c1 A3 c2 A4 c4))) rfl rfl rfl rfl hE rfl hS rfl hb2 hc3 (by kernel_rfl) (by kernel_rfl) (kD hS dn_nil) (fun a hE => ?_))) rfl
    refine at_op (op_alloc (z := .agg (List.toArray (c_T_api_Item (z_T_api_Item) none 0 none 0 none 0))) rfl rfl rfl rfl hE rfl hS (by kernel_rfl) (fun a b2 w _ hE hS => ?_)) rfl
    refine at_op (op_store (v := .agg (List.toArray (c_T_api_Item (x2) A1 c1 A3 c2 A4 c4))) (c_T_api_Item (x2) A1 c1 A3 c2 A4 c4) rfl rfl rfl rfl hE hS rfl rfl (by kernel_rfl) (by kernel_rfl) (by kernel_rfl) (by kernel_rfl) (by kernel_rfl) (fun a w _ hE hS => ?_)) rfl
    refine ae ?_
    obtain ⟨j4, hj4, hf⟩ := jn_elim hf
    refine seq_join (fun a w => ∃ (y5 : (List Int)), ∃ A14, ∃ c14, ∃ q10, ∃ D11, Env a 124 [] [(1, .pointer (some ⟨b1, 0, none⟩)), (3, .slice A14 (List.length (y5)) c14), (7, .int .i64 (y1.2)), (8, .pointer (some ⟨b2, 0, none⟩))] ∧ Stp g w0 D0 [] w D11 [bx b1 29 (c_T_api_Bundle (x1) A2 c3 A5 c6), bx b2 43 (c_T_api_Item (x2) A1 c1 A3 c2 A4 c4), q10] ∧ Snap.le D2 D11 ∧ OwnL (kdInt .u8) 5 D11 A14 c14 (y5) q10 ∧ j4 y5 = some s1) ?_ ?_
    ·clear hj4
     refine sq (ra ?_)
     refine sM 3 3 [1] [(89, .bool ((!x1.fWhole)))] hE hS fun a hE => ?_
     refine ae ?_
     refine cond_split hE (b := (!x1.fWhole)) rfl (fun hb => ?_) (fun hb => ?_)
     ·replace hf := ct hb hf
      refine ra ?_
      refine sM 3 3 [0] [(90, .slice A7 (List.length (y1.1)) c7), (92, .int .i64 (x2.fAt))] hE hS fun a hE => ?_
      obtain ⟨r5, h49, hf⟩ := bs hf
      refine aC rfl rfl rfl rfl hE rfl rfl rfl rfl (inspeximusref03_Num.calls h49 (hS.st.fore (L := [])) ) fun a v w hR hE => ?_
      obtain ⟨D30, A40, c37, q36, rfl, hS1, h50⟩ := hR
      have le26 := hS1.dle
      have hS := hS.callR hS1 rfl (.c .n)
      obtain ⟨D21, q37, le27, hS, h96, h51⟩ := hS.lent h50
      have hS := hS.p (.d 3 (.d 0 (.d 1 (.d 2 .n))))
      obtain ⟨l9, h52, hf⟩ := bs hf
      refine at_op (g_append (K := (kdInt .u8)) (e := 5) (bytes := 1) (l := y1.1) (m := r5) rfl rfl rfl rfl hE rfl hS rfl rfl (by kernel_rfl) rfl rfl (h1.mono (le2 le26 le27)) h51 h52 (fun a A26 c25 q17 w _ hE h53 hS => ?_)) rfl
      refine sN 1 6 [(3, .slice A26 (List.length (l9)) c25)] hE fun a hE => ?_
      refine ae ?_
      have hS := hS.p (.d 3 (.d 2 (.d 0 .n)))
      exact ⟨l9, A26, c25, q17, D21, hE.wk, hS, (le2 le26 le27), h53, hf⟩
     replace hf := cf hb hf
     refine wpIn_skip ?_
     have hS := hS.p (.d 1 (.d 0 (.d 2 .n)))
     exact ⟨y1.1, A7, c7, q1, D2, hE.wk, hS, lr, h1, hf⟩
    clear hE hS
    rintro a w ⟨y5, A14, c14, q10, D11, hE, hS, le4, h54, hf⟩
    replace hf := hj4 _ hf
    clear hj4
    refine sq (ra ?_)
    refine sM 3 3 [1] [(95, .slice A14 (List.length (y5)) c14), (97, .agg (List.toArray (c_T_api_Rec (x2.fRec) A1 c1 A3 c2)))] hE hS fun a hE => ?_
    obtain ⟨r6, h55, hf⟩ := bs hf
    refine aC rfl rfl rfl rfl hE rfl rfl rfl rfl (inspeximusref04_Put.calls h55 (hS.st.fore (L := [])) (h46.mono le4) (h47.mono le4) (hG0.mono (le2 (le2 (le2 (le2 (le2 (le2 (le2 (le2 (le2 (le2 (le2 (le2 (le2 le11 le12) le13) le6) le7) le8) le1) le3) le5) le16) le17) le18) le9) le4)) (hG1.mono (le2 (le2 (le2 (le2 (le2 (le2 (le2 (le2 (le2 (le2 (le2 (le2 (le2 le11 le12) le13) le6) le7) le8) le1) le3) le5) le16) le17) le18) le9) le4))) fun a v w hR hE => ?_
    obtain ⟨D31, A41, c38, q38, rfl, hS1, h56⟩ := hR
    have le14 := hS1.dle
    have hS := hS.callR hS1 rfl (.c .n)
    obtain ⟨D22, q39, le15, hS, h97, h57⟩ := hS.lent h56
    have hS := hS.p (.d 3 (.d 0 (.d 1 (.d 2 .n))))
    obtain ⟨l1, h58, hf⟩ := bs hf
    refine at_op (g_append (K := (kdInt .u8)) (e := 5) (bytes := 1) (l := y5) (m := r6) rfl rfl rfl rfl hE rfl hS rfl rfl (by kernel_rfl) rfl rfl (h54.mono (le2 le14 le15)) h57 h58 (fun a A17 c16 q18 w _ hE h5 hS => ?_)) rfl
    refine sN 1 6 [(3, .slice A17 (List.length (l1)) c16)] hE fun a hE => ?_
    refine ae ?_
    refine sq (sq (ra ?_))
    refine sM 2 2 [2] [(101, .bool (x1.fWhole))] hE hS fun a hE => ?_
    refine ae ?_
    refine cond_split hE (b := x1.fWhole) rfl (fun hb => ?_) (fun hb => ?_)
    ·replace hf := ct hb hf
     refine wpIn_exit ?_
     have hS := hS.p (.d 2 (.d 0 .n))
     exact ⟨l1, A17, c16, q18, D22, hE.wk, hS, (le2 (le2 le4 le14) le15), h5, hf⟩
    replace hf := cf hb hf
    refine wpIn_skip ?_
    refine sq (ra ?_)
    refine sM 4 4 [3] [(102, .slice A17 (List.length (l1)) c16), (105, .int .i64 (((List.length (x2.fPath) : Nat) : Int)))] hE hS fun a hE => ?_
    have hS := hS.p (.d 0 (.d 2 (.d 3 .n)))
    obtain ⟨r7, h59, hf⟩ := bs hf
    refine aC rfl rfl rfl rfl hE rfl rfl rfl rfl (inspeximusref03_Num.calls h59 (hS.st.fore (L := [])) ) fun a v w hR hE => ?_
    obtain ⟨D32, A42, c39, q40, rfl, hS1, h60⟩ := hR
    have le19 := hS1.dle
    have hS := hS.callR hS1 rfl (.c .n)
    obtain ⟨D33, q41, le20, hS, h98, h61⟩ := hS.lent h60
    have hS := hS.p (.d 1 (.d 0 (.d 2 (.d 3 .n))))
    obtain ⟨l10, h62, hf⟩ := bs hf
    refine at_op (g_append (K := (kdInt .u8)) (e := 5) (bytes := 1) (l := l1) (m := r7) rfl rfl rfl rfl hE rfl hS rfl rfl (by kernel_rfl) rfl rfl (h5.mono (le2 le19 le20)) h61 h62 (fun a A27 c26 q42 w _ hE h63 hS => ?_)) rfl
    refine sN 1 7 [(3, .slice A27 (List.length (l10)) c26)] hE fun a hE => ?_
    refine ae ?_
    refine sq (ra ?_)
    refine sN 1 1 [(9, .int .i64 ((0 : Int)))] hE fun a hE => ?_
    refine ae ?_
    obtain ⟨D14, q19, le28, hS, h64, h99⟩ := hS.lent h63
    obtain ⟨s3, hf, hs3⟩ := bs hf
    have hS := hS.p (.d 2 (.d 3 (.d 0 .n)))
    refine block_loop (fun a w => ∃ (z3 : (List Int)), ∃ A15, ∃ c15, ∃ q6, ∃ D7, Env a 124 [] [(1, .pointer (some ⟨b1, 0, none⟩)), (3, .slice A15 (List.length (z3)) c15), (7, .int .i64 (y1.2))] ∧ Stp g w0 D0 [] w D7 [bx b1 29 (c_T_api_Bundle (x1) A2 c3 A5 c6), q6] ∧ Snap.le D14 D7 ∧ OwnL (kdInt .u8) 5 D7 A15 c15 (z3) q6 ∧ z3 = s3) (fun k a w => ∃ (y3 : (List Int) × Int), ∃ A10, ∃ c10, ∃ q7, ∃ D8, Env a 124 [] [(1, .pointer (some ⟨b1, 0, none⟩)), (3, .slice A10 (List.length (y3.1)) c10), (7, .int .i64 (y1.2)), (8, .pointer (some ⟨b2, 0, none⟩)), (9, .int .i64 (y3.2))] ∧ Stp g w0 D0 [] w D8 [bx b1 29 (c_T_api_Bundle (x1) A2 c3 A5 c6), bx b2 43 (c_T_api_Item (x2) A1 c1 A3 c2 A4 c4), q7] ∧ Snap.le D14 D8 ∧ OwnL (kdInt .u8) 5 D8 A10 c10 (y3.1) q7 ∧ inspeximusref17_Put_l3.l K x2 k y3 = some s3) K ?_ ?_ ?_
    ·exact ⟨(l10, (0 : Int)), A27, c26, q19, D14, hE.wk, hS, lr, h64, hf⟩
    ·clear hE hS hf
     rintro a w ⟨z3, A15, c15, q6, D7, hE, hS, le33, h65, rfl⟩
     have hf := hs3
     clear hs3
     exact ⟨z3, A15, c15, q6, D7, hE.wk, hS, (le2 (le2 (le2 (le2 (le2 (le2 le4 le14) le15) le19) le20) le28) le33), h65, hf⟩
    clear hE hS hf
    rintro k a w ⟨y3, A10, c10, q7, D8, hE, hS, le21, h6, hf⟩
    obtain ⟨k, rfl, hf⟩ := inspeximusref17_Put_l3.some _ hf
    refine ⟨k, rfl, ?_⟩
    unfold inspeximusref17_Put_l3.b at hf
    refine sq (sq (ra ?_))
    refine sM 5 5 [1] [(112, .bool ((decide (y3.2 < ((List.length (x2.fPath) : Nat) : Int)))))] hE hS fun a hE => ?_
    refine ae ?_
    refine cond_split hE (b := (decide (y3.2 < ((List.length (x2.fPath) : Nat) : Int)))) rfl (fun hb => ?_) (fun hb => ?_)
    ·replace hf := ct hb hf
     refine wpIn_skip ?_
     refine sq ?_
     refine wpIn_block ?_
     refine sq (ra ?_)
     refine sM 3 3 [1] [(116, .slice A4 (List.length (x2.fPath)) c4), (117, .int .i64 (y3.2))] hE hS fun a hE => ?_
     obtain ⟨x3, h66, hf⟩ := bs hf
     refine at_op (op_tk hE (g_index (K := (kdArr .u8 32)) (e := 23) (by_ := 32) (zl := 32) rfl rfl rfl rfl hE rfl rfl rfl (by kernel_rfl) rfl (h48.mono (le2 (le2 (le2 (le2 (le2 (le2 le4 le14) le15) le19) le20) le28) le21)) h66 (fun a b5 o4 hE h67 => ?_))) rfl
     obtain ⟨cs3, C3, T3, fr3, hr3, hb3, hc4⟩ := id h67
     obtain rfl := hr3
     refine at_op (op_tk hE (tk_loadX (off0 := o4) (off := 0) (c := acells .u8 32 (x3)) (.agg (List.toArray (acells .u8 32 (x3)))) rfl rfl rfl rfl hE rfl hS rfl hb3 hc4 (by kernel_rfl) (by kernel_rfl) (kD hS dn_nil) (fun a hE => ?_))) rfl
     refine at_op (op_alloc (z := .agg (List.toArray (acells .u8 32 ((Vector.replicate 32 (0 : Int)))))) rfl rfl rfl rfl hE rfl hS (by kernel_rfl) (fun a b6 w _ hE hS => ?_)) rfl
     refine at_op (op_store (v := .agg (List.toArray (acells .u8 32 (x3)))) (acells .u8 32 (x3)) rfl rfl rfl rfl hE hS rfl rfl (by kernel_rfl) (by kernel_rfl) (by kernel_rfl) (by kernel_rfl) (by kernel_rfl) (fun a w _ hE hS => ?_)) rfl
     refine ae ?_
     refine ra ?_
     refine sN 1 1 [(120, .slice A10 (List.length (y3.1)) c10)] hE fun a hE => ?_
     obtain ⟨D23, le29, e2, hS⟩ := hS.freezeB
     obtain ⟨l14, h68, hf⟩ := bs hf
     refine at_op (op_tk hE (g_sliceArr (kk := .u8) (e := 5) (v := x3) rfl rfl rfl rfl hE rfl rfl (by kernel_rfl) rfl rfl e2 rfl h68 (fun a A43 c40 hE h69 => ?_))) rfl
     have hS := hS.p (.d 2 (.d 0 (.d 1 .n)))
     obtain ⟨l11, h70, hf⟩ := bs hf
     refine at_op (g_append (K := (kdInt .u8)) (e := 5) (bytes := 1) (l := y3.1) (m := l14) rfl rfl rfl rfl hE rfl hS rfl rfl (by kernel_rfl) rfl rfl (h6.mono le29) h69 h70 (fun a A28 c27 q20 w _ hE h71 hS => ?_)) rfl
     refine sN 1 4 [(3, .slice A28 (List.length (l11)) c27)] hE fun a hE => ?_
     refine ae ?_
     refine ra ?_
     refine sN 3 3 [(9, .int .i64 ((IntKind.wrap .i64 (y3.2 + (1 : Int)))))] hE fun a hE => ?_
     refine ae ?_
     have hS := hS.p (.d 1 (.d 2 (.d 0 .n)))
     exact ⟨(l11, (IntKind.wrap .i64 (y3.2 + (1 : Int)))), A28, c27, q20, D23, hE.wk, hS, (le2 le21 le29), h71, hf⟩
    replace hf := cf hb hf
    refine wpIn_exit ?_
    obtain rfl := si hf
    have hS := hS.p (.d 0 (.d 2 .n))
    exact ⟨y3.1, A10, c10, q7, D8, hE.wk, hS, le21, h6, rfl⟩
   clear hE hS
   rintro a w ⟨y7, A13, c13, q5, D6, hE, hS, le34, h72, hf⟩
   replace hf := hj3 _ hf
   clear hj3
   refine ra ?_
   refine sN 3 3 [(7, .int .i64 ((IntKind.wrap .i64 (y1.2 + (1 : Int)))))] hE fun a hE => ?_
   exact ae ⟨(y7, (IntKind.wrap .i64 (y1.2 + (1 : Int)))), A13, c13, q5, D6, hE.wk, hS, (le2 le9 le34), h72, hf⟩
  replace hf := cf hb hf
  refine wpIn_exit ?_
  obtain rfl := si hf
  have hS := hS.p (.d 1 .n)
  exact ⟨y1.1, A7, c7, q1, D2, hE.wk, hS, le9, h1, rfl⟩
 clear hE hS hf
 rintro k a w ⟨y2, A9, c9, q3, D4, hE, hS, le10, h8, hf⟩
 obtain ⟨k, rfl, hf⟩ := inspeximusref17_Put_l1.some _ hf
 refine ⟨k, rfl, ?_⟩
 unfold inspeximusref17_Put_l1.b at hf
 refine sq (sq (ra ?_))
 refine sN 1 1 [(41, .int .i64 (y2.2))] hE fun a hE => ?_
 refine at_op (op_tk hE (g_fieldAddr (fo := 33) (ft := 24) (0 + 33) rfl rfl rfl rfl hE rfl rfl (by kernel_rfl) rfl (fun a hE => ?_))) rfl
 obtain ⟨cs4, C4, T4, fr4, hr4, hb4, hc5⟩ := (hc1.mono (le2 (le2 (le2 le1 le3) le5) le10))
 obtain ⟨A29, c28, rfl, h100⟩ := kd_T_api_Point_el hr4
 refine at_op (op_tk hE (tk_loadX (off0 := 0) (off := 33) (c := c_T_api_Point (x1.fPoint) A29 c28) (.slice A29 (List.length (x1.fPoint.fSigs)) c28) rfl rfl rfl rfl hE rfl hS rfl hb4 hc5 (by kernel_rfl) (by kernel_rfl) (kD hS dn_nil) (fun a hE => ?_))) rfl
 refine sN 2 5 [(45, .bool ((decide (y2.2 < ((List.length (x1.fPoint.fSigs) : Nat) : Int)))))] hE fun a hE => ?_
 refine ae ?_
 refine cond_split hE (b := (decide (y2.2 < ((List.length (x1.fPoint.fSigs) : Nat) : Int)))) rfl (fun hb => ?_) (fun hb => ?_)
 ·replace hf := ct hb hf
  refine wpIn_skip ?_
  refine sq ?_
  refine wpIn_block ?_
  refine sq (ra ?_)
  refine at_op (op_tk hE (g_fieldAddr (fo := 33) (ft := 24) (0 + 33) rfl rfl rfl rfl hE rfl rfl (by kernel_rfl) rfl (fun a hE => ?_))) rfl
  obtain ⟨cs5, C5, T5, fr5, hr5, hb5, hc6⟩ := (hc1.mono (le2 (le2 (le2 le1 le3) le5) le10))
  obtain ⟨A30, c29, rfl, h73⟩ := kd_T_api_Point_el hr5
  refine at_op (op_tk hE (tk_loadX (off0 := 0) (off := 33) (c := c_T_api_Point (x1.fPoint) A30 c29) (.slice A30 (List.length (x1.fPoint.fSigs)) c29) rfl rfl rfl rfl hE rfl hS rfl hb5 hc6 (by kernel_rfl) (by kernel_rfl) (kD hS dn_nil) (fun a hE => ?_))) rfl
  refine sN 1 3 [(50, .int .i64 (y2.2))] hE fun a hE => ?_
  obtain ⟨x4, h74, hf⟩ := bs hf
  refine at_op (op_tk hE (g_index (K := kd_T_api_Sig) (e := 37) (by_ := 40) (zl := 33) rfl rfl rfl rfl hE rfl rfl rfl (by kernel_rfl) rfl h73 h74 (fun a b7 o1 hE h75 => ?_))) rfl
  refine at_op (op_tk hE (g_fieldAddr (fo := 1) (ft := 23) (o1 + 1) rfl rfl rfl rfl hE rfl rfl (by kernel_rfl) rfl (fun a hE => ?_))) rfl
  obtain ⟨cs6, C6, T6, fr6, hr6, hb6, hc7⟩ := id h75
  obtain ⟨rfl⟩ := kd_T_api_Sig_el hr6
  refine at_op (op_tk hE (tk_loadX (off0 := o1) (off := 1) (c := c_T_api_Sig (x4)) (.agg (List.toArray (acells .u8 32 (x4.fTag)))) rfl rfl rfl rfl hE rfl hS rfl hb6 hc7 (by kernel_rfl) (by kernel_rfl) (kD hS dn_nil) (fun a hE => ?_))) rfl
  refine at_op (op_alloc (z := .agg (List.toArray (acells .u8 32 ((Vector.replicate 32 (0 : Int)))))) rfl rfl rfl rfl hE rfl hS (by kernel_rfl) (fun a b8 w _ hE hS => ?_)) rfl
  refine at_op (op_store (v := .agg (List.toArray (acells .u8 32 (x4.fTag)))) (acells .u8 32 (x4.fTag)) rfl rfl rfl rfl hE hS rfl rfl (by kernel_rfl) (by kernel_rfl) (by kernel_rfl) (by kernel_rfl) (by kernel_rfl) (fun a w _ hE hS => ?_)) rfl
  refine ae ?_
  refine sq (ra ?_)
  refine sN 1 1 [(54, .slice A9 (List.length (y2.1)) c9)] hE fun a hE => ?_
  refine at_op (op_tk hE (g_fieldAddr (fo := 33) (ft := 24) (0 + 33) rfl rfl rfl rfl hE rfl rfl (by kernel_rfl) rfl (fun a hE => ?_))) rfl
  obtain ⟨cs7, C7, T7, fr7, hr7, hb7, hc8⟩ := (hc1.mono (le2 (le2 (le2 le1 le3) le5) le10))
  obtain ⟨A31, c30, rfl, h76⟩ := kd_T_api_Point_el hr7
  refine at_op (op_tk hE (tk_loadX (off0 := 0) (off := 33) (c := c_T_api_Point (x1.fPoint) A31 c30) (.slice A31 (List.length (x1.fPoint.fSigs)) c30) rfl rfl rfl rfl hE rfl hS rfl hb7 hc8 (by kernel_rfl) (by kernel_rfl) (kD hS dn_nil) (fun a hE => ?_))) rfl
  refine sN 1 4 [(57, .int .i64 (y2.2))] hE fun a hE => ?_
  obtain ⟨x5, h77, hf⟩ := bs hf
  refine at_op (op_tk hE (g_index (K := kd_T_api_Sig) (e := 37) (by_ := 40) (zl := 33) rfl rfl rfl rfl hE rfl rfl rfl (by kernel_rfl) rfl h76 h77 (fun a b9 o2 hE h78 => ?_))) rfl
  refine at_op (op_tk hE (g_fieldAddr (fo := 0) (ft := 3) (o2 + 0) rfl rfl rfl rfl hE rfl rfl (by kernel_rfl) rfl (fun a hE => ?_))) rfl
  obtain ⟨cs8, C8, T8, fr8, hr8, hb8, hc9⟩ := id h78
  obtain ⟨rfl⟩ := kd_T_api_Sig_el hr8
  refine at_op (op_tk hE (tk_loadX (off0 := o2) (off := 0) (c := c_T_api_Sig (x5)) (.int .i64 (x5.fWit)) rfl rfl rfl rfl hE rfl hS rfl hb8 hc9 (by kernel_rfl) (by kernel_rfl) (kD hS dn_nil) (fun a hE => ?_))) rfl
  obtain ⟨r8, h79, hf⟩ := bs hf
  refine aC rfl rfl rfl rfl hE rfl rfl rfl rfl (inspeximusref03_Num.calls h79 (hS.st.fore (L := [])) ) fun a v w hR hE => ?_
  obtain ⟨D34, A44, c41, q43, rfl, hS1, h80⟩ := hR
  have le30 := hS1.dle
  have hS := hS.callR hS1 rfl (.c .n)
  obtain ⟨D35, q44, le31, hS, h101, h81⟩ := hS.lent h80
  have hS := hS.p (.d 3 (.d 0 (.d 1 (.d 2 .n))))
  obtain ⟨l4, h82, hf⟩ := bs hf
  refine at_op (g_append (K := (kdInt .u8)) (e := 5) (bytes := 1) (l := y2.1) (m := r8) rfl rfl rfl rfl hE rfl hS rfl rfl (by kernel_rfl) rfl rfl (h8.mono (le2 le30 le31)) h81 h82 (fun a A32 c31 q45 w _ hE h83 hS => ?_)) rfl
  refine sN 1 10 [(3, .slice A32 (List.length (l4)) c31)] hE fun a hE => ?_
  refine ae ?_
  refine ra ?_
  refine sN 1 1 [(63, .slice A32 (List.length (l4)) c31)] hE fun a hE => ?_
  have hS := hS.p (.d 2 (.d 0 (.d 1 (.d 3 .n))))
  obtain ⟨D24, le32, e3, hS⟩ := hS.freezeB
  obtain ⟨l15, h84, hf⟩ := bs hf
  refine at_op (op_tk hE (g_sliceArr (kk := .u8) (e := 5) (v := x4.fTag) rfl rfl rfl rfl hE rfl rfl (by kernel_rfl) rfl rfl e3 rfl h84 (fun a A45 c42 hE h85 => ?_))) rfl
  obtain ⟨l12, h86, hf⟩ := bs hf
  refine at_op (g_append (K := (kdInt .u8)) (e := 5) (bytes := 1) (l := l4) (m := l15) rfl rfl rfl rfl hE rfl hS rfl rfl (by kernel_rfl) rfl rfl (h83.mono le32) h85 h86 (fun a A33 c32 q21 w _ hE h87 hS => ?_)) rfl
  refine sN 1 4 [(3, .slice A33 (List.length (l12)) c32)] hE fun a hE => ?_
  refine ae ?_
  refine ra ?_
  refine sN 3 3 [(5, .int .i64 ((IntKind.wrap .i64 (y2.2 + (1 : Int)))))] hE fun a hE => ?_
  refine ae ?_
  have hS := hS.p (.d 2 (.d 0 .n))
  exact ⟨(l12, (IntKind.wrap .i64 (y2.2 + (1 : Int)))), A33, c32, q21, D24, hE.wk, hS, (le2 (le2 (le2 le10 le30) le31) le32), h87, hf⟩
 replace hf := cf hb hf
 refine wpIn_exit ?_
 obtain rfl := si hf
 exact ⟨y2.1, A9, c9, q3, D4, hE.wk, hS, le10, h8, rfl⟩
set_option maxRecDepth 100000 in
theorem inspeximusref01_Bytes.calls {K : Nat} {g w0 : World} {D0 : Snap} {x1 : (List Int)} {x5 : (List Int)} {A2 : Option Addr} {c3 : Nat} {A6 : Option Addr} {c7 : Nat} {r : (Bool)} (hf : inspeximusref01_Bytes.f K x1 x5 = some r) (hS0 : St g w0 D0 []) (h4 : Sl (kdInt .u8) D0 A2 c3 (x1)) (h8 : Sl (kdInt .u8) D0 A6 c7 (x5)) :
  CallsIn (Fw none) 0 Tryz.prog 8 (List.toArray [.slice A2 (List.length (x1)) c3, .slice A6 (List.length (x5)) c7]) w0 (fun e w' => ∃ v, e = .returned v ∧ ∃ D1, v = .bool (r) ∧ Stp g w0 D0 [] w' D1 []) := by
 unfold inspeximusref01_Bytes.f at hf
 have hS := Stp.refl hS0
 clear hS0
 refine calls_body (n := 26) Tryz.func8 rfl Tryz.ntmps8 rfl fun a hE => ?_
 have hE : Env a 26 [] [(0, .slice A2 (List.length (x1)) c3), (1, .slice A6 (List.length (x5)) c7)] := hE
 refine sq (ra ?_)
 refine sN 1 1 [(4, .bool false)] hE fun a hE => ?_
 refine ae ?_
 refine sq (sq (ra ?_))
 refine sN 5 5 [(10, .bool ((!decide (((List.length (x1) : Nat) : Int) = ((List.length (x5) : Nat) : Int)))))] hE fun a hE => ?_
 refine ae ?_
 refine cond_split hE (b := (!decide (((List.length (x1) : Nat) : Int) = ((List.length (x5) : Nat) : Int)))) rfl (fun hb => ?_) (fun hb => ?_)
 ·replace hf := ct hb hf
  refine sq (ra ?_)
  refine sN 1 1 [(4, .bool false)] hE fun a hE => ?_
  refine ae ?_
  refine wpIn_ret ?_
  obtain rfl := si hf
  refine ret_ ?_
  refine rT 4 (.bool false) hE ?_
  exact ⟨_, rfl, D0, rfl, hS⟩
 replace hf := cf hb hf
 refine wpIn_skip ?_
 refine sq (sq (ra ?_))
 refine sN 1 1 [(5, .int .i64 ((0 : Int)))] hE fun a hE => ?_
 refine ae ?_
 obtain ⟨s1, hf, hs1⟩ := bs hf
 refine block_loop (fun a w => ∃ (z1 : Unit), ∃ D3, Env a 26 [] [] ∧ Stp g w0 D0 [] w D3 [] ∧ Snap.le D0 D3 ∧ (Sum.inr z1) = s1) (fun k a w => ∃ (y1 : Int), ∃ D2, Env a 26 [] [(0, .slice A2 (List.length (x1)) c3), (1, .slice A6 (List.length (x5)) c7), (5, .int .i64 (y1))] ∧ Stp g w0 D0 [] w D2 [] ∧ Snap.le D0 D2 ∧ inspeximusref01_Bytes_l1.l K x1 x5 k y1 = some s1) K ?_ ?_ ?_
 ·exact ⟨(0 : Int), D0, hE.wk, hS, lr, hf⟩
 ·clear hE hS hf
  rintro a w ⟨z1, D3, hE, hS, le2, rfl⟩
  have hf := hs1
  clear hs1
  refine sq (ra ?_)
  refine sN 1 1 [(4, .bool true)] hE fun a hE => ?_
  refine ae ?_
  refine wpIn_ret ?_
  obtain rfl := si hf
  refine ret_ ?_
  refine rT 4 (.bool true) hE ?_
  exact ⟨_, rfl, D3, rfl, hS⟩
 clear hE hS hf
 rintro k a w ⟨y1, D2, hE, hS, le1, hf⟩
 obtain ⟨k, rfl, hf⟩ := inspeximusref01_Bytes_l1.some _ _ hf
 refine ⟨k, rfl, ?_⟩
 unfold inspeximusref01_Bytes_l1.b at hf
 refine sq (sq (ra ?_))
 refine sN 4 4 [(14, .bool ((decide (y1 < ((List.length (x1) : Nat) : Int)))))] hE fun a hE => ?_
 refine ae ?_
 refine cond_split hE (b := (decide (y1 < ((List.length (x1) : Nat) : Int)))) rfl (fun hb => ?_) (fun hb => ?_)
 ·replace hf := ct hb hf
  refine wpIn_skip ?_
  refine sq ?_
  refine wpIn_block ?_
  refine sq ?_
  refine region_draw (fun j => Keeps (mfOf [] j)) (by kernel_rfl) ?_
  have hS := hS.drew
  first | generalize w.drew = w at hS ⊢ | generalize w0.drew = w at hS ⊢
  refine wP 0 1 8 (.slice A2 (List.length (x1)) c3) hE fun a hE => ?_
  refine wP 1 3 7 (.int .i64 (y1)) hE fun a hE => ?_
  refine wP 4 19 6 (.slice A6 (List.length (x5)) c7) hE fun a hE => ?_
  refine wP 5 51 5 (.int .i64 (y1)) hE fun a hE => ?_
  obtain ⟨x2, h1, hf⟩ := bs hf
  refine tW 2 55 (fuel := 4) (by kernel_rfl) hE (fun M => g_index (K := (kdInt .u8)) (e := 5) (by_ := 1) (zl := 1) rfl rfl rfl rfl hE rfl rfl rfl (by kernel_rfl) rfl (h4.mono le1) h1 (fun a b1 o1 hE h2 => ?_))
  obtain ⟨cs1, C1, T1, fr1, hr1, hb1, hc1⟩ := id h2
  obtain rfl := hr1
  refine tT 3 63 (fuel := 3) (by kernel_rfl) hE (tk_loadX (off0 := o1) (off := 0) (c := [.int .u8 (x2)]) (.int .u8 (x2)) rfl rfl rfl rfl hE rfl hS rfl hb1 hc1 (by kernel_rfl) (by kernel_rfl) (kD hS dn_nil) (fun a hE => ?_))
  obtain ⟨x3, h3, hf⟩ := bs hf
  refine tW 6 127 (fuel := 2) (by kernel_rfl) hE (fun M => g_index (K := (kdInt .u8)) (e := 5) (by_ := 1) (zl := 1) rfl rfl rfl rfl hE rfl rfl rfl (by kernel_rfl) rfl (h8.mono le1) h3 (fun a b2 o2 hE h5 => ?_))
  obtain ⟨cs2, C2, T2, fr2, hr2, hb2, hc2⟩ := id h5
  obtain rfl := hr2
  refine tT 7 255 (fuel := 1) (by kernel_rfl) hE (tk_loadX (off0 := o2) (off := 0) (c := [.int .u8 (x3)]) (.int .u8 (x3)) rfl rfl rfl rfl hE rfl hS rfl hb2 hc2 (by kernel_rfl) (by kernel_rfl) (kD hS dn_nil) (fun a hE => ?_))
  refine wP 8 511 0 (.bool ((!decide (x2 = x3)))) hE fun a hE => ?_
  refine doneG (by kernel_rfl) ?_
  refine cond_split hE (b := (!decide (x2 = x3))) rfl (fun hb => ?_) (fun hb => ?_)
  ·replace hf := ct hb hf
   refine sq (ra ?_)
   refine sN 1 1 [(4, .bool false)] hE fun a hE => ?_
   refine ae ?_
   refine wpIn_ret ?_
   obtain rfl := si hf
   replace hf := hs1
   obtain rfl := si hf
   refine ret_ ?_
   refine rT 4 (.bool false) hE ?_
   exact ⟨_, rfl, D2, rfl, hS⟩
  replace hf := cf hb hf
  refine wpIn_skip ?_
  refine ra ?_
  refine sN 3 3 [(5, .int .i64 ((IntKind.wrap .i64 (y1 + (1 : Int)))))] hE fun a hE => ?_
  exact ae ⟨(IntKind.wrap .i64 (y1 + (1 : Int))), D2, hE.wk, hS, le1, hf⟩
 replace hf := cf hb hf
 refine wpIn_exit ?_
 obtain rfl := si hf
 exact ⟨(), D2, hE.wk, hS, le1, rfl⟩
set_option maxRecDepth 100000 in
theorem inspeximusref10_Points.calls {K : Nat} {g w0 : World} {D0 : Snap} {x1 : T_api_Point} {x5 : T_api_Point} {A2 : Option Addr} {c3 : Nat} {A6 : Option Addr} {c7 : Nat} {r : (Bool)} (hf : inspeximusref10_Points.f K x1 x5 = some r) (hS0 : St g w0 D0 []) (h4 : Sl kd_T_api_Sig D0 A2 c3 (x1.fSigs)) (h8 : Sl kd_T_api_Sig D0 A6 c7 (x5.fSigs)) :
  CallsIn (Fw none) 0 Tryz.prog 35 (List.toArray [.agg (List.toArray (c_T_api_Point (x1) A2 c3)), .agg (List.toArray (c_T_api_Point (x5) A6 c7))]) w0 (fun e w' => ∃ v, e = .returned v ∧ ∃ D1, v = .bool (r) ∧ Stp g w0 D0 [] w' D1 []) := by
 unfold inspeximusref10_Points.f at hf
 have hS := Stp.refl hS0
 clear hS0
 refine calls_body (n := 45) Tryz.func35 rfl Tryz.ntmps35 rfl fun a hE => ?_
 have hE : Env a 45 [] [(0, .agg (List.toArray (c_T_api_Point (x1) A2 c3))), (1, .agg (List.toArray (c_T_api_Point (x5) A6 c7)))] := hE
 refine sq (ra ?_)
 refine at_op (op_box rfl rfl rfl rfl hE rfl hS rfl (fun a b1 w _ hE hS => ?_)) rfl
 refine at_op (op_box rfl rfl rfl rfl hE rfl hS rfl (fun a b2 w _ hE hS => ?_)) rfl
 refine sN 1 3 [(4, .bool false)] hE fun a hE => ?_
 refine ae ?_
 refine sq ?_
 obtain ⟨j1, hj1, hf⟩ := jn_elim hf
 refine seq_join (fun a w => ∃ (y2 : Bool), ∃ D2, Env a 45 [] [(2, .pointer (some ⟨b1, 0, none⟩)), (3, .pointer (some ⟨b2, 0, none⟩)), (26, .bool (y2))] ∧ Stp g w0 D0 [] w D2 [bx b1 26 (c_T_api_Point (x1) A2 c3), bx b2 26 (c_T_api_Point (x5) A6 c7)] ∧ Snap.le D0 D2 ∧ j1 y2 = some r) ?_ ?_
 ·clear hj1
  refine ra ?_
  refine sM 6 6 [1, 0] [(11, .bool ((!decide (x1.fSize = x5.fSize))))] hE hS fun a hE => ?_
  refine bo ((!decide (x1.fSize = x5.fSize))) (fun hb => ?_) fun hb => ?_
  ·replace hf := cf hb hf
   have hE := hE.know (t := 11) rfl hb
   refine sM 4 10 [1, 0] [(13, .agg (List.toArray (acells .u8 32 (x1.fRoot)))), (15, .agg (List.toArray (acells .u8 32 (x5.fRoot))))] hE hS fun a hE => ?_
   refine at_op (op_tk hE (tk_bin (r := .bool ((!(decide (x1.fRoot = x5.fRoot))))) rfl rfl rfl rfl hE rfl rfl rfl (neagg_run (by kernel_rfl) (EqR_arr (k := .u8) (N := 32) (by kernel_rfl))) (fun a hE => ?_))) rfl
   refine sN 2 13 [(18, .bool ((!(decide (x1.fRoot = x5.fRoot)))))] hE fun a hE => ?_
   refine bo ((!(decide (x1.fRoot = x5.fRoot)))) (fun hb => ?_) fun hb => ?_
   ·replace hf := cf hb hf
    have hE := hE.know (t := 18) rfl hb
    refine sM 8 21 [1, 0] [(26, .bool ((!decide (((List.length (x1.fSigs) : Nat) : Int) = ((List.length (x5.fSigs) : Nat) : Int)))))] hE hS fun a hE => ?_
    refine ae ?_
    have hS := hS.p (.d 1 (.d 0 .n))
    exact ⟨(!decide (((List.length (x1.fSigs) : Nat) : Int) = ((List.length (x5.fSigs) : Nat) : Int))), D0, hE.wk, hS, lr, hf⟩
   replace hf := ct hb hf
   have hE := hE.know (t := 18) rfl hb
   refine sN 8 21 [(26, .bool true)] hE fun a hE => ?_
   refine ae ?_
   have hS := hS.p (.d 1 (.d 0 .n))
   exact ⟨true, D0, hE.wk, hS, lr, hf⟩
  replace hf := ct hb hf
  have hE := hE.know (t := 11) rfl hb
  refine sN 15 21 [(26, .bool true)] hE fun a hE => ?_
  refine ae ?_
  have hS := hS.p (.d 1 (.d 0 .n))
  exact ⟨true, D0, hE.wk, hS, lr, hf⟩
 clear hE hS
 rintro a w ⟨y2, D2, hE, hS, le3, hf⟩
 replace hf := hj1 _ hf
 clear hj1
 refine cond_split hE (b := y2) rfl (fun hb => ?_) (fun hb => ?_)
 ·replace hf := ct hb hf
  refine sq (ra ?_)
  refine sN 1 1 [(4, .bool false)] hE fun a hE => ?_
  refine ae ?_
  refine wpIn_ret ?_
  obtain rfl := si hf
  refine ret_ ?_
  refine rT 4 (.bool false) hE ?_
  have hS := hS.p .n
  exact ⟨_, rfl, D2, rfl, hS⟩
 replace hf := cf hb hf
 refine wpIn_skip ?_
 refine sq (sq (ra ?_))
 refine sN 1 1 [(5, .int .i64 ((0 : Int)))] hE fun a hE => ?_
 refine ae ?_
 obtain ⟨s1, hf, hs1⟩ := bs hf
 refine block_loop (fun a w => ∃ (z1 : Unit), ∃ D4, Env a 45 [] [] ∧ Stp g w0 D0 [] w D4 [] ∧ Snap.le D2 D4 ∧ (Sum.inr z1) = s1) (fun k a w => ∃ (y1 : Int), ∃ D3, Env a 45 [] [(2, .pointer (some ⟨b1, 0, none⟩)), (3, .pointer (some ⟨b2, 0, none⟩)), (5, .int .i64 (y1))] ∧ Stp g w0 D0 [] w D3 [bx b1 26 (c_T_api_Point (x1) A2 c3), bx b2 26 (c_T_api_Point (x5) A6 c7)] ∧ Snap.le D2 D3 ∧ inspeximusref10_Points_l1.l K x1 x5 k y1 = some s1) K ?_ ?_ ?_
 ·exact ⟨(0 : Int), D2, hE.wk, hS, lr, hf⟩
 ·clear hE hS hf
  rintro a w ⟨z1, D4, hE, hS, le4, rfl⟩
  have hf := hs1
  clear hs1
  refine sq (ra ?_)
  refine sN 1 1 [(4, .bool true)] hE fun a hE => ?_
  refine ae ?_
  refine wpIn_ret ?_
  obtain rfl := si hf
  refine ret_ ?_
  refine rT 4 (.bool true) hE ?_
  exact ⟨_, rfl, D4, rfl, hS⟩
 clear hE hS hf
 rintro k a w ⟨y1, D3, hE, hS, le1, hf⟩
 obtain ⟨k, rfl, hf⟩ := inspeximusref10_Points_l1.some _ _ hf
 refine ⟨k, rfl, ?_⟩
 unfold inspeximusref10_Points_l1.b at hf
 refine sq (sq (ra ?_))
 refine sM 5 5 [0] [(31, .bool ((decide (y1 < ((List.length (x1.fSigs) : Nat) : Int)))))] hE hS fun a hE => ?_
 refine ae ?_
 refine cond_split hE (b := (decide (y1 < ((List.length (x1.fSigs) : Nat) : Int)))) rfl (fun hb => ?_) (fun hb => ?_)
 ·replace hf := ct hb hf
  refine wpIn_skip ?_
  refine sq ?_
  refine wpIn_block ?_
  refine sq ?_
  refine region_draw (fun j => Keeps (mfOf [] j)) (by kernel_rfl) ?_
  have hS := hS.drew
  first | generalize w.drew = w at hS ⊢ | generalize w0.drew = w at hS ⊢
  refine wP 2 4 10 (.int .i64 (y1)) hE fun a hE => ?_
  refine wP 7 132 9 (.int .i64 (y1)) hE fun a hE => ?_
  refine wF 0 133 8 33 24 33 hE fun a hE => ?_
  refine tL 1 135 7 0 (.slice A2 (List.length (x1.fSigs)) c3) hE hS fun a hE => ?_
  obtain ⟨x2, h1, hf⟩ := bs hf
  refine tW 3 143 (fuel := 6) (by kernel_rfl) hE (fun M => g_index (K := kd_T_api_Sig) (e := 37) (by_ := 40) (zl := 33) rfl rfl rfl rfl hE rfl rfl rfl (by kernel_rfl) rfl (h4.mono (le2 le3 le1)) h1 (fun a b3 o1 hE h2 => ?_))
  obtain ⟨cs1, C1, T1, fr1, hr1, hb1, hc1⟩ := id h2
  obtain ⟨rfl⟩ := kd_T_api_Sig_el hr1
  refine tT 4 159 (fuel := 5) (by kernel_rfl) hE (tk_loadX (off0 := o1) (off := 0) (c := c_T_api_Sig (x2)) (.agg (List.toArray (c_T_api_Sig (x2)))) rfl rfl rfl rfl hE rfl hS rfl hb1 hc1 (by kernel_rfl) (by kernel_rfl) (kD hS dn_nil) (fun a hE => ?_))
  refine wF 5 191 4 33 24 33 hE fun a hE => ?_
  refine tL 6 255 3 1 (.slice A6 (List.length (x5.fSigs)) c7) hE hS fun a hE => ?_
  obtain ⟨x3, h3, hf⟩ := bs hf
  refine tW 8 511 (fuel := 2) (by kernel_rfl) hE (fun M => g_index (K := kd_T_api_Sig) (e := 37) (by_ := 40) (zl := 33) rfl rfl rfl rfl hE rfl rfl rfl (by kernel_rfl) rfl (h8.mono (le2 le3 le1)) h3 (fun a b4 o2 hE h5 => ?_))
  obtain ⟨cs2, C2, T2, fr2, hr2, hb2, hc2⟩ := id h5
  obtain ⟨rfl⟩ := kd_T_api_Sig_el hr2
  refine tT 9 1023 (fuel := 1) (by kernel_rfl) hE (tk_loadX (off0 := o2) (off := 0) (c := c_T_api_Sig (x3)) (.agg (List.toArray (c_T_api_Sig (x3)))) rfl rfl rfl rfl hE rfl hS rfl hb2 hc2 (by kernel_rfl) (by kernel_rfl) (kD hS dn_nil) (fun a hE => ?_))
  refine tW 10 2047 (fuel := 0) (by kernel_rfl) hE (fun M => tk_bin (r := .bool ((!((decide (x2.fWit = x3.fWit)) && ((decide (x2.fTag = x3.fTag)) && true))))) rfl rfl rfl rfl hE rfl rfl rfl (neagg_run (by kernel_rfl) (EqR_struct (fs := structFs Tryz.prog 37) (by kernel_rfl) ⟨.int .i64 (x2.fWit), .int .i64 (x3.fWit), (decide (x2.fWit = x3.fWit)), _, by kernel_rfl, by kernel_rfl, by kernel_rfl, (EqR_int (by kernel_rfl)), ⟨.agg (List.toArray (acells .u8 32 (x2.fTag))), .agg (List.toArray (acells .u8 32 (x3.fTag))), (decide (x2.fTag = x3.fTag)), _, by kernel_rfl, by kernel_rfl, by kernel_rfl, (EqR_arr (k := .u8) (N := 32) (by kernel_rfl)), rfl, rfl⟩, rfl⟩)) (fun a hE => ?_))
  refine doneG (by kernel_rfl) ?_
  refine cond_split hE (b := (!((decide (x2.fWit = x3.fWit)) && ((decide (x2.fTag = x3.fTag)) && true)))) rfl (fun hb => ?_) (fun hb => ?_)
  ·replace hf := ct hb hf
   refine sq (ra ?_)
   refine sN 1 1 [(4, .bool false)] hE fun a hE => ?_
   refine ae ?_
   refine wpIn_ret ?_
   obtain rfl := si hf
   replace hf := hs1
   obtain rfl := si hf
   refine ret_ ?_
   refine rT 4 (.bool false) hE ?_
   have hS := hS.p .n
   exact ⟨_, rfl, D3, rfl, hS⟩
  replace hf := cf hb hf
  refine wpIn_skip ?_
  refine ra ?_
  refine sN 3 3 [(5, .int .i64 ((IntKind.wrap .i64 (y1 + (1 : Int)))))] hE fun a hE => ?_
  exact ae ⟨(IntKind.wrap .i64 (y1 + (1 : Int))), D3, hE.wk, hS, le1, hf⟩
 replace hf := cf hb hf
 refine wpIn_exit ?_
 obtain rfl := si hf
 have hS := hS.p .n
 exact ⟨(), D3, hE.wk, hS, le1, rfl⟩
set_option maxRecDepth 100000 in
theorem inspeximusref04_Steps.calls {K : Nat} {g w0 : World} {D0 : Snap} {x1 : (List T_api_Step)} {x5 : (List T_api_Step)} {A2 : Option Addr} {c3 : Nat} {A6 : Option Addr} {c7 : Nat} {r : (Bool)} (hf : inspeximusref04_Steps.f K x1 x5 = some r) (hS0 : St g w0 D0 []) (h4 : Sl kd_T_api_Step D0 A2 c3 (x1)) (h8 : Sl kd_T_api_Step D0 A6 c7 (x5)) :
  CallsIn (Fw none) 0 Tryz.prog 71 (List.toArray [.slice A2 (List.length (x1)) c3, .slice A6 (List.length (x5)) c7]) w0 (fun e w' => ∃ v, e = .returned v ∧ ∃ D1, v = .bool (r) ∧ Stp g w0 D0 [] w' D1 []) := by
 unfold inspeximusref04_Steps.f at hf
 have hS := Stp.refl hS0
 clear hS0
 refine calls_body (n := 26) Tryz.func71 rfl Tryz.ntmps71 rfl fun a hE => ?_
 have hE : Env a 26 [] [(0, .slice A2 (List.length (x1)) c3), (1, .slice A6 (List.length (x5)) c7)] := hE
 refine sq (ra ?_)
 refine sN 1 1 [(4, .bool false)] hE fun a hE => ?_
 refine ae ?_
 refine sq (sq (ra ?_))
 refine sN 5 5 [(10, .bool ((!decide (((List.length (x1) : Nat) : Int) = ((List.length (x5) : Nat) : Int)))))] hE fun a hE => ?_
 refine ae ?_
 refine cond_split hE (b := (!decide (((List.length (x1) : Nat) : Int) = ((List.length (x5) : Nat) : Int)))) rfl (fun hb => ?_) (fun hb => ?_)
 ·replace hf := ct hb hf
  refine sq (ra ?_)
  refine sN 1 1 [(4, .bool false)] hE fun a hE => ?_
  refine ae ?_
  refine wpIn_ret ?_
  obtain rfl := si hf
  refine ret_ ?_
  refine rT 4 (.bool false) hE ?_
  exact ⟨_, rfl, D0, rfl, hS⟩
 replace hf := cf hb hf
 refine wpIn_skip ?_
 refine sq (sq (ra ?_))
 refine sN 1 1 [(5, .int .i64 ((0 : Int)))] hE fun a hE => ?_
 refine ae ?_
 obtain ⟨s1, hf, hs1⟩ := bs hf
 refine block_loop (fun a w => ∃ (z1 : Unit), ∃ D3, Env a 26 [] [] ∧ Stp g w0 D0 [] w D3 [] ∧ Snap.le D0 D3 ∧ (Sum.inr z1) = s1) (fun k a w => ∃ (y1 : Int), ∃ D2, Env a 26 [] [(0, .slice A2 (List.length (x1)) c3), (1, .slice A6 (List.length (x5)) c7), (5, .int .i64 (y1))] ∧ Stp g w0 D0 [] w D2 [] ∧ Snap.le D0 D2 ∧ inspeximusref04_Steps_l1.l K x1 x5 k y1 = some s1) K ?_ ?_ ?_
 ·exact ⟨(0 : Int), D0, hE.wk, hS, lr, hf⟩
 ·clear hE hS hf
  rintro a w ⟨z1, D3, hE, hS, le2, rfl⟩
  have hf := hs1
  clear hs1
  refine sq (ra ?_)
  refine sN 1 1 [(4, .bool true)] hE fun a hE => ?_
  refine ae ?_
  refine wpIn_ret ?_
  obtain rfl := si hf
  refine ret_ ?_
  refine rT 4 (.bool true) hE ?_
  exact ⟨_, rfl, D3, rfl, hS⟩
 clear hE hS hf
 rintro k a w ⟨y1, D2, hE, hS, le1, hf⟩
 obtain ⟨k, rfl, hf⟩ := inspeximusref04_Steps_l1.some _ _ hf
 refine ⟨k, rfl, ?_⟩
 unfold inspeximusref04_Steps_l1.b at hf
 refine sq (sq (ra ?_))
 refine sN 4 4 [(14, .bool ((decide (y1 < ((List.length (x1) : Nat) : Int)))))] hE fun a hE => ?_
 refine ae ?_
 refine cond_split hE (b := (decide (y1 < ((List.length (x1) : Nat) : Int)))) rfl (fun hb => ?_) (fun hb => ?_)
 ·replace hf := ct hb hf
  refine wpIn_skip ?_
  refine sq ?_
  refine wpIn_block ?_
  refine sq ?_
  refine region_draw (fun j => Keeps (mfOf [] j)) (by kernel_rfl) ?_
  have hS := hS.drew
  first | generalize w.drew = w at hS ⊢ | generalize w0.drew = w at hS ⊢
  refine wP 0 1 8 (.slice A2 (List.length (x1)) c3) hE fun a hE => ?_
  refine wP 1 3 7 (.int .i64 (y1)) hE fun a hE => ?_
  refine wP 4 19 6 (.slice A6 (List.length (x5)) c7) hE fun a hE => ?_
  refine wP 5 51 5 (.int .i64 (y1)) hE fun a hE => ?_
  obtain ⟨x2, h1, hf⟩ := bs hf
  refine tW 2 55 (fuel := 4) (by kernel_rfl) hE (fun M => g_index (K := kd_T_api_Step) (e := 85) (by_ := 16) (zl := 2) rfl rfl rfl rfl hE rfl rfl rfl (by kernel_rfl) rfl (h4.mono le1) h1 (fun a b1 o1 hE h2 => ?_))
  obtain ⟨cs1, C1, T1, fr1, hr1, hb1, hc1⟩ := id h2
  obtain ⟨rfl⟩ := kd_T_api_Step_el hr1
  refine tT 3 63 (fuel := 3) (by kernel_rfl) hE (tk_loadX (off0 := o1) (off := 0) (c := c_T_api_Step (x2)) (.agg (List.toArray (c_T_api_Step (x2)))) rfl rfl rfl rfl hE rfl hS rfl hb1 hc1 (by kernel_rfl) (by kernel_rfl) (kD hS dn_nil) (fun a hE => ?_))
  obtain ⟨x3, h3, hf⟩ := bs hf
  refine tW 6 127 (fuel := 2) (by kernel_rfl) hE (fun M => g_index (K := kd_T_api_Step) (e := 85) (by_ := 16) (zl := 2) rfl rfl rfl rfl hE rfl rfl rfl (by kernel_rfl) rfl (h8.mono le1) h3 (fun a b2 o2 hE h5 => ?_))
  obtain ⟨cs2, C2, T2, fr2, hr2, hb2, hc2⟩ := id h5
  obtain ⟨rfl⟩ := kd_T_api_Step_el hr2
  refine tT 7 255 (fuel := 1) (by kernel_rfl) hE (tk_loadX (off0 := o2) (off := 0) (c := c_T_api_Step (x3)) (.agg (List.toArray (c_T_api_Step (x3)))) rfl rfl rfl rfl hE rfl hS rfl hb2 hc2 (by kernel_rfl) (by kernel_rfl) (kD hS dn_nil) (fun a hE => ?_))
  refine tW 8 511 (fuel := 0) (by kernel_rfl) hE (fun M => tk_bin (r := .bool ((!((decide (x2.fPart = x3.fPart)) && ((decide (x2.fKind = x3.fKind)) && true))))) rfl rfl rfl rfl hE rfl rfl rfl (neagg_run (by kernel_rfl) (EqR_struct (fs := structFs Tryz.prog 85) (by kernel_rfl) ⟨.int .i64 (x2.fPart), .int .i64 (x3.fPart), (decide (x2.fPart = x3.fPart)), _, by kernel_rfl, by kernel_rfl, by kernel_rfl, (EqR_int (by kernel_rfl)), ⟨.int .i64 (x2.fKind), .int .i64 (x3.fKind), (decide (x2.fKind = x3.fKind)), _, by kernel_rfl, by kernel_rfl, by kernel_rfl, (EqR_int (by kernel_rfl)), rfl, rfl⟩, rfl⟩)) (fun a hE => ?_))
  refine doneG (by kernel_rfl) ?_
  refine cond_split hE (b := (!((decide (x2.fPart = x3.fPart)) && ((decide (x2.fKind = x3.fKind)) && true)))) rfl (fun hb => ?_) (fun hb => ?_)
  ·replace hf := ct hb hf
   refine sq (ra ?_)
   refine sN 1 1 [(4, .bool false)] hE fun a hE => ?_
   refine ae ?_
   refine wpIn_ret ?_
   obtain rfl := si hf
   replace hf := hs1
   obtain rfl := si hf
   refine ret_ ?_
   refine rT 4 (.bool false) hE ?_
   exact ⟨_, rfl, D2, rfl, hS⟩
  replace hf := cf hb hf
  refine wpIn_skip ?_
  refine ra ?_
  refine sN 3 3 [(5, .int .i64 ((IntKind.wrap .i64 (y1 + (1 : Int)))))] hE fun a hE => ?_
  exact ae ⟨(IntKind.wrap .i64 (y1 + (1 : Int))), D2, hE.wk, hS, le1, hf⟩
 replace hf := cf hb hf
 refine wpIn_exit ?_
 obtain rfl := si hf
 exact ⟨(), D2, hE.wk, hS, le1, rfl⟩
set_option maxRecDepth 100000 in
theorem inspeximusref04_Same.calls {K : Nat} {g w0 : World} {D0 : Snap} {x1 : T_api_Rec} {x8 : T_api_Rec} {A2 : Option Addr} {c3 : Nat} {A5 : Option Addr} {c6 : Nat} {A9 : Option Addr} {c10 : Nat} {A12 : Option Addr} {c13 : Nat} {r : (Bool)} (hf : inspeximusref04_Same.f K x1 x8 = some r) (hS0 : St g w0 D0 []) (h4 : Sl kd_T_api_Step D0 A2 c3 (x1.fSteps)) (h7 : Sl (kdInt .u8) D0 A5 c6 (x1.fData)) (h11 : Sl kd_T_api_Step D0 A9 c10 (x8.fSteps)) (h14 : Sl (kdInt .u8) D0 A12 c13 (x8.fData)) :
  CallsIn (Fw none) 0 Tryz.prog 36 (List.toArray [.agg (List.toArray (c_T_api_Rec (x1) A2 c3 A5 c6)), .agg (List.toArray (c_T_api_Rec (x8) A9 c10 A12 c13))]) w0 (fun e w' => ∃ v, e = .returned v ∧ ∃ D1, v = .bool (r) ∧ Stp g w0 D0 [] w' D1 []) := by
 unfold inspeximusref04_Same.f at hf
 have hS := Stp.refl hS0
 clear hS0
 refine calls_body (n := 115) Tryz.func36 rfl Tryz.ntmps36 rfl fun a hE => ?_
 have hE : Env a 115 [] [(0, .agg (List.toArray (c_T_api_Rec (x1) A2 c3 A5 c6))), (1, .agg (List.toArray (c_T_api_Rec (x8) A9 c10 A12 c13)))] := hE
 refine sq (ra ?_)
 refine at_op (op_box rfl rfl rfl rfl hE rfl hS rfl (fun a b44 w _ hE hS => ?_)) rfl
 refine at_op (op_box rfl rfl rfl rfl hE rfl hS rfl (fun a b46 w _ hE hS => ?_)) rfl
 refine sN 1 3 [(4, .bool false)] hE fun a hE => ?_
 refine ae ?_
 obtain ⟨j61, hj62, hf⟩ := jn_elim hf
 refine seq_join (fun a w => ∃ (y58 : Bool), ∃ D59, Env a 115 [] [(4, .bool (y58))] ∧ Stp g w0 D0 [] w D59 [] ∧ Snap.le D0 D59 ∧ j61 y58 = some r) ?_ ?_
 ·clear hj62
  refine ra ?_
  refine sM 6 6 [1, 0] [(10, .bool ((decide (x1.fKind = x8.fKind))))] hE hS fun a hE => ?_
  refine bo ((decide (x1.fKind = x8.fKind))) (fun hb => ?_) fun hb => ?_
  ·replace hf := cf hb hf
   have hE := hE.know (t := 10) rfl hb
   refine sN 105 111 [(4, .bool false)] hE fun a hE => ?_
   refine ae ?_
   have hS := hS.p .n
   exact ⟨false, D0, hE.wk, hS, lr, hf⟩
  replace hf := ct hb hf
  have hE := hE.know (t := 10) rfl hb
  refine sM 7 13 [1, 0] [(17, .bool ((decide (x1.fSaga = x8.fSaga))))] hE hS fun a hE => ?_
  refine bo ((decide (x1.fSaga = x8.fSaga))) (fun hb => ?_) fun hb => ?_
  ·replace hf := cf hb hf
   have hE := hE.know (t := 17) rfl hb
   refine sN 98 111 [(4, .bool false)] hE fun a hE => ?_
   refine ae ?_
   have hS := hS.p .n
   exact ⟨false, D0, hE.wk, hS, lr, hf⟩
  replace hf := ct hb hf
  have hE := hE.know (t := 17) rfl hb
  refine sM 7 20 [1, 0] [(24, .bool ((decide (x1.fSeq = x8.fSeq))))] hE hS fun a hE => ?_
  refine bo ((decide (x1.fSeq = x8.fSeq))) (fun hb => ?_) fun hb => ?_
  ·replace hf := cf hb hf
   have hE := hE.know (t := 24) rfl hb
   refine sN 91 111 [(4, .bool false)] hE fun a hE => ?_
   refine ae ?_
   have hS := hS.p .n
   exact ⟨false, D0, hE.wk, hS, lr, hf⟩
  replace hf := ct hb hf
  have hE := hE.know (t := 24) rfl hb
  refine sM 7 27 [1, 0] [(31, .bool ((decide (x1.fStep = x8.fStep))))] hE hS fun a hE => ?_
  refine bo ((decide (x1.fStep = x8.fStep))) (fun hb => ?_) fun hb => ?_
  ·replace hf := cf hb hf
   have hE := hE.know (t := 31) rfl hb
   refine sN 84 111 [(4, .bool false)] hE fun a hE => ?_
   refine ae ?_
   have hS := hS.p .n
   exact ⟨false, D0, hE.wk, hS, lr, hf⟩
  replace hf := ct hb hf
  have hE := hE.know (t := 31) rfl hb
  refine sM 7 34 [1, 0] [(38, .bool ((decide (x1.fTry = x8.fTry))))] hE hS fun a hE => ?_
  refine bo ((decide (x1.fTry = x8.fTry))) (fun hb => ?_) fun hb => ?_
  ·replace hf := cf hb hf
   have hE := hE.know (t := 38) rfl hb
   refine sN 77 111 [(4, .bool false)] hE fun a hE => ?_
   refine ae ?_
   have hS := hS.p .n
   exact ⟨false, D0, hE.wk, hS, lr, hf⟩
  replace hf := ct hb hf
  have hE := hE.know (t := 38) rfl hb
  refine sM 4 38 [1, 0] [(40, .bool (x1.fBack)), (42, .bool (x8.fBack))] hE hS fun a hE => ?_
  refine at_op (op_tk hE (tk_bin (r := .bool ((x1.fBack == x8.fBack))) rfl rfl rfl rfl hE rfl rfl rfl (eqb_run (by kernel_rfl) _ _) (fun a hE => ?_))) rfl
  refine sN 2 41 [(45, .bool ((x1.fBack == x8.fBack)))] hE fun a hE => ?_
  refine bo ((x1.fBack == x8.fBack)) (fun hb => ?_) fun hb => ?_
  ·replace hf := cf hb hf
   have hE := hE.know (t := 45) rfl hb
   refine sN 70 111 [(4, .bool false)] hE fun a hE => ?_
   refine ae ?_
   have hS := hS.p .n
   exact ⟨false, D0, hE.wk, hS, lr, hf⟩
  replace hf := ct hb hf
  have hE := hE.know (t := 45) rfl hb
  refine sM 4 45 [1, 0] [(47, .bool (x1.fGood)), (49, .bool (x8.fGood))] hE hS fun a hE => ?_
  refine at_op (op_tk hE (tk_bin (r := .bool ((x1.fGood == x8.fGood))) rfl rfl rfl rfl hE rfl rfl rfl (eqb_run (by kernel_rfl) _ _) (fun a hE => ?_))) rfl
  refine sN 2 48 [(52, .bool ((x1.fGood == x8.fGood)))] hE fun a hE => ?_
  refine bo ((x1.fGood == x8.fGood)) (fun hb => ?_) fun hb => ?_
  ·replace hf := cf hb hf
   have hE := hE.know (t := 52) rfl hb
   refine sN 63 111 [(4, .bool false)] hE fun a hE => ?_
   refine ae ?_
   have hS := hS.p .n
   exact ⟨false, D0, hE.wk, hS, lr, hf⟩
  replace hf := ct hb hf
  have hE := hE.know (t := 52) rfl hb
  refine sM 7 55 [1, 0] [(59, .bool ((decide (x1.fEnd = x8.fEnd))))] hE hS fun a hE => ?_
  refine bo ((decide (x1.fEnd = x8.fEnd))) (fun hb => ?_) fun hb => ?_
  ·replace hf := cf hb hf
   have hE := hE.know (t := 59) rfl hb
   refine sN 56 111 [(4, .bool false)] hE fun a hE => ?_
   refine ae ?_
   have hS := hS.p .n
   exact ⟨false, D0, hE.wk, hS, lr, hf⟩
  replace hf := ct hb hf
  have hE := hE.know (t := 59) rfl hb
  refine sM 7 62 [1, 0] [(66, .bool ((decide (x1.fPart = x8.fPart))))] hE hS fun a hE => ?_
  refine bo ((decide (x1.fPart = x8.fPart))) (fun hb => ?_) fun hb => ?_
  ·replace hf := cf hb hf
   have hE := hE.know (t := 66) rfl hb
   refine sN 49 111 [(4, .bool false)] hE fun a hE => ?_
   refine ae ?_
   have hS := hS.p .n
   exact ⟨false, D0, hE.wk, hS, lr, hf⟩
  replace hf := ct hb hf
  have hE := hE.know (t := 66) rfl hb
  refine sM 7 69 [1, 0] [(73, .bool ((decide (x1.fEpoch = x8.fEpoch))))] hE hS fun a hE => ?_
  refine bo ((decide (x1.fEpoch = x8.fEpoch))) (fun hb => ?_) fun hb => ?_
  ·replace hf := cf hb hf
   have hE := hE.know (t := 73) rfl hb
   refine sN 42 111 [(4, .bool false)] hE fun a hE => ?_
   refine ae ?_
   have hS := hS.p .n
   exact ⟨false, D0, hE.wk, hS, lr, hf⟩
  replace hf := ct hb hf
  have hE := hE.know (t := 73) rfl hb
  refine sM 4 73 [1, 0] [(75, .agg (List.toArray (acells .u8 32 (x1.fTag)))), (77, .agg (List.toArray (acells .u8 32 (x8.fTag))))] hE hS fun a hE => ?_
  refine at_op (op_tk hE (tk_bin (r := .bool ((decide (x1.fTag = x8.fTag)))) rfl rfl rfl rfl hE rfl rfl rfl (eqagg_run (by kernel_rfl) (EqR_arr (k := .u8) (N := 32) (by kernel_rfl))) (fun a hE => ?_))) rfl
  refine sN 2 76 [(80, .bool ((decide (x1.fTag = x8.fTag))))] hE fun a hE => ?_
  refine bo ((decide (x1.fTag = x8.fTag))) (fun hb => ?_) fun hb => ?_
  ·replace hf := cf hb hf
   have hE := hE.know (t := 80) rfl hb
   refine sN 35 111 [(4, .bool false)] hE fun a hE => ?_
   refine ae ?_
   have hS := hS.p .n
   exact ⟨false, D0, hE.wk, hS, lr, hf⟩
  replace hf := ct hb hf
  have hE := hE.know (t := 80) rfl hb
  refine sM 4 80 [1, 0] [(82, .slice A2 (List.length (x1.fSteps)) c3), (84, .slice A9 (List.length (x8.fSteps)) c10)] hE hS fun a hE => ?_
  obtain ⟨r63, h64, hf⟩ := bs hf
  refine aC rfl rfl rfl rfl hE rfl rfl rfl rfl (inspeximusref04_Steps.calls h64 (hS.st.fore (L := [])) h4 h11) fun a v w hR hE => ?_
  obtain ⟨D65, rfl, hS1⟩ := hR
  have le67 := hS1.dle
  have hS := hS.callR hS1 rfl .n
  refine sN 2 83 [(87, .bool (r63))] hE fun a hE => ?_
  refine bo (r63) (fun hb => ?_) fun hb => ?_
  ·replace hf := cf hb hf
   have hE := hE.know (t := 87) rfl hb
   refine sN 28 111 [(4, .bool false)] hE fun a hE => ?_
   refine ae ?_
   have hS := hS.p .n
   exact ⟨false, D65, hE.wk, hS, le67, hf⟩
  replace hf := ct hb hf
  have hE := hE.know (t := 87) rfl hb
  refine sM 4 87 [1, 0] [(89, .slice A5 (List.length (x1.fData)) c6), (91, .slice A12 (List.length (x8.fData)) c13)] hE hS fun a hE => ?_
  obtain ⟨r68, h69, hf⟩ := bs hf
  refine aC rfl rfl rfl rfl hE rfl rfl rfl rfl (inspeximusref01_Bytes.calls h69 (hS.st.fore (L := [])) (h7.mono le67) (h14.mono le67)) fun a v w hR hE => ?_
  obtain ⟨D70, rfl, hS1⟩ := hR
  have le72 := hS1.dle
  have hS := hS.callR hS1 rfl .n
  refine sN 2 90 [(94, .bool (r68))] hE fun a hE => ?_
  refine bo (r68) (fun hb => ?_) fun hb => ?_
  ·replace hf := cf hb hf
   have hE := hE.know (t := 94) rfl hb
   refine sN 21 111 [(4, .bool false)] hE fun a hE => ?_
   refine ae ?_
   have hS := hS.p .n
   exact ⟨false, D70, hE.wk, hS, (le2 le67 le72), hf⟩
  replace hf := ct hb hf
  have hE := hE.know (t := 94) rfl hb
  refine sM 4 94 [1, 0] [(96, .agg (List.toArray (acells .u8 32 (x1.fSalt)))), (98, .agg (List.toArray (acells .u8 32 (x8.fSalt))))] hE hS fun a hE => ?_
  refine at_op (op_tk hE (tk_bin (r := .bool ((decide (x1.fSalt = x8.fSalt)))) rfl rfl rfl rfl hE rfl rfl rfl (eqagg_run (by kernel_rfl) (EqR_arr (k := .u8) (N := 32) (by kernel_rfl))) (fun a hE => ?_))) rfl
  refine sN 2 97 [(101, .bool ((decide (x1.fSalt = x8.fSalt))))] hE fun a hE => ?_
  refine bo ((decide (x1.fSalt = x8.fSalt))) (fun hb => ?_) fun hb => ?_
  ·replace hf := cf hb hf
   have hE := hE.know (t := 101) rfl hb
   refine sN 14 111 [(4, .bool false)] hE fun a hE => ?_
   refine ae ?_
   have hS := hS.p .n
   exact ⟨false, D70, hE.wk, hS, (le2 le67 le72), hf⟩
  replace hf := ct hb hf
  have hE := hE.know (t := 101) rfl hb
  refine sM 4 101 [1, 0] [(103, .bool (x1.fGone)), (105, .bool (x8.fGone))] hE hS fun a hE => ?_
  refine at_op (op_tk hE (tk_bin (r := .bool ((x1.fGone == x8.fGone))) rfl rfl rfl rfl hE rfl rfl rfl (eqb_run (by kernel_rfl) _ _) (fun a hE => ?_))) rfl
  refine sN 2 104 [(108, .bool ((x1.fGone == x8.fGone)))] hE fun a hE => ?_
  refine bo ((x1.fGone == x8.fGone)) (fun hb => ?_) fun hb => ?_
  ·replace hf := cf hb hf
   have hE := hE.know (t := 108) rfl hb
   refine sN 7 111 [(4, .bool false)] hE fun a hE => ?_
   refine ae ?_
   have hS := hS.p .n
   exact ⟨false, D70, hE.wk, hS, (le2 le67 le72), hf⟩
  replace hf := ct hb hf
  have hE := hE.know (t := 108) rfl hb
  refine sM 4 108 [1, 0] [(110, .agg (List.toArray (acells .u8 32 (x1.fCom)))), (112, .agg (List.toArray (acells .u8 32 (x8.fCom))))] hE hS fun a hE => ?_
  refine at_op (op_tk hE (tk_bin (r := .bool ((decide (x1.fCom = x8.fCom)))) rfl rfl rfl rfl hE rfl rfl rfl (eqagg_run (by kernel_rfl) (EqR_arr (k := .u8) (N := 32) (by kernel_rfl))) (fun a hE => ?_))) rfl
  refine sN 2 111 [(4, .bool ((decide (x1.fCom = x8.fCom))))] hE fun a hE => ?_
  refine ae ?_
  have hS := hS.p .n
  exact ⟨(decide (x1.fCom = x8.fCom)), D70, hE.wk, hS, (le2 le67 le72), hf⟩
 clear hE hS
 rintro a w ⟨y58, D59, hE, hS, le60, hf⟩
 replace hf := hj62 _ hf
 clear hj62
 refine wpIn_ret ?_
 obtain rfl := si hf
 refine ret_ ?_
 refine rT 4 (.bool (y58)) hE ?_
 exact ⟨_, rfl, D59, rfl, hS⟩
set_option maxRecDepth 100000 in
theorem inspeximusref05_Same.calls {K : Nat} {g w0 : World} {D0 : Snap} {x1 : (List (Vector Int 32))} {x5 : (List (Vector Int 32))} {A2 : Option Addr} {c3 : Nat} {A6 : Option Addr} {c7 : Nat} {r : (Bool)} (hf : inspeximusref05_Same.f K x1 x5 = some r) (hS0 : St g w0 D0 []) (h4 : Sl (kdArr .u8 32) D0 A2 c3 (x1)) (h8 : Sl (kdArr .u8 32) D0 A6 c7 (x5)) :
  CallsIn (Fw none) 0 Tryz.prog 37 (List.toArray [.slice A2 (List.length (x1)) c3, .slice A6 (List.length (x5)) c7]) w0 (fun e w' => ∃ v, e = .returned v ∧ ∃ D1, v = .bool (r) ∧ Stp g w0 D0 [] w' D1 []) := by
 unfold inspeximusref05_Same.f at hf
 have hS := Stp.refl hS0
 clear hS0
 refine calls_body (n := 26) Tryz.func37 rfl Tryz.ntmps37 rfl fun a hE => ?_
 have hE : Env a 26 [] [(0, .slice A2 (List.length (x1)) c3), (1, .slice A6 (List.length (x5)) c7)] := hE
 refine sq (ra ?_)
 refine sN 1 1 [(4, .bool false)] hE fun a hE => ?_
 refine ae ?_
 refine sq (sq (ra ?_))
 refine sN 5 5 [(10, .bool ((!decide (((List.length (x1) : Nat) : Int) = ((List.length (x5) : Nat) : Int)))))] hE fun a hE => ?_
 refine ae ?_
 refine cond_split hE (b := (!decide (((List.length (x1) : Nat) : Int) = ((List.length (x5) : Nat) : Int)))) rfl (fun hb => ?_) (fun hb => ?_)
 ·replace hf := ct hb hf
  refine sq (ra ?_)
  refine sN 1 1 [(4, .bool false)] hE fun a hE => ?_
  refine ae ?_
  refine wpIn_ret ?_
  obtain rfl := si hf
  refine ret_ ?_
  refine rT 4 (.bool false) hE ?_
  exact ⟨_, rfl, D0, rfl, hS⟩
 replace hf := cf hb hf
 refine wpIn_skip ?_
 refine sq (sq (ra ?_))
 refine sN 1 1 [(5, .int .i64 ((0 : Int)))] hE fun a hE => ?_
 refine ae ?_
 obtain ⟨s1, hf, hs1⟩ := bs hf
 refine block_loop (fun a w => ∃ (z1 : Unit), ∃ D3, Env a 26 [] [] ∧ Stp g w0 D0 [] w D3 [] ∧ Snap.le D0 D3 ∧ (Sum.inr z1) = s1) (fun k a w => ∃ (y1 : Int), ∃ D2, Env a 26 [] [(0, .slice A2 (List.length (x1)) c3), (1, .slice A6 (List.length (x5)) c7), (5, .int .i64 (y1))] ∧ Stp g w0 D0 [] w D2 [] ∧ Snap.le D0 D2 ∧ inspeximusref05_Same_l1.l K x1 x5 k y1 = some s1) K ?_ ?_ ?_
 ·exact ⟨(0 : Int), D0, hE.wk, hS, lr, hf⟩
 ·clear hE hS hf
  rintro a w ⟨z1, D3, hE, hS, le2, rfl⟩
  have hf := hs1
  clear hs1
  refine sq (ra ?_)
  refine sN 1 1 [(4, .bool true)] hE fun a hE => ?_
  refine ae ?_
  refine wpIn_ret ?_
  obtain rfl := si hf
  refine ret_ ?_
  refine rT 4 (.bool true) hE ?_
  exact ⟨_, rfl, D3, rfl, hS⟩
 clear hE hS hf
 rintro k a w ⟨y1, D2, hE, hS, le1, hf⟩
 obtain ⟨k, rfl, hf⟩ := inspeximusref05_Same_l1.some _ _ hf
 refine ⟨k, rfl, ?_⟩
 unfold inspeximusref05_Same_l1.b at hf
 refine sq (sq (ra ?_))
 refine sN 4 4 [(14, .bool ((decide (y1 < ((List.length (x1) : Nat) : Int)))))] hE fun a hE => ?_
 refine ae ?_
 refine cond_split hE (b := (decide (y1 < ((List.length (x1) : Nat) : Int)))) rfl (fun hb => ?_) (fun hb => ?_)
 ·replace hf := ct hb hf
  refine wpIn_skip ?_
  refine sq ?_
  refine wpIn_block ?_
  refine sq ?_
  refine region_draw (fun j => Keeps (mfOf [] j)) (by kernel_rfl) ?_
  have hS := hS.drew
  first | generalize w.drew = w at hS ⊢ | generalize w0.drew = w at hS ⊢
  refine wP 0 1 8 (.slice A2 (List.length (x1)) c3) hE fun a hE => ?_
  refine wP 1 3 7 (.int .i64 (y1)) hE fun a hE => ?_
  refine wP 4 19 6 (.slice A6 (List.length (x5)) c7) hE fun a hE => ?_
  refine wP 5 51 5 (.int .i64 (y1)) hE fun a hE => ?_
  obtain ⟨x2, h1, hf⟩ := bs hf
  refine tW 2 55 (fuel := 4) (by kernel_rfl) hE (fun M => g_index (K := (kdArr .u8 32)) (e := 23) (by_ := 32) (zl := 32) rfl rfl rfl rfl hE rfl rfl rfl (by kernel_rfl) rfl (h4.mono le1) h1 (fun a b1 o1 hE h2 => ?_))
  obtain ⟨cs1, C1, T1, fr1, hr1, hb1, hc1⟩ := id h2
  obtain rfl := hr1
  refine tT 3 63 (fuel := 3) (by kernel_rfl) hE (tk_loadX (off0 := o1) (off := 0) (c := acells .u8 32 (x2)) (.agg (List.toArray (acells .u8 32 (x2)))) rfl rfl rfl rfl hE rfl hS rfl hb1 hc1 (by kernel_rfl) (by kernel_rfl) (kD hS dn_nil) (fun a hE => ?_))
  obtain ⟨x3, h3, hf⟩ := bs hf
  refine tW 6 127 (fuel := 2) (by kernel_rfl) hE (fun M => g_index (K := (kdArr .u8 32)) (e := 23) (by_ := 32) (zl := 32) rfl rfl rfl rfl hE rfl rfl rfl (by kernel_rfl) rfl (h8.mono le1) h3 (fun a b2 o2 hE h5 => ?_))
  obtain ⟨cs2, C2, T2, fr2, hr2, hb2, hc2⟩ := id h5
  obtain rfl := hr2
  refine tT 7 255 (fuel := 1) (by kernel_rfl) hE (tk_loadX (off0 := o2) (off := 0) (c := acells .u8 32 (x3)) (.agg (List.toArray (acells .u8 32 (x3)))) rfl rfl rfl rfl hE rfl hS rfl hb2 hc2 (by kernel_rfl) (by kernel_rfl) (kD hS dn_nil) (fun a hE => ?_))
  refine tW 8 511 (fuel := 0) (by kernel_rfl) hE (fun M => tk_bin (r := .bool ((!(decide (x2 = x3))))) rfl rfl rfl rfl hE rfl rfl rfl (neagg_run (by kernel_rfl) (EqR_arr (k := .u8) (N := 32) (by kernel_rfl))) (fun a hE => ?_))
  refine doneG (by kernel_rfl) ?_
  refine cond_split hE (b := (!(decide (x2 = x3)))) rfl (fun hb => ?_) (fun hb => ?_)
  ·replace hf := ct hb hf
   refine sq (ra ?_)
   refine sN 1 1 [(4, .bool false)] hE fun a hE => ?_
   refine ae ?_
   refine wpIn_ret ?_
   obtain rfl := si hf
   replace hf := hs1
   obtain rfl := si hf
   refine ret_ ?_
   refine rT 4 (.bool false) hE ?_
   exact ⟨_, rfl, D2, rfl, hS⟩
  replace hf := cf hb hf
  refine wpIn_skip ?_
  refine ra ?_
  refine sN 3 3 [(5, .int .i64 ((IntKind.wrap .i64 (y1 + (1 : Int)))))] hE fun a hE => ?_
  exact ae ⟨(IntKind.wrap .i64 (y1 + (1 : Int))), D2, hE.wk, hS, le1, hf⟩
 replace hf := cf hb hf
 refine wpIn_exit ?_
 obtain rfl := si hf
 exact ⟨(), D2, hE.wk, hS, le1, rfl⟩
set_option maxRecDepth 100000 in
theorem inspeximusref17_Same.calls {K : Nat} {g w0 : World} {D0 : Snap} {x1 : T_api_Bundle} {x8 : T_api_Bundle} {A2 : Option Addr} {c3 : Nat} {A5 : Option Addr} {c6 : Nat} {A9 : Option Addr} {c10 : Nat} {A12 : Option Addr} {c13 : Nat} {r : (Bool)} (hf : inspeximusref17_Same.f K x1 x8 = some r) (hS0 : St g w0 D0 []) (h4 : Sl kd_T_api_Sig D0 A2 c3 (x1.fPoint.fSigs)) (h7 : Sl kd_T_api_Item D0 A5 c6 (x1.fItems)) (h11 : Sl kd_T_api_Sig D0 A9 c10 (x8.fPoint.fSigs)) (h14 : Sl kd_T_api_Item D0 A12 c13 (x8.fItems)) :
  CallsIn (Fw none) 0 Tryz.prog 12 (List.toArray [.agg (List.toArray (c_T_api_Bundle (x1) A2 c3 A5 c6)), .agg (List.toArray (c_T_api_Bundle (x8) A9 c10 A12 c13))]) w0 (fun e w' => ∃ v, e = .returned v ∧ ∃ D1, v = .bool (r) ∧ Stp g w0 D0 [] w' D1 []) := by
 unfold inspeximusref17_Same.f at hf
 have hS := Stp.refl hS0
 clear hS0
 refine calls_body (n := 68) Tryz.func12 rfl Tryz.ntmps12 rfl fun a hE => ?_
 have hE : Env a 68 [] [(0, .agg (List.toArray (c_T_api_Bundle (x1) A2 c3 A5 c6))), (1, .agg (List.toArray (c_T_api_Bundle (x8) A9 c10 A12 c13)))] := hE
 refine sq (ra ?_)
 refine at_op (op_box rfl rfl rfl rfl hE rfl hS rfl (fun a b1 w _ hE hS => ?_)) rfl
 refine at_op (op_box rfl rfl rfl rfl hE rfl hS rfl (fun a b2 w _ hE hS => ?_)) rfl
 refine sN 1 3 [(4, .bool false)] hE fun a hE => ?_
 refine ae ?_
 refine sq ?_
 obtain ⟨j1, hj1, hf⟩ := jn_elim hf
 refine seq_join (fun a w => ∃ (y3 : Bool), ∃ D4, Env a 68 [] [(2, .pointer (some ⟨b1, 0, none⟩)), (3, .pointer (some ⟨b2, 0, none⟩)), (29, .bool (y3))] ∧ Stp g w0 D0 [] w D4 [bx b1 29 (c_T_api_Bundle (x1) A2 c3 A5 c6), bx b2 29 (c_T_api_Bundle (x8) A9 c10 A12 c13)] ∧ Snap.le D0 D4 ∧ j1 y3 = some r) ?_ ?_
 ·clear hj1
  refine ra ?_
  refine sM 4 4 [1, 0] [(9, .bool (x1.fWhole)), (11, .bool (x8.fWhole))] hE hS fun a hE => ?_
  refine at_op (op_tk hE (tk_bin (r := .bool ((!(x1.fWhole == x8.fWhole)))) rfl rfl rfl rfl hE rfl rfl rfl (neb_run (by kernel_rfl) _ _) (fun a hE => ?_))) rfl
  refine sN 1 6 [(13, .bool ((!(x1.fWhole == x8.fWhole))))] hE fun a hE => ?_
  refine bo ((!(x1.fWhole == x8.fWhole))) (fun hb => ?_) fun hb => ?_
  ·replace hf := cf hb hf
   have hE := hE.know (t := 13) rfl hb
   refine sM 4 10 [1, 0] [(15, .agg (List.toArray (c_T_api_Point (x1.fPoint) A2 c3))), (17, .agg (List.toArray (c_T_api_Point (x8.fPoint) A9 c10)))] hE hS fun a hE => ?_
   obtain ⟨r1, h9, hf⟩ := bs hf
   refine aC rfl rfl rfl rfl hE rfl rfl rfl rfl (inspeximusref10_Points.calls h9 (hS.st.fore (L := [])) h4 h11) fun a v w hR hE => ?_
   obtain ⟨D7, rfl, hS1⟩ := hR
   have le4 := hS1.dle
   have hS := hS.callR hS1 rfl .n
   refine sN 3 14 [(21, .bool ((!r1)))] hE fun a hE => ?_
   refine bo ((!r1)) (fun hb => ?_) fun hb => ?_
   ·replace hf := cf hb hf
    have hE := hE.know (t := 21) rfl hb
    refine sM 8 22 [1, 0] [(29, .bool ((!decide (((List.length (x1.fItems) : Nat) : Int) = ((List.length (x8.fItems) : Nat) : Int)))))] hE hS fun a hE => ?_
    refine ae ?_
    have hS := hS.p (.d 1 (.d 0 .n))
    exact ⟨(!decide (((List.length (x1.fItems) : Nat) : Int) = ((List.length (x8.fItems) : Nat) : Int))), D7, hE.wk, hS, le4, hf⟩
   replace hf := ct hb hf
   have hE := hE.know (t := 21) rfl hb
   refine sN 8 22 [(29, .bool true)] hE fun a hE => ?_
   refine ae ?_
   have hS := hS.p (.d 1 (.d 0 .n))
   exact ⟨true, D7, hE.wk, hS, le4, hf⟩
  replace hf := ct hb hf
  have hE := hE.know (t := 13) rfl hb
  refine sN 16 22 [(29, .bool true)] hE fun a hE => ?_
  refine ae ?_
  have hS := hS.p (.d 1 (.d 0 .n))
  exact ⟨true, D0, hE.wk, hS, lr, hf⟩
 clear hE hS
 rintro a w ⟨y3, D4, hE, hS, le5, hf⟩
 replace hf := hj1 _ hf
 clear hj1
 refine cond_split hE (b := y3) rfl (fun hb => ?_) (fun hb => ?_)
 ·replace hf := ct hb hf
  refine sq (ra ?_)
  refine sN 1 1 [(4, .bool false)] hE fun a hE => ?_
  refine ae ?_
  refine wpIn_ret ?_
  obtain rfl := si hf
  refine ret_ ?_
  refine rT 4 (.bool false) hE ?_
  have hS := hS.p .n
  exact ⟨_, rfl, D4, rfl, hS⟩
 replace hf := cf hb hf
 refine wpIn_skip ?_
 refine sq (sq (ra ?_))
 refine sN 1 1 [(5, .int .i64 ((0 : Int)))] hE fun a hE => ?_
 refine ae ?_
 obtain ⟨s1, hf, hs1⟩ := bs hf
 refine block_loop (fun a w => ∃ (z1 : Unit), ∃ D6, Env a 68 [] [] ∧ Stp g w0 D0 [] w D6 [] ∧ Snap.le D4 D6 ∧ (Sum.inr z1) = s1) (fun k a w => ∃ (y2 : Int), ∃ D3, Env a 68 [] [(2, .pointer (some ⟨b1, 0, none⟩)), (3, .pointer (some ⟨b2, 0, none⟩)), (5, .int .i64 (y2))] ∧ Stp g w0 D0 [] w D3 [bx b1 29 (c_T_api_Bundle (x1) A2 c3 A5 c6), bx b2 29 (c_T_api_Bundle (x8) A9 c10 A12 c13)] ∧ Snap.le D4 D3 ∧ inspeximusref17_Same_l1.l K x1 x8 k y2 = some s1) K ?_ ?_ ?_
 ·exact ⟨(0 : Int), D4, hE.wk, hS, lr, hf⟩
 ·clear hE hS hf
  rintro a w ⟨z1, D6, hE, hS, le9, rfl⟩
  have hf := hs1
  clear hs1
  refine sq (ra ?_)
  refine sN 1 1 [(4, .bool true)] hE fun a hE => ?_
  refine ae ?_
  refine wpIn_ret ?_
  obtain rfl := si hf
  refine ret_ ?_
  refine rT 4 (.bool true) hE ?_
  exact ⟨_, rfl, D6, rfl, hS⟩
 clear hE hS hf
 rintro k a w ⟨y2, D3, hE, hS, le1, hf⟩
 obtain ⟨k, rfl, hf⟩ := inspeximusref17_Same_l1.some _ _ hf
 refine ⟨k, rfl, ?_⟩
 unfold inspeximusref17_Same_l1.b at hf
 refine sq (sq (ra ?_))
 refine sM 5 5 [0] [(34, .bool ((decide (y2 < ((List.length (x1.fItems) : Nat) : Int)))))] hE hS fun a hE => ?_
 refine ae ?_
 refine cond_split hE (b := (decide (y2 < ((List.length (x1.fItems) : Nat) : Int)))) rfl (fun hb => ?_) (fun hb => ?_)
 ·replace hf := ct hb hf
  refine wpIn_skip ?_
  refine sq ?_
  refine wpIn_block ?_
  obtain ⟨j2, hj2, hf⟩ := jn_elim hf
  refine seq_join (fun a w => ∃ (y1 : T_api_Item × T_api_Item), ∃ A10, ∃ c9, ∃ A11, ∃ c11, ∃ A13, ∃ c12, ∃ A14, ∃ c14, ∃ A15, ∃ c15, ∃ A16, ∃ c16, ∃ b3, ∃ b4, ∃ D2, Env a 68 [] [(2, .pointer (some ⟨b1, 0, none⟩)), (3, .pointer (some ⟨b2, 0, none⟩)), (5, .int .i64 (y2)), (6, .pointer (some ⟨b3, 0, none⟩)), (7, .pointer (some ⟨b4, 0, none⟩))] ∧ Stp g w0 D0 [] w D2 [bx b3 43 (c_T_api_Item (y1.1) A10 c9 A11 c11 A13 c12), bx b4 43 (c_T_api_Item (y1.2) A14 c14 A15 c15 A16 c16), bx b1 29 (c_T_api_Bundle (x1) A2 c3 A5 c6), bx b2 29 (c_T_api_Bundle (x8) A9 c10 A12 c13)] ∧ Snap.le D3 D2 ∧ Sl kd_T_api_Step D2 A10 c9 (y1.1.fRec.fSteps) ∧ Sl (kdInt .u8) D2 A11 c11 (y1.1.fRec.fData) ∧ Sl (kdArr .u8 32) D2 A13 c12 (y1.1.fPath) ∧ Sl kd_T_api_Step D2 A14 c14 (y1.2.fRec.fSteps) ∧ Sl (kdInt .u8) D2 A15 c15 (y1.2.fRec.fData) ∧ Sl (kdArr .u8 32) D2 A16 c16 (y1.2.fPath) ∧ j2 y1 = some s1) ?_ ?_
  ·clear hj2
   refine region_draw (fun j => RD D3 (plOf [] [b1, b2] j)) (by kernel_rfl) ?_
   have hS := hS.drew
   first | generalize w.drew = w at hS ⊢ | generalize w0.drew = w at hS ⊢
   refine wP 2 4 13 (.int .i64 (y2)) hE fun a hE => ?_
   refine wP 7 132 12 (.int .i64 (y2)) hE fun a hE => ?_
   refine wF 0 133 11 35 27 35 hE fun a hE => ?_
   refine tD 1 135 (fuel := 10) (by kernel_rfl) hE (tk_load 0 (.slice A5 (List.length (x1.fItems)) c6) rfl rfl rfl rfl hE rfl hS rfl rfl (by kernel_rfl) (fun _ h => h.1.at_ (List.Mem.head _)) (fun a hE => ?_))
   obtain ⟨x2, h10, hf⟩ := bs hf
   refine tW 3 143 (fuel := 9) (by kernel_rfl) hE (fun M => g_index (K := kd_T_api_Item) (e := 43) (by_ := 256) (zl := 111) rfl rfl rfl rfl hE rfl rfl rfl (by kernel_rfl) rfl (h7.mono (le2 le5 le1)) h10 (fun a b9 o1 hE h12 => ?_))
   obtain ⟨cs1, C1, T1, fr1, hr1, hb1, hc1⟩ := id h12
   obtain ⟨A1, c1, A3, c2, A4, c4, rfl, h1, h2, h3⟩ := kd_T_api_Item_el hr1
   refine tD 4 159 (fuel := 8) (by kernel_rfl) hE (tk_loadX (off0 := o1) (off := 0) (c := c_T_api_Item (x2) A1 c1 A3 c2 A4 c4) (.agg (List.toArray (c_T_api_Item (x2) A1 c1 A3 c2 A4 c4))) rfl rfl rfl rfl hE rfl hS rfl hb1 hc1 (by kernel_rfl) (by kernel_rfl) (fun _ h => h.2 hS.st.sees) (fun a hE => ?_))
   refine wF 5 191 7 35 27 35 hE fun a hE => ?_
   refine tD 6 255 (fuel := 6) (by kernel_rfl) hE (tk_load 1 (.slice A12 (List.length (x8.fItems)) c13) rfl rfl rfl rfl hE rfl hS rfl rfl (by kernel_rfl) (fun _ h => h.1.at_ (List.Mem.tail _ (List.Mem.head _))) (fun a hE => ?_))
   obtain ⟨x3, h13, hf⟩ := bs hf
   refine tW 8 511 (fuel := 5) (by kernel_rfl) hE (fun M => g_index (K := kd_T_api_Item) (e := 43) (by_ := 256) (zl := 111) rfl rfl rfl rfl hE rfl rfl rfl (by kernel_rfl) rfl (h14.mono (le2 le5 le1)) h13 (fun a b10 o2 hE h15 => ?_))
   obtain ⟨cs2, C2, T2, fr2, hr2, hb2, hc2⟩ := id h15
   obtain ⟨A6, c5, A7, c7, A8, c8, rfl, h5, h6, h8⟩ := kd_T_api_Item_el hr2
   refine tD 9 1023 (fuel := 4) (by kernel_rfl) hE (tk_loadX (off0 := o2) (off := 0) (c := c_T_api_Item (x3) A6 c5 A7 c7 A8 c8) (.agg (List.toArray (c_T_api_Item (x3) A6 c5 A7 c7 A8 c8))) rfl rfl rfl rfl hE rfl hS rfl hb2 hc2 (by kernel_rfl) (by kernel_rfl) (fun _ h => h.2 hS.st.sees) (fun a hE => ?_))
   refine twoB (i := 10) (j := 11) (fuel := 3) (m1 := 2047) (m2 := 3071) (by kernel_rfl) (by kernel_rfl) (by kernel_rfl) ?_ ?_
   ·have hp_b3119 := hS.heapAt (j := 0) rfl
    have hp_b3121 := hS.heapAt (j := 1) rfl
    refine (op_alloc (z := .agg (List.toArray (c_T_api_Item (z_T_api_Item) none 0 none 0 none 0))) rfl rfl rfl rfl hE rfl hS (by kernel_rfl) (fun a b5 w _ hE hS => ?_))
    refine ⟨⟨show RP [b1, b2] _ _ from ⟨(hS.heapAt (j := 1) rfl).trans hp_b3119.symm, ⟨(hS.heapAt (j := 2) rfl).trans hp_b3121.symm, trivial⟩⟩, fun _ => hS.st.sees⟩, ?_⟩
    clear hp_b3119 hp_b3121
    have hp_b3119 := hS.heapAt (j := 1) rfl
    have hp_b3121 := hS.heapAt (j := 2) rfl
    refine oG 11 4095 (fuel := 2) (by kernel_rfl) (op_alloc (z := .agg (List.toArray (c_T_api_Item (z_T_api_Item) none 0 none 0 none 0))) rfl rfl rfl rfl hE rfl hS (by kernel_rfl) (fun a b6 w _ hE hS => ?_))
    refine ⟨⟨show RP [b1, b2] _ _ from ⟨(hS.heapAt (j := 2) rfl).trans hp_b3119.symm, ⟨(hS.heapAt (j := 3) rfl).trans hp_b3121.symm, trivial⟩⟩, fun _ => hS.st.sees⟩, ?_⟩
    clear hp_b3119 hp_b3121
    have hp_b3119 := hS.heapAt (j := 2) rfl
    have hp_b3121 := hS.heapAt (j := 3) rfl
    have hS := hS.p (.d 1 (.d 0 (.d 2 (.d 3 .n))))
    refine oG 12 8191 (fuel := 1) (by kernel_rfl) (op_store (v := .agg (List.toArray (c_T_api_Item (x2) A1 c1 A3 c2 A4 c4))) (c_T_api_Item (x2) A1 c1 A3 c2 A4 c4) rfl rfl rfl rfl hE hS rfl rfl (by kernel_rfl) (by kernel_rfl) (by kernel_rfl) (by kernel_rfl) (by kernel_rfl) (fun a w _ hE hS => ?_))
    refine ⟨⟨show RP [b1, b2] _ _ from ⟨(hS.heapAt (j := 2) rfl).trans hp_b3119.symm, ⟨(hS.heapAt (j := 3) rfl).trans hp_b3121.symm, trivial⟩⟩, fun _ => hS.st.sees⟩, ?_⟩
    clear hp_b3119 hp_b3121
    have hp_b3119 := hS.heapAt (j := 2) rfl
    have hp_b3121 := hS.heapAt (j := 3) rfl
    have hS := hS.p (.d 1 (.d 0 (.d 2 (.d 3 .n))))
    refine oG 13 16383 (fuel := 0) (by kernel_rfl) (op_store (v := .agg (List.toArray (c_T_api_Item (x3) A6 c5 A7 c7 A8 c8))) (c_T_api_Item (x3) A6 c5 A7 c7 A8 c8) rfl rfl rfl rfl hE hS rfl rfl (by kernel_rfl) (by kernel_rfl) (by kernel_rfl) (by kernel_rfl) (by kernel_rfl) (fun a w _ hE hS => ?_))
    refine ⟨⟨show RP [b1, b2] _ _ from ⟨(hS.heapAt (j := 2) rfl).trans hp_b3119.symm, ⟨(hS.heapAt (j := 3) rfl).trans hp_b3121.symm, trivial⟩⟩, fun _ => hS.st.sees⟩, ?_⟩
    clear hp_b3119 hp_b3121
    refine doneG (by kernel_rfl) ?_
    have hS := hS.p (.d 1 (.d 0 (.d 2 (.d 3 .n))))
    exact ⟨(x2, x3), A1, c1, A3, c2, A4, c4, A6, c5, A7, c7, A8, c8, b5, b6, D3, hE.wk, hS, lr, h1, h2, h3, h5, h6, h8, hf⟩
   have hp_b3119 := hS.heapAt (j := 0) rfl
   have hp_b3121 := hS.heapAt (j := 1) rfl
   refine (op_alloc (z := .agg (List.toArray (c_T_api_Item (z_T_api_Item) none 0 none 0 none 0))) rfl rfl rfl rfl hE rfl hS (by kernel_rfl) (fun a b7 w _ hE hS => ?_))
   refine ⟨⟨show RP [b1, b2] _ _ from ⟨(hS.heapAt (j := 1) rfl).trans hp_b3119.symm, ⟨(hS.heapAt (j := 2) rfl).trans hp_b3121.symm, trivial⟩⟩, fun _ => hS.st.sees⟩, ?_⟩
   clear hp_b3119 hp_b3121
   have hp_b3119 := hS.heapAt (j := 1) rfl
   have hp_b3121 := hS.heapAt (j := 2) rfl
   refine oG 10 4095 (fuel := 2) (by kernel_rfl) (op_alloc (z := .agg (List.toArray (c_T_api_Item (z_T_api_Item) none 0 none 0 none 0))) rfl rfl rfl rfl hE rfl hS (by kernel_rfl) (fun a b8 w _ hE hS => ?_))
   refine ⟨⟨show RP [b1, b2] _ _ from ⟨(hS.heapAt (j := 2) rfl).trans hp_b3119.symm, ⟨(hS.heapAt (j := 3) rfl).trans hp_b3121.symm, trivial⟩⟩, fun _ => hS.st.sees⟩, ?_⟩
   clear hp_b3119 hp_b3121
   have hp_b3119 := hS.heapAt (j := 2) rfl
   have hp_b3121 := hS.heapAt (j := 3) rfl
   refine oG 12 8191 (fuel := 1) (by kernel_rfl) (op_store (v := .agg (List.toArray (c_T_api_Item (x2) A1 c1 A3 c2 A4 c4))) (c_T_api_Item (x2) A1 c1 A3 c2 A4 c4) rfl rfl rfl rfl hE hS rfl rfl (by kernel_rfl) (by kernel_rfl) (by kernel_rfl) (by kernel_rfl) (by kernel_rfl) (fun a w _ hE hS => ?_))
   refine ⟨⟨show RP [b1, b2] _ _ from ⟨(hS.heapAt (j := 2) rfl).trans hp_b3119.symm, ⟨(hS.heapAt (j := 3) rfl).trans hp_b3121.symm, trivial⟩⟩, fun _ => hS.st.sees⟩, ?_⟩
   clear hp_b3119 hp_b3121
   have hp_b3119 := hS.heapAt (j := 2) rfl
   have hp_b3121 := hS.heapAt (j := 3) rfl
   have hS := hS.p (.d 1 (.d 0 (.d 2 (.d 3 .n))))
   refine oG 13 16383 (fuel := 0) (by kernel_rfl) (op_store (v := .agg (List.toArray (c_T_api_Item (x3) A6 c5 A7 c7 A8 c8))) (c_T_api_Item (x3) A6 c5 A7 c7 A8 c8) rfl rfl rfl rfl hE hS rfl rfl (by kernel_rfl) (by kernel_rfl) (by kernel_rfl) (by kernel_rfl) (by kernel_rfl) (fun a w _ hE hS => ?_))
   refine ⟨⟨show RP [b1, b2] _ _ from ⟨(hS.heapAt (j := 2) rfl).trans hp_b3119.symm, ⟨(hS.heapAt (j := 3) rfl).trans hp_b3121.symm, trivial⟩⟩, fun _ => hS.st.sees⟩, ?_⟩
   clear hp_b3119 hp_b3121
   refine doneG (by kernel_rfl) ?_
   have hS := hS.p (.d 1 (.d 0 (.d 2 (.d 3 .n))))
   exact ⟨(x2, x3), A1, c1, A3, c2, A4, c4, A6, c5, A7, c7, A8, c8, b8, b7, D3, hE.wk, hS, lr, h1, h2, h3, h5, h6, h8, hf⟩
  clear hE hS
  rintro a w ⟨y1, A10, c9, A11, c11, A13, c12, A14, c14, A15, c15, A16, c16, b3, b4, D2, hE, hS, le6, h16, h17, h18, h19, h20, h21, hf⟩
  replace hf := hj2 _ hf
  clear hj2
  obtain ⟨j3, hj3, hf⟩ := jn_elim hf
  refine seq_join (fun a w => ∃ (y4 : Bool), ∃ D5, Env a 68 [] [(2, .pointer (some ⟨b1, 0, none⟩)), (3, .pointer (some ⟨b2, 0, none⟩)), (5, .int .i64 (y2)), (67, .bool (y4))] ∧ Stp g w0 D0 [] w D5 [bx b1 29 (c_T_api_Bundle (x1) A2 c3 A5 c6), bx b2 29 (c_T_api_Bundle (x8) A9 c10 A12 c13)] ∧ Snap.le D2 D5 ∧ j3 y4 = some s1) ?_ ?_
  ·clear hj3
   refine ra ?_
   refine sM 6 6 [0, 1] [(52, .bool ((!decide (y1.1.fAt = y1.2.fAt))))] hE hS fun a hE => ?_
   refine bo ((!decide (y1.1.fAt = y1.2.fAt))) (fun hb => ?_) fun hb => ?_
   ·replace hf := cf hb hf
    have hE := hE.know (t := 52) rfl hb
    refine sM 4 10 [0, 1] [(54, .agg (List.toArray (c_T_api_Rec (y1.1.fRec) A10 c9 A11 c11))), (56, .agg (List.toArray (c_T_api_Rec (y1.2.fRec) A14 c14 A15 c15)))] hE hS fun a hE => ?_
    obtain ⟨r2, h22, hf⟩ := bs hf
    refine aC rfl rfl rfl rfl hE rfl rfl rfl rfl (inspeximusref04_Same.calls h22 (hS.st.fore (L := [])) h16 h17 h19 h20) fun a v w hR hE => ?_
    obtain ⟨D8, rfl, hS1⟩ := hR
    have le3 := hS1.dle
    have hS := hS.callR hS1 rfl .n
    refine sN 3 14 [(60, .bool ((!r2)))] hE fun a hE => ?_
    refine bo ((!r2)) (fun hb => ?_) fun hb => ?_
    ·replace hf := cf hb hf
     have hE := hE.know (t := 60) rfl hb
     refine sM 4 18 [0, 1] [(62, .slice A13 (List.length (y1.1.fPath)) c12), (64, .slice A16 (List.length (y1.2.fPath)) c16)] hE hS fun a hE => ?_
     obtain ⟨r3, h23, hf⟩ := bs hf
     refine aC rfl rfl rfl rfl hE rfl rfl rfl rfl (inspeximusref05_Same.calls h23 (hS.st.fore (L := [])) (h18.mono le3) (h21.mono le3)) fun a v w hR hE => ?_
     obtain ⟨D9, rfl, hS1⟩ := hR
     have le7 := hS1.dle
     have hS := hS.callR hS1 rfl .n
     refine sN 2 21 [(67, .bool ((!r3)))] hE fun a hE => ?_
     refine ae ?_
     have hS := hS.p (.d 2 (.d 3 .n))
     exact ⟨(!r3), D9, hE.wk, hS, (le2 le3 le7), hf⟩
    replace hf := ct hb hf
    have hE := hE.know (t := 60) rfl hb
    refine sN 7 21 [(67, .bool true)] hE fun a hE => ?_
    refine ae ?_
    have hS := hS.p (.d 2 (.d 3 .n))
    exact ⟨true, D8, hE.wk, hS, le3, hf⟩
   replace hf := ct hb hf
   have hE := hE.know (t := 52) rfl hb
   refine sN 15 21 [(67, .bool true)] hE fun a hE => ?_
   refine ae ?_
   have hS := hS.p (.d 2 (.d 3 .n))
   exact ⟨true, D2, hE.wk, hS, lr, hf⟩
  clear hE hS
  rintro a w ⟨y4, D5, hE, hS, le8, hf⟩
  replace hf := hj3 _ hf
  clear hj3
  refine cond_split hE (b := y4) rfl (fun hb => ?_) (fun hb => ?_)
  ·replace hf := ct hb hf
   refine sq (ra ?_)
   refine sN 1 1 [(4, .bool false)] hE fun a hE => ?_
   refine ae ?_
   refine wpIn_ret ?_
   obtain rfl := si hf
   replace hf := hs1
   obtain rfl := si hf
   refine ret_ ?_
   refine rT 4 (.bool false) hE ?_
   have hS := hS.p .n
   exact ⟨_, rfl, D5, rfl, hS⟩
  replace hf := cf hb hf
  refine wpIn_skip ?_
  refine ra ?_
  refine sN 3 3 [(5, .int .i64 ((IntKind.wrap .i64 (y2 + (1 : Int)))))] hE fun a hE => ?_
  exact ae ⟨(IntKind.wrap .i64 (y2 + (1 : Int))), D5, hE.wk, hS, (le2 (le2 le1 le6) le8), hf⟩
 replace hf := cf hb hf
 refine wpIn_exit ?_
 obtain rfl := si hf
 have hS := hS.p .n
 exact ⟨(), D3, hE.wk, hS, le1, rfl⟩
set_option maxRecDepth 100000 in
theorem inspeximuslaw17_BundlePuts.calls {K : Nat} {g w0 : World} {D0 : Snap} {x1 : T_api_Bundle} {x8 : T_api_Bundle} {A2 : Option Addr} {c3 : Nat} {A5 : Option Addr} {c6 : Nat} {A9 : Option Addr} {c10 : Nat} {A12 : Option Addr} {c13 : Nat} {r : (Bool)} (hf : inspeximuslaw17_BundlePuts.f K x1 x8 = some r) (hS0 : St g w0 D0 []) (h4 : Sl kd_T_api_Sig D0 A2 c3 (x1.fPoint.fSigs)) (h7 : Sl kd_T_api_Item D0 A5 c6 (x1.fItems)) (h11 : Sl kd_T_api_Sig D0 A9 c10 (x8.fPoint.fSigs)) (h14 : Sl kd_T_api_Item D0 A12 c13 (x8.fItems)) (hG0 : Cell (kdArr .u32 8) D0 0 0 gl_First) (hG1 : Cell (kdArr .u32 64) D0 1 0 gl_K) :
  CallsIn (Fw none) 0 Tryz.prog 3 (List.toArray [.agg (List.toArray (c_T_api_Bundle (x1) A2 c3 A5 c6)), .agg (List.toArray (c_T_api_Bundle (x8) A9 c10 A12 c13))]) w0 (fun e w' => ∃ v, e = .returned v ∧ ∃ D1, v = .bool (r) ∧ Stp g w0 D0 [] w' D1 []) := by
 unfold inspeximuslaw17_BundlePuts.f at hf
 have hS := Stp.refl hS0
 clear hS0
 refine calls_body (n := 34) Tryz.func3 rfl Tryz.ntmps3 rfl fun a hE => ?_
 have hE : Env a 34 [] [(0, .agg (List.toArray (c_T_api_Bundle (x1) A2 c3 A5 c6))), (1, .agg (List.toArray (c_T_api_Bundle (x8) A9 c10 A12 c13)))] := hE
 refine sq (ra ?_)
 refine at_op (op_box rfl rfl rfl rfl hE rfl hS rfl (fun a b1 w _ hE hS => ?_)) rfl
 refine at_op (op_box rfl rfl rfl rfl hE rfl hS rfl (fun a b2 w _ hE hS => ?_)) rfl
 refine sN 1 3 [(4, .bool false)] hE fun a hE => ?_
 refine ae ?_
 refine sq (sq (ra ?_))
 obtain ⟨r6, h1, hf⟩ := bs hf
 refine aC rfl rfl rfl rfl hE rfl rfl rfl rfl (inspeximuslaw17_alive.calls h1 (hS.st.fore (L := [])) ) fun a v w hR hE => ?_
 obtain ⟨D3, rfl, hS1⟩ := hR
 have le1 := hS1.dle
 have hS := hS.callR hS1 rfl .n
 refine sN 1 2 [(6, .bool ((!r6)))] hE fun a hE => ?_
 refine ae ?_
 refine cond_split hE (b := (!r6)) rfl (fun hb => ?_) (fun hb => ?_)
 ·replace hf := ct hb hf
  refine sq (ra ?_)
  refine sN 1 1 [(4, .bool false)] hE fun a hE => ?_
  refine ae ?_
  refine wpIn_ret ?_
  obtain rfl := si hf
  refine ret_ ?_
  refine rT 4 (.bool false) hE ?_
  have hS := hS.p .n
  exact ⟨_, rfl, D3, rfl, hS⟩
 replace hf := cf hb hf
 refine wpIn_skip ?_
 refine sq ?_
 obtain ⟨j1, hj1, hf⟩ := jn_elim hf
 refine seq_join (fun a w => ∃ (y1 : Bool), ∃ D2, Env a 34 [] [(2, .pointer (some ⟨b1, 0, none⟩)), (3, .pointer (some ⟨b2, 0, none⟩)), (12, .bool (y1))] ∧ Stp g w0 D0 [] w D2 [bx b1 29 (c_T_api_Bundle (x1) A2 c3 A5 c6), bx b2 29 (c_T_api_Bundle (x8) A9 c10 A12 c13)] ∧ Snap.le D3 D2 ∧ j1 y1 = some r) ?_ ?_
 ·clear hj1
  refine ra ?_
  refine sM 1 1 [1] [(7, .agg (List.toArray (c_T_api_Bundle (x1) A2 c3 A5 c6)))] hE hS fun a hE => ?_
  obtain ⟨r7, h2, hf⟩ := bs hf
  refine aC rfl rfl rfl rfl hE rfl rfl rfl rfl (inspeximusref17_Great.calls h2 (hS.st.fore (L := [])) (h4.mono le1) (h7.mono le1)) fun a v w hR hE => ?_
  obtain ⟨D4, rfl, hS1⟩ := hR
  have le11 := hS1.dle
  have hS := hS.callR hS1 rfl .n
  refine sN 1 3 [(9, .bool (r7))] hE fun a hE => ?_
  refine bo (r7) (fun hb => ?_) fun hb => ?_
  ·replace hf := cf hb hf
   have hE := hE.know (t := 9) rfl hb
   refine sM 1 4 [0] [(10, .agg (List.toArray (c_T_api_Bundle (x8) A9 c10 A12 c13)))] hE hS fun a hE => ?_
   obtain ⟨r8, h3, hf⟩ := bs hf
   refine aC rfl rfl rfl rfl hE rfl rfl rfl rfl (inspeximusref17_Great.calls h3 (hS.st.fore (L := [])) (h11.mono (le2 le1 le11)) (h14.mono (le2 le1 le11))) fun a v w hR hE => ?_
   obtain ⟨D5, rfl, hS1⟩ := hR
   have le13 := hS1.dle
   have hS := hS.callR hS1 rfl .n
   refine sN 1 6 [(12, .bool (r8))] hE fun a hE => ?_
   refine ae ?_
   have hS := hS.p (.d 1 (.d 0 .n))
   exact ⟨r8, D5, hE.wk, hS, (le2 le11 le13), hf⟩
  replace hf := ct hb hf
  have hE := hE.know (t := 9) rfl hb
  refine sN 3 6 [(12, .bool true)] hE fun a hE => ?_
  refine ae ?_
  have hS := hS.p (.d 1 (.d 0 .n))
  exact ⟨true, D4, hE.wk, hS, le11, hf⟩
 clear hE hS
 rintro a w ⟨y1, D2, hE, hS, le3, hf⟩
 replace hf := hj1 _ hf
 clear hj1
 refine cond_split hE (b := y1) rfl (fun hb => ?_) (fun hb => ?_)
 ·replace hf := ct hb hf
  refine sq (ra ?_)
  refine sN 1 1 [(4, .bool true)] hE fun a hE => ?_
  refine ae ?_
  refine wpIn_ret ?_
  obtain rfl := si hf
  refine ret_ ?_
  refine rT 4 (.bool true) hE ?_
  have hS := hS.p .n
  exact ⟨_, rfl, D2, rfl, hS⟩
 replace hf := cf hb hf
 refine wpIn_skip ?_
 refine sq ?_
 refine region_draw (fun j => Keeps (mfOf [] j)) (by kernel_rfl) ?_
 have hS := hS.drew
 first | generalize w.drew = w at hS ⊢ | generalize w0.drew = w at hS ⊢
 refine tL 0 1 21 0 (.agg (List.toArray (c_T_api_Bundle (x1) A2 c3 A5 c6))) hE hS fun a hE => ?_
 refine tL 2 5 20 0 (.agg (List.toArray (c_T_api_Bundle (x1) A2 c3 A5 c6))) hE hS fun a hE => ?_
 obtain ⟨r3, h5, hf⟩ := bs hf
 refine oC 1 7 19 rfl rfl rfl rfl hE rfl rfl rfl rfl (bundle_Right.calls h5 (hS.st.fore (L := [])) (h4.mono (le2 le1 le3)) (h7.mono (le2 le1 le3))) fun a v w hR hE => ?_
 obtain ⟨D9, rfl, hS1⟩ := hR
 refine ⟨(hS1.keeps.sub (M' := []) trivial).mono (fun _ h => h), ?_⟩
 have le4 := hS1.dle
 have hS := hS.callR hS1 rfl .n
 obtain ⟨r4, h6, hf⟩ := bs hf
 refine oC 3 15 18 rfl rfl rfl rfl hE rfl rfl rfl rfl (inspeximusref17_Right.calls h6 (hS.st.fore (L := [])) (h4.mono (le2 (le2 le1 le3) le4)) (h7.mono (le2 (le2 le1 le3) le4))) fun a v w hR hE => ?_
 obtain ⟨D6, rfl, hS1⟩ := hR
 refine ⟨(hS1.keeps.sub (M' := []) trivial).mono (fun _ h => h), ?_⟩
 have le5 := hS1.dle
 have hS := hS.callR hS1 rfl .n
 refine tW 4 31 (fuel := 17) (by kernel_rfl) hE (fun M => tk_bin (r := .bool ((r3 == r4))) rfl rfl rfl rfl hE rfl rfl rfl (eqb_run (by kernel_rfl) _ _) (fun a hE => ?_))
 refine wP 5 63 16 (.bool ((r3 == r4))) hE fun a hE => ?_
 refine bo ((r3 == r4)) (fun hb => ?_) fun hb => ?_
 ·replace hf := cf hb hf
  have hE := hE.know (t := 18) rfl hb
  refine wS 6 127 15 hE fun a hE => ?_
  refine wS 7 255 14 hE fun a hE => ?_
  refine wS 8 511 13 hE fun a hE => ?_
  refine wS 9 1023 12 hE fun a hE => ?_
  refine wS 10 2047 11 hE fun a hE => ?_
  refine wP 11 4095 10 (.bool false) hE fun a hE => ?_
  refine wP 12 8191 9 (.bool false) hE fun a hE => ?_
  refine wS 13 16383 8 hE fun a hE => ?_
  refine wS 14 32767 7 hE fun a hE => ?_
  refine wS 15 65535 6 hE fun a hE => ?_
  refine wS 16 131071 5 hE fun a hE => ?_
  refine wS 17 262143 4 hE fun a hE => ?_
  refine wS 18 524287 3 hE fun a hE => ?_
  refine wS 19 1048575 2 hE fun a hE => ?_
  refine wP 20 2097151 1 (.bool false) hE fun a hE => ?_
  refine wP 21 4194303 0 (.bool false) hE fun a hE => ?_
  refine doneG (by kernel_rfl) ?_
  refine wpIn_ret ?_
  obtain rfl := si hf
  refine ret_ ?_
  refine rT 4 (.bool false) hE ?_
  have hS := hS.p .n
  exact ⟨_, rfl, D6, rfl, hS⟩
 replace hf := ct hb hf
 have hE := hE.know (t := 18) rfl hb
 refine tL 6 127 15 0 (.agg (List.toArray (c_T_api_Bundle (x1) A2 c3 A5 c6))) hE hS fun a hE => ?_
 refine tL 8 383 14 0 (.agg (List.toArray (c_T_api_Bundle (x1) A2 c3 A5 c6))) hE hS fun a hE => ?_
 obtain ⟨r9, h8, hf⟩ := bs hf
 refine oC 7 511 13 rfl rfl rfl rfl hE rfl rfl rfl rfl (bundle_Put.calls h8 (hS.st.fore (L := [])) (h4.mono (le2 (le2 (le2 le1 le3) le4) le5)) (h7.mono (le2 (le2 (le2 le1 le3) le4) le5))) fun a v w hR hE => ?_
 obtain ⟨D10, A1, c1, q1, rfl, hS1, h9⟩ := hR
 refine ⟨(hS1.keeps.sub (M' := []) trivial).mono (fun _ h => h), ?_⟩
 have le6 := hS1.dle
 have hS := hS.callR hS1 rfl (.c .n)
 obtain ⟨r10, h10, hf⟩ := bs hf
 refine oC 9 1023 12 rfl rfl rfl rfl hE rfl rfl rfl rfl (inspeximusref17_Put.calls h10 (hS.st.fore (L := [])) (h4.mono (le2 (le2 (le2 (le2 le1 le3) le4) le5) le6)) (h7.mono (le2 (le2 (le2 (le2 le1 le3) le4) le5) le6)) (hG0.mono (le2 (le2 (le2 (le2 le1 le3) le4) le5) le6)) (hG1.mono (le2 (le2 (le2 (le2 le1 le3) le4) le5) le6))) fun a v w hR hE => ?_
 obtain ⟨D11, A3, c2, q2, rfl, hS1, h12⟩ := hR
 refine ⟨(hS1.keeps.sub (M' := []) trivial).mono (fun _ h => h), ?_⟩
 have le7 := hS1.dle
 have hS := hS.callR hS1 rfl (.c .n)
 have hS := hS.p (.d 1 (.d 0 (.d 2 (.d 3 .n))))
 obtain ⟨D12, q3, le8, hS, h19, h13⟩ := hS.lent (h9.mono le7)
 have hS := hS.p (.d 1 (.d 0 (.d 2 (.d 3 .n))))
 obtain ⟨D13, q4, le9, hS, h20, h15⟩ := hS.lent (h12.mono le8)
 obtain ⟨r5, h16, hf⟩ := bs hf
 refine oC 10 2047 11 rfl rfl rfl rfl hE rfl rfl rfl rfl (inspeximusref01_Bytes.calls h16 (hS.st.fore (L := [])) (h13.mono le9) h15) fun a v w hR hE => ?_
 obtain ⟨D7, rfl, hS1⟩ := hR
 refine ⟨(hS1.keeps.sub (M' := []) trivial).mono (fun _ h => h), ?_⟩
 have le10 := hS1.dle
 have hS := hS.callR hS1 rfl .n
 refine wP 11 4095 10 (.bool (r5)) hE fun a hE => ?_
 refine wP 12 8191 9 (.bool (r5)) hE fun a hE => ?_
 refine bo (r5) (fun hb => ?_) fun hb => ?_
 ·replace hf := cf hb hf
  have hE := hE.know (t := 25) rfl hb
  refine wS 13 16383 8 hE fun a hE => ?_
  refine wS 14 32767 7 hE fun a hE => ?_
  refine wS 15 65535 6 hE fun a hE => ?_
  refine wS 16 131071 5 hE fun a hE => ?_
  refine wS 17 262143 4 hE fun a hE => ?_
  refine wS 18 524287 3 hE fun a hE => ?_
  refine wS 19 1048575 2 hE fun a hE => ?_
  refine wP 20 2097151 1 (.bool false) hE fun a hE => ?_
  refine wP 21 4194303 0 (.bool false) hE fun a hE => ?_
  refine doneG (by kernel_rfl) ?_
  refine wpIn_ret ?_
  obtain rfl := si hf
  refine ret_ ?_
  refine rT 4 (.bool false) hE ?_
  have hS := hS.p .n
  exact ⟨_, rfl, D7, rfl, hS⟩
 replace hf := ct hb hf
 have hE := hE.know (t := 25) rfl hb
 refine tL 13 16383 8 2 (.agg (List.toArray (c_T_api_Bundle (x1) A2 c3 A5 c6))) hE hS fun a hE => ?_
 refine tL 14 32767 7 3 (.agg (List.toArray (c_T_api_Bundle (x8) A9 c10 A12 c13))) hE hS fun a hE => ?_
 refine tL 16 98303 6 2 (.agg (List.toArray (c_T_api_Bundle (x1) A2 c3 A5 c6))) hE hS fun a hE => ?_
 refine tL 17 229375 5 3 (.agg (List.toArray (c_T_api_Bundle (x8) A9 c10 A12 c13))) hE hS fun a hE => ?_
 obtain ⟨r1, h17, hf⟩ := bs hf
 refine oC 15 262143 4 rfl rfl rfl rfl hE rfl rfl rfl rfl (bundle_Same.calls h17 (hS.st.fore (L := [])) (h4.mono (le2 (le2 (le2 (le2 (le2 (le2 (le2 (le2 le1 le3) le4) le5) le6) le7) le8) le9) le10)) (h7.mono (le2 (le2 (le2 (le2 (le2 (le2 (le2 (le2 le1 le3) le4) le5) le6) le7) le8) le9) le10)) (h11.mono (le2 (le2 (le2 (le2 (le2 (le2 (le2 (le2 le1 le3) le4) le5) le6) le7) le8) le9) le10)) (h14.mono (le2 (le2 (le2 (le2 (le2 (le2 (le2 (le2 le1 le3) le4) le5) le6) le7) le8) le9) le10))) fun a v w hR hE => ?_
 obtain ⟨D14, rfl, hS1⟩ := hR
 refine ⟨(hS1.keeps.sub (M' := []) trivial).mono (fun _ h => h), ?_⟩
 have le12 := hS1.dle
 have hS := hS.callR hS1 rfl .n
 obtain ⟨r2, h18, hf⟩ := bs hf
 refine oC 18 524287 3 rfl rfl rfl rfl hE rfl rfl rfl rfl (inspeximusref17_Same.calls h18 (hS.st.fore (L := [])) (h4.mono (le2 (le2 (le2 (le2 (le2 (le2 (le2 (le2 (le2 le1 le3) le4) le5) le6) le7) le8) le9) le10) le12)) (h7.mono (le2 (le2 (le2 (le2 (le2 (le2 (le2 (le2 (le2 le1 le3) le4) le5) le6) le7) le8) le9) le10) le12)) (h11.mono (le2 (le2 (le2 (le2 (le2 (le2 (le2 (le2 (le2 le1 le3) le4) le5) le6) le7) le8) le9) le10) le12)) (h14.mono (le2 (le2 (le2 (le2 (le2 (le2 (le2 (le2 (le2 le1 le3) le4) le5) le6) le7) le8) le9) le10) le12))) fun a v w hR hE => ?_
 obtain ⟨D8, rfl, hS1⟩ := hR
 refine ⟨(hS1.keeps.sub (M' := []) trivial).mono (fun _ h => h), ?_⟩
 have le14 := hS1.dle
 have hS := hS.callR hS1 rfl .n
 refine tW 19 1048575 (fuel := 2) (by kernel_rfl) hE (fun M => tk_bin (r := .bool ((r1 == r2))) rfl rfl rfl rfl hE rfl rfl rfl (eqb_run (by kernel_rfl) _ _) (fun a hE => ?_))
 refine wP 20 2097151 1 (.bool ((r1 == r2))) hE fun a hE => ?_
 refine wP 21 4194303 0 (.bool ((r1 == r2))) hE fun a hE => ?_
 refine doneG (by kernel_rfl) ?_
 refine wpIn_ret ?_
 obtain rfl := si hf
 refine ret_ ?_
 refine rT 4 (.bool ((r1 == r2))) hE ?_
 have hS := hS.p .n
 exact ⟨_, rfl, D8, rfl, hS⟩
end Go.Proofs.YtjgaokcplofimaaGreatDoor
