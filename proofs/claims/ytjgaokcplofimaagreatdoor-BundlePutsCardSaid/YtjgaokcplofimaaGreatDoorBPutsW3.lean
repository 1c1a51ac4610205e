/-
  Proved, text by text: a call of a function of the cut comes to what its plain function computes.
  Conditions: those that each theorem names.
-/
import Derived.Test.YtjgaokcplofimaaGreatDoorProg
import Derived.Test.YtjgaokcplofimaaGreatDoorSepN
import Derived.Test.YtjgaokcplofimaaGreatDoorBPutsW2
set_option linter.unusedVariables false
set_option maxHeartbeats 4000000
namespace Go.Proofs.YtjgaokcplofimaaGreatDoor
open Go Go.Sep
set_option maxRecDepth 100000 in
theorem inspeximusref04_Right.calls {K : Nat} {g w0 : World} {D0 : Snap} {x1 : T_api_Rec} {A2 : Option Addr} {c3 : Nat} {A5 : Option Addr} {c6 : Nat} {r : (Bool)} (hf : inspeximusref04_Right.f K x1 = some r) (hS0 : St g w0 D0 []) (h4 : Sl kd_T_api_Step D0 A2 c3 (x1.fSteps)) (h7 : Sl (kdInt .u8) D0 A5 c6 (x1.fData)) :
  CallsIn (Fw none) 0 Tryz.prog 18 (List.toArray [.agg (List.toArray (c_T_api_Rec (x1) A2 c3 A5 c6))]) w0 (fun e w' => ∃ v, e = .returned v ∧ ∃ D1, v = .bool (r) ∧ Stp g w0 D0 [] w' D1 []) := by
 unfold inspeximusref04_Right.f at hf
 have hS := Stp.refl hS0
 clear hS0
 refine calls_body (n := 251) Tryz.func18 rfl Tryz.ntmps18 rfl fun a hE => ?_
 have hE : Env a 251 [] [(0, .agg (List.toArray (c_T_api_Rec (x1) A2 c3 A5 c6)))] := hE
 refine sq (ra ?_)
 refine at_op (op_box rfl rfl rfl rfl hE rfl hS rfl (fun a b1 w _ hE hS => ?_)) rfl
 refine sN 1 2 [(2, .bool false)] hE fun a hE => ?_
 refine ae ?_
 refine sq (ra ?_)
 refine at_op (op_alloc (z := .agg (List.toArray (acells .u8 32 ((Vector.replicate 32 (0 : Int)))))) rfl rfl rfl rfl hE rfl hS (by kernel_rfl) (fun a b2 w _ hE hS => ?_)) rfl
 refine ae ?_
 obtain ⟨j1, hj1, hf⟩ := jn_elim hf
 refine seq_join (fun a w => ∃ (y1 : Bool), ∃ D8, Env a 251 [] [(1, .pointer (some ⟨b1, 0, none⟩)), (3, .pointer (some ⟨b2, 0, none⟩)), (4, .bool ((decide (x1.fKind = (1 : Int))))), (5, .bool (y1)), (6, .bool ((decide (x1.fKind = (3 : Int)))))] ∧ Stp g w0 D0 [] w D8 [bx b1 40 (c_T_api_Rec (x1) A2 c3 A5 c6), bx b2 23 (acells .u8 32 ((Vector.replicate 32 (0 : Int))))] ∧ Snap.le D0 D8 ∧ j1 y1 = some r) ?_ ?_
 ·clear hj1
  refine region_draw (fun j => Keeps (mfOf [] j)) (by kernel_rfl) ?_
  have hS := hS.drew
  first | generalize w.drew = w at hS ⊢ | generalize w0.drew = w at hS ⊢
  refine wF 0 1 16 0 3 0 hE fun a hE => ?_
  refine tL 1 3 15 1 (.int .i64 (x1.fKind)) hE hS fun a hE => ?_
  refine wP 2 7 14 (.bool ((decide (x1.fKind = (1 : Int))))) hE fun a hE => ?_
  refine wF 3 15 13 0 3 0 hE fun a hE => ?_
  refine tL 4 31 12 1 (.int .i64 (x1.fKind)) hE hS fun a hE => ?_
  refine wP 5 63 11 (.bool ((decide ((2 : Int) ≤ x1.fKind)))) hE fun a hE => ?_
  refine wP 6 127 10 (.bool ((decide ((2 : Int) ≤ x1.fKind)))) hE fun a hE => ?_
  refine bo ((decide ((2 : Int) ≤ x1.fKind))) (fun hb => ?_) fun hb => ?_
  ·replace hf := cf hb hf
   have hE := hE.know (t := 14) rfl hb
   refine wS 7 255 9 hE fun a hE => ?_
   refine wS 8 511 8 hE fun a hE => ?_
   refine wS 9 1023 7 hE fun a hE => ?_
   refine wP 10 2047 6 (.bool false) hE fun a hE => ?_
   refine wP 14 18431 5 (.bool ((decide (x1.fKind = (1 : Int))))) hE fun a hE => ?_
   refine wP 15 51199 4 (.bool false) hE fun a hE => ?_
   refine wF 11 53247 3 0 3 0 hE fun a hE => ?_
   refine tL 12 57343 2 1 (.int .i64 (x1.fKind)) hE hS fun a hE => ?_
   refine wP 13 65535 1 (.bool ((decide (x1.fKind = (3 : Int))))) hE fun a hE => ?_
   refine wP 16 131071 0 (.bool ((decide (x1.fKind = (3 : Int))))) hE fun a hE => ?_
   refine doneG (by kernel_rfl) ?_
   have hS := hS.p (.d 1 (.d 0 .n))
   exact ⟨false, D0, hE.wk, hS, lr, hf⟩
  replace hf := ct hb hf
  have hE := hE.know (t := 14) rfl hb
  refine wP 14 16511 9 (.bool ((decide (x1.fKind = (1 : Int))))) hE fun a hE => ?_
  refine wF 7 16639 8 0 3 0 hE fun a hE => ?_
  refine tL 8 16895 7 1 (.int .i64 (x1.fKind)) hE hS fun a hE => ?_
  refine wP 9 17407 6 (.bool ((decide (x1.fKind ≤ (4 : Int))))) hE fun a hE => ?_
  refine wP 10 18431 5 (.bool ((decide (x1.fKind ≤ (4 : Int))))) hE fun a hE => ?_
  refine wP 15 51199 4 (.bool ((decide (x1.fKind ≤ (4 : Int))))) hE fun a hE => ?_
  refine wF 11 53247 3 0 3 0 hE fun a hE => ?_
  refine tL 12 57343 2 1 (.int .i64 (x1.fKind)) hE hS fun a hE => ?_
  refine wP 13 65535 1 (.bool ((decide (x1.fKind = (3 : Int))))) hE fun a hE => ?_
  refine wP 16 131071 0 (.bool ((decide (x1.fKind = (3 : Int))))) hE fun a hE => ?_
  refine doneG (by kernel_rfl) ?_
  have hS := hS.p (.d 1 (.d 0 .n))
  exact ⟨(decide (x1.fKind ≤ (4 : Int))), D0, hE.wk, hS, lr, hf⟩
 clear hE hS
 rintro a w ⟨y1, D8, hE, hS, le11, hf⟩
 replace hf := hj1 _ hf
 clear hj1
 refine sq ?_
 obtain ⟨j2, hj2, hf⟩ := jn_elim hf
 refine seq_join (fun a w => ∃ (y3 : Bool), ∃ D5, Env a 251 [] [(1, .pointer (some ⟨b1, 0, none⟩)), (3, .pointer (some ⟨b2, 0, none⟩)), (4, .bool ((decide (x1.fKind = (1 : Int))))), (5, .bool (y1)), (6, .bool ((decide (x1.fKind = (3 : Int))))), (45, .bool (y3))] ∧ Stp g w0 D0 [] w D5 [bx b1 40 (c_T_api_Rec (x1) A2 c3 A5 c6), bx b2 23 (acells .u8 32 ((Vector.replicate 32 (0 : Int))))] ∧ Snap.le D8 D5 ∧ j2 y3 = some r) ?_ ?_
 ·clear hj2
  refine ra ?_
  refine sM 4 4 [0] [(25, .bool ((decide (x1.fKind < (1 : Int)))))] hE hS fun a hE => ?_
  refine bo ((decide (x1.fKind < (1 : Int)))) (fun hb => ?_) fun hb => ?_
  ·replace hf := cf hb hf
   have hE := hE.know (t := 25) rfl hb
   refine sM 5 9 [0] [(30, .bool ((decide ((6 : Int) < x1.fKind))))] hE hS fun a hE => ?_
   refine bo ((decide ((6 : Int) < x1.fKind))) (fun hb => ?_) fun hb => ?_
   ·replace hf := cf hb hf
    have hE := hE.know (t := 30) rfl hb
    refine sM 2 11 [0] [(32, .int .i64 (x1.fSaga))] hE hS fun a hE => ?_
    obtain ⟨r1, h1, hf⟩ := bs hf
    refine aC rfl rfl rfl rfl hE rfl rfl rfl rfl (inspeximusref04_in.calls h1 (hS.st.fore (L := [])) ) fun a v w hR hE => ?_
    obtain ⟨D16, rfl, hS1⟩ := hR
    have le7 := hS1.dle
    have hS := hS.callR hS1 rfl .n
    refine sN 3 15 [(36, .bool ((!r1)))] hE fun a hE => ?_
    refine bo ((!r1)) (fun hb => ?_) fun hb => ?_
    ·replace hf := cf hb hf
     have hE := hE.know (t := 36) rfl hb
     refine sM 4 19 [0] [(40, .bool ((decide (x1.fKind = (6 : Int)))))] hE hS fun a hE => ?_
     refine bo ((decide (x1.fKind = (6 : Int)))) (fun hb => ?_) fun hb => ?_
     ·replace hf := cf hb hf
      have hE := hE.know (t := 40) rfl hb
      refine sN 5 24 [(45, .bool false)] hE fun a hE => ?_
      exact ae ⟨false, D16, hE.wk, hS, le7, hf⟩
     replace hf := ct hb hf
     have hE := hE.know (t := 40) rfl hb
     refine sM 5 24 [0] [(45, .bool ((!decide (x1.fSaga = (0 : Int)))))] hE hS fun a hE => ?_
     exact ae ⟨(!decide (x1.fSaga = (0 : Int))), D16, hE.wk, hS, le7, hf⟩
    replace hf := ct hb hf
    have hE := hE.know (t := 36) rfl hb
    refine sN 9 24 [(45, .bool true)] hE fun a hE => ?_
    exact ae ⟨true, D16, hE.wk, hS, le7, hf⟩
   replace hf := ct hb hf
   have hE := hE.know (t := 30) rfl hb
   refine sN 15 24 [(45, .bool true)] hE fun a hE => ?_
   exact ae ⟨true, D8, hE.wk, hS, lr, hf⟩
  replace hf := ct hb hf
  have hE := hE.know (t := 25) rfl hb
  refine sN 20 24 [(45, .bool true)] hE fun a hE => ?_
  exact ae ⟨true, D8, hE.wk, hS, lr, hf⟩
 clear hE hS
 rintro a w ⟨y3, D5, hE, hS, le12, hf⟩
 replace hf := hj2 _ hf
 clear hj2
 refine cond_split hE (b := y3) rfl (fun hb => ?_) (fun hb => ?_)
 ·replace hf := ct hb hf
  refine sq (ra ?_)
  refine sN 1 1 [(2, .bool false)] hE fun a hE => ?_
  refine ae ?_
  refine wpIn_ret ?_
  obtain rfl := si hf
  refine ret_ ?_
  refine rT 2 (.bool false) hE ?_
  have hS := hS.p .n
  exact ⟨_, rfl, D5, rfl, hS⟩
 replace hf := cf hb hf
 refine wpIn_skip ?_
 obtain ⟨j3, hj3, hf⟩ := jn_elim hf
 refine seq_join (fun a w => ∃ (y12 : Unit), ∃ D6, Env a 251 [] [(1, .pointer (some ⟨b1, 0, none⟩)), (3, .pointer (some ⟨b2, 0, none⟩)), (4, .bool ((decide (x1.fKind = (1 : Int))))), (5, .bool (y1)), (6, .bool ((decide (x1.fKind = (3 : Int)))))] ∧ Stp g w0 D0 [] w D6 [bx b1 40 (c_T_api_Rec (x1) A2 c3 A5 c6), bx b2 23 (acells .u8 32 ((Vector.replicate 32 (0 : Int))))] ∧ Snap.le D5 D6 ∧ j3 y12 = some r) ?_ ?_
 ·clear hj3
  obtain ⟨j4, hj4, hf⟩ := jn_elim hf
  refine seq_join (fun a w => ∃ (y4 : Bool), ∃ D10, Env a 251 [] [(1, .pointer (some ⟨b1, 0, none⟩)), (3, .pointer (some ⟨b2, 0, none⟩)), (4, .bool ((decide (x1.fKind = (1 : Int))))), (5, .bool (y1)), (6, .bool ((decide (x1.fKind = (3 : Int))))), (51, .bool (y4))] ∧ Stp g w0 D0 [] w D10 [bx b1 40 (c_T_api_Rec (x1) A2 c3 A5 c6), bx b2 23 (acells .u8 32 ((Vector.replicate 32 (0 : Int))))] ∧ Snap.le D5 D10 ∧ j4 y4 = some r) ?_ ?_
  ·clear hj4
   refine ra ?_
   refine sN 2 2 [(47, .bool (y1))] hE fun a hE => ?_
   refine bo (y1) (fun hb => ?_) fun hb => ?_
   ·replace hf := cf hb hf
    have hE := hE.know (t := 47) rfl hb
    refine sM 4 6 [0] [(51, .bool ((decide (x1.fKind = (5 : Int)))))] hE hS fun a hE => ?_
    exact ae ⟨(decide (x1.fKind = (5 : Int))), D5, hE.wk, hS, lr, hf⟩
   replace hf := ct hb hf
   have hE := hE.know (t := 47) rfl hb
   refine sN 4 6 [(51, .bool true)] hE fun a hE => ?_
   exact ae ⟨true, D5, hE.wk, hS, lr, hf⟩
  clear hE hS
  rintro a w ⟨y4, D10, hE, hS, le13, hf⟩
  replace hf := hj4 _ hf
  clear hj4
  refine cond_split hE (b := y4) rfl (fun hb => ?_) (fun hb => ?_)
  ·replace hf := ct hb hf
   refine sq (ra ?_)
   refine sM 2 2 [0] [(53, .int .i64 (x1.fSeq))] hE hS fun a hE => ?_
   obtain ⟨r2, h2, hf⟩ := bs hf
   refine aC rfl rfl rfl rfl hE rfl rfl rfl rfl (inspeximusref04_in.calls h2 (hS.st.fore (L := [])) ) fun a v w hR hE => ?_
   obtain ⟨D19, rfl, hS1⟩ := hR
   have le22 := hS1.dle
   have hS := hS.callR hS1 rfl .n
   refine sN 1 4 [(55, .bool ((!r2)))] hE fun a hE => ?_
   refine ae ?_
   refine cond_split hE (b := (!r2)) rfl (fun hb => ?_) (fun hb => ?_)
   ·replace hf := ct hb hf
    refine sq (ra ?_)
    refine sN 1 1 [(2, .bool false)] hE fun a hE => ?_
    refine ae ?_
    refine wpIn_ret ?_
    obtain rfl := si hf
    refine ret_ ?_
    refine rT 2 (.bool false) hE ?_
    have hS := hS.p .n
    exact ⟨_, rfl, D19, rfl, hS⟩
   replace hf := cf hb hf
   refine wpIn_skip ?_
   exact ⟨(), D19, hE.wk, hS, (le2 le13 le22), hf⟩
  replace hf := cf hb hf
  refine sq (ra ?_)
  refine sM 3 3 [0] [(58, .bool ((!decide (x1.fSeq = (0 : Int)))))] hE hS fun a hE => ?_
  refine ae ?_
  refine cond_split hE (b := (!decide (x1.fSeq = (0 : Int)))) rfl (fun hb => ?_) (fun hb => ?_)
  ·replace hf := ct hb hf
   refine sq (ra ?_)
   refine sN 1 1 [(2, .bool false)] hE fun a hE => ?_
   refine ae ?_
   refine wpIn_ret ?_
   obtain rfl := si hf
   refine ret_ ?_
   refine rT 2 (.bool false) hE ?_
   have hS := hS.p .n
   exact ⟨_, rfl, D10, rfl, hS⟩
  replace hf := cf hb hf
  refine wpIn_skip ?_
  exact ⟨(), D10, hE.wk, hS, le13, hf⟩
 clear hE hS
 rintro a w ⟨y12, D6, hE, hS, le14, hf⟩
 replace hf := hj3 _ hf
 clear hj3
 refine sq ?_
 obtain ⟨j5, hj5, hf⟩ := jn_elim hf
 refine seq_join (fun a w => ∃ (y5 : Bool), ∃ D3, Env a 251 [] [(1, .pointer (some ⟨b1, 0, none⟩)), (3, .pointer (some ⟨b2, 0, none⟩)), (4, .bool ((decide (x1.fKind = (1 : Int))))), (6, .bool ((decide (x1.fKind = (3 : Int))))), (89, .bool (y5))] ∧ Stp g w0 D0 [] w D3 [bx b1 40 (c_T_api_Rec (x1) A2 c3 A5 c6), bx b2 23 (acells .u8 32 ((Vector.replicate 32 (0 : Int))))] ∧ Snap.le D6 D3 ∧ j5 y5 = some r) ?_ ?_
 ·clear hj5
  refine ra ?_
  refine sN 2 2 [(60, .bool (y1))] hE fun a hE => ?_
  refine bo (y1) (fun hb => ?_) fun hb => ?_
  ·replace hf := cf hb hf
   have hE := hE.know (t := 60) rfl hb
   refine sN 15 17 [(72, .bool false), (75, .bool ((!y1)))] hE fun a hE => ?_
   refine bo ((!y1)) (fun hb => ?_) fun hb => ?_
   ·replace hf := cf hb hf
    have hE := hE.know (t := 75) rfl hb
    refine sN 14 31 [(89, .bool false)] hE fun a hE => ?_
    exact ae ⟨false, D6, hE.wk, hS, lr, hf⟩
   replace hf := ct hb hf
   have hE := hE.know (t := 75) rfl hb
   refine sM 4 21 [0] [(79, .bool ((!decide (x1.fStep = (0 : Int)))))] hE hS fun a hE => ?_
   refine bo ((!decide (x1.fStep = (0 : Int)))) (fun hb => ?_) fun hb => ?_
   ·replace hf := cf hb hf
    have hE := hE.know (t := 79) rfl hb
    refine sM 5 26 [0] [(84, .bool ((!decide (x1.fTry = (0 : Int)))))] hE hS fun a hE => ?_
    refine bo ((!decide (x1.fTry = (0 : Int)))) (fun hb => ?_) fun hb => ?_
    ·replace hf := cf hb hf
     have hE := hE.know (t := 84) rfl hb
     refine sM 5 31 [0] [(89, .bool (x1.fBack))] hE hS fun a hE => ?_
     exact ae ⟨x1.fBack, D6, hE.wk, hS, lr, hf⟩
    replace hf := ct hb hf
    have hE := hE.know (t := 84) rfl hb
    refine sN 5 31 [(89, .bool true)] hE fun a hE => ?_
    exact ae ⟨true, D6, hE.wk, hS, lr, hf⟩
   replace hf := ct hb hf
   have hE := hE.know (t := 79) rfl hb
   refine sN 10 31 [(89, .bool true)] hE fun a hE => ?_
   exact ae ⟨true, D6, hE.wk, hS, lr, hf⟩
  replace hf := ct hb hf
  have hE := hE.know (t := 60) rfl hb
  refine sM 2 4 [0] [(62, .int .i64 (x1.fStep))] hE hS fun a hE => ?_
  obtain ⟨r3, h3, hf⟩ := bs hf
  refine aC rfl rfl rfl rfl hE rfl rfl rfl rfl (inspeximusref04_in.calls h3 (hS.st.fore (L := [])) ) fun a v w hR hE => ?_
  obtain ⟨D22, rfl, hS1⟩ := hR
  have le1 := hS1.dle
  have hS := hS.callR hS1 rfl .n
  refine sN 2 7 [(65, .bool ((!r3)))] hE fun a hE => ?_
  refine bo ((!r3)) (fun hb => ?_) fun hb => ?_
  ·replace hf := cf hb hf
   have hE := hE.know (t := 65) rfl hb
   refine sM 2 9 [0] [(67, .int .i64 (x1.fTry))] hE hS fun a hE => ?_
   obtain ⟨r4, h5, hf⟩ := bs hf
   refine aC rfl rfl rfl rfl hE rfl rfl rfl rfl (inspeximusref04_in.calls h5 (hS.st.fore (L := [])) ) fun a v w hR hE => ?_
   obtain ⟨D11, rfl, hS1⟩ := hR
   have le3 := hS1.dle
   have hS := hS.callR hS1 rfl .n
   refine sN 4 14 [(72, .bool ((!r4)))] hE fun a hE => ?_
   refine bo ((!r4)) (fun hb => ?_) fun hb => ?_
   ·replace hf := cf hb hf
    have hE := hE.know (t := 72) rfl hb
    refine sN 3 17 [(75, .bool ((!y1)))] hE fun a hE => ?_
    refine bo ((!y1)) (fun hb => ?_) fun hb => ?_
    ·replace hf := cf hb hf
     have hE := hE.know (t := 75) rfl hb
     refine sN 14 31 [(89, .bool false)] hE fun a hE => ?_
     exact ae ⟨false, D11, hE.wk, hS, (le2 le1 le3), hf⟩
    replace hf := ct hb hf
    have hE := hE.know (t := 75) rfl hb
    refine sM 4 21 [0] [(79, .bool ((!decide (x1.fStep = (0 : Int)))))] hE hS fun a hE => ?_
    refine bo ((!decide (x1.fStep = (0 : Int)))) (fun hb => ?_) fun hb => ?_
    ·replace hf := cf hb hf
     have hE := hE.know (t := 79) rfl hb
     refine sM 5 26 [0] [(84, .bool ((!decide (x1.fTry = (0 : Int)))))] hE hS fun a hE => ?_
     refine bo ((!decide (x1.fTry = (0 : Int)))) (fun hb => ?_) fun hb => ?_
     ·replace hf := cf hb hf
      have hE := hE.know (t := 84) rfl hb
      refine sM 5 31 [0] [(89, .bool (x1.fBack))] hE hS fun a hE => ?_
      exact ae ⟨x1.fBack, D11, hE.wk, hS, (le2 le1 le3), hf⟩
     replace hf := ct hb hf
     have hE := hE.know (t := 84) rfl hb
     refine sN 5 31 [(89, .bool true)] hE fun a hE => ?_
     exact ae ⟨true, D11, hE.wk, hS, (le2 le1 le3), hf⟩
    replace hf := ct hb hf
    have hE := hE.know (t := 79) rfl hb
    refine sN 10 31 [(89, .bool true)] hE fun a hE => ?_
    exact ae ⟨true, D11, hE.wk, hS, (le2 le1 le3), hf⟩
   replace hf := ct hb hf
   have hE := hE.know (t := 72) rfl hb
   refine sN 17 31 [(89, .bool true)] hE fun a hE => ?_
   exact ae ⟨true, D11, hE.wk, hS, (le2 le1 le3), hf⟩
  replace hf := ct hb hf
  have hE := hE.know (t := 65) rfl hb
  refine sN 24 31 [(89, .bool true)] hE fun a hE => ?_
  exact ae ⟨true, D22, hE.wk, hS, le1, hf⟩
 clear hE hS
 rintro a w ⟨y5, D3, hE, hS, le15, hf⟩
 replace hf := hj5 _ hf
 clear hj5
 refine cond_split hE (b := y5) rfl (fun hb => ?_) (fun hb => ?_)
 ·replace hf := ct hb hf
  refine sq (ra ?_)
  refine sN 1 1 [(2, .bool false)] hE fun a hE => ?_
  refine ae ?_
  refine wpIn_ret ?_
  obtain rfl := si hf
  refine ret_ ?_
  refine rT 2 (.bool false) hE ?_
  have hS := hS.p .n
  exact ⟨_, rfl, D3, rfl, hS⟩
 replace hf := cf hb hf
 refine wpIn_skip ?_
 refine sq ?_
 obtain ⟨j6, hj6, hf⟩ := jn_elim hf
 refine seq_join (fun a w => ∃ (y6 : Bool), ∃ D9, Env a 251 [] [(1, .pointer (some ⟨b1, 0, none⟩)), (3, .pointer (some ⟨b2, 0, none⟩)), (4, .bool ((decide (x1.fKind = (1 : Int))))), (6, .bool ((decide (x1.fKind = (3 : Int))))), (122, .bool (y6))] ∧ Stp g w0 D0 [] w D9 [bx b1 40 (c_T_api_Rec (x1) A2 c3 A5 c6), bx b2 23 (acells .u8 32 ((Vector.replicate 32 (0 : Int))))] ∧ Snap.le D3 D9 ∧ j6 y6 = some r) ?_ ?_
 ·clear hj6
  refine ra ?_
  refine sN 3 3 [(92, .bool ((!(decide (x1.fKind = (3 : Int))))))] hE fun a hE => ?_
  refine bo ((!(decide (x1.fKind = (3 : Int))))) (fun hb => ?_) fun hb => ?_
  ·replace hf := cf hb hf
   have hE := hE.know (t := 92) rfl hb
   refine sM 14 17 [0] [(102, .bool false), (106, .bool ((decide (x1.fKind = (5 : Int)))))] hE hS fun a hE => ?_
   refine bo ((decide (x1.fKind = (5 : Int)))) (fun hb => ?_) fun hb => ?_
   ·replace hf := cf hb hf
    have hE := hE.know (t := 106) rfl hb
    refine sM 11 28 [0] [(113, .bool false), (117, .bool ((!decide (x1.fKind = (5 : Int)))))] hE hS fun a hE => ?_
    refine bo ((!decide (x1.fKind = (5 : Int)))) (fun hb => ?_) fun hb => ?_
    ·replace hf := cf hb hf
     have hE := hE.know (t := 117) rfl hb
     refine sN 5 33 [(122, .bool false)] hE fun a hE => ?_
     exact ae ⟨false, D3, hE.wk, hS, lr, hf⟩
    replace hf := ct hb hf
    have hE := hE.know (t := 117) rfl hb
    refine sM 5 33 [0] [(122, .bool ((!decide (x1.fEnd = (0 : Int)))))] hE hS fun a hE => ?_
    exact ae ⟨(!decide (x1.fEnd = (0 : Int))), D3, hE.wk, hS, lr, hf⟩
   replace hf := ct hb hf
   have hE := hE.know (t := 106) rfl hb
   refine sM 2 19 [0] [(108, .int .i64 (x1.fEnd))] hE hS fun a hE => ?_
   obtain ⟨r5, h6, hf⟩ := bs hf
   refine aC rfl rfl rfl rfl hE rfl rfl rfl rfl (inspeximusref04_in.calls h6 (hS.st.fore (L := [])) ) fun a v w hR hE => ?_
   obtain ⟨D17, rfl, hS1⟩ := hR
   have le8 := hS1.dle
   have hS := hS.callR hS1 rfl .n
   refine sN 4 24 [(113, .bool ((!r5)))] hE fun a hE => ?_
   refine bo ((!r5)) (fun hb => ?_) fun hb => ?_
   ·replace hf := cf hb hf
    have hE := hE.know (t := 113) rfl hb
    refine sM 4 28 [0] [(117, .bool ((!decide (x1.fKind = (5 : Int)))))] hE hS fun a hE => ?_
    refine bo ((!decide (x1.fKind = (5 : Int)))) (fun hb => ?_) fun hb => ?_
    ·replace hf := cf hb hf
     have hE := hE.know (t := 117) rfl hb
     refine sN 5 33 [(122, .bool false)] hE fun a hE => ?_
     exact ae ⟨false, D17, hE.wk, hS, le8, hf⟩
    replace hf := ct hb hf
    have hE := hE.know (t := 117) rfl hb
    refine sM 5 33 [0] [(122, .bool ((!decide (x1.fEnd = (0 : Int)))))] hE hS fun a hE => ?_
    exact ae ⟨(!decide (x1.fEnd = (0 : Int))), D17, hE.wk, hS, le8, hf⟩
   replace hf := ct hb hf
   have hE := hE.know (t := 113) rfl hb
   refine sN 9 33 [(122, .bool true)] hE fun a hE => ?_
   exact ae ⟨true, D17, hE.wk, hS, le8, hf⟩
  replace hf := ct hb hf
  have hE := hE.know (t := 92) rfl hb
  refine sM 3 6 [0] [(95, .bool (x1.fGood))] hE hS fun a hE => ?_
  refine bo (x1.fGood) (fun hb => ?_) fun hb => ?_
  ·replace hf := cf hb hf
   have hE := hE.know (t := 95) rfl hb
   refine sM 3 9 [0, 1] [(97, .agg (List.toArray (acells .u8 32 (x1.fTag)))), (98, .agg (List.toArray (acells .u8 32 ((Vector.replicate 32 (0 : Int))))))] hE hS fun a hE => ?_
   refine at_op (op_tk hE (tk_bin (r := .bool ((!(decide (x1.fTag = (Vector.replicate 32 (0 : Int))))))) rfl rfl rfl rfl hE rfl rfl rfl (neagg_run (by kernel_rfl) (EqR_arr (k := .u8) (N := 32) (by kernel_rfl))) (fun a hE => ?_))) rfl
   refine sN 3 13 [(102, .bool ((!(decide (x1.fTag = (Vector.replicate 32 (0 : Int)))))))] hE fun a hE => ?_
   refine bo ((!(decide (x1.fTag = (Vector.replicate 32 (0 : Int)))))) (fun hb => ?_) fun hb => ?_
   ·replace hf := cf hb hf
    have hE := hE.know (t := 102) rfl hb
    refine sM 4 17 [0] [(106, .bool ((decide (x1.fKind = (5 : Int)))))] hE hS fun a hE => ?_
    refine bo ((decide (x1.fKind = (5 : Int)))) (fun hb => ?_) fun hb => ?_
    ·replace hf := cf hb hf
     have hE := hE.know (t := 106) rfl hb
     refine sM 11 28 [0] [(113, .bool false), (117, .bool ((!decide (x1.fKind = (5 : Int)))))] hE hS fun a hE => ?_
     refine bo ((!decide (x1.fKind = (5 : Int)))) (fun hb => ?_) fun hb => ?_
     ·replace hf := cf hb hf
      have hE := hE.know (t := 117) rfl hb
      refine sN 5 33 [(122, .bool false)] hE fun a hE => ?_
      exact ae ⟨false, D3, hE.wk, hS, lr, hf⟩
     replace hf := ct hb hf
     have hE := hE.know (t := 117) rfl hb
     refine sM 5 33 [0] [(122, .bool ((!decide (x1.fEnd = (0 : Int)))))] hE hS fun a hE => ?_
     exact ae ⟨(!decide (x1.fEnd = (0 : Int))), D3, hE.wk, hS, lr, hf⟩
    replace hf := ct hb hf
    have hE := hE.know (t := 106) rfl hb
    refine sM 2 19 [0] [(108, .int .i64 (x1.fEnd))] hE hS fun a hE => ?_
    obtain ⟨r6, h8, hf⟩ := bs hf
    refine aC rfl rfl rfl rfl hE rfl rfl rfl rfl (inspeximusref04_in.calls h8 (hS.st.fore (L := [])) ) fun a v w hR hE => ?_
    obtain ⟨D18, rfl, hS1⟩ := hR
    have le9 := hS1.dle
    have hS := hS.callR hS1 rfl .n
    refine sN 4 24 [(113, .bool ((!r6)))] hE fun a hE => ?_
    refine bo ((!r6)) (fun hb => ?_) fun hb => ?_
    ·replace hf := cf hb hf
     have hE := hE.know (t := 113) rfl hb
     refine sM 4 28 [0] [(117, .bool ((!decide (x1.fKind = (5 : Int)))))] hE hS fun a hE => ?_
     refine bo ((!decide (x1.fKind = (5 : Int)))) (fun hb => ?_) fun hb => ?_
     ·replace hf := cf hb hf
      have hE := hE.know (t := 117) rfl hb
      refine sN 5 33 [(122, .bool false)] hE fun a hE => ?_
      exact ae ⟨false, D18, hE.wk, hS, le9, hf⟩
     replace hf := ct hb hf
     have hE := hE.know (t := 117) rfl hb
     refine sM 5 33 [0] [(122, .bool ((!decide (x1.fEnd = (0 : Int)))))] hE hS fun a hE => ?_
     exact ae ⟨(!decide (x1.fEnd = (0 : Int))), D18, hE.wk, hS, le9, hf⟩
    replace hf := ct hb hf
    have hE := hE.know (t := 113) rfl hb
    refine sN 9 33 [(122, .bool true)] hE fun a hE => ?_
    exact ae ⟨true, D18, hE.wk, hS, le9, hf⟩
   replace hf := ct hb hf
   have hE := hE.know (t := 102) rfl hb
   refine sN 20 33 [(122, .bool true)] hE fun a hE => ?_
   exact ae ⟨true, D3, hE.wk, hS, lr, hf⟩
  replace hf := ct hb hf
  have hE := hE.know (t := 95) rfl hb
  refine sN 27 33 [(122, .bool true)] hE fun a hE => ?_
  exact ae ⟨true, D3, hE.wk, hS, lr, hf⟩
 clear hE hS
 rintro a w ⟨y6, D9, hE, hS, le16, hf⟩
 replace hf := hj6 _ hf
 clear hj6
 refine cond_split hE (b := y6) rfl (fun hb => ?_) (fun hb => ?_)
 ·replace hf := ct hb hf
  refine sq (ra ?_)
  refine sN 1 1 [(2, .bool false)] hE fun a hE => ?_
  refine ae ?_
  refine wpIn_ret ?_
  obtain rfl := si hf
  refine ret_ ?_
  refine rT 2 (.bool false) hE ?_
  have hS := hS.p .n
  exact ⟨_, rfl, D9, rfl, hS⟩
 replace hf := cf hb hf
 refine wpIn_skip ?_
 refine sq ?_
 obtain ⟨j7, hj7, hf⟩ := jn_elim hf
 refine seq_join (fun a w => ∃ (y7 : Bool), ∃ D4, Env a 251 [] [(1, .pointer (some ⟨b1, 0, none⟩)), (3, .pointer (some ⟨b2, 0, none⟩)), (4, .bool ((decide (x1.fKind = (1 : Int))))), (6, .bool ((decide (x1.fKind = (3 : Int))))), (152, .bool (y7))] ∧ Stp g w0 D0 [] w D4 [bx b1 40 (c_T_api_Rec (x1) A2 c3 A5 c6), bx b2 23 (acells .u8 32 ((Vector.replicate 32 (0 : Int))))] ∧ Snap.le D9 D4 ∧ j7 y7 = some r) ?_ ?_
 ·clear hj7
  refine ra ?_
  refine sN 2 2 [(124, .bool ((decide (x1.fKind = (3 : Int)))))] hE fun a hE => ?_
  refine bo ((decide (x1.fKind = (3 : Int)))) (fun hb => ?_) fun hb => ?_
  ·replace hf := cf hb hf
   have hE := hE.know (t := 124) rfl hb
   refine sM 16 18 [0] [(136, .bool false), (140, .bool ((decide (x1.fKind = (6 : Int)))))] hE hS fun a hE => ?_
   refine bo ((decide (x1.fKind = (6 : Int)))) (fun hb => ?_) fun hb => ?_
   ·replace hf := cf hb hf
    have hE := hE.know (t := 140) rfl hb
    refine sN 12 30 [(152, .bool false)] hE fun a hE => ?_
    exact ae ⟨false, D9, hE.wk, hS, lr, hf⟩
   replace hf := ct hb hf
   have hE := hE.know (t := 140) rfl hb
   refine sM 2 20 [0] [(142, .int .i64 (x1.fPart))] hE hS fun a hE => ?_
   obtain ⟨r7, h9, hf⟩ := bs hf
   refine aC rfl rfl rfl rfl hE rfl rfl rfl rfl (inspeximusref04_in.calls h9 (hS.st.fore (L := [])) ) fun a v w hR hE => ?_
   obtain ⟨D23, rfl, hS1⟩ := hR
   have le17 := hS1.dle
   have hS := hS.callR hS1 rfl .n
   refine sN 2 23 [(145, .bool ((!r7)))] hE fun a hE => ?_
   refine bo ((!r7)) (fun hb => ?_) fun hb => ?_
   ·replace hf := cf hb hf
    have hE := hE.know (t := 145) rfl hb
    refine sM 2 25 [0] [(147, .int .i64 (x1.fEpoch))] hE hS fun a hE => ?_
    obtain ⟨r8, h10, hf⟩ := bs hf
    refine aC rfl rfl rfl rfl hE rfl rfl rfl rfl (inspeximusref04_in.calls h10 (hS.st.fore (L := [])) ) fun a v w hR hE => ?_
    obtain ⟨D24, rfl, hS1⟩ := hR
    have le23 := hS1.dle
    have hS := hS.callR hS1 rfl .n
    refine sN 4 30 [(152, .bool ((!r8)))] hE fun a hE => ?_
    exact ae ⟨(!r8), D24, hE.wk, hS, (le2 le17 le23), hf⟩
   replace hf := ct hb hf
   have hE := hE.know (t := 145) rfl hb
   refine sN 7 30 [(152, .bool true)] hE fun a hE => ?_
   exact ae ⟨true, D23, hE.wk, hS, le17, hf⟩
  replace hf := ct hb hf
  have hE := hE.know (t := 124) rfl hb
  refine sM 2 4 [0] [(126, .int .i64 (x1.fPart))] hE hS fun a hE => ?_
  obtain ⟨r9, h11, hf⟩ := bs hf
  refine aC rfl rfl rfl rfl hE rfl rfl rfl rfl (inspeximusref04_in.calls h11 (hS.st.fore (L := [])) ) fun a v w hR hE => ?_
  obtain ⟨D25, rfl, hS1⟩ := hR
  have le4 := hS1.dle
  have hS := hS.callR hS1 rfl .n
  refine sN 2 7 [(129, .bool ((!r9)))] hE fun a hE => ?_
  refine bo ((!r9)) (fun hb => ?_) fun hb => ?_
  ·replace hf := cf hb hf
   have hE := hE.know (t := 129) rfl hb
   refine sM 2 9 [0] [(131, .int .i64 (x1.fEpoch))] hE hS fun a hE => ?_
   obtain ⟨r10, h12, hf⟩ := bs hf
   refine aC rfl rfl rfl rfl hE rfl rfl rfl rfl (inspeximusref04_in.calls h12 (hS.st.fore (L := [])) ) fun a v w hR hE => ?_
   obtain ⟨D20, rfl, hS1⟩ := hR
   have le5 := hS1.dle
   have hS := hS.callR hS1 rfl .n
   refine sN 4 14 [(136, .bool ((!r10)))] hE fun a hE => ?_
   refine bo ((!r10)) (fun hb => ?_) fun hb => ?_
   ·replace hf := cf hb hf
    have hE := hE.know (t := 136) rfl hb
    refine sM 4 18 [0] [(140, .bool ((decide (x1.fKind = (6 : Int)))))] hE hS fun a hE => ?_
    refine bo ((decide (x1.fKind = (6 : Int)))) (fun hb => ?_) fun hb => ?_
    ·replace hf := cf hb hf
     have hE := hE.know (t := 140) rfl hb
     refine sN 12 30 [(152, .bool false)] hE fun a hE => ?_
     exact ae ⟨false, D20, hE.wk, hS, (le2 le4 le5), hf⟩
    replace hf := ct hb hf
    have hE := hE.know (t := 140) rfl hb
    refine sM 2 20 [0] [(142, .int .i64 (x1.fPart))] hE hS fun a hE => ?_
    obtain ⟨r11, h13, hf⟩ := bs hf
    refine aC rfl rfl rfl rfl hE rfl rfl rfl rfl (inspeximusref04_in.calls h13 (hS.st.fore (L := [])) ) fun a v w hR hE => ?_
    obtain ⟨D26, rfl, hS1⟩ := hR
    have le18 := hS1.dle
    have hS := hS.callR hS1 rfl .n
    refine sN 2 23 [(145, .bool ((!r11)))] hE fun a hE => ?_
    refine bo ((!r11)) (fun hb => ?_) fun hb => ?_
    ·replace hf := cf hb hf
     have hE := hE.know (t := 145) rfl hb
     refine sM 2 25 [0] [(147, .int .i64 (x1.fEpoch))] hE hS fun a hE => ?_
     obtain ⟨r12, h14, hf⟩ := bs hf
     refine aC rfl rfl rfl rfl hE rfl rfl rfl rfl (inspeximusref04_in.calls h14 (hS.st.fore (L := [])) ) fun a v w hR hE => ?_
     obtain ⟨D27, rfl, hS1⟩ := hR
     have le24 := hS1.dle
     have hS := hS.callR hS1 rfl .n
     refine sN 4 30 [(152, .bool ((!r12)))] hE fun a hE => ?_
     exact ae ⟨(!r12), D27, hE.wk, hS, (le2 (le2 (le2 le4 le5) le18) le24), hf⟩
    replace hf := ct hb hf
    have hE := hE.know (t := 145) rfl hb
    refine sN 7 30 [(152, .bool true)] hE fun a hE => ?_
    exact ae ⟨true, D26, hE.wk, hS, (le2 (le2 le4 le5) le18), hf⟩
   replace hf := ct hb hf
   have hE := hE.know (t := 136) rfl hb
   refine sN 16 30 [(152, .bool true)] hE fun a hE => ?_
   exact ae ⟨true, D20, hE.wk, hS, (le2 le4 le5), hf⟩
  replace hf := ct hb hf
  have hE := hE.know (t := 129) rfl hb
  refine sN 23 30 [(152, .bool true)] hE fun a hE => ?_
  exact ae ⟨true, D25, hE.wk, hS, le4, hf⟩
 clear hE hS
 rintro a w ⟨y7, D4, hE, hS, le19, hf⟩
 replace hf := hj7 _ hf
 clear hj7
 refine cond_split hE (b := y7) rfl (fun hb => ?_) (fun hb => ?_)
 ·replace hf := ct hb hf
  refine sq (ra ?_)
  refine sN 1 1 [(2, .bool false)] hE fun a hE => ?_
  refine ae ?_
  refine wpIn_ret ?_
  obtain rfl := si hf
  refine ret_ ?_
  refine rT 2 (.bool false) hE ?_
  have hS := hS.p .n
  exact ⟨_, rfl, D4, rfl, hS⟩
 replace hf := cf hb hf
 refine wpIn_skip ?_
 refine sq ?_
 obtain ⟨j8, hj8, hf⟩ := jn_elim hf
 refine seq_join (fun a w => ∃ (y8 : Bool), ∃ D2, Env a 251 [] [(1, .pointer (some ⟨b1, 0, none⟩)), (3, .pointer (some ⟨b2, 0, none⟩)), (4, .bool ((decide (x1.fKind = (1 : Int))))), (169, .bool (y8))] ∧ Stp g w0 D0 [] w D2 [bx b1 40 (c_T_api_Rec (x1) A2 c3 A5 c6), bx b2 23 (acells .u8 32 ((Vector.replicate 32 (0 : Int))))] ∧ Snap.le D4 D2 ∧ j8 y8 = some r) ?_ ?_
 ·clear hj8
  refine ra ?_
  refine sN 3 3 [(155, .bool ((!(decide (x1.fKind = (3 : Int))))))] hE fun a hE => ?_
  refine bo ((!(decide (x1.fKind = (3 : Int))))) (fun hb => ?_) fun hb => ?_
  ·replace hf := cf hb hf
   have hE := hE.know (t := 155) rfl hb
   refine sN 14 17 [(169, .bool false)] hE fun a hE => ?_
   exact ae ⟨false, D4, hE.wk, hS, lr, hf⟩
  replace hf := ct hb hf
  have hE := hE.know (t := 155) rfl hb
  refine sM 5 8 [0] [(160, .bool ((!decide (x1.fKind = (6 : Int)))))] hE hS fun a hE => ?_
  refine bo ((!decide (x1.fKind = (6 : Int)))) (fun hb => ?_) fun hb => ?_
  ·replace hf := cf hb hf
   have hE := hE.know (t := 160) rfl hb
   refine sN 9 17 [(169, .bool false)] hE fun a hE => ?_
   exact ae ⟨false, D4, hE.wk, hS, lr, hf⟩
  replace hf := ct hb hf
  have hE := hE.know (t := 160) rfl hb
  refine sM 4 12 [0] [(164, .bool ((!decide (x1.fPart = (0 : Int)))))] hE hS fun a hE => ?_
  refine bo ((!decide (x1.fPart = (0 : Int)))) (fun hb => ?_) fun hb => ?_
  ·replace hf := cf hb hf
   have hE := hE.know (t := 164) rfl hb
   refine sM 5 17 [0] [(169, .bool ((!decide (x1.fEpoch = (0 : Int)))))] hE hS fun a hE => ?_
   exact ae ⟨(!decide (x1.fEpoch = (0 : Int))), D4, hE.wk, hS, lr, hf⟩
  replace hf := ct hb hf
  have hE := hE.know (t := 164) rfl hb
  refine sN 5 17 [(169, .bool true)] hE fun a hE => ?_
  exact ae ⟨true, D4, hE.wk, hS, lr, hf⟩
 clear hE hS
 rintro a w ⟨y8, D2, hE, hS, le20, hf⟩
 replace hf := hj8 _ hf
 clear hj8
 refine cond_split hE (b := y8) rfl (fun hb => ?_) (fun hb => ?_)
 ·replace hf := ct hb hf
  refine sq (ra ?_)
  refine sN 1 1 [(2, .bool false)] hE fun a hE => ?_
  refine ae ?_
  refine wpIn_ret ?_
  obtain rfl := si hf
  refine ret_ ?_
  refine rT 2 (.bool false) hE ?_
  have hS := hS.p .n
  exact ⟨_, rfl, D2, rfl, hS⟩
 replace hf := cf hb hf
 refine wpIn_skip ?_
 refine sq (sq (ra ?_))
 refine sN 2 2 [(171, .bool ((!(decide (x1.fKind = (1 : Int))))))] hE fun a hE => ?_
 refine ae ?_
 refine cond_split hE (b := (!(decide (x1.fKind = (1 : Int))))) rfl (fun hb => ?_) (fun hb => ?_)
 ·replace hf := ct hb hf
  obtain ⟨j9, hj9, hf⟩ := jn_elim hf
  refine seq_join (fun a w => ∃ (y9 : Bool), ∃ D14, Env a 251 [] [(2, .bool (y9))] ∧ Stp g w0 D0 [] w D14 [] ∧ Snap.le D2 D14 ∧ j9 y9 = some r) ?_ ?_
  ·clear hj9
   refine ra ?_
   refine sM 5 5 [0] [(176, .bool ((decide (((List.length (x1.fSteps) : Nat) : Int) = (0 : Int)))))] hE hS fun a hE => ?_
   refine bo ((decide (((List.length (x1.fSteps) : Nat) : Int) = (0 : Int)))) (fun hb => ?_) fun hb => ?_
   ·replace hf := cf hb hf
    have hE := hE.know (t := 176) rfl hb
    refine sN 23 28 [(2, .bool false)] hE fun a hE => ?_
    refine ae ?_
    have hS := hS.p .n
    exact ⟨false, D2, hE.wk, hS, lr, hf⟩
   replace hf := ct hb hf
   have hE := hE.know (t := 176) rfl hb
   refine sM 6 11 [0] [(182, .bool ((decide (((List.length (x1.fData) : Nat) : Int) = (0 : Int)))))] hE hS fun a hE => ?_
   refine bo ((decide (((List.length (x1.fData) : Nat) : Int) = (0 : Int)))) (fun hb => ?_) fun hb => ?_
   ·replace hf := cf hb hf
    have hE := hE.know (t := 182) rfl hb
    refine sN 17 28 [(2, .bool false)] hE fun a hE => ?_
    refine ae ?_
    have hS := hS.p .n
    exact ⟨false, D2, hE.wk, hS, lr, hf⟩
   replace hf := ct hb hf
   have hE := hE.know (t := 182) rfl hb
   refine sM 3 14 [0, 1] [(184, .agg (List.toArray (acells .u8 32 (x1.fSalt)))), (185, .agg (List.toArray (acells .u8 32 ((Vector.replicate 32 (0 : Int))))))] hE hS fun a hE => ?_
   refine at_op (op_tk hE (tk_bin (r := .bool ((decide (x1.fSalt = (Vector.replicate 32 (0 : Int)))))) rfl rfl rfl rfl hE rfl rfl rfl (eqagg_run (by kernel_rfl) (EqR_arr (k := .u8) (N := 32) (by kernel_rfl))) (fun a hE => ?_))) rfl
   refine sN 2 17 [(188, .bool ((decide (x1.fSalt = (Vector.replicate 32 (0 : Int))))))] hE fun a hE => ?_
   refine bo ((decide (x1.fSalt = (Vector.replicate 32 (0 : Int))))) (fun hb => ?_) fun hb => ?_
   ·replace hf := cf hb hf
    have hE := hE.know (t := 188) rfl hb
    refine sN 11 28 [(2, .bool false)] hE fun a hE => ?_
    refine ae ?_
    have hS := hS.p .n
    exact ⟨false, D2, hE.wk, hS, lr, hf⟩
   replace hf := ct hb hf
   have hE := hE.know (t := 188) rfl hb
   refine sM 5 22 [0] [(193, .bool ((!x1.fGone)))] hE hS fun a hE => ?_
   refine bo ((!x1.fGone)) (fun hb => ?_) fun hb => ?_
   ·replace hf := cf hb hf
    have hE := hE.know (t := 193) rfl hb
    refine sN 6 28 [(2, .bool false)] hE fun a hE => ?_
    refine ae ?_
    have hS := hS.p .n
    exact ⟨false, D2, hE.wk, hS, lr, hf⟩
   replace hf := ct hb hf
   have hE := hE.know (t := 193) rfl hb
   refine sM 3 25 [0, 1] [(195, .agg (List.toArray (acells .u8 32 (x1.fCom)))), (196, .agg (List.toArray (acells .u8 32 ((Vector.replicate 32 (0 : Int))))))] hE hS fun a hE => ?_
   refine at_op (op_tk hE (tk_bin (r := .bool ((decide (x1.fCom = (Vector.replicate 32 (0 : Int)))))) rfl rfl rfl rfl hE rfl rfl rfl (eqagg_run (by kernel_rfl) (EqR_arr (k := .u8) (N := 32) (by kernel_rfl))) (fun a hE => ?_))) rfl
   refine sN 2 28 [(2, .bool ((decide (x1.fCom = (Vector.replicate 32 (0 : Int))))))] hE fun a hE => ?_
   refine ae ?_
   have hS := hS.p .n
   exact ⟨(decide (x1.fCom = (Vector.replicate 32 (0 : Int)))), D2, hE.wk, hS, lr, hf⟩
  clear hE hS
  rintro a w ⟨y9, D14, hE, hS, le27, hf⟩
  replace hf := hj9 _ hf
  clear hj9
  refine wpIn_ret ?_
  obtain rfl := si hf
  refine ret_ ?_
  refine rT 2 (.bool (y9)) hE ?_
  exact ⟨_, rfl, D14, rfl, hS⟩
 replace hf := cf hb hf
 refine wpIn_skip ?_
 refine sq (sq (ra ?_))
 refine sN 1 1 [(7, .int .i64 ((0 : Int)))] hE fun a hE => ?_
 refine ae ?_
 obtain ⟨s1, hf, hs1⟩ := bs hf
 refine block_loop (fun a w => ∃ (z1 : Unit), ∃ D15, Env a 251 [] [(1, .pointer (some ⟨b1, 0, none⟩)), (3, .pointer (some ⟨b2, 0, none⟩))] ∧ Stp g w0 D0 [] w D15 [bx b1 40 (c_T_api_Rec (x1) A2 c3 A5 c6), bx b2 23 (acells .u8 32 ((Vector.replicate 32 (0 : Int))))] ∧ Snap.le D2 D15 ∧ (Sum.inr z1) = s1) (fun k a w => ∃ (y2 : Int), ∃ D12, Env a 251 [] [(1, .pointer (some ⟨b1, 0, none⟩)), (3, .pointer (some ⟨b2, 0, none⟩)), (7, .int .i64 (y2))] ∧ Stp g w0 D0 [] w D12 [bx b1 40 (c_T_api_Rec (x1) A2 c3 A5 c6), bx b2 23 (acells .u8 32 ((Vector.replicate 32 (0 : Int))))] ∧ Snap.le D2 D12 ∧ inspeximusref04_Right_l1.l K x1 k y2 = some s1) K ?_ ?_ ?_
 ·exact ⟨(0 : Int), D2, hE.wk, hS, lr, hf⟩
 ·clear hE hS hf
  rintro a w ⟨z1, D15, hE, hS, le28, rfl⟩
  have hf := hs1
  clear hs1
  refine sq ?_
  obtain ⟨j10, hj10, hf⟩ := jn_elim hf
  refine seq_join (fun a w => ∃ (y10 : Bool), ∃ D7, Env a 251 [] [(1, .pointer (some ⟨b1, 0, none⟩)), (3, .pointer (some ⟨b2, 0, none⟩)), (234, .bool (y10))] ∧ Stp g w0 D0 [] w D7 [bx b1 40 (c_T_api_Rec (x1) A2 c3 A5 c6), bx b2 23 (acells .u8 32 ((Vector.replicate 32 (0 : Int))))] ∧ Snap.le D15 D7 ∧ j10 y10 = some r) ?_ ?_
  ·clear hj10
   refine ra ?_
   refine sM 3 3 [0] [(226, .int .i64 (((List.length (x1.fSteps) : Nat) : Int)))] hE hS fun a hE => ?_
   obtain ⟨r13, h15, hf⟩ := bs hf
   refine aC rfl rfl rfl rfl hE rfl rfl rfl rfl (inspeximusref04_in.calls h15 (hS.st.fore (L := [])) ) fun a v w hR hE => ?_
   obtain ⟨D21, rfl, hS1⟩ := hR
   have le21 := hS1.dle
   have hS := hS.callR hS1 rfl .n
   refine sN 2 6 [(229, .bool ((!r13)))] hE fun a hE => ?_
   refine bo ((!r13)) (fun hb => ?_) fun hb => ?_
   ·replace hf := cf hb hf
    have hE := hE.know (t := 229) rfl hb
    refine sM 5 11 [0] [(234, .bool ((decide ((60 : Int) < ((List.length (x1.fData) : Nat) : Int)))))] hE hS fun a hE => ?_
    exact ae ⟨(decide ((60 : Int) < ((List.length (x1.fData) : Nat) : Int))), D21, hE.wk, hS, le21, hf⟩
   replace hf := ct hb hf
   have hE := hE.know (t := 229) rfl hb
   refine sN 5 11 [(234, .bool true)] hE fun a hE => ?_
   exact ae ⟨true, D21, hE.wk, hS, le21, hf⟩
  clear hE hS
  rintro a w ⟨y10, D7, hE, hS, le29, hf⟩
  replace hf := hj10 _ hf
  clear hj10
  refine cond_split hE (b := y10) rfl (fun hb => ?_) (fun hb => ?_)
  ·replace hf := ct hb hf
   refine sq (ra ?_)
   refine sN 1 1 [(2, .bool false)] hE fun a hE => ?_
   refine ae ?_
   refine wpIn_ret ?_
   obtain rfl := si hf
   refine ret_ ?_
   refine rT 2 (.bool false) hE ?_
   have hS := hS.p .n
   exact ⟨_, rfl, D7, rfl, hS⟩
  replace hf := cf hb hf
  refine wpIn_skip ?_
  refine sq (sq (ra ?_))
  refine sM 2 2 [0] [(236, .bool (x1.fGone))] hE hS fun a hE => ?_
  refine ae ?_
  refine cond_split hE (b := x1.fGone) rfl (fun hb => ?_) (fun hb => ?_)
  ·replace hf := ct hb hf
   refine sq (ra ?_)
   refine sM 5 5 [0] [(241, .bool ((decide (((List.length (x1.fData) : Nat) : Int) = (0 : Int)))))] hE hS fun a hE => ?_
   refine bo ((decide (((List.length (x1.fData) : Nat) : Int) = (0 : Int)))) (fun hb => ?_) fun hb => ?_
   ·replace hf := cf hb hf
    have hE := hE.know (t := 241) rfl hb
    refine sN 6 11 [(2, .bool false)] hE fun a hE => ?_
    refine ae ?_
    refine wpIn_ret ?_
    obtain rfl := si hf
    refine ret_ ?_
    refine rT 2 (.bool false) hE ?_
    have hS := hS.p .n
    exact ⟨_, rfl, D7, rfl, hS⟩
   replace hf := ct hb hf
   have hE := hE.know (t := 241) rfl hb
   refine sM 3 8 [0, 1] [(243, .agg (List.toArray (acells .u8 32 (x1.fSalt)))), (244, .agg (List.toArray (acells .u8 32 ((Vector.replicate 32 (0 : Int))))))] hE hS fun a hE => ?_
   refine at_op (op_tk hE (tk_bin (r := .bool ((decide (x1.fSalt = (Vector.replicate 32 (0 : Int)))))) rfl rfl rfl rfl hE rfl rfl rfl (eqagg_run (by kernel_rfl) (EqR_arr (k := .u8) (N := 32) (by kernel_rfl))) (fun a hE => ?_))) rfl
   refine sN 2 11 [(2, .bool ((decide (x1.fSalt = (Vector.replicate 32 (0 : Int))))))] hE fun a hE => ?_
   refine ae ?_
   refine wpIn_ret ?_
   obtain rfl := si hf
   refine ret_ ?_
   refine rT 2 (.bool ((decide (x1.fSalt = (Vector.replicate 32 (0 : Int)))))) hE ?_
   have hS := hS.p .n
   exact ⟨_, rfl, D7, rfl, hS⟩
  replace hf := cf hb hf
  refine wpIn_skip ?_
  refine sq (ra ?_)
  refine sM 3 3 [0, 1] [(248, .agg (List.toArray (acells .u8 32 (x1.fCom)))), (249, .agg (List.toArray (acells .u8 32 ((Vector.replicate 32 (0 : Int))))))] hE hS fun a hE => ?_
  refine at_op (op_tk hE (tk_bin (r := .bool ((decide (x1.fCom = (Vector.replicate 32 (0 : Int)))))) rfl rfl rfl rfl hE rfl rfl rfl (eqagg_run (by kernel_rfl) (EqR_arr (k := .u8) (N := 32) (by kernel_rfl))) (fun a hE => ?_))) rfl
  refine sN 1 5 [(2, .bool ((decide (x1.fCom = (Vector.replicate 32 (0 : Int))))))] hE fun a hE => ?_
  refine ae ?_
  refine wpIn_ret ?_
  obtain rfl := si hf
  refine ret_ ?_
  refine rT 2 (.bool ((decide (x1.fCom = (Vector.replicate 32 (0 : Int)))))) hE ?_
  have hS := hS.p .n
  exact ⟨_, rfl, D7, rfl, hS⟩
 clear hE hS hf
 rintro k a w ⟨y2, D12, hE, hS, le6, hf⟩
 obtain ⟨k, rfl, hf⟩ := inspeximusref04_Right_l1.some _ hf
 refine ⟨k, rfl, ?_⟩
 unfold inspeximusref04_Right_l1.b at hf
 refine sq (sq (ra ?_))
 refine sM 5 5 [0] [(203, .bool ((decide (y2 < ((List.length (x1.fSteps) : Nat) : Int)))))] hE hS fun a hE => ?_
 refine ae ?_
 refine cond_split hE (b := (decide (y2 < ((List.length (x1.fSteps) : Nat) : Int)))) rfl (fun hb => ?_) (fun hb => ?_)
 ·replace hf := ct hb hf
  refine wpIn_skip ?_
  refine sq ?_
  refine wpIn_block ?_
  obtain ⟨j11, hj11, hf⟩ := jn_elim hf
  refine seq_join (fun a w => ∃ (y11 : Bool), ∃ D13, Env a 251 [] [(1, .pointer (some ⟨b1, 0, none⟩)), (3, .pointer (some ⟨b2, 0, none⟩)), (7, .int .i64 (y2)), (223, .bool (y11))] ∧ Stp g w0 D0 [] w D13 [bx b1 40 (c_T_api_Rec (x1) A2 c3 A5 c6), bx b2 23 (acells .u8 32 ((Vector.replicate 32 (0 : Int))))] ∧ Snap.le D12 D13 ∧ j11 y11 = some s1) ?_ ?_
  ·clear hj11
   refine ra ?_
   refine sM 3 3 [0] [(207, .slice A2 (List.length (x1.fSteps)) c3), (208, .int .i64 (y2))] hE hS fun a hE => ?_
   obtain ⟨x2, h16, hf⟩ := bs hf
   refine at_op (op_tk hE (g_index (K := kd_T_api_Step) (e := 85) (by_ := 16) (zl := 2) rfl rfl rfl rfl hE rfl rfl rfl (by kernel_rfl) rfl (h4.mono (le2 (le2 (le2 (le2 (le2 (le2 (le2 le11 le12) le14) le15) le16) le19) le20) le6)) h16 (fun a b3 o1 hE h17 => ?_))) rfl
   refine at_op (op_tk hE (g_fieldAddr (fo := 0) (ft := 3) (o1 + 0) rfl rfl rfl rfl hE rfl rfl (by kernel_rfl) rfl (fun a hE => ?_))) rfl
   obtain ⟨cs1, C1, T1, fr1, hr1, hb1, hc1⟩ := id h17
   obtain ⟨rfl⟩ := kd_T_api_Step_el hr1
   refine at_op (op_tk hE (tk_loadX (off0 := o1) (off := 0) (c := c_T_api_Step (x2)) (.int .i64 (x2.fPart)) rfl rfl rfl rfl hE rfl hS rfl hb1 hc1 (by kernel_rfl) (by kernel_rfl) (kD hS dn_nil) (fun a hE => ?_))) rfl
   obtain ⟨r14, h18, hf⟩ := bs hf
   refine aC rfl rfl rfl rfl hE rfl rfl rfl rfl (inspeximusref04_in.calls h18 (hS.st.fore (L := [])) ) fun a v w hR hE => ?_
   obtain ⟨D28, rfl, hS1⟩ := hR
   have le10 := hS1.dle
   have hS := hS.callR hS1 rfl .n
   refine sN 2 9 [(214, .bool ((!r14)))] hE fun a hE => ?_
   refine bo ((!r14)) (fun hb => ?_) fun hb => ?_
   ·replace hf := cf hb hf
    have hE := hE.know (t := 214) rfl hb
    refine sM 3 12 [0] [(216, .slice A2 (List.length (x1.fSteps)) c3), (217, .int .i64 (y2))] hE hS fun a hE => ?_
    obtain ⟨x3, h19, hf⟩ := bs hf
    refine at_op (op_tk hE (g_index (K := kd_T_api_Step) (e := 85) (by_ := 16) (zl := 2) rfl rfl rfl rfl hE rfl rfl rfl (by kernel_rfl) rfl (h4.mono (le2 (le2 (le2 (le2 (le2 (le2 (le2 (le2 le11 le12) le14) le15) le16) le19) le20) le6) le10)) h19 (fun a b4 o2 hE h20 => ?_))) rfl
    refine at_op (op_tk hE (g_fieldAddr (fo := 1) (ft := 3) (o2 + 1) rfl rfl rfl rfl hE rfl rfl (by kernel_rfl) rfl (fun a hE => ?_))) rfl
    obtain ⟨cs2, C2, T2, fr2, hr2, hb2, hc2⟩ := id h20
    obtain ⟨rfl⟩ := kd_T_api_Step_el hr2
    refine at_op (op_tk hE (tk_loadX (off0 := o2) (off := 1) (c := c_T_api_Step (x3)) (.int .i64 (x3.fKind)) rfl rfl rfl rfl hE rfl hS rfl hb2 hc2 (by kernel_rfl) (by kernel_rfl) (kD hS dn_nil) (fun a hE => ?_))) rfl
    obtain ⟨r15, h21, hf⟩ := bs hf
    refine aC rfl rfl rfl rfl hE rfl rfl rfl rfl (inspeximusref04_in.calls h21 (hS.st.fore (L := [])) ) fun a v w hR hE => ?_
    obtain ⟨D29, rfl, hS1⟩ := hR
    have le25 := hS1.dle
    have hS := hS.callR hS1 rfl .n
    refine sN 2 18 [(223, .bool ((!r15)))] hE fun a hE => ?_
    exact ae ⟨(!r15), D29, hE.wk, hS, (le2 le10 le25), hf⟩
   replace hf := ct hb hf
   have hE := hE.know (t := 214) rfl hb
   refine sN 9 18 [(223, .bool true)] hE fun a hE => ?_
   exact ae ⟨true, D28, hE.wk, hS, le10, hf⟩
  clear hE hS
  rintro a w ⟨y11, D13, hE, hS, le26, hf⟩
  replace hf := hj11 _ hf
  clear hj11
  refine cond_split hE (b := y11) rfl (fun hb => ?_) (fun hb => ?_)
  ·replace hf := ct hb hf
   refine sq (ra ?_)
   refine sN 1 1 [(2, .bool false)] hE fun a hE => ?_
   refine ae ?_
   refine wpIn_ret ?_
   obtain rfl := si hf
   replace hf := hs1
   obtain rfl := si hf
   refine ret_ ?_
   refine rT 2 (.bool false) hE ?_
   have hS := hS.p .n
   exact ⟨_, rfl, D13, rfl, hS⟩
  replace hf := cf hb hf
  refine wpIn_skip ?_
  refine ra ?_
  refine sN 3 3 [(7, .int .i64 ((IntKind.wrap .i64 (y2 + (1 : Int)))))] hE fun a hE => ?_
  exact ae ⟨(IntKind.wrap .i64 (y2 + (1 : Int))), D13, hE.wk, hS, (le2 le6 le26), hf⟩
 replace hf := cf hb hf
 refine wpIn_exit ?_
 obtain rfl := si hf
 exact ⟨(), D12, hE.wk, hS, le6, rfl⟩
set_option maxRecDepth 100000 in
theorem inspeximusref17_Right.calls {K : Nat} {g w0 : World} {D0 : Snap} {x1 : T_api_Bundle} {A2 : Option Addr} {c3 : Nat} {A5 : Option Addr} {c6 : Nat} {r : (Bool)} (hf : inspeximusref17_Right.f K x1 = some r) (hS0 : St g w0 D0 []) (h4 : Sl kd_T_api_Sig D0 A2 c3 (x1.fPoint.fSigs)) (h7 : Sl kd_T_api_Item D0 A5 c6 (x1.fItems)) :
  CallsIn (Fw none) 0 Tryz.prog 7 (List.toArray [.agg (List.toArray (c_T_api_Bundle (x1) A2 c3 A5 c6))]) w0 (fun e w' => ∃ v, e = .returned v ∧ ∃ D1, v = .bool (r) ∧ Stp g w0 D0 [] w' D1 []) := by
 unfold inspeximusref17_Right.f at hf
 have hS := Stp.refl hS0
 clear hS0
 refine calls_body (n := 128) Tryz.func7 rfl Tryz.ntmps7 rfl fun a hE => ?_
 have hE : Env a 128 [] [(0, .agg (List.toArray (c_T_api_Bundle (x1) A2 c3 A5 c6)))] := hE
 refine sq (ra ?_)
 refine at_op (op_box rfl rfl rfl rfl hE rfl hS rfl (fun a b1 w _ hE hS => ?_)) rfl
 refine sN 1 2 [(2, .bool false)] hE fun a hE => ?_
 refine ae ?_
 refine sq (ra ?_)
 refine sM 2 2 [0] [(8, .agg (List.toArray (c_T_api_Point (x1.fPoint) A2 c3)))] hE hS fun a hE => ?_
 refine at_op (op_alloc (z := .agg (List.toArray (c_T_api_Point (z_T_api_Point) none 0))) rfl rfl rfl rfl hE rfl hS (by kernel_rfl) (fun a b2 w _ hE hS => ?_)) rfl
 refine at_op (op_store (v := .agg (List.toArray (c_T_api_Point (x1.fPoint) A2 c3))) (c_T_api_Point (x1.fPoint) A2 c3) rfl rfl rfl rfl hE hS rfl rfl (by kernel_rfl) (by kernel_rfl) (by kernel_rfl) (by kernel_rfl) (by kernel_rfl) (fun a w _ hE hS => ?_)) rfl
 refine ae ?_
 refine sq ?_
 obtain ⟨j1, hj1, hf⟩ := jn_elim hf
 refine seq_join (fun a w => ∃ (y3 : Bool), ∃ D3, Env a 128 [] [(1, .pointer (some ⟨b1, 0, none⟩)), (3, .pointer (some ⟨b2, 0, none⟩)), (30, .bool (y3))] ∧ Stp g w0 D0 [] w D3 [bx b1 29 (c_T_api_Bundle (x1) A2 c3 A5 c6), bx b2 26 (c_T_api_Point (x1.fPoint) A2 c3)] ∧ Snap.le D0 D3 ∧ j1 y3 = some r) ?_ ?_
 ·clear hj1
  refine ra ?_
  refine sM 4 4 [0] [(12, .bool ((decide (x1.fPoint.fSize < (0 : Int)))))] hE hS fun a hE => ?_
  refine bo ((decide (x1.fPoint.fSize < (0 : Int)))) (fun hb => ?_) fun hb => ?_
  ·replace hf := cf hb hf
   have hE := hE.know (t := 12) rfl hb
   refine sM 5 9 [0] [(17, .bool ((decide ((400 : Int) < x1.fPoint.fSize))))] hE hS fun a hE => ?_
   refine bo ((decide ((400 : Int) < x1.fPoint.fSize))) (fun hb => ?_) fun hb => ?_
   ·replace hf := cf hb hf
    have hE := hE.know (t := 17) rfl hb
    refine sM 6 15 [0] [(23, .bool ((decide ((4 : Int) < ((List.length (x1.fPoint.fSigs) : Nat) : Int)))))] hE hS fun a hE => ?_
    refine bo ((decide ((4 : Int) < ((List.length (x1.fPoint.fSigs) : Nat) : Int)))) (fun hb => ?_) fun hb => ?_
    ·replace hf := cf hb hf
     have hE := hE.know (t := 23) rfl hb
     refine sM 7 22 [1, 0] [(30, .bool ((decide (x1.fPoint.fSize < ((List.length (x1.fItems) : Nat) : Int)))))] hE hS fun a hE => ?_
     refine ae ?_
     have hS := hS.p (.d 1 (.d 0 .n))
     exact ⟨(decide (x1.fPoint.fSize < ((List.length (x1.fItems) : Nat) : Int))), D0, hE.wk, hS, lr, hf⟩
    replace hf := ct hb hf
    have hE := hE.know (t := 23) rfl hb
    refine sN 7 22 [(30, .bool true)] hE fun a hE => ?_
    refine ae ?_
    have hS := hS.p (.d 1 (.d 0 .n))
    exact ⟨true, D0, hE.wk, hS, lr, hf⟩
   replace hf := ct hb hf
   have hE := hE.know (t := 17) rfl hb
   refine sN 13 22 [(30, .bool true)] hE fun a hE => ?_
   refine ae ?_
   have hS := hS.p (.d 1 (.d 0 .n))
   exact ⟨true, D0, hE.wk, hS, lr, hf⟩
  replace hf := ct hb hf
  have hE := hE.know (t := 12) rfl hb
  refine sN 18 22 [(30, .bool true)] hE fun a hE => ?_
  refine ae ?_
  have hS := hS.p (.d 1 (.d 0 .n))
  exact ⟨true, D0, hE.wk, hS, lr, hf⟩
 clear hE hS
 rintro a w ⟨y3, D3, hE, hS, le3, hf⟩
 replace hf := hj1 _ hf
 clear hj1
 refine cond_split hE (b := y3) rfl (fun hb => ?_) (fun hb => ?_)
 ·replace hf := ct hb hf
  refine sq (ra ?_)
  refine sN 1 1 [(2, .bool false)] hE fun a hE => ?_
  refine ae ?_
  refine wpIn_ret ?_
  obtain rfl := si hf
  refine ret_ ?_
  refine rT 2 (.bool false) hE ?_
  have hS := hS.p .n
  exact ⟨_, rfl, D3, rfl, hS⟩
 replace hf := cf hb hf
 refine wpIn_skip ?_
 refine sq (sq (ra ?_))
 refine sN 1 1 [(4, .int .i64 ((0 : Int)))] hE fun a hE => ?_
 refine ae ?_
 obtain ⟨s2, hf, hs2⟩ := bs hf
 refine block_loop (fun a w => ∃ (z1 : Unit), ∃ D6, Env a 128 [] [(1, .pointer (some ⟨b1, 0, none⟩)), (3, .pointer (some ⟨b2, 0, none⟩))] ∧ Stp g w0 D0 [] w D6 [bx b1 29 (c_T_api_Bundle (x1) A2 c3 A5 c6), bx b2 26 (c_T_api_Point (x1.fPoint) A2 c3)] ∧ Snap.le D3 D6 ∧ (Sum.inr z1) = s2) (fun k a w => ∃ (y2 : Int), ∃ D4, Env a 128 [] [(1, .pointer (some ⟨b1, 0, none⟩)), (3, .pointer (some ⟨b2, 0, none⟩)), (4, .int .i64 (y2))] ∧ Stp g w0 D0 [] w D4 [bx b1 29 (c_T_api_Bundle (x1) A2 c3 A5 c6), bx b2 26 (c_T_api_Point (x1.fPoint) A2 c3)] ∧ Snap.le D3 D4 ∧ inspeximusref17_Right_l1.l K x1 k y2 = some s2) K ?_ ?_ ?_
 ·exact ⟨(0 : Int), D3, hE.wk, hS, lr, hf⟩
 ·clear hE hS hf
  rintro a w ⟨z1, D6, hE, hS, le6, rfl⟩
  have hf := hs2
  clear hs2
  refine sq ?_
  obtain ⟨j2, hj2, hf⟩ := jn_elim hf
  refine seq_join (fun a w => ∃ (y4 : Bool), ∃ D5, Env a 128 [] [(1, .pointer (some ⟨b1, 0, none⟩)), (3, .pointer (some ⟨b2, 0, none⟩)), (63, .bool (y4))] ∧ Stp g w0 D0 [] w D5 [bx b1 29 (c_T_api_Bundle (x1) A2 c3 A5 c6), bx b2 26 (c_T_api_Point (x1.fPoint) A2 c3)] ∧ Snap.le D6 D5 ∧ j2 y4 = some r) ?_ ?_
  ·clear hj2
   refine ra ?_
   refine sM 3 3 [0] [(56, .bool (x1.fWhole))] hE hS fun a hE => ?_
   refine bo (x1.fWhole) (fun hb => ?_) fun hb => ?_
   ·replace hf := cf hb hf
    have hE := hE.know (t := 56) rfl hb
    refine sN 7 10 [(63, .bool false)] hE fun a hE => ?_
    exact ae ⟨false, D6, hE.wk, hS, lr, hf⟩
   replace hf := ct hb hf
   have hE := hE.know (t := 56) rfl hb
   refine sM 7 10 [0, 1] [(63, .bool ((!decide (((List.length (x1.fItems) : Nat) : Int) = x1.fPoint.fSize))))] hE hS fun a hE => ?_
   exact ae ⟨(!decide (((List.length (x1.fItems) : Nat) : Int) = x1.fPoint.fSize)), D6, hE.wk, hS, lr, hf⟩
  clear hE hS
  rintro a w ⟨y4, D5, hE, hS, le7, hf⟩
  replace hf := hj2 _ hf
  clear hj2
  refine cond_split hE (b := y4) rfl (fun hb => ?_) (fun hb => ?_)
  ·replace hf := ct hb hf
   refine sq (ra ?_)
   refine sN 1 1 [(2, .bool false)] hE fun a hE => ?_
   refine ae ?_
   refine wpIn_ret ?_
   obtain rfl := si hf
   refine ret_ ?_
   refine rT 2 (.bool false) hE ?_
   have hS := hS.p .n
   exact ⟨_, rfl, D5, rfl, hS⟩
  replace hf := cf hb hf
  refine wpIn_skip ?_
  refine sq (sq (ra ?_))
  refine sN 1 1 [(5, .int .i64 ((0 : Int)))] hE fun a hE => ?_
  refine ae ?_
  obtain ⟨s1, hf, hs1⟩ := bs hf
  refine block_loop (fun a w => ∃ (z2 : Unit), ∃ D11, Env a 128 [] [] ∧ Stp g w0 D0 [] w D11 [] ∧ Snap.le D5 D11 ∧ (Sum.inr z2) = s1) (fun k a w => ∃ (y1 : Int), ∃ D8, Env a 128 [] [(1, .pointer (some ⟨b1, 0, none⟩)), (3, .pointer (some ⟨b2, 0, none⟩)), (5, .int .i64 (y1))] ∧ Stp g w0 D0 [] w D8 [bx b1 29 (c_T_api_Bundle (x1) A2 c3 A5 c6), bx b2 26 (c_T_api_Point (x1.fPoint) A2 c3)] ∧ Snap.le D5 D8 ∧ inspeximusref17_Right_l2.l K x1 k y1 = some s1) K ?_ ?_ ?_
  ·exact ⟨(0 : Int), D5, hE.wk, hS, lr, hf⟩
  ·clear hE hS hf
   rintro a w ⟨z2, D11, hE, hS, le11, rfl⟩
   have hf := hs1
   clear hs1
   refine sq (ra ?_)
   refine sN 1 1 [(2, .bool true)] hE fun a hE => ?_
   refine ae ?_
   refine wpIn_ret ?_
   obtain rfl := si hf
   refine ret_ ?_
   refine rT 2 (.bool true) hE ?_
   exact ⟨_, rfl, D11, rfl, hS⟩
  clear hE hS hf
  rintro k a w ⟨y1, D8, hE, hS, le4, hf⟩
  obtain ⟨k, rfl, hf⟩ := inspeximusref17_Right_l2.some _ hf
  refine ⟨k, rfl, ?_⟩
  unfold inspeximusref17_Right_l2.b at hf
  refine sq (sq (ra ?_))
  refine sM 5 5 [0] [(68, .bool ((decide (y1 < ((List.length (x1.fItems) : Nat) : Int)))))] hE hS fun a hE => ?_
  refine ae ?_
  refine cond_split hE (b := (decide (y1 < ((List.length (x1.fItems) : Nat) : Int)))) rfl (fun hb => ?_) (fun hb => ?_)
  ·replace hf := ct hb hf
   refine wpIn_skip ?_
   refine sq ?_
   refine wpIn_block ?_
   refine sq (ra ?_)
   refine sM 3 3 [0] [(72, .slice A5 (List.length (x1.fItems)) c6), (73, .int .i64 (y1))] hE hS fun a hE => ?_
   obtain ⟨x2, h1, hf⟩ := bs hf
   refine at_op (op_tk hE (g_index (K := kd_T_api_Item) (e := 43) (by_ := 256) (zl := 111) rfl rfl rfl rfl hE rfl rfl rfl (by kernel_rfl) rfl (h7.mono (le2 (le2 (le2 le3 le6) le7) le4)) h1 (fun a b4 o4 hE h2 => ?_))) rfl
   obtain ⟨cs1, C1, T1, fr1, hr1, hb1, hc1⟩ := id h2
   obtain ⟨A1, c1, A3, c2, A4, c4, rfl, h3, h5, h14⟩ := kd_T_api_Item_el hr1
   refine at_op (op_tk hE (tk_loadX (off0 := o4) (off := 0) (c := c_T_api_Item (x2) A1 c1 A3 c2 A4 c4) (.agg (List.toArray (c_T_api_Item (x2) A1 c1 A3 c2 A4 c4))) rfl rfl rfl rfl hE rfl hS rfl hb1 hc1 (by kernel_rfl) (by kernel_rfl) (kD hS dn_nil) (fun a hE => ?_))) rfl
   refine at_op (op_alloc (z := .agg (List.toArray (c_T_api_Item (z_T_api_Item) none 0 none 0 none 0))) rfl rfl rfl rfl hE rfl hS (by kernel_rfl) (fun a b3 w _ hE hS => ?_)) rfl
   refine at_op (op_store (v := .agg (List.toArray (c_T_api_Item (x2) A1 c1 A3 c2 A4 c4))) (c_T_api_Item (x2) A1 c1 A3 c2 A4 c4) rfl rfl rfl rfl hE hS rfl rfl (by kernel_rfl) (by kernel_rfl) (by kernel_rfl) (by kernel_rfl) (by kernel_rfl) (fun a w _ hE hS => ?_)) rfl
   refine ae ?_
   refine sq ?_
   obtain ⟨j3, hj3, hf⟩ := jn_elim hf
   refine seq_join (fun a w => ∃ (y5 : Bool), ∃ D2, Env a 128 [] [(1, .pointer (some ⟨b1, 0, none⟩)), (3, .pointer (some ⟨b2, 0, none⟩)), (5, .int .i64 (y1)), (6, .pointer (some ⟨b3, 0, none⟩)), (113, .bool (y5))] ∧ Stp g w0 D0 [] w D2 [bx b1 29 (c_T_api_Bundle (x1) A2 c3 A5 c6), bx b2 26 (c_T_api_Point (x1.fPoint) A2 c3), bx b3 43 (c_T_api_Item (x2) A1 c1 A3 c2 A4 c4)] ∧ Snap.le D8 D2 ∧ j3 y5 = some s1) ?_ ?_
   ·clear hj3
    refine region_draw (fun j => Keeps (mfOf [] j)) (by kernel_rfl) ?_
    have hS := hS.drew
    first | generalize w.drew = w at hS ⊢ | generalize w0.drew = w at hS ⊢
    refine wF 0 1 37 1 40 1 hE fun a hE => ?_
    refine tL 1 3 36 0 (.agg (List.toArray (c_T_api_Rec (x2.fRec) A1 c1 A3 c2))) hE hS fun a hE => ?_
    obtain ⟨r1, h6, hf⟩ := bs hf
    refine oC 2 7 35 rfl rfl rfl rfl hE rfl rfl rfl rfl (inspeximusref04_Right.calls h6 (hS.st.fore (L := [])) h3 h5) fun a v w hR hE => ?_
    obtain ⟨D7, rfl, hS1⟩ := hR
    refine ⟨(hS1.keeps.sub (M' := []) trivial).mono (fun _ h => h), ?_⟩
    have le1 := hS1.dle
    have hS := hS.callR hS1 rfl .n
    refine wP 3 15 34 (.bool ((!r1))) hE fun a hE => ?_
    refine wP 4 31 33 (.bool ((!r1))) hE fun a hE => ?_
    refine bo ((!r1)) (fun hb => ?_) fun hb => ?_
    ·replace hf := cf hb hf
     have hE := hE.know (t := 80) rfl hb
     refine wF 5 63 32 0 3 0 hE fun a hE => ?_
     refine tL 6 127 31 0 (.int .i64 (x2.fAt)) hE hS fun a hE => ?_
     refine wP 7 255 30 (.bool ((decide (x2.fAt < (0 : Int))))) hE fun a hE => ?_
     refine wP 8 511 29 (.bool ((decide (x2.fAt < (0 : Int))))) hE fun a hE => ?_
     refine wP 9 1023 28 (.bool ((decide (x2.fAt < (0 : Int))))) hE fun a hE => ?_
     refine bo ((decide (x2.fAt < (0 : Int)))) (fun hb => ?_) fun hb => ?_
     ·replace hf := cf hb hf
      have hE := hE.know (t := 85) rfl hb
      refine wF 10 2047 27 0 3 0 hE fun a hE => ?_
      refine tL 11 4095 26 0 (.int .i64 (x2.fAt)) hE hS fun a hE => ?_
      refine wF 12 8191 25 0 3 0 hE fun a hE => ?_
      refine tL 13 16383 24 2 (.int .i64 (x1.fPoint.fSize)) hE hS fun a hE => ?_
      refine wP 14 32767 23 (.bool ((decide (x1.fPoint.fSize ≤ x2.fAt)))) hE fun a hE => ?_
      refine wP 15 65535 22 (.bool ((decide (x1.fPoint.fSize ≤ x2.fAt)))) hE fun a hE => ?_
      refine wP 16 131071 21 (.bool ((decide (x1.fPoint.fSize ≤ x2.fAt)))) hE fun a hE => ?_
      refine bo ((decide (x1.fPoint.fSize ≤ x2.fAt))) (fun hb => ?_) fun hb => ?_
      ·replace hf := cf hb hf
       have hE := hE.know (t := 92) rfl hb
       refine wF 17 262143 20 110 41 110 hE fun a hE => ?_
       refine tL 18 524287 19 0 (.slice A4 (List.length (x2.fPath)) c4) hE hS fun a hE => ?_
       refine wP 19 1048575 18 (.int .i64 (((List.length (x2.fPath) : Nat) : Int))) hE fun a hE => ?_
       refine wP 20 2097151 17 (.bool ((decide ((20 : Int) < ((List.length (x2.fPath) : Nat) : Int))))) hE fun a hE => ?_
       refine wP 21 4194303 16 (.bool ((decide ((20 : Int) < ((List.length (x2.fPath) : Nat) : Int))))) hE fun a hE => ?_
       refine wP 22 8388607 15 (.bool ((decide ((20 : Int) < ((List.length (x2.fPath) : Nat) : Int))))) hE fun a hE => ?_
       refine bo ((decide ((20 : Int) < ((List.length (x2.fPath) : Nat) : Int)))) (fun hb => ?_) fun hb => ?_
       ·replace hf := cf hb hf
        have hE := hE.know (t := 98) rfl hb
        refine wP 23 16777215 14 (.int .i64 (y1)) hE fun a hE => ?_
        refine wP 24 33554431 13 (.bool ((decide ((0 : Int) < y1)))) hE fun a hE => ?_
        refine wP 25 67108863 12 (.bool ((decide ((0 : Int) < y1)))) hE fun a hE => ?_
        refine bo ((decide ((0 : Int) < y1))) (fun hb => ?_) fun hb => ?_
        ·replace hf := cf hb hf
         have hE := hE.know (t := 101) rfl hb
         refine wS 26 134217727 11 hE fun a hE => ?_
         refine wS 27 268435455 10 hE fun a hE => ?_
         refine wS 28 536870911 9 hE fun a hE => ?_
         refine wS 29 1073741823 8 hE fun a hE => ?_
         refine wS 30 2147483647 7 hE fun a hE => ?_
         refine wS 31 4294967295 6 hE fun a hE => ?_
         refine wS 32 8589934591 5 hE fun a hE => ?_
         refine wS 33 17179869183 4 hE fun a hE => ?_
         refine wS 34 34359738367 3 hE fun a hE => ?_
         refine wS 35 68719476735 2 hE fun a hE => ?_
         refine wP 36 137438953471 1 (.bool false) hE fun a hE => ?_
         refine wP 37 274877906943 0 (.bool false) hE fun a hE => ?_
         refine doneG (by kernel_rfl) ?_
         have hS := hS.p (.d 1 (.d 2 (.d 0 .n)))
         exact ⟨false, D7, hE.wk, hS, le1, hf⟩
        replace hf := ct hb hf
        have hE := hE.know (t := 101) rfl hb
        refine wP 30 1140850687 11 (.int .i64 (y1)) hE fun a hE => ?_
        refine wP 31 3288334335 10 (.int .i64 ((IntKind.wrap .i64 (y1 - (1 : Int))))) hE fun a hE => ?_
        refine wF 26 3355443199 9 0 3 0 hE fun a hE => ?_
        refine tL 27 3489660927 8 0 (.int .i64 (x2.fAt)) hE hS fun a hE => ?_
        refine wF 28 3758096383 7 35 27 35 hE fun a hE => ?_
        refine tL 29 4294967295 6 1 (.slice A5 (List.length (x1.fItems)) c6) hE hS fun a hE => ?_
        obtain ⟨x3, h8, hf⟩ := bs hf
        refine tW 32 8589934591 (fuel := 5) (by kernel_rfl) hE (fun M => g_index (K := kd_T_api_Item) (e := 43) (by_ := 256) (zl := 111) rfl rfl rfl rfl hE rfl rfl rfl (by kernel_rfl) rfl (h7.mono (le2 (le2 (le2 (le2 le3 le6) le7) le4) le1)) h8 (fun a b5 o1 hE h9 => ?_))
        refine tW 33 17179869183 (fuel := 4) (by kernel_rfl) hE (fun M => g_fieldAddr (fo := 0) (ft := 3) (o1 + 0) rfl rfl rfl rfl hE rfl rfl (by kernel_rfl) rfl (fun a hE => ?_))
        obtain ⟨cs2, C2, T2, fr2, hr2, hb2, hc2⟩ := id h9
        obtain ⟨A6, c5, A7, c7, A8, c8, rfl, h15, h16, h17⟩ := kd_T_api_Item_el hr2
        refine tT 34 34359738367 (fuel := 3) (by kernel_rfl) hE (tk_loadX (off0 := o1) (off := 0) (c := c_T_api_Item (x3) A6 c5 A7 c7 A8 c8) (.int .i64 (x3.fAt)) rfl rfl rfl rfl hE rfl hS rfl hb2 hc2 (by kernel_rfl) (by kernel_rfl) (kD hS dn_nil) (fun a hE => ?_))
        refine wP 35 68719476735 2 (.bool ((decide (x2.fAt ≤ x3.fAt)))) hE fun a hE => ?_
        refine wP 36 137438953471 1 (.bool ((decide (x2.fAt ≤ x3.fAt)))) hE fun a hE => ?_
        refine wP 37 274877906943 0 (.bool ((decide (x2.fAt ≤ x3.fAt)))) hE fun a hE => ?_
        refine doneG (by kernel_rfl) ?_
        have hS := hS.p (.d 1 (.d 2 (.d 0 .n)))
        exact ⟨(decide (x2.fAt ≤ x3.fAt)), D7, hE.wk, hS, le1, hf⟩
       replace hf := ct hb hf
       have hE := hE.know (t := 98) rfl hb
       refine wS 23 16777215 14 hE fun a hE => ?_
       refine wS 24 33554431 13 hE fun a hE => ?_
       refine wS 25 67108863 12 hE fun a hE => ?_
       refine wS 26 134217727 11 hE fun a hE => ?_
       refine wS 27 268435455 10 hE fun a hE => ?_
       refine wS 28 536870911 9 hE fun a hE => ?_
       refine wS 29 1073741823 8 hE fun a hE => ?_
       refine wS 30 2147483647 7 hE fun a hE => ?_
       refine wS 31 4294967295 6 hE fun a hE => ?_
       refine wS 32 8589934591 5 hE fun a hE => ?_
       refine wS 33 17179869183 4 hE fun a hE => ?_
       refine wS 34 34359738367 3 hE fun a hE => ?_
       refine wS 35 68719476735 2 hE fun a hE => ?_
       refine wS 36 137438953471 1 hE fun a hE => ?_
       refine wP 37 274877906943 0 (.bool true) hE fun a hE => ?_
       refine doneG (by kernel_rfl) ?_
       have hS := hS.p (.d 1 (.d 2 (.d 0 .n)))
       exact ⟨true, D7, hE.wk, hS, le1, hf⟩
      replace hf := ct hb hf
      have hE := hE.know (t := 92) rfl hb
      refine wS 17 262143 20 hE fun a hE => ?_
      refine wS 18 524287 19 hE fun a hE => ?_
      refine wS 19 1048575 18 hE fun a hE => ?_
      refine wS 20 2097151 17 hE fun a hE => ?_
      refine wP 21 4194303 16 (.bool true) hE fun a hE => ?_
      refine wP 22 8388607 15 (.bool true) hE fun a hE => ?_
      refine wS 23 16777215 14 hE fun a hE => ?_
      refine wS 24 33554431 13 hE fun a hE => ?_
      refine wS 25 67108863 12 hE fun a hE => ?_
      refine wS 26 134217727 11 hE fun a hE => ?_
      refine wS 27 268435455 10 hE fun a hE => ?_
      refine wS 28 536870911 9 hE fun a hE => ?_
      refine wS 29 1073741823 8 hE fun a hE => ?_
      refine wS 30 2147483647 7 hE fun a hE => ?_
      refine wS 31 4294967295 6 hE fun a hE => ?_
      refine wS 32 8589934591 5 hE fun a hE => ?_
      refine wS 33 17179869183 4 hE fun a hE => ?_
      refine wS 34 34359738367 3 hE fun a hE => ?_
      refine wS 35 68719476735 2 hE fun a hE => ?_
      refine wS 36 137438953471 1 hE fun a hE => ?_
      refine wP 37 274877906943 0 (.bool true) hE fun a hE => ?_
      refine doneG (by kernel_rfl) ?_
      have hS := hS.p (.d 1 (.d 2 (.d 0 .n)))
      exact ⟨true, D7, hE.wk, hS, le1, hf⟩
     replace hf := ct hb hf
     have hE := hE.know (t := 85) rfl hb
     refine wS 10 2047 27 hE fun a hE => ?_
     refine wS 11 4095 26 hE fun a hE => ?_
     refine wS 12 8191 25 hE fun a hE => ?_
     refine wS 13 16383 24 hE fun a hE => ?_
     refine wS 14 32767 23 hE fun a hE => ?_
     refine wP 15 65535 22 (.bool true) hE fun a hE => ?_
     refine wP 16 131071 21 (.bool true) hE fun a hE => ?_
     refine wS 17 262143 20 hE fun a hE => ?_
     refine wS 18 524287 19 hE fun a hE => ?_
     refine wS 19 1048575 18 hE fun a hE => ?_
     refine wS 20 2097151 17 hE fun a hE => ?_
     refine wP 21 4194303 16 (.bool true) hE fun a hE => ?_
     refine wP 22 8388607 15 (.bool true) hE fun a hE => ?_
     refine wS 23 16777215 14 hE fun a hE => ?_
     refine wS 24 33554431 13 hE fun a hE => ?_
     refine wS 25 67108863 12 hE fun a hE => ?_
     refine wS 26 134217727 11 hE fun a hE => ?_
     refine wS 27 268435455 10 hE fun a hE => ?_
     refine wS 28 536870911 9 hE fun a hE => ?_
     refine wS 29 1073741823 8 hE fun a hE => ?_
     refine wS 30 2147483647 7 hE fun a hE => ?_
     refine wS 31 4294967295 6 hE fun a hE => ?_
     refine wS 32 8589934591 5 hE fun a hE => ?_
     refine wS 33 17179869183 4 hE fun a hE => ?_
     refine wS 34 34359738367 3 hE fun a hE => ?_
     refine wS 35 68719476735 2 hE fun a hE => ?_
     refine wS 36 137438953471 1 hE fun a hE => ?_
     refine wP 37 274877906943 0 (.bool true) hE fun a hE => ?_
     refine doneG (by kernel_rfl) ?_
     have hS := hS.p (.d 1 (.d 2 (.d 0 .n)))
     exact ⟨true, D7, hE.wk, hS, le1, hf⟩
    replace hf := ct hb hf
    have hE := hE.know (t := 80) rfl hb
    refine wS 5 63 32 hE fun a hE => ?_
    refine wS 6 127 31 hE fun a hE => ?_
    refine wS 7 255 30 hE fun a hE => ?_
    refine wP 8 511 29 (.bool true) hE fun a hE => ?_
    refine wP 9 1023 28 (.bool true) hE fun a hE => ?_
    refine wS 10 2047 27 hE fun a hE => ?_
    refine wS 11 4095 26 hE fun a hE => ?_
    refine wS 12 8191 25 hE fun a hE => ?_
    refine wS 13 16383 24 hE fun a hE => ?_
    refine wS 14 32767 23 hE fun a hE => ?_
    refine wP 15 65535 22 (.bool true) hE fun a hE => ?_
    refine wP 16 131071 21 (.bool true) hE fun a hE => ?_
    refine wS 17 262143 20 hE fun a hE => ?_
    refine wS 18 524287 19 hE fun a hE => ?_
    refine wS 19 1048575 18 hE fun a hE => ?_
    refine wS 20 2097151 17 hE fun a hE => ?_
    refine wP 21 4194303 16 (.bool true) hE fun a hE => ?_
    refine wP 22 8388607 15 (.bool true) hE fun a hE => ?_
    refine wS 23 16777215 14 hE fun a hE => ?_
    refine wS 24 33554431 13 hE fun a hE => ?_
    refine wS 25 67108863 12 hE fun a hE => ?_
    refine wS 26 134217727 11 hE fun a hE => ?_
    refine wS 27 268435455 10 hE fun a hE => ?_
    refine wS 28 536870911 9 hE fun a hE => ?_
    refine wS 29 1073741823 8 hE fun a hE => ?_
    refine wS 30 2147483647 7 hE fun a hE => ?_
    refine wS 31 4294967295 6 hE fun a hE => ?_
    refine wS 32 8589934591 5 hE fun a hE => ?_
    refine wS 33 17179869183 4 hE fun a hE => ?_
    refine wS 34 34359738367 3 hE fun a hE => ?_
    refine wS 35 68719476735 2 hE fun a hE => ?_
    refine wS 36 137438953471 1 hE fun a hE => ?_
    refine wP 37 274877906943 0 (.bool true) hE fun a hE => ?_
    refine doneG (by kernel_rfl) ?_
    have hS := hS.p (.d 1 (.d 2 (.d 0 .n)))
    exact ⟨true, D7, hE.wk, hS, le1, hf⟩
   clear hE hS
   rintro a w ⟨y5, D2, hE, hS, le8, hf⟩
   replace hf := hj3 _ hf
   clear hj3
   refine cond_split hE (b := y5) rfl (fun hb => ?_) (fun hb => ?_)
   ·replace hf := ct hb hf
    refine sq (ra ?_)
    refine sN 1 1 [(2, .bool false)] hE fun a hE => ?_
    refine ae ?_
    refine wpIn_ret ?_
    obtain rfl := si hf
    replace hf := hs1
    obtain rfl := si hf
    refine ret_ ?_
    refine rT 2 (.bool false) hE ?_
    have hS := hS.p .n
    exact ⟨_, rfl, D2, rfl, hS⟩
   replace hf := cf hb hf
   refine wpIn_skip ?_
   obtain ⟨j4, hj4, hf⟩ := jn_elim hf
   refine seq_join (fun a w => ∃ (y6 : Bool), ∃ D9, Env a 128 [] [(1, .pointer (some ⟨b1, 0, none⟩)), (3, .pointer (some ⟨b2, 0, none⟩)), (5, .int .i64 (y1)), (127, .bool (y6))] ∧ Stp g w0 D0 [] w D9 [bx b1 29 (c_T_api_Bundle (x1) A2 c3 A5 c6), bx b2 26 (c_T_api_Point (x1.fPoint) A2 c3)] ∧ Snap.le D2 D9 ∧ j4 y6 = some s1) ?_ ?_
   ·clear hj4
    refine ra ?_
    refine sM 3 3 [0] [(116, .bool (x1.fWhole))] hE hS fun a hE => ?_
    refine bo (x1.fWhole) (fun hb => ?_) fun hb => ?_
    ·replace hf := cf hb hf
     have hE := hE.know (t := 116) rfl hb
     refine sN 11 14 [(127, .bool false)] hE fun a hE => ?_
     refine ae ?_
     have hS := hS.p (.d 0 (.d 1 .n))
     exact ⟨false, D2, hE.wk, hS, lr, hf⟩
    replace hf := ct hb hf
    have hE := hE.know (t := 116) rfl hb
    refine sM 5 8 [2] [(121, .bool ((!decide (x2.fAt = y1))))] hE hS fun a hE => ?_
    refine bo ((!decide (x2.fAt = y1))) (fun hb => ?_) fun hb => ?_
    ·replace hf := cf hb hf
     have hE := hE.know (t := 121) rfl hb
     refine sM 6 14 [2] [(127, .bool ((decide ((0 : Int) < ((List.length (x2.fPath) : Nat) : Int)))))] hE hS fun a hE => ?_
     refine ae ?_
     have hS := hS.p (.d 0 (.d 1 .n))
     exact ⟨(decide ((0 : Int) < ((List.length (x2.fPath) : Nat) : Int))), D2, hE.wk, hS, lr, hf⟩
    replace hf := ct hb hf
    have hE := hE.know (t := 121) rfl hb
    refine sN 6 14 [(127, .bool true)] hE fun a hE => ?_
    refine ae ?_
    have hS := hS.p (.d 0 (.d 1 .n))
    exact ⟨true, D2, hE.wk, hS, lr, hf⟩
   clear hE hS
   rintro a w ⟨y6, D9, hE, hS, le9, hf⟩
   replace hf := hj4 _ hf
   clear hj4
   refine cond_split hE (b := y6) rfl (fun hb => ?_) (fun hb => ?_)
   ·replace hf := ct hb hf
    refine sq (ra ?_)
    refine sN 1 1 [(2, .bool false)] hE fun a hE => ?_
    refine ae ?_
    refine wpIn_ret ?_
    obtain rfl := si hf
    replace hf := hs1
    obtain rfl := si hf
    refine ret_ ?_
    refine rT 2 (.bool false) hE ?_
    have hS := hS.p .n
    exact ⟨_, rfl, D9, rfl, hS⟩
   replace hf := cf hb hf
   refine wpIn_skip ?_
   refine ra ?_
   refine sN 3 3 [(5, .int .i64 ((IntKind.wrap .i64 (y1 + (1 : Int)))))] hE fun a hE => ?_
   exact ae ⟨(IntKind.wrap .i64 (y1 + (1 : Int))), D9, hE.wk, hS, (le2 (le2 le4 le8) le9), hf⟩
  replace hf := cf hb hf
  refine wpIn_exit ?_
  obtain rfl := si hf
  have hS := hS.p .n
  exact ⟨(), D8, hE.wk, hS, le4, rfl⟩
 clear hE hS hf
 rintro k a w ⟨y2, D4, hE, hS, le5, hf⟩
 obtain ⟨k, rfl, hf⟩ := inspeximusref17_Right_l1.some _ hf
 refine ⟨k, rfl, ?_⟩
 unfold inspeximusref17_Right_l1.b at hf
 refine sq (sq (ra ?_))
 refine sM 5 5 [1] [(35, .bool ((decide (y2 < ((List.length (x1.fPoint.fSigs) : Nat) : Int)))))] hE hS fun a hE => ?_
 refine ae ?_
 refine cond_split hE (b := (decide (y2 < ((List.length (x1.fPoint.fSigs) : Nat) : Int)))) rfl (fun hb => ?_) (fun hb => ?_)
 ·replace hf := ct hb hf
  refine wpIn_skip ?_
  refine sq ?_
  refine wpIn_block ?_
  obtain ⟨j5, hj5, hf⟩ := jn_elim hf
  refine seq_join (fun a w => ∃ (y7 : Bool), ∃ D10, Env a 128 [] [(1, .pointer (some ⟨b1, 0, none⟩)), (3, .pointer (some ⟨b2, 0, none⟩)), (4, .int .i64 (y2)), (53, .bool (y7))] ∧ Stp g w0 D0 [] w D10 [bx b1 29 (c_T_api_Bundle (x1) A2 c3 A5 c6), bx b2 26 (c_T_api_Point (x1.fPoint) A2 c3)] ∧ Snap.le D4 D10 ∧ j5 y7 = some s2) ?_ ?_
  ·clear hj5
   refine ra ?_
   refine sM 3 3 [1] [(39, .slice A2 (List.length (x1.fPoint.fSigs)) c3), (40, .int .i64 (y2))] hE hS fun a hE => ?_
   obtain ⟨x4, h10, hf⟩ := bs hf
   refine at_op (op_tk hE (g_index (K := kd_T_api_Sig) (e := 37) (by_ := 40) (zl := 33) rfl rfl rfl rfl hE rfl rfl rfl (by kernel_rfl) rfl (h4.mono (le2 le3 le5)) h10 (fun a b6 o2 hE h11 => ?_))) rfl
   refine at_op (op_tk hE (g_fieldAddr (fo := 0) (ft := 3) (o2 + 0) rfl rfl rfl rfl hE rfl rfl (by kernel_rfl) rfl (fun a hE => ?_))) rfl
   obtain ⟨cs3, C3, T3, fr3, hr3, hb3, hc3⟩ := id h11
   obtain ⟨rfl⟩ := kd_T_api_Sig_el hr3
   refine at_op (op_tk hE (tk_loadX (off0 := o2) (off := 0) (c := c_T_api_Sig (x4)) (.int .i64 (x4.fWit)) rfl rfl rfl rfl hE rfl hS rfl hb3 hc3 (by kernel_rfl) (by kernel_rfl) (kD hS dn_nil) (fun a hE => ?_))) rfl
   refine sN 2 8 [(45, .bool ((decide (x4.fWit < (0 : Int)))))] hE fun a hE => ?_
   refine bo ((decide (x4.fWit < (0 : Int)))) (fun hb => ?_) fun hb => ?_
   ·replace hf := cf hb hf
    have hE := hE.know (t := 45) rfl hb
    refine sM 3 11 [1] [(47, .slice A2 (List.length (x1.fPoint.fSigs)) c3), (48, .int .i64 (y2))] hE hS fun a hE => ?_
    obtain ⟨x5, h12, hf⟩ := bs hf
    refine at_op (op_tk hE (g_index (K := kd_T_api_Sig) (e := 37) (by_ := 40) (zl := 33) rfl rfl rfl rfl hE rfl rfl rfl (by kernel_rfl) rfl (h4.mono (le2 le3 le5)) h12 (fun a b7 o3 hE h13 => ?_))) rfl
    refine at_op (op_tk hE (g_fieldAddr (fo := 0) (ft := 3) (o3 + 0) rfl rfl rfl rfl hE rfl rfl (by kernel_rfl) rfl (fun a hE => ?_))) rfl
    obtain ⟨cs4, C4, T4, fr4, hr4, hb4, hc4⟩ := id h13
    obtain ⟨rfl⟩ := kd_T_api_Sig_el hr4
    refine at_op (op_tk hE (tk_loadX (off0 := o3) (off := 0) (c := c_T_api_Sig (x5)) (.int .i64 (x5.fWit)) rfl rfl rfl rfl hE rfl hS rfl hb4 hc4 (by kernel_rfl) (by kernel_rfl) (kD hS dn_nil) (fun a hE => ?_))) rfl
    refine sN 2 16 [(53, .bool ((decide ((3 : Int) < x5.fWit))))] hE fun a hE => ?_
    exact ae ⟨(decide ((3 : Int) < x5.fWit)), D4, hE.wk, hS, lr, hf⟩
   replace hf := ct hb hf
   have hE := hE.know (t := 45) rfl hb
   refine sN 8 16 [(53, .bool true)] hE fun a hE => ?_
   exact ae ⟨true, D4, hE.wk, hS, lr, hf⟩
  clear hE hS
  rintro a w ⟨y7, D10, hE, hS, le10, hf⟩
  replace hf := hj5 _ hf
  clear hj5
  refine cond_split hE (b := y7) rfl (fun hb => ?_) (fun hb => ?_)
  ·replace hf := ct hb hf
   refine sq (ra ?_)
   refine sN 1 1 [(2, .bool false)] hE fun a hE => ?_
   refine ae ?_
   refine wpIn_ret ?_
   obtain rfl := si hf
   replace hf := hs2
   obtain rfl := si hf
   refine ret_ ?_
   refine rT 2 (.bool false) hE ?_
   have hS := hS.p .n
   exact ⟨_, rfl, D10, rfl, hS⟩
  replace hf := cf hb hf
  refine wpIn_skip ?_
  refine ra ?_
  refine sN 3 3 [(4, .int .i64 ((IntKind.wrap .i64 (y2 + (1 : Int)))))] hE fun a hE => ?_
  exact ae ⟨(IntKind.wrap .i64 (y2 + (1 : Int))), D10, hE.wk, hS, (le2 le5 le10), hf⟩
 replace hf := cf hb hf
 refine wpIn_exit ?_
 obtain rfl := si hf
 exact ⟨(), D4, hE.wk, hS, le5, rfl⟩
set_option maxRecDepth 100000 in
theorem inspeximusref03_Num.step {K : Nat} {self : Int → Option ((List Int))} (ih : ∀ {g w0 : World} {D0 : Snap} {x1 : Int} {r : ((List Int))} (hf : self x1 = some r) (hS0 : St g w0 D0 []), CallsIn (Fw none) 0 Tryz.prog 28 (List.toArray [.int .i64 (x1)]) w0 (fun e w' => ∃ v, e = .returned v ∧ ∃ (D1 : Snap) (A85 : Option Addr) (c86 : Nat) (q87 : Blk), v = .slice A85 (List.length (r)) c86 ∧ Stp g w0 D0 [] w' D1 [q87] ∧ OwnD (kdInt .u8) 5 D1 A85 c86 (r) q87)) {g w0 : World} {D0 : Snap} {x1 : Int} {r : ((List Int))} (hf : inspeximusref03_Num.b K self x1 = some r) (hS0 : St g w0 D0 []) :
  CallsIn (Fw none) 0 Tryz.prog 28 (List.toArray [.int .i64 (x1)]) w0 (fun e w' => ∃ v, e = .returned v ∧ ∃ (D1 : Snap) (A85 : Option Addr) (c86 : Nat) (q87 : Blk), v = .slice A85 (List.length (r)) c86 ∧ Stp g w0 D0 [] w' D1 [q87] ∧ OwnD (kdInt .u8) 5 D1 A85 c86 (r) q87) := by
 unfold inspeximusref03_Num.b at hf
 have hS := Stp.refl hS0
 clear hS0
 refine calls_body (n := 36) Tryz.func28 rfl Tryz.ntmps28 rfl fun a hE => ?_
 have hE : Env a 36 [] [(0, .int .i64 (x1))] := hE
 refine sq (ra ?_)
 refine sN 1 1 [(2, .slice none 0 0)] hE fun a hE => ?_
 refine ae ?_
 refine sq ?_
 obtain ⟨j1, hj1, hf⟩ := jn_elim hf
 refine seq_join (fun a w => ∃ (y95 : Bool), ∃ D96, Env a 36 [] [(0, .int .i64 (x1)), (9, .bool (y95))] ∧ Stp g w0 D0 [] w D96 [] ∧ Snap.le D0 D96 ∧ j1 y95 = some r) ?_ ?_
 ·clear hj1
  refine ra ?_
  refine sN 3 3 [(6, .bool ((decide (x1 < (0 : Int)))))] hE fun a hE => ?_
  refine bo ((decide (x1 < (0 : Int)))) (fun hb => ?_) fun hb => ?_
  ·replace hf := cf hb hf
   have hE := hE.know (t := 6) rfl hb
   refine sN 3 6 [(9, .bool ((decide ((2147483647 : Int) < x1))))] hE fun a hE => ?_
   exact ae ⟨(decide ((2147483647 : Int) < x1)), D0, hE.wk, hS, lr, hf⟩
  replace hf := ct hb hf
  have hE := hE.know (t := 6) rfl hb
  refine sN 3 6 [(9, .bool true)] hE fun a hE => ?_
  exact ae ⟨true, D0, hE.wk, hS, lr, hf⟩
 clear hE hS
 rintro a w ⟨y95, D96, hE, hS, le97, hf⟩
 replace hf := hj1 _ hf
 clear hj1
 refine cond_split hE (b := y95) rfl (fun hb => ?_) (fun hb => ?_)
 ·replace hf := ct hb hf
  refine sq (ra ?_)
  refine sN 1 1 [(2, .slice none 0 0)] hE fun a hE => ?_
  refine ae ?_
  refine wpIn_ret ?_
  have hS := hS.nils
  obtain rfl := si hf
  refine ret_ ?_
  refine rT 2 (.slice none 0 0) hE ?_
  exact ⟨_, rfl, D96, none, 0, none, rfl, hS, (OwnD.nil (kdInt .u8) 5 D96)⟩
 replace hf := cf hb hf
 refine wpIn_skip ?_
 refine sq (sq (ra ?_))
 refine sN 2 2 [(11, .bool ((decide (x1 < (128 : Int)))))] hE fun a hE => ?_
 refine ae ?_
 refine cond_split hE (b := (decide (x1 < (128 : Int)))) rfl (fun hb => ?_) (fun hb => ?_)
 ·replace hf := ct hb hf
  refine sq (ra ?_)
  refine sN 2 2 [(13, .int .u8 ((IntKind.wrap .u8 x1)))] hE fun a hE => ?_
  refine at_op (op_buildSlice (K := (kdInt .u8)) (e := 5) (cs := [.int .u8 ((IntKind.wrap .u8 x1))] ++ []) ([(IntKind.wrap .u8 x1)] : List Int) rfl rfl rfl rfl hE rfl hS rfl (by kernel_rfl) rfl rfl (by exact ⟨_, _, rfl, rfl, rfl⟩) (fun a A2 q1 w _ hE h4 hS => ?_)) rfl
  refine sN 1 4 [(2, .slice A2 (List.length (([(IntKind.wrap .u8 x1)] : List Int))) 1)] hE fun a hE => ?_
  refine ae ?_
  refine wpIn_ret ?_
  obtain rfl := si hf
  refine ret_ ?_
  refine rT 2 (.slice A2 (List.length (([(IntKind.wrap .u8 x1)] : List Int))) 1) hE ?_
  exact ⟨_, rfl, D96, A2, 1, q1, rfl, hS, h4⟩
 replace hf := cf hb hf
 refine wpIn_skip ?_
 refine sq (ra ?_)
 refine sN 2 2 [(16, .int .i64 ((IntKind.wrap .i64 (Int.tdiv x1 128))))] hE fun a hE => ?_
 obtain ⟨r1, h5, hf⟩ := bs hf
 refine aC rfl rfl rfl rfl hE rfl rfl rfl rfl (ih (g := g) h5 (hS.st.fore (L := [])) ) fun a v w hR hE => ?_
 obtain ⟨D3, A1, c1, q3, rfl, hS1, h1⟩ := hR
 have le2 := hS1.dle
 have hS := hS.callR hS1 rfl (.c .n)
 refine sN 1 4 [(3, .slice A1 (List.length (r1)) c1)] hE fun a hE => ?_
 refine ae ?_
 refine sq (ra ?_)
 refine sN 8 8 [(18, .slice A1 (List.length (r1)) c1), (21, .int .i64 ((IntKind.wrap .i64 (((List.length (r1) : Nat) : Int) - (1 : Int))))), (22, .slice A1 (List.length (r1)) c1), (25, .int .i64 ((IntKind.wrap .i64 (((List.length (r1) : Nat) : Int) - (1 : Int)))))] hE fun a hE => ?_
 obtain ⟨x2, h2, hf⟩ := bs hf
 refine at_op (op_tk hE (tk_indexO (K := (kdInt .u8)) (T := 5) (by_ := 1) (zl := 1) rfl rfl rfl rfl hE rfl rfl rfl (by kernel_rfl) h1 h2 (fun a b1 u1 hq hE => ?_))) rfl
 subst hq
 obtain ⟨cs1, C1, hr1, hb1, hc1⟩ := OwnD.cell h1 h2
 obtain rfl := hr1
 refine at_op (op_tk hE (tk_loadO 0 (off0 := Int.toNat ((IntKind.wrap .i64 (((List.length (r1) : Nat) : Int) - (1 : Int)))) * 1) (off := 0) (c := [.int .u8 (x2)]) (Cl := C1) (T := 5) (fr := (0, 0)) (.int .u8 (x2)) rfl rfl rfl rfl hE rfl hS rfl (by rw [hb1]; rfl) hc1 (by kernel_rfl) (kL (j := 0) hS rfl List.not_mem_nil) (fun a hE => ?_))) rfl
 refine sN 1 11 [(28, .int .u8 ((IntKind.wrap .u8 (x2 + (128 : Int)))))] hE fun a hE => ?_
 obtain ⟨x3, h3, hf⟩ := bs hf
 refine at_op (op_tk hE (tk_indexO (K := (kdInt .u8)) (T := 5) (by_ := 1) (zl := 1) rfl rfl rfl rfl hE rfl rfl rfl (by kernel_rfl) h1 h3 (fun a b2 u2 hq hE => ?_))) rfl
 obtain ⟨rfl, rfl⟩ := some_pair hq
 refine at_op (op_storeO (K := (kdInt .u8)) (T := 5) (l := r1) ((IntKind.wrap .u8 (x2 + (128 : Int)))) rfl rfl rfl rfl hE hS h1 rfl rfl (inI_of h3) (rfl) (by kernel_rfl) (by kernel_rfl) (fun a u3 w _ hE h6 hS => ?_)) rfl
 have hE : Env a 36 [] [(0, .int .i64 (x1)), (3, .slice A1 (List.length ((List.set (r1) (Int.toNat ((IntKind.wrap .i64 (((List.length (r1) : Nat) : Int) - (1 : Int))))) ((IntKind.wrap .u8 (x2 + (128 : Int))))))) c1), (9, .bool (y95)), (11, .bool ((decide (x1 < (128 : Int))))), (18, .slice A1 (List.length ((List.set (r1) (Int.toNat ((IntKind.wrap .i64 (((List.length (r1) : Nat) : Int) - (1 : Int))))) ((IntKind.wrap .u8 (x2 + (128 : Int))))))) c1), (21, .int .i64 ((IntKind.wrap .i64 (((List.length (r1) : Nat) : Int) - (1 : Int))))), (28, .int .u8 ((IntKind.wrap .u8 (x2 + (128 : Int))))), (29, .pointer (some ⟨b1, Int.toNat ((IntKind.wrap .i64 (((List.length (r1) : Nat) : Int) - (1 : Int)))) * 1, none⟩))] := by have h := hE.weak (E' := [(0, .int .i64 (x1)), (3, .slice A1 (List.length (r1)) c1), (9, .bool (y95)), (11, .bool ((decide (x1 < (128 : Int))))), (18, .slice A1 (List.length (r1)) c1), (21, .int .i64 ((IntKind.wrap .i64 (((List.length (r1) : Nat) : Int) - (1 : Int))))), (28, .int .u8 ((IntKind.wrap .u8 (x2 + (128 : Int))))), (29, .pointer (some ⟨b1, Int.toNat ((IntKind.wrap .i64 (((List.length (r1) : Nat) : Int) - (1 : Int)))) * 1, none⟩))]) (by kernel_rfl); simpa only [List.length_set] using h
 refine ae ?_
 refine sq (ra ?_)
 refine sN 4 4 [(30, .slice A1 (List.length ((List.set (r1) (Int.toNat ((IntKind.wrap .i64 (((List.length (r1) : Nat) : Int) - (1 : Int))))) ((IntKind.wrap .u8 (x2 + (128 : Int))))))) c1), (33, .int .u8 ((IntKind.wrap .u8 (Int.tmod x1 128))))] hE fun a hE => ?_
 refine at_op (op_buildSlice (K := (kdInt .u8)) (e := 5) (cs := [.int .u8 ((IntKind.wrap .u8 (Int.tmod x1 128)))] ++ []) ([(IntKind.wrap .u8 (Int.tmod x1 128))] : List Int) rfl rfl rfl rfl hE rfl hS rfl (by kernel_rfl) rfl rfl (by exact ⟨_, _, rfl, rfl, rfl⟩) (fun a A4 q4 w _ hE h7 hS => ?_)) rfl
 obtain ⟨D2, q5, le1, hS, h11, h8⟩ := hS.lent h7
 have hS := hS.p (.d 1 (.d 0 .n))
 obtain ⟨l1, h9, hf⟩ := bs hf
 refine at_op (g_append (K := (kdInt .u8)) (e := 5) (bytes := 1) (l := (List.set (r1) (Int.toNat ((IntKind.wrap .i64 (((List.length (r1) : Nat) : Int) - (1 : Int))))) ((IntKind.wrap .u8 (x2 + (128 : Int)))))) (m := ([(IntKind.wrap .u8 (Int.tmod x1 128))] : List Int)) rfl rfl rfl rfl hE rfl hS rfl rfl (by kernel_rfl) rfl rfl (h6.mono le1) h8 h9 (fun a A3 c2 q2 w _ hE h10 hS => ?_)) rfl
 refine sN 1 7 [(2, .slice A3 (List.length (l1)) c2)] hE fun a hE => ?_
 refine ae ?_
 refine wpIn_ret ?_
 obtain rfl := si hf
 refine ret_ ?_
 refine rT 2 (.slice A3 (List.length (l1)) c2) hE ?_
 have hS := hS.p (.d 0 .n)
 exact ⟨_, rfl, D2, A3, c2, q2, rfl, hS, h10⟩
set_option maxRecDepth 100000 in
theorem inspeximusref03_Num.rcalls {K : Nat} : ∀ (k : Nat) {g w0 : World} {D0 : Snap} {x1 : Int} {r : ((List Int))} (hf : inspeximusref03_Num.r K k x1 = some r) (hS0 : St g w0 D0 []),
  CallsIn (Fw none) 0 Tryz.prog 28 (List.toArray [.int .i64 (x1)]) w0 (fun e w' => ∃ v, e = .returned v ∧ ∃ (D1 : Snap) (A85 : Option Addr) (c86 : Nat) (q87 : Blk), v = .slice A85 (List.length (r)) c86 ∧ Stp g w0 D0 [] w' D1 [q87] ∧ OwnD (kdInt .u8) 5 D1 A85 c86 (r) q87) := by
 intro k
 induction k with
 | zero => intro g w0 D0 x1 r hf; cases hf
 | succ k ih => intro g w0 D0 x1 r hf hS0; exact inspeximusref03_Num.step ih hf hS0
theorem inspeximusref03_Num.calls {K : Nat} {g w0 : World} {D0 : Snap} {x1 : Int} {r : ((List Int))} (hf : inspeximusref03_Num.f K x1 = some r) (hS0 : St g w0 D0 []) :
  CallsIn (Fw none) 0 Tryz.prog 28 (List.toArray [.int .i64 (x1)]) w0 (fun e w' => ∃ v, e = .returned v ∧ ∃ (D1 : Snap) (A85 : Option Addr) (c86 : Nat) (q87 : Blk), v = .slice A85 (List.length (r)) c86 ∧ Stp g w0 D0 [] w' D1 [q87] ∧ OwnD (kdInt .u8) 5 D1 A85 c86 (r) q87) := inspeximusref03_Num.rcalls K hf hS0
set_option maxRecDepth 100000 in
theorem inspeximusref02_Number.calls {K : Nat} {g w0 : World} {D0 : Snap} {x1 : Int} {x2 : Int} {r : ((List Int))} (hf : inspeximusref02_Number.f K x1 x2 = some r) (hS0 : St g w0 D0 []) :
  CallsIn (Fw none) 0 Tryz.prog 102 (List.toArray [.int .i64 (x1), .int .i64 (x2)]) w0 (fun e w' => ∃ v, e = .returned v ∧ ∃ (D1 : Snap) (A2 : Option Addr) (c2 : Nat) (q3 : Blk), v = .slice A2 (List.length (r)) c2 ∧ Stp g w0 D0 [] w' D1 [q3] ∧ OwnD (kdInt .u8) 5 D1 A2 c2 (r) q3) := by
 unfold inspeximusref02_Number.f at hf
 have hS := Stp.refl hS0
 clear hS0
 refine calls_body (n := 27) Tryz.func102 rfl Tryz.ntmps102 rfl fun a hE => ?_
 have hE : Env a 27 [] [(0, .int .i64 (x1)), (1, .int .i64 (x2))] := hE
 refine sq (ra ?_)
 refine sN 1 1 [(4, .slice none 0 0)] hE fun a hE => ?_
 refine ae ?_
 refine sq (ra ?_)
 refine sN 1 1 [(8, .int .i64 (x2))] hE fun a hE => ?_
 obtain ⟨l1, h3, hf⟩ := bs hf
 refine at_op (op_makeSlice (K := (kdInt .u8)) (e := 5) (bytes := 1) (z := (0 : Int)) (cz := [.int .u8 ((0 : Int))]) rfl rfl rfl rfl hE rfl hS rfl rfl (by kernel_rfl) (by kernel_rfl) rfl rfl rfl h3 (fun a A1 c1 q4 w _ hE h4 hS => ?_)) rfl
 refine sN 1 3 [(5, .slice A1 (List.length (l1)) c1)] hE fun a hE => ?_
 refine ae ?_
 refine sq (ra ?_)
 refine sN 3 3 [(6, .int .u64 ((IntKind.wrap .u64 x1)))] hE fun a hE => ?_
 refine ae ?_
 refine sq (sq (ra ?_))
 refine sN 3 3 [(7, .int .i64 ((IntKind.wrap .i64 (x2 - (1 : Int)))))] hE fun a hE => ?_
 refine ae ?_
 obtain ⟨s1, hf, hs1⟩ := bs hf
 refine block_loop (fun a w => ∃ (z1 : (List Int)), ∃ q1, ∃ D3, Env a 27 [] [(5, .slice A1 (List.length (z1)) c1)] ∧ Stp g w0 D0 [] w D3 [q1] ∧ Snap.le D0 D3 ∧ OwnD (kdInt .u8) 5 D3 A1 c1 (z1) q1 ∧ z1 = s1) (fun k a w => ∃ (y1 : (List Int) × Int × Int), ∃ q2, ∃ D2, Env a 27 [] [(5, .slice A1 (List.length (y1.1)) c1), (6, .int .u64 (y1.2.1)), (7, .int .i64 (y1.2.2))] ∧ Stp g w0 D0 [] w D2 [q2] ∧ Snap.le D0 D2 ∧ OwnD (kdInt .u8) 5 D2 A1 c1 (y1.1) q2 ∧ inspeximusref02_Number_l1.l K k y1 = some s1) K ?_ ?_ ?_
 ·exact ⟨(l1, (IntKind.wrap .u64 x1), (IntKind.wrap .i64 (x2 - (1 : Int)))), q4, D0, hE.wk, hS, lr, h4, hf⟩
 ·clear hE hS hf
  rintro a w ⟨z1, q1, D3, hE, hS, le2, h5, rfl⟩
  have hf := hs1
  clear hs1
  refine sq (ra ?_)
  refine sN 2 2 [(4, .slice A1 (List.length (z1)) c1)] hE fun a hE => ?_
  refine ae ?_
  refine wpIn_ret ?_
  obtain rfl := si hf
  refine ret_ ?_
  refine rT 4 (.slice A1 (List.length (z1)) c1) hE ?_
  exact ⟨_, rfl, D3, A1, c1, q1, rfl, hS, h5⟩
 clear hE hS hf
 rintro k a w ⟨y1, q2, D2, hE, hS, le1, h1, hf⟩
 obtain ⟨k, rfl, hf⟩ := inspeximusref02_Number_l1.some hf
 refine ⟨k, rfl, ?_⟩
 unfold inspeximusref02_Number_l1.b at hf
 refine sq (sq (ra ?_))
 refine sN 2 2 [(15, .bool ((decide ((0 : Int) ≤ y1.2.2))))] hE fun a hE => ?_
 refine ae ?_
 refine cond_split hE (b := (decide ((0 : Int) ≤ y1.2.2))) rfl (fun hb => ?_) (fun hb => ?_)
 ·replace hf := ct hb hf
  refine wpIn_skip ?_
  refine sq ?_
  refine wpIn_block ?_
  refine sq (ra ?_)
  refine sN 5 5 [(18, .slice A1 (List.length (y1.1)) c1), (19, .int .i64 (y1.2.2)), (22, .int .u8 ((IntKind.wrap .u8 (Int.tmod y1.2.1 256))))] hE fun a hE => ?_
  obtain ⟨x3, h2, hf⟩ := bs hf
  refine at_op (op_tk hE (tk_indexO (K := (kdInt .u8)) (T := 5) (by_ := 1) (zl := 1) rfl rfl rfl rfl hE rfl rfl rfl (by kernel_rfl) h1 h2 (fun a b1 u2 hq hE => ?_))) rfl
  subst hq
  refine at_op (op_storeO (K := (kdInt .u8)) (T := 5) (l := y1.1) ((IntKind.wrap .u8 (Int.tmod y1.2.1 256))) rfl rfl rfl rfl hE hS h1 rfl rfl (inI_of h2) (rfl) (by kernel_rfl) (by kernel_rfl) (fun a u1 w _ hE h6 hS => ?_)) rfl
  have hE : Env a 27 [] [(5, .slice A1 (List.length ((List.set (y1.1) (Int.toNat (y1.2.2)) ((IntKind.wrap .u8 (Int.tmod y1.2.1 256)))))) c1), (6, .int .u64 (y1.2.1)), (7, .int .i64 (y1.2.2)), (15, .bool ((decide ((0 : Int) ≤ y1.2.2)))), (18, .slice A1 (List.length ((List.set (y1.1) (Int.toNat (y1.2.2)) ((IntKind.wrap .u8 (Int.tmod y1.2.1 256)))))) c1), (19, .int .i64 (y1.2.2)), (22, .int .u8 ((IntKind.wrap .u8 (Int.tmod y1.2.1 256)))), (23, .pointer (some ⟨b1, Int.toNat (y1.2.2) * 1, none⟩))] := by have h := hE.weak (E' := [(5, .slice A1 (List.length (y1.1)) c1), (6, .int .u64 (y1.2.1)), (7, .int .i64 (y1.2.2)), (15, .bool ((decide ((0 : Int) ≤ y1.2.2)))), (18, .slice A1 (List.length (y1.1)) c1), (19, .int .i64 (y1.2.2)), (22, .int .u8 ((IntKind.wrap .u8 (Int.tmod y1.2.1 256)))), (23, .pointer (some ⟨b1, Int.toNat (y1.2.2) * 1, none⟩))]) (by kernel_rfl); simpa only [List.length_set] using h
  refine ae ?_
  refine ra ?_
  refine sN 3 3 [(6, .int .u64 ((IntKind.wrap .u64 (Int.tdiv y1.2.1 256))))] hE fun a hE => ?_
  refine ae ?_
  refine ra ?_
  refine sN 3 3 [(7, .int .i64 ((IntKind.wrap .i64 (y1.2.2 - (1 : Int)))))] hE fun a hE => ?_
  exact ae ⟨((List.set (y1.1) (Int.toNat (y1.2.2)) ((IntKind.wrap .u8 (Int.tmod y1.2.1 256)))), (IntKind.wrap .u64 (Int.tdiv y1.2.1 256)), (IntKind.wrap .i64 (y1.2.2 - (1 : Int)))), (some (b1, u1)), D2, hE.wk, hS, le1, h6, hf⟩
 replace hf := cf hb hf
 refine wpIn_exit ?_
 obtain rfl := si hf
 exact ⟨y1.1, q2, D2, hE.wk, hS, le1, h1, rfl⟩
set_option maxRecDepth 100000 in
theorem inspeximusref02_Text.calls {K : Nat} {g w0 : World} {D0 : Snap} {x1 : Int} {x2 : (List (List Int))} {A3 : Option Addr} {c4 : Nat} {r : ((List Int))} (hf : inspeximusref02_Text.f K x1 x2 = some r) (hS0 : St g w0 D0 []) (h5 : Sl (kdSlice (kdInt .u8)) D0 A3 c4 (x2)) :
  CallsIn (Fw none) 0 Tryz.prog 99 (List.toArray [.int .i64 (x1), .slice A3 (List.length (x2)) c4]) w0 (fun e w' => ∃ v, e = .returned v ∧ ∃ (D1 : Snap) (A4 : Option Addr) (c3 : Nat) (q3 : Blk), v = .slice A4 (List.length (r)) c3 ∧ Stp g w0 D0 [] w' D1 [q3] ∧ OwnD (kdInt .u8) 5 D1 A4 c3 (r) q3) := by
 unfold inspeximusref02_Text.f at hf
 have hS := Stp.refl hS0
 clear hS0
 refine calls_body (n := 31) Tryz.func99 rfl Tryz.ntmps99 rfl fun a hE => ?_
 have hE : Env a 31 [] [(0, .int .i64 (x1)), (1, .slice A3 (List.length (x2)) c4)] := hE
 refine sq (ra ?_)
 refine sN 1 1 [(4, .slice none 0 0)] hE fun a hE => ?_
 refine ae ?_
 refine sq (ra ?_)
 refine sN 2 2 [(8, .int .u8 ((IntKind.wrap .u8 x1)))] hE fun a hE => ?_
 refine at_op (op_buildSlice (K := (kdInt .u8)) (e := 5) (cs := [.int .u8 ((IntKind.wrap .u8 x1))] ++ []) ([(IntKind.wrap .u8 x1)] : List Int) rfl rfl rfl rfl hE rfl hS rfl (by kernel_rfl) rfl rfl (by exact ⟨_, _, rfl, rfl, rfl⟩) (fun a A5 q4 w _ hE h2 hS => ?_)) rfl
 refine sN 1 4 [(5, .slice A5 (List.length (([(IntKind.wrap .u8 x1)] : List Int))) 1)] hE fun a hE => ?_
 refine ae ?_
 refine sq (sq (ra ?_))
 refine sN 1 1 [(6, .int .i64 ((0 : Int)))] hE fun a hE => ?_
 refine ae ?_
 obtain ⟨s1, hf, hs1⟩ := bs hf
 refine block_loop (fun a w => ∃ (z1 : (List Int)), ∃ A1, ∃ c1, ∃ q1, ∃ D2, Env a 31 [] [(5, .slice A1 (List.length (z1)) c1)] ∧ Stp g w0 D0 [] w D2 [q1] ∧ Snap.le D0 D2 ∧ OwnD (kdInt .u8) 5 D2 A1 c1 (z1) q1 ∧ z1 = s1) (fun k a w => ∃ (y1 : (List Int) × Int), ∃ A2, ∃ c2, ∃ q2, ∃ D3, Env a 31 [] [(1, .slice A3 (List.length (x2)) c4), (5, .slice A2 (List.length (y1.1)) c2), (6, .int .i64 (y1.2))] ∧ Stp g w0 D0 [] w D3 [q2] ∧ Snap.le D0 D3 ∧ OwnD (kdInt .u8) 5 D3 A2 c2 (y1.1) q2 ∧ inspeximusref02_Text_l1.l K x2 k y1 = some s1) K ?_ ?_ ?_
 ·exact ⟨(([(IntKind.wrap .u8 x1)] : List Int), (0 : Int)), A5, 1, q4, D0, hE.wk, hS, lr, h2, hf⟩
 ·clear hE hS hf
  rintro a w ⟨z1, A1, c1, q1, D2, hE, hS, le5, h3, rfl⟩
  have hf := hs1
  clear hs1
  refine sq (ra ?_)
  refine sN 2 2 [(4, .slice A1 (List.length (z1)) c1)] hE fun a hE => ?_
  refine ae ?_
  refine wpIn_ret ?_
  obtain rfl := si hf
  refine ret_ ?_
  refine rT 4 (.slice A1 (List.length (z1)) c1) hE ?_
  exact ⟨_, rfl, D2, A1, c1, q1, rfl, hS, h3⟩
 clear hE hS hf
 rintro k a w ⟨y1, A2, c2, q2, D3, hE, hS, le1, h1, hf⟩
 obtain ⟨k, rfl, hf⟩ := inspeximusref02_Text_l1.some _ hf
 refine ⟨k, rfl, ?_⟩
 unfold inspeximusref02_Text_l1.b at hf
 refine sq (sq (ra ?_))
 refine sN 4 4 [(13, .bool ((decide (y1.2 < ((List.length (x2) : Nat) : Int)))))] hE fun a hE => ?_
 refine ae ?_
 refine cond_split hE (b := (decide (y1.2 < ((List.length (x2) : Nat) : Int)))) rfl (fun hb => ?_) (fun hb => ?_)
 ·replace hf := ct hb hf
  refine wpIn_skip ?_
  refine sq ?_
  refine wpIn_block ?_
  refine sq (ra ?_)
  refine sN 3 3 [(16, .slice A2 (List.length (y1.1)) c2), (17, .slice A3 (List.length (x2)) c4), (18, .int .i64 (y1.2))] hE fun a hE => ?_
  obtain ⟨x3, h4, hf⟩ := bs hf
  refine at_op (op_tk hE (g_index (K := (kdSlice (kdInt .u8))) (e := 33) (by_ := 24) (zl := 1) rfl rfl rfl rfl hE rfl rfl rfl (by kernel_rfl) rfl (h5.mono le1) h4 (fun a b1 o1 hE h6 => ?_))) rfl
  obtain ⟨cs1, C1, T1, fr1, hr1, hb1, hc1⟩ := id h6
  obtain ⟨A6, c5, rfl, h17⟩ := hr1
  refine at_op (op_tk hE (tk_loadX (off0 := o1) (off := 0) (c := [.slice A6 (List.length (x3)) c5]) (.slice A6 (List.length (x3)) c5) rfl rfl rfl rfl hE rfl hS rfl hb1 hc1 (by kernel_rfl) (by kernel_rfl) (kD hS dn_nil) (fun a hE => ?_))) rfl
  refine sN 1 6 [(21, .int .i64 (((List.length (x3) : Nat) : Int)))] hE fun a hE => ?_
  obtain ⟨r1, h7, hf⟩ := bs hf
  refine aC rfl rfl rfl rfl hE rfl rfl rfl rfl (inspeximusref02_Number.calls h7 (hS.st.fore (L := [])) ) fun a v w hR hE => ?_
  obtain ⟨D5, A10, c9, q6, rfl, hS1, h8⟩ := hR
  have le3 := hS1.dle
  have hS := hS.callR hS1 rfl (.c .n)
  obtain ⟨D4, q7, le4, hS, h18, h9⟩ := hS.lent h8
  have hS := hS.p (.d 1 (.d 0 .n))
  obtain ⟨l1, h10, hf⟩ := bs hf
  refine at_op (g_append (K := (kdInt .u8)) (e := 5) (bytes := 1) (l := y1.1) (m := r1) rfl rfl rfl rfl hE rfl hS rfl rfl (by kernel_rfl) rfl rfl (h1.mono (le2 le3 le4)) h9 h10 (fun a A7 c6 q8 w _ hE h11 hS => ?_)) rfl
  refine sN 1 9 [(5, .slice A7 (List.length (l1)) c6)] hE fun a hE => ?_
  refine ae ?_
  refine ra ?_
  refine sN 3 3 [(24, .slice A7 (List.length (l1)) c6), (25, .slice A3 (List.length (x2)) c4), (26, .int .i64 (y1.2))] hE fun a hE => ?_
  obtain ⟨x4, h12, hf⟩ := bs hf
  refine at_op (op_tk hE (g_index (K := (kdSlice (kdInt .u8))) (e := 33) (by_ := 24) (zl := 1) rfl rfl rfl rfl hE rfl rfl rfl (by kernel_rfl) rfl (h5.mono (le2 (le2 le1 le3) le4)) h12 (fun a b2 o2 hE h13 => ?_))) rfl
  obtain ⟨cs2, C2, T2, fr2, hr2, hb2, hc2⟩ := id h13
  obtain ⟨A8, c7, rfl, h14⟩ := hr2
  refine at_op (op_tk hE (tk_loadX (off0 := o2) (off := 0) (c := [.slice A8 (List.length (x4)) c7]) (.slice A8 (List.length (x4)) c7) rfl rfl rfl rfl hE rfl hS rfl hb2 hc2 (by kernel_rfl) (by kernel_rfl) (kD hS dn_nil) (fun a hE => ?_))) rfl
  obtain ⟨l2, h15, hf⟩ := bs hf
  refine at_op (g_append (K := (kdInt .u8)) (e := 5) (bytes := 1) (l := l1) (m := x4) rfl rfl rfl rfl hE rfl hS rfl rfl (by kernel_rfl) rfl rfl h11 h14 h15 (fun a A9 c8 q5 w _ hE h16 hS => ?_)) rfl
  refine sN 1 7 [(5, .slice A9 (List.length (l2)) c8)] hE fun a hE => ?_
  refine ae ?_
  refine ra ?_
  refine sN 3 3 [(6, .int .i64 ((IntKind.wrap .i64 (y1.2 + (1 : Int)))))] hE fun a hE => ?_
  refine ae ?_
  have hS := hS.p (.d 0 .n)
  exact ⟨(l2, (IntKind.wrap .i64 (y1.2 + (1 : Int)))), A9, c8, q5, D4, hE.wk, hS, (le2 (le2 le1 le3) le4), h16, hf⟩
 replace hf := cf hb hf
 refine wpIn_exit ?_
 obtain rfl := si hf
 exact ⟨y1.1, A2, c2, q2, D3, hE.wk, hS, le1, h1, rfl⟩
set_option maxRecDepth 100000 in
theorem inspeximusref01_Fill.calls {K : Nat} {g w0 : World} {D0 : Snap} {x1 : Int} {r : ((List Int))} (hf : inspeximusref01_Fill.f K x1 = some r) (hS0 : St g w0 D0 []) :
  CallsIn (Fw none) 0 Tryz.prog 100 (List.toArray [.int .i64 (x1)]) w0 (fun e w' => ∃ v, e = .returned v ∧ ∃ (D1 : Snap) (A5 : Option Addr) (c5 : Nat) (q5 : Blk), v = .slice A5 (List.length (r)) c5 ∧ Stp g w0 D0 [] w' D1 [q5] ∧ OwnD (kdInt .u8) 5 D1 A5 c5 (r) q5) := by
 unfold inspeximusref01_Fill.f at hf
 have hS := Stp.refl hS0
 clear hS0
 refine calls_body (n := 37) Tryz.func100 rfl Tryz.ntmps100 rfl fun a hE => ?_
 have hE : Env a 37 [] [(0, .int .i64 (x1))] := hE
 refine sq (ra ?_)
 refine sN 1 1 [(2, .slice none 0 0)] hE fun a hE => ?_
 refine ae ?_
 refine sq (sq (ra ?_))
 refine sN 2 2 [(8, .bool ((decide (x1 < (0 : Int)))))] hE fun a hE => ?_
 refine ae ?_
 refine cond_split hE (b := (decide (x1 < (0 : Int)))) rfl (fun hb => ?_) (fun hb => ?_)
 ·replace hf := ct hb hf
  refine sq (ra ?_)
  refine sN 1 1 [(2, .slice none 0 0)] hE fun a hE => ?_
  refine ae ?_
  refine wpIn_ret ?_
  have hS := hS.nils
  obtain rfl := si hf
  refine ret_ ?_
  refine rT 2 (.slice none 0 0) hE ?_
  exact ⟨_, rfl, D0, none, 0, none, rfl, hS, (OwnD.nil (kdInt .u8) 5 D0)⟩
 replace hf := cf hb hf
 refine wpIn_skip ?_
 refine sq (ra ?_)
 refine at_op (op_buildSlice (K := (kdInt .u8)) (e := 5) (cs := [.int .u8 ((128 : Int))] ++ []) ([(128 : Int)] : List Int) rfl rfl rfl rfl hE rfl hS rfl (by kernel_rfl) rfl rfl (by exact ⟨_, _, rfl, rfl, rfl⟩) (fun a A6 q6 w _ hE h3 hS => ?_)) rfl
 refine sN 1 2 [(3, .slice A6 (List.length (([(128 : Int)] : List Int))) 1)] hE fun a hE => ?_
 refine ae ?_
 refine sq ?_
 obtain ⟨s1, hf, hs1⟩ := bs hf
 refine block_loop (fun a w => ∃ (z2 : (List Int)), ∃ A4, ∃ c4, ∃ q1, ∃ D2, Env a 37 [] [(0, .int .i64 (x1)), (3, .slice A4 (List.length (z2)) c4)] ∧ Stp g w0 D0 [] w D2 [q1] ∧ Snap.le D0 D2 ∧ OwnD (kdInt .u8) 5 D2 A4 c4 (z2) q1 ∧ z2 = s1) (fun k a w => ∃ (y2 : (List Int)), ∃ A2, ∃ c2, ∃ q2, ∃ D3, Env a 37 [] [(0, .int .i64 (x1)), (3, .slice A2 (List.length (y2)) c2)] ∧ Stp g w0 D0 [] w D3 [q2] ∧ Snap.le D0 D3 ∧ OwnD (kdInt .u8) 5 D3 A2 c2 (y2) q2 ∧ inspeximusref01_Fill_l1.l K x1 k y2 = some s1) K ?_ ?_ ?_
 ·exact ⟨([(128 : Int)] : List Int), A6, 1, q6, D0, hE.wk, hS, lr, h3, hf⟩
 ·clear hE hS hf
  rintro a w ⟨z2, A4, c4, q1, D2, hE, hS, le6, h4, rfl⟩
  have hf := hs1
  clear hs1
  refine sq (ra ?_)
  refine sN 4 4 [(4, .int .u64 ((IntKind.wrap .u64 ((IntKind.wrap .u64 x1) * (8 : Int)))))] hE fun a hE => ?_
  refine ae ?_
  refine sq (ra ?_)
  refine sN 1 1 [(5, .int .u64 ((72057594037927936 : Int)))] hE fun a hE => ?_
  refine ae ?_
  refine sq (sq (ra ?_))
  refine sN 1 1 [(6, .int .i64 ((0 : Int)))] hE fun a hE => ?_
  refine ae ?_
  obtain ⟨s2, hf, hs2⟩ := bs hf
  refine block_loop (fun a w => ∃ (z1 : (List Int)), ∃ A1, ∃ c1, ∃ q3, ∃ D4, Env a 37 [] [(3, .slice A1 (List.length (z1)) c1)] ∧ Stp g w0 D0 [] w D4 [q3] ∧ Snap.le D2 D4 ∧ OwnD (kdInt .u8) 5 D4 A1 c1 (z1) q3 ∧ z1 = s2) (fun k a w => ∃ (y1 : (List Int) × Int × Int), ∃ A3, ∃ c3, ∃ q4, ∃ D5, Env a 37 [] [(3, .slice A3 (List.length (y1.1)) c3), (4, .int .u64 ((IntKind.wrap .u64 ((IntKind.wrap .u64 x1) * (8 : Int))))), (5, .int .u64 (y1.2.1)), (6, .int .i64 (y1.2.2))] ∧ Stp g w0 D0 [] w D5 [q4] ∧ Snap.le D2 D5 ∧ OwnD (kdInt .u8) 5 D5 A3 c3 (y1.1) q4 ∧ inspeximusref01_Fill_l2.l K x1 k y1 = some s2) K ?_ ?_ ?_
  ·exact ⟨(z2, (72057594037927936 : Int), (0 : Int)), A4, c4, q1, D2, hE.wk, hS, lr, h4, hf⟩
  ·clear hE hS hf
   rintro a w ⟨z1, A1, c1, q3, D4, hE, hS, le7, h5, rfl⟩
   have hf := hs2
   clear hs2
   refine sq (ra ?_)
   refine sN 2 2 [(2, .slice A1 (List.length (z1)) c1)] hE fun a hE => ?_
   refine ae ?_
   refine wpIn_ret ?_
   obtain rfl := si hf
   refine ret_ ?_
   refine rT 2 (.slice A1 (List.length (z1)) c1) hE ?_
   exact ⟨_, rfl, D4, A1, c1, q3, rfl, hS, h5⟩
  clear hE hS hf
  rintro k a w ⟨y1, A3, c3, q4, D5, hE, hS, le1, h1, hf⟩
  obtain ⟨k, rfl, hf⟩ := inspeximusref01_Fill_l2.some _ hf
  refine ⟨k, rfl, ?_⟩
  unfold inspeximusref01_Fill_l2.b at hf
  refine sq (sq (ra ?_))
  refine sN 2 2 [(23, .bool ((decide (y1.2.2 < (8 : Int)))))] hE fun a hE => ?_
  refine ae ?_
  refine cond_split hE (b := (decide (y1.2.2 < (8 : Int)))) rfl (fun hb => ?_) (fun hb => ?_)
  ·replace hf := ct hb hf
   refine wpIn_skip ?_
   refine sq ?_
   refine wpIn_block ?_
   refine sq (ra ?_)
   refine sN 3 3 [(26, .slice A3 (List.length (y1.1)) c3), (27, .int .u64 ((IntKind.wrap .u64 ((IntKind.wrap .u64 x1) * (8 : Int))))), (28, .int .u64 (y1.2.1))] hE fun a hE => ?_
   obtain ⟨hq1, hf⟩ := chk_not hf
   refine at_op (op_tk hE (tk_bin (r := .int .u64 ((IntKind.wrap .u64 (Int.tdiv (IntKind.wrap .u64 ((IntKind.wrap .u64 x1) * (8 : Int))) y1.2.1)))) rfl rfl rfl rfl hE rfl rfl rfl (quo_run hq1) (fun a hE => ?_))) rfl
   refine sN 2 6 [(31, .int .u8 ((IntKind.wrap .u8 (Int.tmod (IntKind.wrap .u64 (Int.tdiv (IntKind.wrap .u64 ((IntKind.wrap .u64 x1) * (8 : Int))) y1.2.1)) 256))))] hE fun a hE => ?_
   refine at_op (op_buildSlice (K := (kdInt .u8)) (e := 5) (cs := [.int .u8 ((IntKind.wrap .u8 (Int.tmod (IntKind.wrap .u64 (Int.tdiv (IntKind.wrap .u64 ((IntKind.wrap .u64 x1) * (8 : Int))) y1.2.1)) 256)))] ++ []) ([(IntKind.wrap .u8 (Int.tmod (IntKind.wrap .u64 (Int.tdiv (IntKind.wrap .u64 ((IntKind.wrap .u64 x1) * (8 : Int))) y1.2.1)) 256))] : List Int) rfl rfl rfl rfl hE rfl hS rfl (by kernel_rfl) rfl rfl (by exact ⟨_, _, rfl, rfl, rfl⟩) (fun a A9 q9 w _ hE h6 hS => ?_)) rfl
   obtain ⟨D6, q10, le3, hS, h14, h7⟩ := hS.lent h6
   have hS := hS.p (.d 1 (.d 0 .n))
   obtain ⟨l1, h8, hf⟩ := bs hf
   refine at_op (g_append (K := (kdInt .u8)) (e := 5) (bytes := 1) (l := y1.1) (m := ([(IntKind.wrap .u8 (Int.tmod (IntKind.wrap .u64 (Int.tdiv (IntKind.wrap .u64 ((IntKind.wrap .u64 x1) * (8 : Int))) y1.2.1)) 256))] : List Int)) rfl rfl rfl rfl hE rfl hS rfl rfl (by kernel_rfl) rfl rfl (h1.mono le3) h7 h8 (fun a A7 c6 q7 w _ hE h9 hS => ?_)) rfl
   refine sN 1 9 [(3, .slice A7 (List.length (l1)) c6)] hE fun a hE => ?_
   refine ae ?_
   refine ra ?_
   refine sN 3 3 [(5, .int .u64 ((IntKind.wrap .u64 (Int.tdiv y1.2.1 256))))] hE fun a hE => ?_
   refine ae ?_
   refine ra ?_
   refine sN 3 3 [(6, .int .i64 ((IntKind.wrap .i64 (y1.2.2 + (1 : Int)))))] hE fun a hE => ?_
   refine ae ?_
   have hS := hS.p (.d 0 .n)
   exact ⟨(l1, (IntKind.wrap .u64 (Int.tdiv y1.2.1 256)), (IntKind.wrap .i64 (y1.2.2 + (1 : Int)))), A7, c6, q7, D6, hE.wk, hS, (le2 le1 le3), h9, hf⟩
  replace hf := cf hb hf
  refine wpIn_exit ?_
  obtain rfl := si hf
  exact ⟨y1.1, A3, c3, q4, D5, hE.wk, hS, le1, h1, rfl⟩
 clear hE hS hf
 rintro k a w ⟨y2, A2, c2, q2, D3, hE, hS, le4, h2, hf⟩
 obtain ⟨k, rfl, hf⟩ := inspeximusref01_Fill_l1.some _ hf
 refine ⟨k, rfl, ?_⟩
 unfold inspeximusref01_Fill_l1.b at hf
 refine sq (sq (ra ?_))
 refine sN 6 6 [(15, .bool ((!decide ((Int.tmod (IntKind.wrap .i64 (x1 + ((List.length (y2) : Nat) : Int))) 64) = (56 : Int)))))] hE fun a hE => ?_
 refine ae ?_
 refine cond_split hE (b := (!decide ((Int.tmod (IntKind.wrap .i64 (x1 + ((List.length (y2) : Nat) : Int))) 64) = (56 : Int)))) rfl (fun hb => ?_) (fun hb => ?_)
 ·replace hf := ct hb hf
  refine wpIn_skip ?_
  refine wpIn_block ?_
  refine ra ?_
  refine sN 1 1 [(16, .slice A2 (List.length (y2)) c2)] hE fun a hE => ?_
  refine at_op (op_buildSlice (K := (kdInt .u8)) (e := 5) (cs := [.int .u8 ((0 : Int))] ++ []) ([(0 : Int)] : List Int) rfl rfl rfl rfl hE rfl hS rfl (by kernel_rfl) rfl rfl (by exact ⟨_, _, rfl, rfl, rfl⟩) (fun a A10 q11 w _ hE h10 hS => ?_)) rfl
  obtain ⟨D7, q12, le5, hS, h15, h11⟩ := hS.lent h10
  have hS := hS.p (.d 1 (.d 0 .n))
  obtain ⟨l2, h12, hf⟩ := bs hf
  refine at_op (g_append (K := (kdInt .u8)) (e := 5) (bytes := 1) (l := y2) (m := ([(0 : Int)] : List Int)) rfl rfl rfl rfl hE rfl hS rfl rfl (by kernel_rfl) rfl rfl (h2.mono le5) h11 h12 (fun a A8 c7 q8 w _ hE h13 hS => ?_)) rfl
  refine sN 1 4 [(3, .slice A8 (List.length (l2)) c7)] hE fun a hE => ?_
  refine ae ?_
  have hS := hS.p (.d 0 .n)
  exact ⟨l2, A8, c7, q8, D7, hE.wk, hS, (le2 le4 le5), h13, hf⟩
 replace hf := cf hb hf
 refine wpIn_exit ?_
 obtain rfl := si hf
 exact ⟨y2, A2, c2, q2, D3, hE.wk, hS, le4, h2, rfl⟩
set_option maxRecDepth 100000 in
theorem inspeximusref01_right.calls {K : Nat} {g w0 : World} {D0 : Snap} {x1 : Int} {x2 : Int} {r : (Int)} (hf : inspeximusref01_right.f K x1 x2 = some r) (hS0 : St g w0 D0 []) :
  CallsIn (Fw none) 0 Tryz.prog 103 (List.toArray [.int .u64 (x1), .int .i64 (x2)]) w0 (fun e w' => ∃ v, e = .returned v ∧ ∃ D1, v = .int .u64 (r) ∧ Stp g w0 D0 [] w' D1 []) := by
 unfold inspeximusref01_right.f at hf
 have hS := Stp.refl hS0
 clear hS0
 refine calls_body (n := 16) Tryz.func103 rfl Tryz.ntmps103 rfl fun a hE => ?_
 have hE : Env a 16 [] [(0, .int .u64 (x1)), (1, .int .i64 (x2))] := hE
 refine sq (ra ?_)
 refine sN 1 1 [(4, .int .u64 ((0 : Int)))] hE fun a hE => ?_
 refine ae ?_
 refine sq (ra ?_)
 refine sN 3 3 [(5, .int .u64 (x1)), (7, .int .u64 ((IntKind.wrap .u64 x2)))] hE fun a hE => ?_
 obtain ⟨hq5, hf⟩ := chk_not hf
 refine at_op (op_tk hE (tk_bin (r := .int .u64 ((Int.fdiv x1 (2 ^ (min (Int.toNat (IntKind.wrap .u64 x2)) 64))))) rfl rfl rfl rfl hE rfl rfl rfl (shr_run hq5) (fun a hE => ?_))) rfl
 refine sN 4 8 [(9, .int .u64 (x1)), (12, .int .u64 ((IntKind.wrap .u64 (IntKind.wrap .i64 ((32 : Int) - x2)))))] hE fun a hE => ?_
 obtain ⟨hq6, hf⟩ := chk_not hf
 refine at_op (op_tk hE (tk_bin (r := .int .u64 ((IntKind.wrap .u64 (x1 * 2 ^ (min (Int.toNat (IntKind.wrap .u64 (IntKind.wrap .i64 ((32 : Int) - x2)))) 64))))) rfl rfl rfl rfl hE rfl rfl rfl (shl_run hq6) (fun a hE => ?_))) rfl
 refine sN 3 12 [(4, .int .u64 ((Int.tmod (bor .u64 (Int.fdiv x1 (2 ^ (min (Int.toNat (IntKind.wrap .u64 x2)) 64))) (IntKind.wrap .u64 (x1 * 2 ^ (min (Int.toNat (IntKind.wrap .u64 (IntKind.wrap .i64 ((32 : Int) - x2)))) 64)))) 4294967296)))] hE fun a hE => ?_
 refine ae ?_
 refine wpIn_ret ?_
 obtain rfl := si hf
 refine ret_ ?_
 refine rT 4 (.int .u64 ((Int.tmod (bor .u64 (Int.fdiv x1 (2 ^ (min (Int.toNat (IntKind.wrap .u64 x2)) 64))) (IntKind.wrap .u64 (x1 * 2 ^ (min (Int.toNat (IntKind.wrap .u64 (IntKind.wrap .i64 ((32 : Int) - x2)))) 64)))) 4294967296))) hE ?_
 exact ⟨_, rfl, D0, rfl, hS⟩
set_option maxRecDepth 100000 in
theorem inspeximusref01_shift.calls {K : Nat} {g w0 : World} {D0 : Snap} {x1 : Int} {x2 : Int} {r : (Int)} (hf : inspeximusref01_shift.f K x1 x2 = some r) (hS0 : St g w0 D0 []) :
  CallsIn (Fw none) 0 Tryz.prog 104 (List.toArray [.int .u64 (x1), .int .i64 (x2)]) w0 (fun e w' => ∃ v, e = .returned v ∧ ∃ D1, v = .int .u64 (r) ∧ Stp g w0 D0 [] w' D1 []) := by
 unfold inspeximusref01_shift.f at hf
 have hS := Stp.refl hS0
 clear hS0
 refine calls_body (n := 9) Tryz.func104 rfl Tryz.ntmps104 rfl fun a hE => ?_
 have hE : Env a 9 [] [(0, .int .u64 (x1)), (1, .int .i64 (x2))] := hE
 refine sq (ra ?_)
 refine sN 1 1 [(4, .int .u64 ((0 : Int)))] hE fun a hE => ?_
 refine ae ?_
 refine sq (ra ?_)
 refine sN 3 3 [(5, .int .u64 (x1)), (7, .int .u64 ((IntKind.wrap .u64 x2)))] hE fun a hE => ?_
 obtain ⟨hq4, hf⟩ := chk_not hf
 refine at_op (op_tk hE (tk_bin (r := .int .u64 ((Int.fdiv x1 (2 ^ (min (Int.toNat (IntKind.wrap .u64 x2)) 64))))) rfl rfl rfl rfl hE rfl rfl rfl (shr_run hq4) (fun a hE => ?_))) rfl
 refine sN 1 5 [(4, .int .u64 ((Int.fdiv x1 (2 ^ (min (Int.toNat (IntKind.wrap .u64 x2)) 64)))))] hE fun a hE => ?_
 refine ae ?_
 refine wpIn_ret ?_
 obtain rfl := si hf
 refine ret_ ?_
 refine rT 4 (.int .u64 ((Int.fdiv x1 (2 ^ (min (Int.toNat (IntKind.wrap .u64 x2)) 64))))) hE ?_
 exact ⟨_, rfl, D0, rfl, hS⟩
set_option maxRecDepth 100000 in
theorem inspeximusref01_Turn.calls {K : Nat} {g w0 : World} {D0 : Snap} {x1 : (Vector Int 8)} {x2 : (List Int)} {A3 : Option Addr} {c4 : Nat} {r : ((Vector Int 8))} (hf : inspeximusref01_Turn.f K x1 x2 = some r) (hS0 : St g w0 D0 []) (h5 : Sl (kdInt .u8) D0 A3 c4 (x2)) (hG1 : Cell (kdArr .u32 64) D0 1 0 gl_K) :
  CallsIn (Fw none) 0 Tryz.prog 101 (List.toArray [.agg (List.toArray (acells .u32 8 (x1))), .slice A3 (List.length (x2)) c4]) w0 (fun e w' => ∃ v, e = .returned v ∧ ∃ D1, v = .agg (List.toArray (acells .u32 8 (r))) ∧ Stp g w0 D0 [] w' D1 []) := by
 unfold inspeximusref01_Turn.f at hf
 have hS := Stp.refl hS0
 clear hS0
 refine calls_body (n := 218) Tryz.func101 rfl Tryz.ntmps101 rfl fun a hE => ?_
 have hE : Env a 218 [] [(0, .agg (List.toArray (acells .u32 8 (x1)))), (1, .slice A3 (List.length (x2)) c4)] := hE
 refine sq (ra ?_)
 refine at_op (op_box rfl rfl rfl rfl hE rfl hS rfl (fun a b1 w _ hE hS => ?_)) rfl
 refine at_op (op_alloc (z := .agg (List.toArray (acells .u32 8 ((Vector.replicate 8 (0 : Int)))))) rfl rfl rfl rfl hE rfl hS (by kernel_rfl) (fun a b2 w _ hE hS => ?_)) rfl
 refine ae ?_
 refine sq (sq (ra ?_))
 refine sN 3 3 [(21, .bool ((!decide (((List.length (x2) : Nat) : Int) = (64 : Int)))))] hE fun a hE => ?_
 refine ae ?_
 refine cond_split hE (b := (!decide (((List.length (x2) : Nat) : Int) = (64 : Int)))) rfl (fun hb => ?_) (fun hb => ?_)
 ·replace hf := ct hb hf
  refine sq (ra ?_)
  refine sM 1 1 [1] [(22, .agg (List.toArray (acells .u32 8 (x1))))] hE hS fun a hE => ?_
  refine at_op (op_store (v := .agg (List.toArray (acells .u32 8 (x1)))) (acells .u32 8 (x1)) rfl rfl rfl rfl hE hS rfl rfl (by kernel_rfl) (by kernel_rfl) (by kernel_rfl) (by kernel_rfl) (by kernel_rfl) (fun a w _ hE hS => ?_)) rfl
  refine ae ?_
  refine wpIn_ret ?_
  obtain rfl := si hf
  refine ret_ ?_
  refine ret_gen ([.agg (List.toArray (acells .u32 8 (x1)))]) hE (by rw [show Tryz.f101.results.toList = [.cell 4 129] from rfl]; exact ⟨_, _, _, 0, _, _, rfl, rfl, hS.heapAt (j := 0) rfl, by kernel_rfl, rfl⟩) ?_
  have hS := hS.p .n
  exact ⟨_, rfl, D0, rfl, hS⟩
 replace hf := cf hb hf
 refine wpIn_skip ?_
 refine sq (ra ?_)
 refine at_op (op_alloc (z := .agg (List.toArray (acells .u64 64 ((Vector.replicate 64 (0 : Int)))))) rfl rfl rfl rfl hE rfl hS (by kernel_rfl) (fun a b3 w _ hE hS => ?_)) rfl
 refine ae ?_
 refine sq (sq (ra ?_))
 refine sN 1 1 [(6, .int .i64 ((0 : Int)))] hE fun a hE => ?_
 refine ae ?_
 obtain ⟨s1, hf, hs1⟩ := bs hf
 have hS := hS.p (.d 2 (.d 1 (.d 0 .n)))
 refine block_loop (fun a w => ∃ (z1 : (Vector Int 64)), ∃ D2, Env a 218 [] [(2, .pointer (some ⟨b1, 0, none⟩)), (4, .pointer (some ⟨b2, 0, none⟩)), (5, .pointer (some ⟨b3, 0, none⟩))] ∧ Stp g w0 D0 [] w D2 [bx b1 129 (acells .u32 8 (x1)), bx b2 129 (acells .u32 8 ((Vector.replicate 8 (0 : Int)))), bx b3 133 (acells .u64 64 (z1))] ∧ Snap.le D0 D2 ∧ z1 = s1) (fun k a w => ∃ (y2 : Int × (Vector Int 64)), ∃ D3, Env a 218 [] [(1, .slice A3 (List.length (x2)) c4), (2, .pointer (some ⟨b1, 0, none⟩)), (4, .pointer (some ⟨b2, 0, none⟩)), (5, .pointer (some ⟨b3, 0, none⟩)), (6, .int .i64 (y2.1))] ∧ Stp g w0 D0 [] w D3 [bx b1 129 (acells .u32 8 (x1)), bx b2 129 (acells .u32 8 ((Vector.replicate 8 (0 : Int)))), bx b3 133 (acells .u64 64 (y2.2))] ∧ Snap.le D0 D3 ∧ inspeximusref01_Turn_l1.l K x2 k y2 = some s1) K ?_ ?_ ?_
 ·exact ⟨((0 : Int), (Vector.replicate 64 (0 : Int))), D0, hE.wk, hS, lr, hf⟩
 ·clear hE hS hf
  rintro a w ⟨z1, D2, hE, hS, le6, rfl⟩
  have hf := hs1
  clear hs1
  refine sq (ra ?_)
  refine at_op (op_alloc (z := .agg (List.toArray (acells .u64 8 ((Vector.replicate 8 (0 : Int)))))) rfl rfl rfl rfl hE rfl hS (by kernel_rfl) (fun a b4 w _ hE hS => ?_)) rfl
  refine ae ?_
  refine sq (sq (ra ?_))
  refine sN 1 1 [(10, .int .i64 ((0 : Int)))] hE fun a hE => ?_
  refine ae ?_
  obtain ⟨s2, hf, hs2⟩ := bs hf
  have hS := hS.p (.d 1 (.d 2 (.d 3 (.d 0 .n))))
  refine block_loop (fun a w => ∃ (z4 : (Vector Int 8)), ∃ D4, Env a 218 [] [(2, .pointer (some ⟨b1, 0, none⟩)), (4, .pointer (some ⟨b2, 0, none⟩)), (5, .pointer (some ⟨b3, 0, none⟩)), (9, .pointer (some ⟨b4, 0, none⟩))] ∧ Stp g w0 D0 [] w D4 [bx b1 129 (acells .u32 8 (x1)), bx b2 129 (acells .u32 8 ((Vector.replicate 8 (0 : Int)))), bx b3 133 (acells .u64 64 (z1)), bx b4 135 (acells .u64 8 (z4))] ∧ Snap.le D2 D4 ∧ z4 = s2) (fun k a w => ∃ (y4 : Int × (Vector Int 8)), ∃ D6, Env a 218 [] [(2, .pointer (some ⟨b1, 0, none⟩)), (4, .pointer (some ⟨b2, 0, none⟩)), (5, .pointer (some ⟨b3, 0, none⟩)), (9, .pointer (some ⟨b4, 0, none⟩)), (10, .int .i64 (y4.1))] ∧ Stp g w0 D0 [] w D6 [bx b1 129 (acells .u32 8 (x1)), bx b2 129 (acells .u32 8 ((Vector.replicate 8 (0 : Int)))), bx b3 133 (acells .u64 64 (z1)), bx b4 135 (acells .u64 8 (y4.2))] ∧ Snap.le D2 D6 ∧ inspeximusref01_Turn_l2.l K x1 k y4 = some s2) K ?_ ?_ ?_
  ·exact ⟨((0 : Int), (Vector.replicate 8 (0 : Int))), D2, hE.wk, hS, lr, hf⟩
  ·clear hE hS hf
   rintro a w ⟨z4, D4, hE, hS, le7, rfl⟩
   have hf := hs2
   clear hs2
   refine sq (sq (ra ?_))
   refine sN 1 1 [(11, .int .i64 ((0 : Int)))] hE fun a hE => ?_
   refine ae ?_
   obtain ⟨s3, hf, hs3⟩ := bs hf
   refine block_loop (fun a w => ∃ (z2 : (Vector Int 8)), ∃ D5, Env a 218 [] [(2, .pointer (some ⟨b1, 0, none⟩)), (4, .pointer (some ⟨b2, 0, none⟩)), (9, .pointer (some ⟨b4, 0, none⟩))] ∧ Stp g w0 D0 [] w D5 [bx b1 129 (acells .u32 8 (x1)), bx b2 129 (acells .u32 8 ((Vector.replicate 8 (0 : Int)))), bx b4 135 (acells .u64 8 (z2))] ∧ Snap.le D4 D5 ∧ z2 = s3) (fun k a w => ∃ (y1 : Int × (Vector Int 8)), ∃ D8, Env a 218 [] [(2, .pointer (some ⟨b1, 0, none⟩)), (4, .pointer (some ⟨b2, 0, none⟩)), (5, .pointer (some ⟨b3, 0, none⟩)), (9, .pointer (some ⟨b4, 0, none⟩)), (11, .int .i64 (y1.1))] ∧ Stp g w0 D0 [] w D8 [bx b1 129 (acells .u32 8 (x1)), bx b2 129 (acells .u32 8 ((Vector.replicate 8 (0 : Int)))), bx b3 133 (acells .u64 64 (z1)), bx b4 135 (acells .u64 8 (y1.2))] ∧ Snap.le D4 D8 ∧ inspeximusref01_Turn_l3.l K z1 k y1 = some s3) K ?_ ?_ ?_
   ·exact ⟨((0 : Int), z4), D4, hE.wk, hS, lr, hf⟩
   ·clear hE hS hf
    rintro a w ⟨z2, D5, hE, hS, le21, rfl⟩
    have hf := hs3
    clear hs3
    refine sq (sq (ra ?_))
    refine sN 1 1 [(18, .int .i64 ((0 : Int)))] hE fun a hE => ?_
    refine ae ?_
    obtain ⟨s4, hf, hs4⟩ := bs hf
    refine block_loop (fun a w => ∃ (z3 : (Vector Int 8)), ∃ D9, Env a 218 [] [(2, .pointer (some ⟨b1, 0, none⟩)), (4, .pointer (some ⟨b2, 0, none⟩))] ∧ Stp g w0 D0 [] w D9 [bx b1 129 (acells .u32 8 (z3)), bx b2 129 (acells .u32 8 ((Vector.replicate 8 (0 : Int))))] ∧ Snap.le D5 D9 ∧ z3 = s4) (fun k a w => ∃ (y3 : Int × (Vector Int 8)), ∃ D7, Env a 218 [] [(2, .pointer (some ⟨b1, 0, none⟩)), (4, .pointer (some ⟨b2, 0, none⟩)), (9, .pointer (some ⟨b4, 0, none⟩)), (18, .int .i64 (y3.1))] ∧ Stp g w0 D0 [] w D7 [bx b1 129 (acells .u32 8 (y3.2)), bx b2 129 (acells .u32 8 ((Vector.replicate 8 (0 : Int)))), bx b4 135 (acells .u64 8 (z2))] ∧ Snap.le D5 D7 ∧ inspeximusref01_Turn_l4.l K z2 k y3 = some s4) K ?_ ?_ ?_
    ·exact ⟨((0 : Int), x1), D5, hE.wk, hS, lr, hf⟩
    ·clear hE hS hf
     rintro a w ⟨z3, D9, hE, hS, le22, rfl⟩
     have hf := hs4
     clear hs4
     refine sq (ra ?_)
     refine sM 1 1 [0] [(217, .agg (List.toArray (acells .u32 8 (z3))))] hE hS fun a hE => ?_
     have hS := hS.p (.d 1 (.d 0 .n))
     refine at_op (op_store (v := .agg (List.toArray (acells .u32 8 (z3)))) (acells .u32 8 (z3)) rfl rfl rfl rfl hE hS rfl rfl (by kernel_rfl) (by kernel_rfl) (by kernel_rfl) (by kernel_rfl) (by kernel_rfl) (fun a w _ hE hS => ?_)) rfl
     refine ae ?_
     refine wpIn_ret ?_
     obtain rfl := si hf
     refine ret_ ?_
     refine ret_gen ([.agg (List.toArray (acells .u32 8 (z3)))]) hE (by rw [show Tryz.f101.results.toList = [.cell 4 129] from rfl]; exact ⟨_, _, _, 0, _, _, rfl, rfl, hS.heapAt (j := 0) rfl, by kernel_rfl, rfl⟩) ?_
     have hS := hS.p .n
     exact ⟨_, rfl, D9, rfl, hS⟩
    clear hE hS hf
    rintro k a w ⟨y3, D7, hE, hS, le4, hf⟩
    obtain ⟨k, rfl, hf⟩ := inspeximusref01_Turn_l4.some _ hf
    refine ⟨k, rfl, ?_⟩
    unfold inspeximusref01_Turn_l4.b at hf
    refine sq (sq (ra ?_))
    refine sN 2 2 [(202, .bool ((decide (y3.1 < (8 : Int)))))] hE fun a hE => ?_
    refine ae ?_
    refine cond_split hE (b := (decide (y3.1 < (8 : Int)))) rfl (fun hb => ?_) (fun hb => ?_)
    ·replace hf := ct hb hf
     refine wpIn_skip ?_
     refine sq ?_
     refine wpIn_block ?_
     refine region_draw (fun j => Keeps (mfOf [(12, [b1])] j)) (by kernel_rfl) ?_
     have hS := hS.drew
     first | generalize w.drew = w at hS ⊢ | generalize w0.drew = w at hS ⊢
     refine wP 0 1 12 (.int .i64 (y3.1)) hE fun a hE => ?_
     refine wP 1 3 11 (.int .i64 (y3.1)) hE fun a hE => ?_
     refine wP 5 35 10 (.int .i64 (y3.1)) hE fun a hE => ?_
     obtain ⟨hm8773, hf⟩ := chk_some hf
     refine tW 2 39 (fuel := 9) (by kernel_rfl) hE (fun M => tk_indexPA (N := 8) (k := .u32) (m := y3.1) rfl rfl rfl rfl hE rfl rfl rfl (by kernel_rfl) hm8773 (fun a hE => ?_))
     refine tT 3 47 (fuel := 8) (by kernel_rfl) hE (tk_loadPA 0 (N := 8) (k := .u32) (v := y3.2) (m := y3.1) rfl rfl rfl rfl hE rfl hS rfl rfl (by kernel_rfl) hm8773 (kL (j := 0) hS rfl List.not_mem_nil) (fun a hE => ?_))
     refine tW 4 63 (fuel := 7) (by kernel_rfl) hE (fun M => tk_pure (.int .u64 ((IntKind.wrap .u64 (vget (y3.2) (Int.toNat (y3.1)))))) hE rfl rfl rfl rfl (fun _ _ _ e => by cases e; rfl) (by kernel_rfl) (fun a hE => ?_))
     obtain ⟨hm8774, hf⟩ := chk_some hf
     refine tW 6 127 (fuel := 6) (by kernel_rfl) hE (fun M => tk_indexPA (N := 8) (k := .u64) (m := y3.1) rfl rfl rfl rfl hE rfl rfl rfl (by kernel_rfl) hm8774 (fun a hE => ?_))
     refine tT 7 255 (fuel := 5) (by kernel_rfl) hE (tk_loadPA 2 (N := 8) (k := .u64) (v := z2) (m := y3.1) rfl rfl rfl rfl hE rfl hS rfl rfl (by kernel_rfl) hm8774 (kL (j := 2) hS rfl List.not_mem_nil) (fun a hE => ?_))
     refine wP 8 511 4 (.int .u64 ((IntKind.wrap .u64 ((IntKind.wrap .u64 (vget (y3.2) (Int.toNat (y3.1)))) + (vget (z2) (Int.toNat (y3.1))))))) hE fun a hE => ?_
     refine wP 9 1023 3 (.int .u64 ((Int.tmod (IntKind.wrap .u64 ((IntKind.wrap .u64 (vget (y3.2) (Int.toNat (y3.1)))) + (vget (z2) (Int.toNat (y3.1))))) 4294967296))) hE fun a hE => ?_
     refine tW 10 2047 (fuel := 2) (by kernel_rfl) hE (fun M => tk_pure (.int .u32 ((IntKind.wrap .u32 (Int.tmod (IntKind.wrap .u64 ((IntKind.wrap .u64 (vget (y3.2) (Int.toNat (y3.1)))) + (vget (z2) (Int.toNat (y3.1))))) 4294967296)))) hE rfl rfl rfl rfl (fun _ _ _ e => by cases e; rfl) (by kernel_rfl) (fun a hE => ?_))
     obtain ⟨hm8775, hf⟩ := chk_some hf
     refine tW 11 4095 (fuel := 1) (by kernel_rfl) hE (fun M => tk_indexPA (N := 8) (k := .u32) (m := y3.1) rfl rfl rfl rfl hE rfl rfl rfl (by kernel_rfl) hm8775 (fun a hE => ?_))
     obtain ⟨v1, hv1, hf⟩ := bs hf
     replace hv1 := Option.some.inj hv1
     refine oG 12 8191 (fuel := 0) (by kernel_rfl) (op_storePA (N := 8) (k := .u32) (v := y3.2) (m := y3.1) (z := (IntKind.wrap .u32 (Int.tmod (IntKind.wrap .u64 ((IntKind.wrap .u64 (vget (y3.2) (Int.toNat (y3.1)))) + (vget (z2) (Int.toNat (y3.1))))) 4294967296))) rfl rfl rfl rfl hE hS rfl rfl (by kernel_rfl) hm8775 (fun a w hkp hE hS => ⟨hkp.mono (fun _ h => h), ?_⟩))
     clear hkp
     rw [hv1] at hS
     refine doneG (by kernel_rfl) ?_
     refine ra ?_
     refine sN 3 3 [(18, .int .i64 ((IntKind.wrap .i64 (y3.1 + (1 : Int)))))] hE fun a hE => ?_
     exact ae ⟨((IntKind.wrap .i64 (y3.1 + (1 : Int))), v1), D7, hE.wk, hS, le4, hf⟩
    replace hf := cf hb hf
    refine wpIn_exit ?_
    obtain rfl := si hf
    have hS := hS.p (.d 0 (.d 1 .n))
    exact ⟨y3.2, D7, hE.wk, hS, le4, rfl⟩
   clear hE hS hf
   rintro k a w ⟨y1, D8, hE, hS, le3, hf⟩
   obtain ⟨k, rfl, hf⟩ := inspeximusref01_Turn_l3.some _ hf
   refine ⟨k, rfl, ?_⟩
   unfold inspeximusref01_Turn_l3.b at hf
   refine sq (sq (ra ?_))
   refine sN 2 2 [(113, .bool ((decide (y1.1 < (64 : Int)))))] hE fun a hE => ?_
   refine ae ?_
   refine cond_split hE (b := (decide (y1.1 < (64 : Int)))) rfl (fun hb => ?_) (fun hb => ?_)
   ·replace hf := ct hb hf
    refine wpIn_skip ?_
    refine sq ?_
    refine wpIn_block ?_
    refine sq ?_
    refine region_draw (fun j => Keeps (mfOf [] j)) (by kernel_rfl) ?_
    have hS := hS.drew
    first | generalize w.drew = w at hS ⊢ | generalize w0.drew = w at hS ⊢
    refine tW 0 1 (fuel := 5) (by kernel_rfl) hE (fun M => tk_indexPA (N := 8) (k := .u64) (m := (4 : Int)) rfl rfl rfl rfl hE rfl rfl rfl (by kernel_rfl) (by kernel_rfl) (fun a hE => ?_))
    refine tT 1 3 (fuel := 4) (by kernel_rfl) hE (tk_loadPA 3 (N := 8) (k := .u64) (v := y1.2) (m := (4 : Int)) rfl rfl rfl rfl hE rfl hS rfl rfl (by kernel_rfl) (by kernel_rfl) (kL (j := 3) hS rfl List.not_mem_nil) (fun a hE => ?_))
    refine wP 4 19 3 (.int .u64 ((vget (y1.2) (Int.toNat ((4 : Int)))))) hE fun a hE => ?_
    refine tW 2 23 (fuel := 2) (by kernel_rfl) hE (fun M => tk_indexPA (N := 8) (k := .u64) (m := (0 : Int)) rfl rfl rfl rfl hE rfl rfl rfl (by kernel_rfl) (by kernel_rfl) (fun a hE => ?_))
    refine tT 3 31 (fuel := 1) (by kernel_rfl) hE (tk_loadPA 3 (N := 8) (k := .u64) (v := y1.2) (m := (0 : Int)) rfl rfl rfl rfl hE rfl hS rfl rfl (by kernel_rfl) (by kernel_rfl) (kL (j := 3) hS rfl List.not_mem_nil) (fun a hE => ?_))
    refine wP 5 63 0 (.int .u64 ((vget (y1.2) (Int.toNat ((0 : Int)))))) hE fun a hE => ?_
    refine doneG (by kernel_rfl) ?_
    refine sq (ra ?_)
    refine sN 1 1 [(120, .int .u64 ((vget (y1.2) (Int.toNat ((4 : Int))))))] hE fun a hE => ?_
    refine at_op (op_tk hE (tk_indexPA (N := 8) (k := .u64) (m := (5 : Int)) rfl rfl rfl rfl hE rfl rfl rfl (by kernel_rfl) (by kernel_rfl) (fun a hE => ?_))) rfl
    refine at_op (op_tk hE (tk_loadPA 3 (N := 8) (k := .u64) (v := y1.2) (m := (5 : Int)) rfl rfl rfl rfl hE rfl hS rfl rfl (by kernel_rfl) (by kernel_rfl) (kL (j := 3) hS rfl List.not_mem_nil) (fun a hE => ?_))) rfl
    refine sN 3 6 [(123, .int .u64 ((band .u64 (vget (y1.2) (Int.toNat ((4 : Int)))) (vget (y1.2) (Int.toNat ((5 : Int))))))), (125, .int .u64 ((IntKind.wrap .u64 ((4294967295 : Int) - (vget (y1.2) (Int.toNat ((4 : Int))))))))] hE fun a hE => ?_
    refine at_op (op_tk hE (tk_indexPA (N := 8) (k := .u64) (m := (6 : Int)) rfl rfl rfl rfl hE rfl rfl rfl (by kernel_rfl) (by kernel_rfl) (fun a hE => ?_))) rfl
    refine at_op (op_tk hE (tk_loadPA 3 (N := 8) (k := .u64) (v := y1.2) (m := (6 : Int)) rfl rfl rfl rfl hE rfl hS rfl rfl (by kernel_rfl) (by kernel_rfl) (kL (j := 3) hS rfl List.not_mem_nil) (fun a hE => ?_))) rfl
    refine sN 3 11 [(14, .int .u64 ((bxor .u64 (band .u64 (vget (y1.2) (Int.toNat ((4 : Int)))) (vget (y1.2) (Int.toNat ((5 : Int))))) (band .u64 (IntKind.wrap .u64 ((4294967295 : Int) - (vget (y1.2) (Int.toNat ((4 : Int)))))) (vget (y1.2) (Int.toNat ((6 : Int))))))))] hE fun a hE => ?_
    refine ae ?_
    refine sq (ra ?_)
    refine sN 1 1 [(130, .int .u64 ((vget (y1.2) (Int.toNat ((0 : Int))))))] hE fun a hE => ?_
    refine at_op (op_tk hE (tk_indexPA (N := 8) (k := .u64) (m := (1 : Int)) rfl rfl rfl rfl hE rfl rfl rfl (by kernel_rfl) (by kernel_rfl) (fun a hE => ?_))) rfl
    refine at_op (op_tk hE (tk_loadPA 3 (N := 8) (k := .u64) (v := y1.2) (m := (1 : Int)) rfl rfl rfl rfl hE rfl hS rfl rfl (by kernel_rfl) (by kernel_rfl) (kL (j := 3) hS rfl List.not_mem_nil) (fun a hE => ?_))) rfl
    refine sN 2 5 [(133, .int .u64 ((band .u64 (vget (y1.2) (Int.toNat ((0 : Int)))) (vget (y1.2) (Int.toNat ((1 : Int))))))), (134, .int .u64 ((vget (y1.2) (Int.toNat ((0 : Int))))))] hE fun a hE => ?_
    refine at_op (op_tk hE (tk_indexPA (N := 8) (k := .u64) (m := (2 : Int)) rfl rfl rfl rfl hE rfl rfl rfl (by kernel_rfl) (by kernel_rfl) (fun a hE => ?_))) rfl
    refine at_op (op_tk hE (tk_loadPA 3 (N := 8) (k := .u64) (v := y1.2) (m := (2 : Int)) rfl rfl rfl rfl hE rfl hS rfl rfl (by kernel_rfl) (by kernel_rfl) (kL (j := 3) hS rfl List.not_mem_nil) (fun a hE => ?_))) rfl
    refine sN 2 9 [(138, .int .u64 ((bxor .u64 (band .u64 (vget (y1.2) (Int.toNat ((0 : Int)))) (vget (y1.2) (Int.toNat ((1 : Int))))) (band .u64 (vget (y1.2) (Int.toNat ((0 : Int)))) (vget (y1.2) (Int.toNat ((2 : Int))))))))] hE fun a hE => ?_
    refine at_op (op_tk hE (tk_indexPA (N := 8) (k := .u64) (m := (1 : Int)) rfl rfl rfl rfl hE rfl rfl rfl (by kernel_rfl) (by kernel_rfl) (fun a hE => ?_))) rfl
    refine at_op (op_tk hE (tk_loadPA 3 (N := 8) (k := .u64) (v := y1.2) (m := (1 : Int)) rfl rfl rfl rfl hE rfl hS rfl rfl (by kernel_rfl) (by kernel_rfl) (kL (j := 3) hS rfl List.not_mem_nil) (fun a hE => ?_))) rfl
    refine at_op (op_tk hE (tk_indexPA (N := 8) (k := .u64) (m := (2 : Int)) rfl rfl rfl rfl hE rfl rfl rfl (by kernel_rfl) (by kernel_rfl) (fun a hE => ?_))) rfl
    refine at_op (op_tk hE (tk_loadPA 3 (N := 8) (k := .u64) (v := y1.2) (m := (2 : Int)) rfl rfl rfl rfl hE rfl hS rfl rfl (by kernel_rfl) (by kernel_rfl) (kL (j := 3) hS rfl List.not_mem_nil) (fun a hE => ?_))) rfl
    refine sN 3 16 [(15, .int .u64 ((bxor .u64 (bxor .u64 (band .u64 (vget (y1.2) (Int.toNat ((0 : Int)))) (vget (y1.2) (Int.toNat ((1 : Int))))) (band .u64 (vget (y1.2) (Int.toNat ((0 : Int)))) (vget (y1.2) (Int.toNat ((2 : Int)))))) (band .u64 (vget (y1.2) (Int.toNat ((1 : Int)))) (vget (y1.2) (Int.toNat ((2 : Int))))))))] hE fun a hE => ?_
    refine ae ?_
    refine sq ?_
    refine region_draw (fun j => Keeps (mfOf [] j)) (by kernel_rfl) ?_
    have hS := hS.drew
    first | generalize w.drew = w at hS ⊢ | generalize w0.drew = w at hS ⊢
    refine wP 2 4 23 (.int .u64 ((vget (y1.2) (Int.toNat ((4 : Int)))))) hE fun a hE => ?_
    refine wP 4 20 22 (.int .u64 ((vget (y1.2) (Int.toNat ((4 : Int)))))) hE fun a hE => ?_
    refine wP 7 148 21 (.int .u64 ((vget (y1.2) (Int.toNat ((4 : Int)))))) hE fun a hE => ?_
    refine wP 11 2196 20 (.int .u64 ((bxor .u64 (band .u64 (vget (y1.2) (Int.toNat ((4 : Int)))) (vget (y1.2) (Int.toNat ((5 : Int))))) (band .u64 (IntKind.wrap .u64 ((4294967295 : Int) - (vget (y1.2) (Int.toNat ((4 : Int)))))) (vget (y1.2) (Int.toNat ((6 : Int)))))))) hE fun a hE => ?_
    refine wP 13 10388 19 (.int .i64 (y1.1)) hE fun a hE => ?_
    refine wP 18 272532 18 (.int .i64 (y1.1)) hE fun a hE => ?_
    refine tW 0 272533 (fuel := 17) (by kernel_rfl) hE (fun M => tk_indexPA (N := 8) (k := .u64) (m := (7 : Int)) rfl rfl rfl rfl hE rfl rfl rfl (by kernel_rfl) (by kernel_rfl) (fun a hE => ?_))
    refine tT 1 272535 (fuel := 16) (by kernel_rfl) hE (tk_loadPA 3 (N := 8) (k := .u64) (v := y1.2) (m := (7 : Int)) rfl rfl rfl rfl hE rfl hS rfl rfl (by kernel_rfl) (by kernel_rfl) (kL (j := 3) hS rfl List.not_mem_nil) (fun a hE => ?_))
    obtain ⟨hm8603, hf⟩ := chk_some hf
    refine tW 14 288919 (fuel := 15) (by kernel_rfl) hE (fun M => tk_indexPA (N := 64) (k := .u32) (m := y1.1) rfl rfl rfl rfl hE rfl rfl rfl (by kernel_rfl) hm8603 (fun a hE => ?_))
    obtain ⟨cs1, C1, T1, fr1, hr1, hb1, hc1⟩ := (Cell.elemA (N := 64) (m := y1.1) (hG1.mono (le2 (le2 le6 le7) le3)) hm8603)
    obtain rfl := hr1
    refine tT 15 321687 (fuel := 14) (by kernel_rfl) hE (tk_loadX (off0 := (0 + Int.toNat (y1.1))) (off := 0) (c := [.int .u32 ((vget (gl_K) (Int.toNat (y1.1))))]) (.int .u32 ((vget (gl_K) (Int.toNat (y1.1))))) rfl rfl rfl rfl hE rfl hS rfl hb1 hc1 (by kernel_rfl) (by kernel_rfl) (kD hS dn_nil) (fun a hE => ?_))
    refine tW 16 387223 (fuel := 13) (by kernel_rfl) hE (fun M => tk_pure (.int .u64 ((IntKind.wrap .u64 (vget (gl_K) (Int.toNat (y1.1)))))) hE rfl rfl rfl rfl (fun _ _ _ e => by cases e; rfl) (by kernel_rfl) (fun a hE => ?_))
    obtain ⟨hm8611, hf⟩ := chk_some hf
    refine tW 19 911511 (fuel := 12) (by kernel_rfl) hE (fun M => tk_indexPA (N := 64) (k := .u64) (m := y1.1) rfl rfl rfl rfl hE rfl rfl rfl (by kernel_rfl) hm8611 (fun a hE => ?_))
    refine tT 20 1960087 (fuel := 11) (by kernel_rfl) hE (tk_loadPA 2 (N := 64) (k := .u64) (v := z1) (m := y1.1) rfl rfl rfl rfl hE rfl hS rfl rfl (by kernel_rfl) hm8611 (kL (j := 2) hS rfl List.not_mem_nil) (fun a hE => ?_))
    obtain ⟨r1, h1, hf⟩ := bs hf
    refine oC 3 1960095 10 rfl rfl rfl rfl hE rfl rfl rfl rfl (inspeximusref01_right.calls h1 (hS.st.fore (L := [])) ) fun a v w hR hE => ?_
    obtain ⟨D13, rfl, hS1⟩ := hR
    refine ⟨(hS1.keeps.sub (M' := []) trivial).mono (fun _ h => h), ?_⟩
    have le8 := hS1.dle
    have hS := hS.callR hS1 rfl .n
    obtain ⟨r2, h2, hf⟩ := bs hf
    refine oC 5 1960127 9 rfl rfl rfl rfl hE rfl rfl rfl rfl (inspeximusref01_right.calls h2 (hS.st.fore (L := [])) ) fun a v w hR hE => ?_
    obtain ⟨D14, rfl, hS1⟩ := hR
    refine ⟨(hS1.keeps.sub (M' := []) trivial).mono (fun _ h => h), ?_⟩
    have le9 := hS1.dle
    have hS := hS.callR hS1 rfl .n
    refine wP 6 1960191 8 (.int .u64 ((bxor .u64 r1 r2))) hE fun a hE => ?_
    obtain ⟨r3, h3, hf⟩ := bs hf
    refine oC 8 1960447 7 rfl rfl rfl rfl hE rfl rfl rfl rfl (inspeximusref01_right.calls h3 (hS.st.fore (L := [])) ) fun a v w hR hE => ?_
    obtain ⟨D15, rfl, hS1⟩ := hR
    refine ⟨(hS1.keeps.sub (M' := []) trivial).mono (fun _ h => h), ?_⟩
    have le10 := hS1.dle
    have hS := hS.callR hS1 rfl .n
    refine wP 9 1960959 6 (.int .u64 ((bxor .u64 (bxor .u64 r1 r2) r3))) hE fun a hE => ?_
    refine wP 10 1961983 5 (.int .u64 ((IntKind.wrap .u64 ((vget (y1.2) (Int.toNat ((7 : Int)))) + (bxor .u64 (bxor .u64 r1 r2) r3))))) hE fun a hE => ?_
    refine wP 12 1966079 4 (.int .u64 ((IntKind.wrap .u64 ((IntKind.wrap .u64 ((vget (y1.2) (Int.toNat ((7 : Int)))) + (bxor .u64 (bxor .u64 r1 r2) r3))) + (bxor .u64 (band .u64 (vget (y1.2) (Int.toNat ((4 : Int)))) (vget (y1.2) (Int.toNat ((5 : Int))))) (band .u64 (IntKind.wrap .u64 ((4294967295 : Int) - (vget (y1.2) (Int.toNat ((4 : Int)))))) (vget (y1.2) (Int.toNat ((6 : Int)))))))))) hE fun a hE => ?_
    refine wP 17 2097151 3 (.int .u64 ((IntKind.wrap .u64 ((IntKind.wrap .u64 ((IntKind.wrap .u64 ((vget (y1.2) (Int.toNat ((7 : Int)))) + (bxor .u64 (bxor .u64 r1 r2) r3))) + (bxor .u64 (band .u64 (vget (y1.2) (Int.toNat ((4 : Int)))) (vget (y1.2) (Int.toNat ((5 : Int))))) (band .u64 (IntKind.wrap .u64 ((4294967295 : Int) - (vget (y1.2) (Int.toNat ((4 : Int)))))) (vget (y1.2) (Int.toNat ((6 : Int)))))))) + (IntKind.wrap .u64 (vget (gl_K) (Int.toNat (y1.1)))))))) hE fun a hE => ?_
    refine wP 21 4194303 2 (.int .u64 ((IntKind.wrap .u64 ((IntKind.wrap .u64 ((IntKind.wrap .u64 ((IntKind.wrap .u64 ((vget (y1.2) (Int.toNat ((7 : Int)))) + (bxor .u64 (bxor .u64 r1 r2) r3))) + (bxor .u64 (band .u64 (vget (y1.2) (Int.toNat ((4 : Int)))) (vget (y1.2) (Int.toNat ((5 : Int))))) (band .u64 (IntKind.wrap .u64 ((4294967295 : Int) - (vget (y1.2) (Int.toNat ((4 : Int)))))) (vget (y1.2) (Int.toNat ((6 : Int)))))))) + (IntKind.wrap .u64 (vget (gl_K) (Int.toNat (y1.1)))))) + (vget (z1) (Int.toNat (y1.1))))))) hE fun a hE => ?_
    refine wP 22 8388607 1 (.int .u64 ((Int.tmod (IntKind.wrap .u64 ((IntKind.wrap .u64 ((IntKind.wrap .u64 ((IntKind.wrap .u64 ((vget (y1.2) (Int.toNat ((7 : Int)))) + (bxor .u64 (bxor .u64 r1 r2) r3))) + (bxor .u64 (band .u64 (vget (y1.2) (Int.toNat ((4 : Int)))) (vget (y1.2) (Int.toNat ((5 : Int))))) (band .u64 (IntKind.wrap .u64 ((4294967295 : Int) - (vget (y1.2) (Int.toNat ((4 : Int)))))) (vget (y1.2) (Int.toNat ((6 : Int)))))))) + (IntKind.wrap .u64 (vget (gl_K) (Int.toNat (y1.1)))))) + (vget (z1) (Int.toNat (y1.1))))) 4294967296))) hE fun a hE => ?_
    refine wP 23 16777215 0 (.int .u64 ((Int.tmod (IntKind.wrap .u64 ((IntKind.wrap .u64 ((IntKind.wrap .u64 ((IntKind.wrap .u64 ((vget (y1.2) (Int.toNat ((7 : Int)))) + (bxor .u64 (bxor .u64 r1 r2) r3))) + (bxor .u64 (band .u64 (vget (y1.2) (Int.toNat ((4 : Int)))) (vget (y1.2) (Int.toNat ((5 : Int))))) (band .u64 (IntKind.wrap .u64 ((4294967295 : Int) - (vget (y1.2) (Int.toNat ((4 : Int)))))) (vget (y1.2) (Int.toNat ((6 : Int)))))))) + (IntKind.wrap .u64 (vget (gl_K) (Int.toNat (y1.1)))))) + (vget (z1) (Int.toNat (y1.1))))) 4294967296))) hE fun a hE => ?_
    refine doneG (by kernel_rfl) ?_
    refine sq (ra ?_)
    refine sN 1 1 [(168, .int .u64 ((vget (y1.2) (Int.toNat ((0 : Int))))))] hE fun a hE => ?_
    obtain ⟨r4, h4, hf⟩ := bs hf
    refine aC rfl rfl rfl rfl hE rfl rfl rfl rfl (inspeximusref01_right.calls h4 (hS.st.fore (L := [])) ) fun a v w hR hE => ?_
    obtain ⟨D16, rfl, hS1⟩ := hR
    have le11 := hS1.dle
    have hS := hS.callR hS1 rfl .n
    refine sN 1 3 [(170, .int .u64 ((vget (y1.2) (Int.toNat ((0 : Int))))))] hE fun a hE => ?_
    obtain ⟨r5, h6, hf⟩ := bs hf
    refine aC rfl rfl rfl rfl hE rfl rfl rfl rfl (inspeximusref01_right.calls h6 (hS.st.fore (L := [])) ) fun a v w hR hE => ?_
    obtain ⟨D17, rfl, hS1⟩ := hR
    have le12 := hS1.dle
    have hS := hS.callR hS1 rfl .n
    refine sN 2 6 [(172, .int .u64 ((bxor .u64 r4 r5))), (173, .int .u64 ((vget (y1.2) (Int.toNat ((0 : Int))))))] hE fun a hE => ?_
    obtain ⟨r8, h7, hf⟩ := bs hf
    refine aC rfl rfl rfl rfl hE rfl rfl rfl rfl (inspeximusref01_right.calls h7 (hS.st.fore (L := [])) ) fun a v w hR hE => ?_
    obtain ⟨D11, rfl, hS1⟩ := hR
    have le13 := hS1.dle
    have hS := hS.callR hS1 rfl .n
    refine sN 5 12 [(17, .int .u64 ((Int.tmod (IntKind.wrap .u64 ((bxor .u64 (bxor .u64 r4 r5) r8) + (bxor .u64 (bxor .u64 (band .u64 (vget (y1.2) (Int.toNat ((0 : Int)))) (vget (y1.2) (Int.toNat ((1 : Int))))) (band .u64 (vget (y1.2) (Int.toNat ((0 : Int)))) (vget (y1.2) (Int.toNat ((2 : Int)))))) (band .u64 (vget (y1.2) (Int.toNat ((1 : Int)))) (vget (y1.2) (Int.toNat ((2 : Int)))))))) 4294967296)))] hE fun a hE => ?_
    refine ae ?_
    refine ra ?_
    refine sN 4 4 [(182, .int .u64 ((Int.tmod (IntKind.wrap .u64 ((Int.tmod (IntKind.wrap .u64 ((IntKind.wrap .u64 ((IntKind.wrap .u64 ((IntKind.wrap .u64 ((vget (y1.2) (Int.toNat ((7 : Int)))) + (bxor .u64 (bxor .u64 r1 r2) r3))) + (bxor .u64 (band .u64 (vget (y1.2) (Int.toNat ((4 : Int)))) (vget (y1.2) (Int.toNat ((5 : Int))))) (band .u64 (IntKind.wrap .u64 ((4294967295 : Int) - (vget (y1.2) (Int.toNat ((4 : Int)))))) (vget (y1.2) (Int.toNat ((6 : Int)))))))) + (IntKind.wrap .u64 (vget (gl_K) (Int.toNat (y1.1)))))) + (vget (z1) (Int.toNat (y1.1))))) 4294967296) + (Int.tmod (IntKind.wrap .u64 ((bxor .u64 (bxor .u64 r4 r5) r8) + (bxor .u64 (bxor .u64 (band .u64 (vget (y1.2) (Int.toNat ((0 : Int)))) (vget (y1.2) (Int.toNat ((1 : Int))))) (band .u64 (vget (y1.2) (Int.toNat ((0 : Int)))) (vget (y1.2) (Int.toNat ((2 : Int)))))) (band .u64 (vget (y1.2) (Int.toNat ((1 : Int)))) (vget (y1.2) (Int.toNat ((2 : Int)))))))) 4294967296))) 4294967296)))] hE fun a hE => ?_
    refine at_op (op_tk hE (tk_indexPA (N := 8) (k := .u64) (m := (0 : Int)) rfl rfl rfl rfl hE rfl rfl rfl (by kernel_rfl) (by kernel_rfl) (fun a hE => ?_))) rfl
    refine at_op (op_tk hE (tk_loadPA 3 (N := 8) (k := .u64) (v := y1.2) (m := (0 : Int)) rfl rfl rfl rfl hE rfl hS rfl rfl (by kernel_rfl) (by kernel_rfl) (kL (j := 3) hS rfl List.not_mem_nil) (fun a hE => ?_))) rfl
    refine at_op (op_tk hE (tk_indexPA (N := 8) (k := .u64) (m := (1 : Int)) rfl rfl rfl rfl hE rfl rfl rfl (by kernel_rfl) (by kernel_rfl) (fun a hE => ?_))) rfl
    refine at_op (op_tk hE (tk_loadPA 3 (N := 8) (k := .u64) (v := y1.2) (m := (1 : Int)) rfl rfl rfl rfl hE rfl hS rfl rfl (by kernel_rfl) (by kernel_rfl) (kL (j := 3) hS rfl List.not_mem_nil) (fun a hE => ?_))) rfl
    refine at_op (op_tk hE (tk_indexPA (N := 8) (k := .u64) (m := (2 : Int)) rfl rfl rfl rfl hE rfl rfl rfl (by kernel_rfl) (by kernel_rfl) (fun a hE => ?_))) rfl
    refine at_op (op_tk hE (tk_loadPA 3 (N := 8) (k := .u64) (v := y1.2) (m := (2 : Int)) rfl rfl rfl rfl hE rfl hS rfl rfl (by kernel_rfl) (by kernel_rfl) (kL (j := 3) hS rfl List.not_mem_nil) (fun a hE => ?_))) rfl
    refine at_op (op_tk hE (tk_indexPA (N := 8) (k := .u64) (m := (3 : Int)) rfl rfl rfl rfl hE rfl rfl rfl (by kernel_rfl) (by kernel_rfl) (fun a hE => ?_))) rfl
    refine at_op (op_tk hE (tk_loadPA 3 (N := 8) (k := .u64) (v := y1.2) (m := (3 : Int)) rfl rfl rfl rfl hE rfl hS rfl rfl (by kernel_rfl) (by kernel_rfl) (kL (j := 3) hS rfl List.not_mem_nil) (fun a hE => ?_))) rfl
    refine sN 3 15 [(193, .int .u64 ((Int.tmod (IntKind.wrap .u64 ((vget (y1.2) (Int.toNat ((3 : Int)))) + (Int.tmod (IntKind.wrap .u64 ((IntKind.wrap .u64 ((IntKind.wrap .u64 ((IntKind.wrap .u64 ((vget (y1.2) (Int.toNat ((7 : Int)))) + (bxor .u64 (bxor .u64 r1 r2) r3))) + (bxor .u64 (band .u64 (vget (y1.2) (Int.toNat ((4 : Int)))) (vget (y1.2) (Int.toNat ((5 : Int))))) (band .u64 (IntKind.wrap .u64 ((4294967295 : Int) - (vget (y1.2) (Int.toNat ((4 : Int)))))) (vget (y1.2) (Int.toNat ((6 : Int)))))))) + (IntKind.wrap .u64 (vget (gl_K) (Int.toNat (y1.1)))))) + (vget (z1) (Int.toNat (y1.1))))) 4294967296))) 4294967296)))] hE fun a hE => ?_
    refine at_op (op_tk hE (tk_indexPA (N := 8) (k := .u64) (m := (4 : Int)) rfl rfl rfl rfl hE rfl rfl rfl (by kernel_rfl) (by kernel_rfl) (fun a hE => ?_))) rfl
    refine at_op (op_tk hE (tk_loadPA 3 (N := 8) (k := .u64) (v := y1.2) (m := (4 : Int)) rfl rfl rfl rfl hE rfl hS rfl rfl (by kernel_rfl) (by kernel_rfl) (kL (j := 3) hS rfl List.not_mem_nil) (fun a hE => ?_))) rfl
    refine at_op (op_tk hE (tk_indexPA (N := 8) (k := .u64) (m := (5 : Int)) rfl rfl rfl rfl hE rfl rfl rfl (by kernel_rfl) (by kernel_rfl) (fun a hE => ?_))) rfl
    refine at_op (op_tk hE (tk_loadPA 3 (N := 8) (k := .u64) (v := y1.2) (m := (5 : Int)) rfl rfl rfl rfl hE rfl hS rfl rfl (by kernel_rfl) (by kernel_rfl) (kL (j := 3) hS rfl List.not_mem_nil) (fun a hE => ?_))) rfl
    refine at_op (op_tk hE (tk_indexPA (N := 8) (k := .u64) (m := (6 : Int)) rfl rfl rfl rfl hE rfl rfl rfl (by kernel_rfl) (by kernel_rfl) (fun a hE => ?_))) rfl
    refine at_op (op_tk hE (tk_loadPA 3 (N := 8) (k := .u64) (v := y1.2) (m := (6 : Int)) rfl rfl rfl rfl hE rfl hS rfl rfl (by kernel_rfl) (by kernel_rfl) (kL (j := 3) hS rfl List.not_mem_nil) (fun a hE => ?_))) rfl
    refine at_op (op_tk hE (tk_build (acells .u64 8 ((vofL 8 [(Int.tmod (IntKind.wrap .u64 ((Int.tmod (IntKind.wrap .u64 ((IntKind.wrap .u64 ((IntKind.wrap .u64 ((IntKind.wrap .u64 ((vget (y1.2) (Int.toNat ((7 : Int)))) + (bxor .u64 (bxor .u64 r1 r2) r3))) + (bxor .u64 (band .u64 (vget (y1.2) (Int.toNat ((4 : Int)))) (vget (y1.2) (Int.toNat ((5 : Int))))) (band .u64 (IntKind.wrap .u64 ((4294967295 : Int) - (vget (y1.2) (Int.toNat ((4 : Int)))))) (vget (y1.2) (Int.toNat ((6 : Int)))))))) + (IntKind.wrap .u64 (vget (gl_K) (Int.toNat (y1.1)))))) + (vget (z1) (Int.toNat (y1.1))))) 4294967296) + (Int.tmod (IntKind.wrap .u64 ((bxor .u64 (bxor .u64 r4 r5) r8) + (bxor .u64 (bxor .u64 (band .u64 (vget (y1.2) (Int.toNat ((0 : Int)))) (vget (y1.2) (Int.toNat ((1 : Int))))) (band .u64 (vget (y1.2) (Int.toNat ((0 : Int)))) (vget (y1.2) (Int.toNat ((2 : Int)))))) (band .u64 (vget (y1.2) (Int.toNat ((1 : Int)))) (vget (y1.2) (Int.toNat ((2 : Int)))))))) 4294967296))) 4294967296), (vget (y1.2) (Int.toNat ((0 : Int)))), (vget (y1.2) (Int.toNat ((1 : Int)))), (vget (y1.2) (Int.toNat ((2 : Int)))), (Int.tmod (IntKind.wrap .u64 ((vget (y1.2) (Int.toNat ((3 : Int)))) + (Int.tmod (IntKind.wrap .u64 ((IntKind.wrap .u64 ((IntKind.wrap .u64 ((IntKind.wrap .u64 ((vget (y1.2) (Int.toNat ((7 : Int)))) + (bxor .u64 (bxor .u64 r1 r2) r3))) + (bxor .u64 (band .u64 (vget (y1.2) (Int.toNat ((4 : Int)))) (vget (y1.2) (Int.toNat ((5 : Int))))) (band .u64 (IntKind.wrap .u64 ((4294967295 : Int) - (vget (y1.2) (Int.toNat ((4 : Int)))))) (vget (y1.2) (Int.toNat ((6 : Int)))))))) + (IntKind.wrap .u64 (vget (gl_K) (Int.toNat (y1.1)))))) + (vget (z1) (Int.toNat (y1.1))))) 4294967296))) 4294967296), (vget (y1.2) (Int.toNat ((4 : Int)))), (vget (y1.2) (Int.toNat ((5 : Int)))), (vget (y1.2) (Int.toNat ((6 : Int))))]))) rfl rfl rfl rfl hE rfl rfl (by kernel_rfl) (fun a hE => ?_))) rfl
    have hS := hS.p (.d 3 (.d 0 (.d 1 (.d 2 .n))))
    refine at_op (op_store (v := .agg (List.toArray (acells .u64 8 ((vofL 8 [(Int.tmod (IntKind.wrap .u64 ((Int.tmod (IntKind.wrap .u64 ((IntKind.wrap .u64 ((IntKind.wrap .u64 ((IntKind.wrap .u64 ((vget (y1.2) (Int.toNat ((7 : Int)))) + (bxor .u64 (bxor .u64 r1 r2) r3))) + (bxor .u64 (band .u64 (vget (y1.2) (Int.toNat ((4 : Int)))) (vget (y1.2) (Int.toNat ((5 : Int))))) (band .u64 (IntKind.wrap .u64 ((4294967295 : Int) - (vget (y1.2) (Int.toNat ((4 : Int)))))) (vget (y1.2) (Int.toNat ((6 : Int)))))))) + (IntKind.wrap .u64 (vget (gl_K) (Int.toNat (y1.1)))))) + (vget (z1) (Int.toNat (y1.1))))) 4294967296) + (Int.tmod (IntKind.wrap .u64 ((bxor .u64 (bxor .u64 r4 r5) r8) + (bxor .u64 (bxor .u64 (band .u64 (vget (y1.2) (Int.toNat ((0 : Int)))) (vget (y1.2) (Int.toNat ((1 : Int))))) (band .u64 (vget (y1.2) (Int.toNat ((0 : Int)))) (vget (y1.2) (Int.toNat ((2 : Int)))))) (band .u64 (vget (y1.2) (Int.toNat ((1 : Int)))) (vget (y1.2) (Int.toNat ((2 : Int)))))))) 4294967296))) 4294967296), (vget (y1.2) (Int.toNat ((0 : Int)))), (vget (y1.2) (Int.toNat ((1 : Int)))), (vget (y1.2) (Int.toNat ((2 : Int)))), (Int.tmod (IntKind.wrap .u64 ((vget (y1.2) (Int.toNat ((3 : Int)))) + (Int.tmod (IntKind.wrap .u64 ((IntKind.wrap .u64 ((IntKind.wrap .u64 ((IntKind.wrap .u64 ((vget (y1.2) (Int.toNat ((7 : Int)))) + (bxor .u64 (bxor .u64 r1 r2) r3))) + (bxor .u64 (band .u64 (vget (y1.2) (Int.toNat ((4 : Int)))) (vget (y1.2) (Int.toNat ((5 : Int))))) (band .u64 (IntKind.wrap .u64 ((4294967295 : Int) - (vget (y1.2) (Int.toNat ((4 : Int)))))) (vget (y1.2) (Int.toNat ((6 : Int)))))))) + (IntKind.wrap .u64 (vget (gl_K) (Int.toNat (y1.1)))))) + (vget (z1) (Int.toNat (y1.1))))) 4294967296))) 4294967296), (vget (y1.2) (Int.toNat ((4 : Int)))), (vget (y1.2) (Int.toNat ((5 : Int)))), (vget (y1.2) (Int.toNat ((6 : Int))))]))))) (acells .u64 8 ((vofL 8 [(Int.tmod (IntKind.wrap .u64 ((Int.tmod (IntKind.wrap .u64 ((IntKind.wrap .u64 ((IntKind.wrap .u64 ((IntKind.wrap .u64 ((vget (y1.2) (Int.toNat ((7 : Int)))) + (bxor .u64 (bxor .u64 r1 r2) r3))) + (bxor .u64 (band .u64 (vget (y1.2) (Int.toNat ((4 : Int)))) (vget (y1.2) (Int.toNat ((5 : Int))))) (band .u64 (IntKind.wrap .u64 ((4294967295 : Int) - (vget (y1.2) (Int.toNat ((4 : Int)))))) (vget (y1.2) (Int.toNat ((6 : Int)))))))) + (IntKind.wrap .u64 (vget (gl_K) (Int.toNat (y1.1)))))) + (vget (z1) (Int.toNat (y1.1))))) 4294967296) + (Int.tmod (IntKind.wrap .u64 ((bxor .u64 (bxor .u64 r4 r5) r8) + (bxor .u64 (bxor .u64 (band .u64 (vget (y1.2) (Int.toNat ((0 : Int)))) (vget (y1.2) (Int.toNat ((1 : Int))))) (band .u64 (vget (y1.2) (Int.toNat ((0 : Int)))) (vget (y1.2) (Int.toNat ((2 : Int)))))) (band .u64 (vget (y1.2) (Int.toNat ((1 : Int)))) (vget (y1.2) (Int.toNat ((2 : Int)))))))) 4294967296))) 4294967296), (vget (y1.2) (Int.toNat ((0 : Int)))), (vget (y1.2) (Int.toNat ((1 : Int)))), (vget (y1.2) (Int.toNat ((2 : Int)))), (Int.tmod (IntKind.wrap .u64 ((vget (y1.2) (Int.toNat ((3 : Int)))) + (Int.tmod (IntKind.wrap .u64 ((IntKind.wrap .u64 ((IntKind.wrap .u64 ((IntKind.wrap .u64 ((vget (y1.2) (Int.toNat ((7 : Int)))) + (bxor .u64 (bxor .u64 r1 r2) r3))) + (bxor .u64 (band .u64 (vget (y1.2) (Int.toNat ((4 : Int)))) (vget (y1.2) (Int.toNat ((5 : Int))))) (band .u64 (IntKind.wrap .u64 ((4294967295 : Int) - (vget (y1.2) (Int.toNat ((4 : Int)))))) (vget (y1.2) (Int.toNat ((6 : Int)))))))) + (IntKind.wrap .u64 (vget (gl_K) (Int.toNat (y1.1)))))) + (vget (z1) (Int.toNat (y1.1))))) 4294967296))) 4294967296), (vget (y1.2) (Int.toNat ((4 : Int)))), (vget (y1.2) (Int.toNat ((5 : Int)))), (vget (y1.2) (Int.toNat ((6 : Int))))]))) rfl rfl rfl rfl hE hS rfl rfl (by kernel_rfl) (by kernel_rfl) (by kernel_rfl) (by kernel_rfl) (by kernel_rfl) (fun a w _ hE hS => ?_)) rfl
    refine ae ?_
    refine ra ?_
    refine sN 3 3 [(11, .int .i64 ((IntKind.wrap .i64 (y1.1 + (1 : Int)))))] hE fun a hE => ?_
    refine ae ?_
    have hS := hS.p (.d 1 (.d 2 (.d 3 (.d 0 .n))))
    exact ⟨((IntKind.wrap .i64 (y1.1 + (1 : Int))), (vofL 8 [(Int.tmod (IntKind.wrap .u64 ((Int.tmod (IntKind.wrap .u64 ((IntKind.wrap .u64 ((IntKind.wrap .u64 ((IntKind.wrap .u64 ((vget (y1.2) (Int.toNat ((7 : Int)))) + (bxor .u64 (bxor .u64 r1 r2) r3))) + (bxor .u64 (band .u64 (vget (y1.2) (Int.toNat ((4 : Int)))) (vget (y1.2) (Int.toNat ((5 : Int))))) (band .u64 (IntKind.wrap .u64 ((4294967295 : Int) - (vget (y1.2) (Int.toNat ((4 : Int)))))) (vget (y1.2) (Int.toNat ((6 : Int)))))))) + (IntKind.wrap .u64 (vget (gl_K) (Int.toNat (y1.1)))))) + (vget (z1) (Int.toNat (y1.1))))) 4294967296) + (Int.tmod (IntKind.wrap .u64 ((bxor .u64 (bxor .u64 r4 r5) r8) + (bxor .u64 (bxor .u64 (band .u64 (vget (y1.2) (Int.toNat ((0 : Int)))) (vget (y1.2) (Int.toNat ((1 : Int))))) (band .u64 (vget (y1.2) (Int.toNat ((0 : Int)))) (vget (y1.2) (Int.toNat ((2 : Int)))))) (band .u64 (vget (y1.2) (Int.toNat ((1 : Int)))) (vget (y1.2) (Int.toNat ((2 : Int)))))))) 4294967296))) 4294967296), (vget (y1.2) (Int.toNat ((0 : Int)))), (vget (y1.2) (Int.toNat ((1 : Int)))), (vget (y1.2) (Int.toNat ((2 : Int)))), (Int.tmod (IntKind.wrap .u64 ((vget (y1.2) (Int.toNat ((3 : Int)))) + (Int.tmod (IntKind.wrap .u64 ((IntKind.wrap .u64 ((IntKind.wrap .u64 ((IntKind.wrap .u64 ((vget (y1.2) (Int.toNat ((7 : Int)))) + (bxor .u64 (bxor .u64 r1 r2) r3))) + (bxor .u64 (band .u64 (vget (y1.2) (Int.toNat ((4 : Int)))) (vget (y1.2) (Int.toNat ((5 : Int))))) (band .u64 (IntKind.wrap .u64 ((4294967295 : Int) - (vget (y1.2) (Int.toNat ((4 : Int)))))) (vget (y1.2) (Int.toNat ((6 : Int)))))))) + (IntKind.wrap .u64 (vget (gl_K) (Int.toNat (y1.1)))))) + (vget (z1) (Int.toNat (y1.1))))) 4294967296))) 4294967296), (vget (y1.2) (Int.toNat ((4 : Int)))), (vget (y1.2) (Int.toNat ((5 : Int)))), (vget (y1.2) (Int.toNat ((6 : Int))))])), D11, hE.wk, hS, (le2 (le2 (le2 (le2 (le2 (le2 le3 le8) le9) le10) le11) le12) le13), hf⟩
   replace hf := cf hb hf
   refine wpIn_exit ?_
   obtain rfl := si hf
   have hS := hS.p (.d 0 (.d 1 (.d 3 .n)))
   exact ⟨y1.2, D8, hE.wk, hS, le3, rfl⟩
  clear hE hS hf
  rintro k a w ⟨y4, D6, hE, hS, le5, hf⟩
  obtain ⟨k, rfl, hf⟩ := inspeximusref01_Turn_l2.some _ hf
  refine ⟨k, rfl, ?_⟩
  unfold inspeximusref01_Turn_l2.b at hf
  refine sq (sq (ra ?_))
  refine sN 2 2 [(103, .bool ((decide (y4.1 < (8 : Int)))))] hE fun a hE => ?_
  refine ae ?_
  refine cond_split hE (b := (decide (y4.1 < (8 : Int)))) rfl (fun hb => ?_) (fun hb => ?_)
  ·replace hf := ct hb hf
   refine wpIn_skip ?_
   refine sq ?_
   refine wpIn_block ?_
   refine ra ?_
   refine sN 2 2 [(106, .int .i64 (y4.1)), (107, .int .i64 (y4.1))] hE fun a hE => ?_
   obtain ⟨hm7858, hf⟩ := chk_some hf
   refine at_op (op_tk hE (tk_indexPA (N := 8) (k := .u32) (m := y4.1) rfl rfl rfl rfl hE rfl rfl rfl (by kernel_rfl) hm7858 (fun a hE => ?_))) rfl
   refine at_op (op_tk hE (tk_loadPA 0 (N := 8) (k := .u32) (v := x1) (m := y4.1) rfl rfl rfl rfl hE rfl hS rfl rfl (by kernel_rfl) hm7858 (kL (j := 0) hS rfl List.not_mem_nil) (fun a hE => ?_))) rfl
   refine sN 1 5 [(110, .int .u64 ((IntKind.wrap .u64 (vget (x1) (Int.toNat (y4.1))))))] hE fun a hE => ?_
   obtain ⟨hm7859, hf⟩ := chk_some hf
   refine at_op (op_tk hE (tk_indexPA (N := 8) (k := .u64) (m := y4.1) rfl rfl rfl rfl hE rfl rfl rfl (by kernel_rfl) hm7859 (fun a hE => ?_))) rfl
   have hS := hS.p (.d 3 (.d 0 (.d 1 (.d 2 .n))))
   obtain ⟨v2, hv2, hf⟩ := bs hf
   replace hv2 := Option.some.inj hv2
   refine at_op (op_storePA (N := 8) (k := .u64) (v := y4.2) (m := y4.1) (z := (IntKind.wrap .u64 (vget (x1) (Int.toNat (y4.1))))) rfl rfl rfl rfl hE hS rfl rfl (by kernel_rfl) hm7859 (fun a w _ hE hS => ?_)) rfl
   rw [hv2] at hS
   refine ae ?_
   refine ra ?_
   refine sN 3 3 [(10, .int .i64 ((IntKind.wrap .i64 (y4.1 + (1 : Int)))))] hE fun a hE => ?_
   refine ae ?_
   have hS := hS.p (.d 1 (.d 2 (.d 3 (.d 0 .n))))
   exact ⟨((IntKind.wrap .i64 (y4.1 + (1 : Int))), v2), D6, hE.wk, hS, le5, hf⟩
  replace hf := cf hb hf
  refine wpIn_exit ?_
  obtain rfl := si hf
  exact ⟨y4.2, D6, hE.wk, hS, le5, rfl⟩
 clear hE hS hf
 rintro k a w ⟨y2, D3, hE, hS, le1, hf⟩
 obtain ⟨k, rfl, hf⟩ := inspeximusref01_Turn_l1.some _ hf
 refine ⟨k, rfl, ?_⟩
 unfold inspeximusref01_Turn_l1.b at hf
 refine sq (sq (ra ?_))
 refine sN 2 2 [(24, .bool ((decide (y2.1 < (64 : Int)))))] hE fun a hE => ?_
 refine ae ?_
 refine cond_split hE (b := (decide (y2.1 < (64 : Int)))) rfl (fun hb => ?_) (fun hb => ?_)
 ·replace hf := ct hb hf
  refine wpIn_skip ?_
  obtain ⟨j1, hj1, hf⟩ := jn_elim hf
  refine seq_join (fun a w => ∃ (y5 : (Vector Int 64)), ∃ D10, Env a 218 [] [(1, .slice A3 (List.length (x2)) c4), (2, .pointer (some ⟨b1, 0, none⟩)), (4, .pointer (some ⟨b2, 0, none⟩)), (5, .pointer (some ⟨b3, 0, none⟩)), (6, .int .i64 (y2.1))] ∧ Stp g w0 D0 [] w D10 [bx b1 129 (acells .u32 8 (x1)), bx b2 129 (acells .u32 8 ((Vector.replicate 8 (0 : Int)))), bx b3 133 (acells .u64 64 (y5))] ∧ Snap.le D3 D10 ∧ j1 y5 = some s1) ?_ ?_
  ·clear hj1
   refine wpIn_block ?_
   refine sq (sq (ra ?_))
   refine sN 2 2 [(28, .bool ((decide (y2.1 < (16 : Int)))))] hE fun a hE => ?_
   refine ae ?_
   refine cond_split hE (b := (decide (y2.1 < (16 : Int)))) rfl (fun hb => ?_) (fun hb => ?_)
   ·replace hf := ct hb hf
    refine sq ?_
    refine region_draw (fun j => Keeps (mfOf [(35, [b3])] j)) (by kernel_rfl) ?_
    have hS := hS.drew
    first | generalize w.drew = w at hS ⊢ | generalize w0.drew = w at hS ⊢
    refine wP 0 1 35 (.int .i64 (y2.1)) hE fun a hE => ?_
    refine wP 1 3 34 (.slice A3 (List.length (x2)) c4) hE fun a hE => ?_
    refine wP 2 7 33 (.int .i64 (y2.1)) hE fun a hE => ?_
    refine wP 3 15 32 (.int .i64 ((IntKind.wrap .i64 ((4 : Int) * y2.1)))) hE fun a hE => ?_
    refine wP 8 271 31 (.slice A3 (List.length (x2)) c4) hE fun a hE => ?_
    refine wP 9 783 30 (.int .i64 (y2.1)) hE fun a hE => ?_
    refine wP 10 1807 29 (.int .i64 ((IntKind.wrap .i64 ((4 : Int) * y2.1)))) hE fun a hE => ?_
    refine wP 11 3855 28 (.int .i64 ((IntKind.wrap .i64 ((IntKind.wrap .i64 ((4 : Int) * y2.1)) + (1 : Int))))) hE fun a hE => ?_
    refine wP 17 134927 27 (.slice A3 (List.length (x2)) c4) hE fun a hE => ?_
    refine wP 18 397071 26 (.int .i64 (y2.1)) hE fun a hE => ?_
    refine wP 19 921359 25 (.int .i64 ((IntKind.wrap .i64 ((4 : Int) * y2.1)))) hE fun a hE => ?_
    refine wP 20 1969935 24 (.int .i64 ((IntKind.wrap .i64 ((IntKind.wrap .i64 ((4 : Int) * y2.1)) + (2 : Int))))) hE fun a hE => ?_
    refine wP 26 69078799 23 (.slice A3 (List.length (x2)) c4) hE fun a hE => ?_
    refine wP 27 203296527 22 (.int .i64 (y2.1)) hE fun a hE => ?_
    refine wP 28 471731983 21 (.int .i64 ((IntKind.wrap .i64 ((4 : Int) * y2.1)))) hE fun a hE => ?_
    refine wP 29 1008602895 20 (.int .i64 ((IntKind.wrap .i64 ((IntKind.wrap .i64 ((4 : Int) * y2.1)) + (3 : Int))))) hE fun a hE => ?_
    obtain ⟨x3, h8, hf⟩ := bs hf
    refine tW 4 1008602911 (fuel := 19) (by kernel_rfl) hE (fun M => g_index (K := (kdInt .u8)) (e := 5) (by_ := 1) (zl := 1) rfl rfl rfl rfl hE rfl rfl rfl (by kernel_rfl) rfl (h5.mono le1) h8 (fun a b5 o1 hE h9 => ?_))
    obtain ⟨cs2, C2, T2, fr2, hr2, hb2, hc2⟩ := id h9
    obtain rfl := hr2
    refine tT 5 1008602943 (fuel := 18) (by kernel_rfl) hE (tk_loadX (off0 := o1) (off := 0) (c := [.int .u8 (x3)]) (.int .u8 (x3)) rfl rfl rfl rfl hE rfl hS rfl hb2 hc2 (by kernel_rfl) (by kernel_rfl) (kD hS dn_nil) (fun a hE => ?_))
    refine tW 6 1008603007 (fuel := 17) (by kernel_rfl) hE (fun M => tk_pure (.int .u64 ((IntKind.wrap .u64 x3))) hE rfl rfl rfl rfl (fun _ _ _ e => by cases e; rfl) (by kernel_rfl) (fun a hE => ?_))
    refine wP 7 1008603135 16 (.int .u64 ((IntKind.wrap .u64 ((IntKind.wrap .u64 x3) * (256 : Int))))) hE fun a hE => ?_
    obtain ⟨x4, h10, hf⟩ := bs hf
    refine tW 12 1008607231 (fuel := 15) (by kernel_rfl) hE (fun M => g_index (K := (kdInt .u8)) (e := 5) (by_ := 1) (zl := 1) rfl rfl rfl rfl hE rfl rfl rfl (by kernel_rfl) rfl (h5.mono le1) h10 (fun a b6 o2 hE h11 => ?_))
    obtain ⟨cs3, C3, T3, fr3, hr3, hb3, hc3⟩ := id h11
    obtain rfl := hr3
    refine tT 13 1008615423 (fuel := 14) (by kernel_rfl) hE (tk_loadX (off0 := o2) (off := 0) (c := [.int .u8 (x4)]) (.int .u8 (x4)) rfl rfl rfl rfl hE rfl hS rfl hb3 hc3 (by kernel_rfl) (by kernel_rfl) (kD hS dn_nil) (fun a hE => ?_))
    refine tW 14 1008631807 (fuel := 13) (by kernel_rfl) hE (fun M => tk_pure (.int .u64 ((IntKind.wrap .u64 x4))) hE rfl rfl rfl rfl (fun _ _ _ e => by cases e; rfl) (by kernel_rfl) (fun a hE => ?_))
    refine wP 15 1008664575 12 (.int .u64 ((IntKind.wrap .u64 ((IntKind.wrap .u64 ((IntKind.wrap .u64 x3) * (256 : Int))) + (IntKind.wrap .u64 x4))))) hE fun a hE => ?_
    refine wP 16 1008730111 11 (.int .u64 ((IntKind.wrap .u64 ((IntKind.wrap .u64 ((IntKind.wrap .u64 ((IntKind.wrap .u64 x3) * (256 : Int))) + (IntKind.wrap .u64 x4))) * (256 : Int))))) hE fun a hE => ?_
    obtain ⟨x5, h12, hf⟩ := bs hf
    refine tW 21 1010827263 (fuel := 10) (by kernel_rfl) hE (fun M => g_index (K := (kdInt .u8)) (e := 5) (by_ := 1) (zl := 1) rfl rfl rfl rfl hE rfl rfl rfl (by kernel_rfl) rfl (h5.mono le1) h12 (fun a b7 o3 hE h13 => ?_))
    obtain ⟨cs4, C4, T4, fr4, hr4, hb4, hc4⟩ := id h13
    obtain rfl := hr4
    refine tT 22 1015021567 (fuel := 9) (by kernel_rfl) hE (tk_loadX (off0 := o3) (off := 0) (c := [.int .u8 (x5)]) (.int .u8 (x5)) rfl rfl rfl rfl hE rfl hS rfl hb4 hc4 (by kernel_rfl) (by kernel_rfl) (kD hS dn_nil) (fun a hE => ?_))
    refine tW 23 1023410175 (fuel := 8) (by kernel_rfl) hE (fun M => tk_pure (.int .u64 ((IntKind.wrap .u64 x5))) hE rfl rfl rfl rfl (fun _ _ _ e => by cases e; rfl) (by kernel_rfl) (fun a hE => ?_))
    refine wP 24 1040187391 7 (.int .u64 ((IntKind.wrap .u64 ((IntKind.wrap .u64 ((IntKind.wrap .u64 ((IntKind.wrap .u64 ((IntKind.wrap .u64 x3) * (256 : Int))) + (IntKind.wrap .u64 x4))) * (256 : Int))) + (IntKind.wrap .u64 x5))))) hE fun a hE => ?_
    refine wP 25 1073741823 6 (.int .u64 ((IntKind.wrap .u64 ((IntKind.wrap .u64 ((IntKind.wrap .u64 ((IntKind.wrap .u64 ((IntKind.wrap .u64 ((IntKind.wrap .u64 x3) * (256 : Int))) + (IntKind.wrap .u64 x4))) * (256 : Int))) + (IntKind.wrap .u64 x5))) * (256 : Int))))) hE fun a hE => ?_
    obtain ⟨x6, h14, hf⟩ := bs hf
    refine tW 30 2147483647 (fuel := 5) (by kernel_rfl) hE (fun M => g_index (K := (kdInt .u8)) (e := 5) (by_ := 1) (zl := 1) rfl rfl rfl rfl hE rfl rfl rfl (by kernel_rfl) rfl (h5.mono le1) h14 (fun a b8 o4 hE h15 => ?_))
    obtain ⟨cs5, C5, T5, fr5, hr5, hb5, hc5⟩ := id h15
    obtain rfl := hr5
    refine tT 31 4294967295 (fuel := 4) (by kernel_rfl) hE (tk_loadX (off0 := o4) (off := 0) (c := [.int .u8 (x6)]) (.int .u8 (x6)) rfl rfl rfl rfl hE rfl hS rfl hb5 hc5 (by kernel_rfl) (by kernel_rfl) (kD hS dn_nil) (fun a hE => ?_))
    refine tW 32 8589934591 (fuel := 3) (by kernel_rfl) hE (fun M => tk_pure (.int .u64 ((IntKind.wrap .u64 x6))) hE rfl rfl rfl rfl (fun _ _ _ e => by cases e; rfl) (by kernel_rfl) (fun a hE => ?_))
    refine wP 33 17179869183 2 (.int .u64 ((IntKind.wrap .u64 ((IntKind.wrap .u64 ((IntKind.wrap .u64 ((IntKind.wrap .u64 ((IntKind.wrap .u64 ((IntKind.wrap .u64 ((IntKind.wrap .u64 x3) * (256 : Int))) + (IntKind.wrap .u64 x4))) * (256 : Int))) + (IntKind.wrap .u64 x5))) * (256 : Int))) + (IntKind.wrap .u64 x6))))) hE fun a hE => ?_
    obtain ⟨hm7703, hf⟩ := chk_some hf
    refine tW 34 34359738367 (fuel := 1) (by kernel_rfl) hE (fun M => tk_indexPA (N := 64) (k := .u64) (m := y2.1) rfl rfl rfl rfl hE rfl rfl rfl (by kernel_rfl) hm7703 (fun a hE => ?_))
    have hS := hS.p (.d 2 (.d 0 (.d 1 .n)))
    obtain ⟨v3, hv3, hf⟩ := bs hf
    replace hv3 := Option.some.inj hv3
    refine oG 35 68719476735 (fuel := 0) (by kernel_rfl) (op_storePA (N := 64) (k := .u64) (v := y2.2) (m := y2.1) (z := (IntKind.wrap .u64 ((IntKind.wrap .u64 ((IntKind.wrap .u64 ((IntKind.wrap .u64 ((IntKind.wrap .u64 ((IntKind.wrap .u64 ((IntKind.wrap .u64 x3) * (256 : Int))) + (IntKind.wrap .u64 x4))) * (256 : Int))) + (IntKind.wrap .u64 x5))) * (256 : Int))) + (IntKind.wrap .u64 x6)))) rfl rfl rfl rfl hE hS rfl rfl (by kernel_rfl) hm7703 (fun a w hkp hE hS => ⟨hkp.mono (fun _ h => h), ?_⟩))
    clear hkp
    rw [hv3] at hS
    refine doneG (by kernel_rfl) ?_
    refine wpIn_exit ?_
    have hS := hS.p (.d 1 (.d 2 (.d 0 .n)))
    exact ⟨v3, D3, hE.wk, hS, lr, hf⟩
   replace hf := cf hb hf
   refine wpIn_skip ?_
   refine sq ?_
   refine region_draw (fun j => Keeps (mfOf [] j)) (by kernel_rfl) ?_
   have hS := hS.drew
   first | generalize w.drew = w at hS ⊢ | generalize w0.drew = w at hS ⊢
   refine wP 0 1 9 (.int .i64 (y2.1)) hE fun a hE => ?_
   refine wP 1 3 8 (.int .i64 ((IntKind.wrap .i64 (y2.1 - (15 : Int))))) hE fun a hE => ?_
   refine wP 4 19 7 (.int .i64 (y2.1)) hE fun a hE => ?_
   refine wP 5 51 6 (.int .i64 ((IntKind.wrap .i64 (y2.1 - (2 : Int))))) hE fun a hE => ?_
   obtain ⟨hm7708, hf⟩ := chk_some hf
   refine tW 2 55 (fuel := 5) (by kernel_rfl) hE (fun M => tk_indexPA (N := 64) (k := .u64) (m := (IntKind.wrap .i64 (y2.1 - (15 : Int)))) rfl rfl rfl rfl hE rfl rfl rfl (by kernel_rfl) hm7708 (fun a hE => ?_))
   refine tT 3 63 (fuel := 4) (by kernel_rfl) hE (tk_loadPA 2 (N := 64) (k := .u64) (v := y2.2) (m := (IntKind.wrap .i64 (y2.1 - (15 : Int)))) rfl rfl rfl rfl hE rfl hS rfl rfl (by kernel_rfl) hm7708 (kL (j := 2) hS rfl List.not_mem_nil) (fun a hE => ?_))
   refine wP 8 319 3 (.int .u64 ((vget (y2.2) (Int.toNat ((IntKind.wrap .i64 (y2.1 - (15 : Int)))))))) hE fun a hE => ?_
   obtain ⟨hm7709, hf⟩ := chk_some hf
   refine tW 6 383 (fuel := 2) (by kernel_rfl) hE (fun M => tk_indexPA (N := 64) (k := .u64) (m := (IntKind.wrap .i64 (y2.1 - (2 : Int)))) rfl rfl rfl rfl hE rfl rfl rfl (by kernel_rfl) hm7709 (fun a hE => ?_))
   refine tT 7 511 (fuel := 1) (by kernel_rfl) hE (tk_loadPA 2 (N := 64) (k := .u64) (v := y2.2) (m := (IntKind.wrap .i64 (y2.1 - (2 : Int)))) rfl rfl rfl rfl hE rfl hS rfl rfl (by kernel_rfl) hm7709 (kL (j := 2) hS rfl List.not_mem_nil) (fun a hE => ?_))
   refine wP 9 1023 0 (.int .u64 ((vget (y2.2) (Int.toNat ((IntKind.wrap .i64 (y2.1 - (2 : Int)))))))) hE fun a hE => ?_
   refine doneG (by kernel_rfl) ?_
   refine region_draw (fun j => Keeps (mfOf [(30, [b3])] j)) (by kernel_rfl) ?_
   have hS := hS.drew
   first | generalize w.drew = w at hS ⊢ | generalize w0.drew = w at hS ⊢
   refine wP 0 1 30 (.int .i64 (y2.1)) hE fun a hE => ?_
   refine wP 1 3 29 (.int .u64 ((vget (y2.2) (Int.toNat ((IntKind.wrap .i64 (y2.1 - (2 : Int)))))))) hE fun a hE => ?_
   refine wP 3 11 28 (.int .u64 ((vget (y2.2) (Int.toNat ((IntKind.wrap .i64 (y2.1 - (2 : Int)))))))) hE fun a hE => ?_
   refine wP 6 75 27 (.int .u64 ((vget (y2.2) (Int.toNat ((IntKind.wrap .i64 (y2.1 - (2 : Int)))))))) hE fun a hE => ?_
   refine wP 9 587 26 (.int .i64 (y2.1)) hE fun a hE => ?_
   refine wP 10 1611 25 (.int .i64 ((IntKind.wrap .i64 (y2.1 - (7 : Int))))) hE fun a hE => ?_
   refine wP 14 17995 24 (.int .u64 ((vget (y2.2) (Int.toNat ((IntKind.wrap .i64 (y2.1 - (15 : Int)))))))) hE fun a hE => ?_
   refine wP 16 83531 23 (.int .u64 ((vget (y2.2) (Int.toNat ((IntKind.wrap .i64 (y2.1 - (15 : Int)))))))) hE fun a hE => ?_
   refine wP 19 607819 22 (.int .u64 ((vget (y2.2) (Int.toNat ((IntKind.wrap .i64 (y2.1 - (15 : Int)))))))) hE fun a hE => ?_
   refine wP 23 8996427 21 (.int .i64 (y2.1)) hE fun a hE => ?_
   refine wP 24 25773643 20 (.int .i64 ((IntKind.wrap .i64 (y2.1 - (16 : Int))))) hE fun a hE => ?_
   obtain ⟨hm7745, hf⟩ := chk_some hf
   refine tW 11 25775691 (fuel := 19) (by kernel_rfl) hE (fun M => tk_indexPA (N := 64) (k := .u64) (m := (IntKind.wrap .i64 (y2.1 - (7 : Int)))) rfl rfl rfl rfl hE rfl rfl rfl (by kernel_rfl) hm7745 (fun a hE => ?_))
   refine tT 12 25779787 (fuel := 18) (by kernel_rfl) hE (tk_loadPA 2 (N := 64) (k := .u64) (v := y2.2) (m := (IntKind.wrap .i64 (y2.1 - (7 : Int)))) rfl rfl rfl rfl hE rfl hS rfl rfl (by kernel_rfl) hm7745 (kL (j := 2) hS rfl List.not_mem_nil) (fun a hE => ?_))
   obtain ⟨hm7746, hf⟩ := chk_some hf
   refine tW 25 59334219 (fuel := 17) (by kernel_rfl) hE (fun M => tk_indexPA (N := 64) (k := .u64) (m := (IntKind.wrap .i64 (y2.1 - (16 : Int)))) rfl rfl rfl rfl hE rfl rfl rfl (by kernel_rfl) hm7746 (fun a hE => ?_))
   refine tT 26 126443083 (fuel := 16) (by kernel_rfl) hE (tk_loadPA 2 (N := 64) (k := .u64) (v := y2.2) (m := (IntKind.wrap .i64 (y2.1 - (16 : Int)))) rfl rfl rfl rfl hE rfl hS rfl rfl (by kernel_rfl) hm7746 (kL (j := 2) hS rfl List.not_mem_nil) (fun a hE => ?_))
   obtain ⟨r6, h16, hf⟩ := bs hf
   refine oC 2 126443087 15 rfl rfl rfl rfl hE rfl rfl rfl rfl (inspeximusref01_right.calls h16 (hS.st.fore (L := [])) ) fun a v w hR hE => ?_
   obtain ⟨D18, rfl, hS1⟩ := hR
   refine ⟨(hS1.keeps.sub (M' := []) trivial).mono (fun _ h => h), ?_⟩
   have le14 := hS1.dle
   have hS := hS.callR hS1 rfl .n
   obtain ⟨r7, h17, hf⟩ := bs hf
   refine oC 4 126443103 14 rfl rfl rfl rfl hE rfl rfl rfl rfl (inspeximusref01_right.calls h17 (hS.st.fore (L := [])) ) fun a v w hR hE => ?_
   obtain ⟨D19, rfl, hS1⟩ := hR
   refine ⟨(hS1.keeps.sub (M' := []) trivial).mono (fun _ h => h), ?_⟩
   have le15 := hS1.dle
   have hS := hS.callR hS1 rfl .n
   refine wP 5 126443135 13 (.int .u64 ((bxor .u64 r6 r7))) hE fun a hE => ?_
   obtain ⟨r9, h18, hf⟩ := bs hf
   refine oC 7 126443263 12 rfl rfl rfl rfl hE rfl rfl rfl rfl (inspeximusref01_shift.calls h18 (hS.st.fore (L := [])) ) fun a v w hR hE => ?_
   obtain ⟨D20, rfl, hS1⟩ := hR
   refine ⟨(hS1.keeps.sub (M' := []) trivial).mono (fun _ h => h), ?_⟩
   have le16 := hS1.dle
   have hS := hS.callR hS1 rfl .n
   refine wP 8 126443519 11 (.int .u64 ((bxor .u64 (bxor .u64 r6 r7) r9))) hE fun a hE => ?_
   refine wP 13 126451711 10 (.int .u64 ((IntKind.wrap .u64 ((bxor .u64 (bxor .u64 r6 r7) r9) + (vget (y2.2) (Int.toNat ((IntKind.wrap .i64 (y2.1 - (7 : Int)))))))))) hE fun a hE => ?_
   obtain ⟨r10, h19, hf⟩ := bs hf
   refine oC 15 126484479 9 rfl rfl rfl rfl hE rfl rfl rfl rfl (inspeximusref01_right.calls h19 (hS.st.fore (L := [])) ) fun a v w hR hE => ?_
   obtain ⟨D21, rfl, hS1⟩ := hR
   refine ⟨(hS1.keeps.sub (M' := []) trivial).mono (fun _ h => h), ?_⟩
   have le17 := hS1.dle
   have hS := hS.callR hS1 rfl .n
   obtain ⟨r11, h20, hf⟩ := bs hf
   refine oC 17 126615551 8 rfl rfl rfl rfl hE rfl rfl rfl rfl (inspeximusref01_right.calls h20 (hS.st.fore (L := [])) ) fun a v w hR hE => ?_
   obtain ⟨D22, rfl, hS1⟩ := hR
   refine ⟨(hS1.keeps.sub (M' := []) trivial).mono (fun _ h => h), ?_⟩
   have le18 := hS1.dle
   have hS := hS.callR hS1 rfl .n
   refine wP 18 126877695 7 (.int .u64 ((bxor .u64 r10 r11))) hE fun a hE => ?_
   obtain ⟨r12, h21, hf⟩ := bs hf
   refine oC 20 127926271 6 rfl rfl rfl rfl hE rfl rfl rfl rfl (inspeximusref01_shift.calls h21 (hS.st.fore (L := [])) ) fun a v w hR hE => ?_
   obtain ⟨D12, rfl, hS1⟩ := hR
   refine ⟨(hS1.keeps.sub (M' := []) trivial).mono (fun _ h => h), ?_⟩
   have le19 := hS1.dle
   have hS := hS.callR hS1 rfl .n
   refine wP 21 130023423 5 (.int .u64 ((bxor .u64 (bxor .u64 r10 r11) r12))) hE fun a hE => ?_
   refine wP 22 134217727 4 (.int .u64 ((IntKind.wrap .u64 ((IntKind.wrap .u64 ((bxor .u64 (bxor .u64 r6 r7) r9) + (vget (y2.2) (Int.toNat ((IntKind.wrap .i64 (y2.1 - (7 : Int)))))))) + (bxor .u64 (bxor .u64 r10 r11) r12))))) hE fun a hE => ?_
   refine wP 27 268435455 3 (.int .u64 ((IntKind.wrap .u64 ((IntKind.wrap .u64 ((IntKind.wrap .u64 ((bxor .u64 (bxor .u64 r6 r7) r9) + (vget (y2.2) (Int.toNat ((IntKind.wrap .i64 (y2.1 - (7 : Int)))))))) + (bxor .u64 (bxor .u64 r10 r11) r12))) + (vget (y2.2) (Int.toNat ((IntKind.wrap .i64 (y2.1 - (16 : Int)))))))))) hE fun a hE => ?_
   refine wP 28 536870911 2 (.int .u64 ((Int.tmod (IntKind.wrap .u64 ((IntKind.wrap .u64 ((IntKind.wrap .u64 ((bxor .u64 (bxor .u64 r6 r7) r9) + (vget (y2.2) (Int.toNat ((IntKind.wrap .i64 (y2.1 - (7 : Int)))))))) + (bxor .u64 (bxor .u64 r10 r11) r12))) + (vget (y2.2) (Int.toNat ((IntKind.wrap .i64 (y2.1 - (16 : Int)))))))) 4294967296))) hE fun a hE => ?_
   obtain ⟨hm7777, hf⟩ := chk_some hf
   refine tW 29 1073741823 (fuel := 1) (by kernel_rfl) hE (fun M => tk_indexPA (N := 64) (k := .u64) (m := y2.1) rfl rfl rfl rfl hE rfl rfl rfl (by kernel_rfl) hm7777 (fun a hE => ?_))
   have hS := hS.p (.d 2 (.d 0 (.d 1 .n)))
   obtain ⟨v4, hv4, hf⟩ := bs hf
   replace hv4 := Option.some.inj hv4
   refine oG 30 2147483647 (fuel := 0) (by kernel_rfl) (op_storePA (N := 64) (k := .u64) (v := y2.2) (m := y2.1) (z := (Int.tmod (IntKind.wrap .u64 ((IntKind.wrap .u64 ((IntKind.wrap .u64 ((bxor .u64 (bxor .u64 r6 r7) r9) + (vget (y2.2) (Int.toNat ((IntKind.wrap .i64 (y2.1 - (7 : Int)))))))) + (bxor .u64 (bxor .u64 r10 r11) r12))) + (vget (y2.2) (Int.toNat ((IntKind.wrap .i64 (y2.1 - (16 : Int)))))))) 4294967296)) rfl rfl rfl rfl hE hS rfl rfl (by kernel_rfl) hm7777 (fun a w hkp hE hS => ⟨hkp.mono (fun _ h => h), ?_⟩))
   clear hkp
   rw [hv4] at hS
   refine doneG (by kernel_rfl) ?_
   have hS := hS.p (.d 1 (.d 2 (.d 0 .n)))
   exact ⟨v4, D12, hE.wk, hS, (le2 (le2 (le2 (le2 (le2 le14 le15) le16) le17) le18) le19), hf⟩
  clear hE hS
  rintro a w ⟨y5, D10, hE, hS, le20, hf⟩
  replace hf := hj1 _ hf
  clear hj1
  refine ra ?_
  refine sN 3 3 [(6, .int .i64 ((IntKind.wrap .i64 (y2.1 + (1 : Int)))))] hE fun a hE => ?_
  exact ae ⟨((IntKind.wrap .i64 (y2.1 + (1 : Int))), y5), D10, hE.wk, hS, (le2 le1 le20), hf⟩
 replace hf := cf hb hf
 refine wpIn_exit ?_
 obtain rfl := si hf
 exact ⟨y2.2, D3, hE.wk, hS, le1, rfl⟩
set_option maxRecDepth 100000 in
theorem inspeximusref01_Sum.calls {K : Nat} {g w0 : World} {D0 : Snap} {x1 : (List Int)} {A2 : Option Addr} {c3 : Nat} {r : ((Vector Int 32))} (hf : inspeximusref01_Sum.f K x1 = some r) (hS0 : St g w0 D0 []) (h4 : Sl (kdInt .u8) D0 A2 c3 (x1)) (hG0 : Cell (kdArr .u32 8) D0 0 0 gl_First) (hG1 : Cell (kdArr .u32 64) D0 1 0 gl_K) :
  CallsIn (Fw none) 0 Tryz.prog 98 (List.toArray [.slice A2 (List.length (x1)) c3]) w0 (fun e w' => ∃ v, e = .returned v ∧ ∃ D1, v = .agg (List.toArray (acells .u8 32 (r))) ∧ Stp g w0 D0 [] w' D1 []) := by
 unfold inspeximusref01_Sum.f at hf
 have hS := Stp.refl hS0
 clear hS0
 refine calls_body (n := 54) Tryz.func98 rfl Tryz.ntmps98 rfl fun a hE => ?_
 have hE : Env a 54 [] [(0, .slice A2 (List.length (x1)) c3)] := hE
 refine sq (ra ?_)
 refine at_op (op_alloc (z := .agg (List.toArray (acells .u8 32 ((Vector.replicate 32 (0 : Int)))))) rfl rfl rfl rfl hE rfl hS (by kernel_rfl) (fun a b1 w _ hE hS => ?_)) rfl
 refine ae ?_
 refine sq (ra ?_)
 refine at_op (op_buildSlice (K := (kdInt .u8)) (e := 5) (cs := []) ([] : List Int) rfl rfl rfl rfl hE rfl hS rfl (by kernel_rfl) rfl rfl (by exact rfl) (fun a A3 q2 w _ hE h1 hS => ?_)) rfl
 refine sN 1 2 [(11, .slice A2 (List.length (x1)) c3)] hE fun a hE => ?_
 obtain ⟨l2, h2, hf⟩ := bs hf
 refine at_op (g_append (K := (kdInt .u8)) (e := 5) (bytes := 1) (l := ([] : List Int)) (m := x1) rfl rfl rfl rfl hE rfl hS rfl rfl (by kernel_rfl) rfl rfl h1 h4 h2 (fun a A4 c2 q3 w _ hE h3 hS => ?_)) rfl
 refine sN 2 5 [(14, .int .i64 (((List.length (x1) : Nat) : Int)))] hE fun a hE => ?_
 obtain ⟨r2, h5, hf⟩ := bs hf
 refine aC rfl rfl rfl rfl hE rfl rfl rfl rfl (inspeximusref01_Fill.calls h5 (hS.st.fore (L := [])) ) fun a v w hR hE => ?_
 obtain ⟨D10, A5, c4, q4, rfl, hS1, h6⟩ := hR
 have le3 := hS1.dle
 have hS := hS.callR hS1 rfl (.c .n)
 obtain ⟨D11, q5, le4, hS, h14, h7⟩ := hS.lent h6
 have hS := hS.p (.d 1 (.d 0 (.d 2 .n)))
 obtain ⟨l1, h8, hf⟩ := bs hf
 refine at_op (g_append (K := (kdInt .u8)) (e := 5) (bytes := 1) (l := l2) (m := r2) rfl rfl rfl rfl hE rfl hS rfl rfl (by kernel_rfl) rfl rfl (h3.mono (le2 le3 le4)) h7 h8 (fun a A1 c1 q6 w _ hE h9 hS => ?_)) rfl
 refine sN 1 8 [(3, .slice A1 (List.length (l1)) c1)] hE fun a hE => ?_
 refine ae ?_
 refine sq (ra ?_)
 obtain ⟨cs1, C1, T1, fr1, hr1, hb1, hc1⟩ := (hG0.mono (le2 le3 le4))
 obtain rfl := hr1
 refine at_op (op_tk hE (tk_loadX (off0 := 0) (off := 0) (c := acells .u32 8 (gl_First)) (.agg (List.toArray (acells .u32 8 (gl_First)))) rfl rfl rfl rfl hE rfl hS rfl hb1 hc1 (by kernel_rfl) (by kernel_rfl) (kD hS dn_nil) (fun a hE => ?_))) rfl
 refine at_op (op_alloc (z := .agg (List.toArray (acells .u32 8 ((Vector.replicate 8 (0 : Int)))))) rfl rfl rfl rfl hE rfl hS (by kernel_rfl) (fun a b2 w _ hE hS => ?_)) rfl
 refine at_op (op_store (v := .agg (List.toArray (acells .u32 8 (gl_First)))) (acells .u32 8 (gl_First)) rfl rfl rfl rfl hE hS rfl rfl (by kernel_rfl) (by kernel_rfl) (by kernel_rfl) (by kernel_rfl) (by kernel_rfl) (fun a w _ hE hS => ?_)) rfl
 refine ae ?_
 refine sq (sq (ra ?_))
 refine sN 1 1 [(5, .int .i64 ((0 : Int)))] hE fun a hE => ?_
 refine ae ?_
 have hS := hS.p (.d 1 (.d 0 (.d 2 (.d 3 .n))))
 obtain ⟨D8, q1, le7, hS, h15, h10⟩ := hS.lent h9
 obtain ⟨s1, hf, hs1⟩ := bs hf
 have hS := hS.p (.d 3 (.d 1 (.d 0 .n)))
 refine block_loop (fun a w => ∃ (z1 : (Vector Int 8)), ∃ D3, Env a 54 [] [(2, .pointer (some ⟨b1, 0, none⟩)), (4, .pointer (some ⟨b2, 0, none⟩))] ∧ Stp g w0 D0 [] w D3 [bx b1 23 (acells .u8 32 ((Vector.replicate 32 (0 : Int)))), bx b2 129 (acells .u32 8 (z1))] ∧ Snap.le D8 D3 ∧ z1 = s1) (fun k a w => ∃ (y3 : Int × (Vector Int 8)), ∃ D5, Env a 54 [] [(2, .pointer (some ⟨b1, 0, none⟩)), (3, .slice A1 (List.length (l1)) c1), (4, .pointer (some ⟨b2, 0, none⟩)), (5, .int .i64 (y3.1))] ∧ Stp g w0 D0 [] w D5 [bx b1 23 (acells .u8 32 ((Vector.replicate 32 (0 : Int)))), bx b2 129 (acells .u32 8 (y3.2)), q1] ∧ Snap.le D8 D5 ∧ inspeximusref01_Sum_l1.l K l1 k y3 = some s1) K ?_ ?_ ?_
 ·exact ⟨((0 : Int), gl_First), D8, hE.wk, hS, lr, hf⟩
 ·clear hE hS hf
  rintro a w ⟨z1, D3, hE, hS, le10, rfl⟩
  have hf := hs1
  clear hs1
  refine sq (ra ?_)
  refine at_op (op_alloc (z := .agg (List.toArray (acells .u8 32 ((Vector.replicate 32 (0 : Int)))))) rfl rfl rfl rfl hE rfl hS (by kernel_rfl) (fun a b3 w _ hE hS => ?_)) rfl
  refine ae ?_
  refine sq (sq (ra ?_))
  refine sN 1 1 [(7, .int .i64 ((0 : Int)))] hE fun a hE => ?_
  refine ae ?_
  obtain ⟨s2, hf, hs2⟩ := bs hf
  have hS := hS.p (.d 1 (.d 2 (.d 0 .n)))
  refine block_loop (fun a w => ∃ (z2 : (Vector Int 32)), ∃ D6, Env a 54 [] [(2, .pointer (some ⟨b1, 0, none⟩)), (6, .pointer (some ⟨b3, 0, none⟩))] ∧ Stp g w0 D0 [] w D6 [bx b1 23 (acells .u8 32 ((Vector.replicate 32 (0 : Int)))), bx b3 23 (acells .u8 32 (z2))] ∧ Snap.le D3 D6 ∧ z2 = s2) (fun k a w => ∃ (y1 : Int × (Vector Int 32)), ∃ D2, Env a 54 [] [(2, .pointer (some ⟨b1, 0, none⟩)), (4, .pointer (some ⟨b2, 0, none⟩)), (6, .pointer (some ⟨b3, 0, none⟩)), (7, .int .i64 (y1.1))] ∧ Stp g w0 D0 [] w D2 [bx b1 23 (acells .u8 32 ((Vector.replicate 32 (0 : Int)))), bx b2 129 (acells .u32 8 (z1)), bx b3 23 (acells .u8 32 (y1.2))] ∧ Snap.le D3 D2 ∧ inspeximusref01_Sum_l2.l K z1 k y1 = some s2) K ?_ ?_ ?_
  ·exact ⟨((0 : Int), (Vector.replicate 32 (0 : Int))), D3, hE.wk, hS, lr, hf⟩
  ·clear hE hS hf
   rintro a w ⟨z2, D6, hE, hS, le11, rfl⟩
   have hf := hs2
   clear hs2
   refine sq (ra ?_)
   refine sM 1 1 [1] [(53, .agg (List.toArray (acells .u8 32 (z2))))] hE hS fun a hE => ?_
   refine at_op (op_store (v := .agg (List.toArray (acells .u8 32 (z2)))) (acells .u8 32 (z2)) rfl rfl rfl rfl hE hS rfl rfl (by kernel_rfl) (by kernel_rfl) (by kernel_rfl) (by kernel_rfl) (by kernel_rfl) (fun a w _ hE hS => ?_)) rfl
   refine ae ?_
   refine wpIn_ret ?_
   obtain rfl := si hf
   refine ret_ ?_
   refine ret_gen ([.agg (List.toArray (acells .u8 32 (z2)))]) hE (by rw [show Tryz.f98.results.toList = [.cell 2 23] from rfl]; exact ⟨_, _, _, 0, _, _, rfl, rfl, hS.heapAt (j := 0) rfl, by kernel_rfl, rfl⟩) ?_
   have hS := hS.p .n
   exact ⟨_, rfl, D6, rfl, hS⟩
  clear hE hS hf
  rintro k a w ⟨y1, D2, hE, hS, le5, hf⟩
  obtain ⟨k, rfl, hf⟩ := inspeximusref01_Sum_l2.some _ hf
  refine ⟨k, rfl, ?_⟩
  unfold inspeximusref01_Sum_l2.b at hf
  refine sq (sq (ra ?_))
  refine sN 2 2 [(33, .bool ((decide (y1.1 < (8 : Int)))))] hE fun a hE => ?_
  refine ae ?_
  refine cond_split hE (b := (decide (y1.1 < (8 : Int)))) rfl (fun hb => ?_) (fun hb => ?_)
  ·replace hf := ct hb hf
   refine wpIn_skip ?_
   refine sq ?_
   refine wpIn_block ?_
   refine sq (ra ?_)
   refine sN 1 1 [(36, .int .i64 (y1.1))] hE fun a hE => ?_
   obtain ⟨hm1912, hf⟩ := chk_some hf
   refine at_op (op_tk hE (tk_indexPA (N := 8) (k := .u32) (m := y1.1) rfl rfl rfl rfl hE rfl rfl rfl (by kernel_rfl) hm1912 (fun a hE => ?_))) rfl
   refine at_op (op_tk hE (tk_loadPA 1 (N := 8) (k := .u32) (v := z1) (m := y1.1) rfl rfl rfl rfl hE rfl hS rfl rfl (by kernel_rfl) hm1912 (kL (j := 1) hS rfl List.not_mem_nil) (fun a hE => ?_))) rfl
   refine sN 1 4 [(8, .int .u32 ((vget (z1) (Int.toNat (y1.1)))))] hE fun a hE => ?_
   refine ae ?_
   refine sq (ra ?_)
   refine sN 1 1 [(9, .int .i64 ((3 : Int)))] hE fun a hE => ?_
   refine ae ?_
   obtain ⟨s3, hf, hs3⟩ := bs hf
   refine block_loop (fun a w => ∃ (z3 : (Vector Int 32)), ∃ D7, Env a 54 [] [(2, .pointer (some ⟨b1, 0, none⟩)), (4, .pointer (some ⟨b2, 0, none⟩)), (6, .pointer (some ⟨b3, 0, none⟩)), (7, .int .i64 (y1.1))] ∧ Stp g w0 D0 [] w D7 [bx b1 23 (acells .u8 32 ((Vector.replicate 32 (0 : Int)))), bx b2 129 (acells .u32 8 (z1)), bx b3 23 (acells .u8 32 (z3))] ∧ Snap.le D2 D7 ∧ z3 = s3) (fun k a w => ∃ (y2 : Int × Int × (Vector Int 32)), ∃ D4, Env a 54 [] [(2, .pointer (some ⟨b1, 0, none⟩)), (4, .pointer (some ⟨b2, 0, none⟩)), (6, .pointer (some ⟨b3, 0, none⟩)), (7, .int .i64 (y1.1)), (8, .int .u32 (y2.1)), (9, .int .i64 (y2.2.1))] ∧ Stp g w0 D0 [] w D4 [bx b1 23 (acells .u8 32 ((Vector.replicate 32 (0 : Int)))), bx b2 129 (acells .u32 8 (z1)), bx b3 23 (acells .u8 32 (y2.2.2))] ∧ Snap.le D2 D4 ∧ inspeximusref01_Sum_l3.l K y1 k y2 = some s3) K ?_ ?_ ?_
   ·exact ⟨((vget (z1) (Int.toNat (y1.1))), (3 : Int), y1.2), D2, hE.wk, hS, lr, hf⟩
   ·clear hE hS hf
    rintro a w ⟨z3, D7, hE, hS, le8, rfl⟩
    have hf := hs3
    clear hs3
    refine ra ?_
    refine sN 3 3 [(7, .int .i64 ((IntKind.wrap .i64 (y1.1 + (1 : Int)))))] hE fun a hE => ?_
    exact ae ⟨((IntKind.wrap .i64 (y1.1 + (1 : Int))), z3), D7, hE.wk, hS, (le2 le5 le8), hf⟩
   clear hE hS hf
   rintro k a w ⟨y2, D4, hE, hS, le6, hf⟩
   obtain ⟨k, rfl, hf⟩ := inspeximusref01_Sum_l3.some _ hf
   refine ⟨k, rfl, ?_⟩
   unfold inspeximusref01_Sum_l3.b at hf
   refine sq (sq (ra ?_))
   refine sN 2 2 [(40, .bool ((decide ((0 : Int) ≤ y2.2.1))))] hE fun a hE => ?_
   refine ae ?_
   refine cond_split hE (b := (decide ((0 : Int) ≤ y2.2.1))) rfl (fun hb => ?_) (fun hb => ?_)
   ·replace hf := ct hb hf
    refine wpIn_skip ?_
    refine sq ?_
    refine wpIn_block ?_
    refine sq (ra ?_)
    refine sN 7 7 [(46, .int .i64 ((IntKind.wrap .i64 ((IntKind.wrap .i64 ((4 : Int) * y1.1)) + y2.2.1)))), (49, .int .u8 ((IntKind.wrap .u8 (Int.tmod y2.1 256))))] hE fun a hE => ?_
    obtain ⟨hm1948, hf⟩ := chk_some hf
    refine at_op (op_tk hE (tk_indexPA (N := 32) (k := .u8) (m := (IntKind.wrap .i64 ((IntKind.wrap .i64 ((4 : Int) * y1.1)) + y2.2.1))) rfl rfl rfl rfl hE rfl rfl rfl (by kernel_rfl) hm1948 (fun a hE => ?_))) rfl
    have hS := hS.p (.d 2 (.d 0 (.d 1 .n)))
    obtain ⟨v1, hv1, hf⟩ := bs hf
    replace hv1 := Option.some.inj hv1
    refine at_op (op_storePA (N := 32) (k := .u8) (v := y2.2.2) (m := (IntKind.wrap .i64 ((IntKind.wrap .i64 ((4 : Int) * y1.1)) + y2.2.1))) (z := (IntKind.wrap .u8 (Int.tmod y2.1 256))) rfl rfl rfl rfl hE hS rfl rfl (by kernel_rfl) hm1948 (fun a w _ hE hS => ?_)) rfl
    rw [hv1] at hS
    refine ae ?_
    refine ra ?_
    refine sN 3 3 [(8, .int .u32 ((IntKind.wrap .u32 (Int.tdiv y2.1 256))))] hE fun a hE => ?_
    refine ae ?_
    refine ra ?_
    refine sN 3 3 [(9, .int .i64 ((IntKind.wrap .i64 (y2.2.1 - (1 : Int)))))] hE fun a hE => ?_
    refine ae ?_
    have hS := hS.p (.d 1 (.d 2 (.d 0 .n)))
    exact ⟨((IntKind.wrap .u32 (Int.tdiv y2.1 256)), (IntKind.wrap .i64 (y2.2.1 - (1 : Int))), v1), D4, hE.wk, hS, le6, hf⟩
   replace hf := cf hb hf
   refine wpIn_exit ?_
   obtain rfl := si hf
   exact ⟨y2.2.2, D4, hE.wk, hS, le6, rfl⟩
  replace hf := cf hb hf
  refine wpIn_exit ?_
  obtain rfl := si hf
  have hS := hS.p (.d 0 (.d 2 .n))
  exact ⟨y1.2, D2, hE.wk, hS, le5, rfl⟩
 clear hE hS hf
 rintro k a w ⟨y3, D5, hE, hS, le1, hf⟩
 obtain ⟨k, rfl, hf⟩ := inspeximusref01_Sum_l1.some _ hf
 refine ⟨k, rfl, ?_⟩
 unfold inspeximusref01_Sum_l1.b at hf
 refine sq (sq (ra ?_))
 refine sN 5 5 [(22, .bool ((decide ((IntKind.wrap .i64 (y3.1 + (64 : Int))) ≤ ((List.length (l1) : Nat) : Int)))))] hE fun a hE => ?_
 refine ae ?_
 refine cond_split hE (b := (decide ((IntKind.wrap .i64 (y3.1 + (64 : Int))) ≤ ((List.length (l1) : Nat) : Int)))) rfl (fun hb => ?_) (fun hb => ?_)
 ·replace hf := ct hb hf
  refine wpIn_skip ?_
  refine sq ?_
  refine wpIn_block ?_
  refine region_draw (fun j => Keeps (mfOf [(7, [b2])] j)) (by kernel_rfl) ?_
  have hS := hS.drew
  first | generalize w.drew = w at hS ⊢ | generalize w0.drew = w at hS ⊢
  refine wP 1 2 7 (.slice A1 (List.length (l1)) c1) hE fun a hE => ?_
  refine wP 2 6 6 (.int .i64 (y3.1)) hE fun a hE => ?_
  refine wP 3 14 5 (.int .i64 (y3.1)) hE fun a hE => ?_
  refine wP 4 30 4 (.int .i64 ((IntKind.wrap .i64 (y3.1 + (64 : Int))))) hE fun a hE => ?_
  refine tL 0 31 3 1 (.agg (List.toArray (acells .u32 8 (y3.2)))) hE hS fun a hE => ?_
  obtain ⟨l3, h11, hf⟩ := bs hf
  refine tW 5 63 (fuel := 2) (by kernel_rfl) hE (fun M => g_slice (K := (kdInt .u8)) (e := 5) (by_ := 1) (zl := 1) rfl rfl rfl rfl hE rfl rfl (by kernel_rfl) ⟨_, rfl⟩ ⟨_, rfl⟩ (h10.mono le1) h11 (fun a A6 c5 hE h12 => ?_))
  obtain ⟨r1, h13, hf⟩ := bs hf
  refine oC 6 127 1 rfl rfl rfl rfl hE rfl rfl rfl rfl (inspeximusref01_Turn.calls h13 (hS.st.fore (L := [])) h12 (hG1.mono (le2 (le2 (le2 le3 le4) le7) le1))) fun a v w hR hE => ?_
  obtain ⟨D9, rfl, hS1⟩ := hR
  refine ⟨(hS1.keeps.sub (M' := []) trivial).mono (fun _ h => h), ?_⟩
  have le9 := hS1.dle
  have hS := hS.callR hS1 rfl .n
  have hS := hS.p (.d 1 (.d 0 (.d 2 .n)))
  refine oG 7 255 (fuel := 0) (by kernel_rfl) (op_store (v := .agg (List.toArray (acells .u32 8 (r1)))) (acells .u32 8 (r1)) rfl rfl rfl rfl hE hS rfl rfl (by kernel_rfl) (by kernel_rfl) (by kernel_rfl) (by kernel_rfl) (by kernel_rfl) (fun a w hkp hE hS => ⟨hkp.mono (fun _ h => h), ?_⟩))
  clear hkp
  refine doneG (by kernel_rfl) ?_
  refine ra ?_
  refine sN 3 3 [(5, .int .i64 ((IntKind.wrap .i64 (y3.1 + (64 : Int)))))] hE fun a hE => ?_
  refine ae ?_
  have hS := hS.p (.d 1 (.d 0 (.d 2 .n)))
  exact ⟨((IntKind.wrap .i64 (y3.1 + (64 : Int))), r1), D9, hE.wk, hS, (le2 le1 le9), hf⟩
 replace hf := cf hb hf
 refine wpIn_exit ?_
 obtain rfl := si hf
 have hS := hS.p (.d 0 (.d 1 .n))
 exact ⟨y3.2, D5, hE.wk, hS, le1, rfl⟩
set_option maxRecDepth 100000 in
theorem inspeximusref02_Of.calls {K : Nat} {g w0 : World} {D0 : Snap} {x1 : Int} {x2 : (List (List Int))} {A3 : Option Addr} {c4 : Nat} {r : ((Vector Int 32))} (hf : inspeximusref02_Of.f K x1 x2 = some r) (hS0 : St g w0 D0 []) (h5 : Sl (kdSlice (kdInt .u8)) D0 A3 c4 (x2)) (hG0 : Cell (kdArr .u32 8) D0 0 0 gl_First) (hG1 : Cell (kdArr .u32 64) D0 1 0 gl_K) :
  CallsIn (Fw none) 0 Tryz.prog 88 (List.toArray [.int .i64 (x1), .slice A3 (List.length (x2)) c4]) w0 (fun e w' => ∃ v, e = .returned v ∧ ∃ D1, v = .agg (List.toArray (acells .u8 32 (r))) ∧ Stp g w0 D0 [] w' D1 []) := by
 unfold inspeximusref02_Of.f at hf
 have hS := Stp.refl hS0
 clear hS0
 refine calls_body (n := 9) Tryz.func88 rfl Tryz.ntmps88 rfl fun a hE => ?_
 have hE : Env a 9 [] [(0, .int .i64 (x1)), (1, .slice A3 (List.length (x2)) c4)] := hE
 refine sq (ra ?_)
 refine at_op (op_alloc (z := .agg (List.toArray (acells .u8 32 ((Vector.replicate 32 (0 : Int)))))) rfl rfl rfl rfl hE rfl hS (by kernel_rfl) (fun a b28 w _ hE hS => ?_)) rfl
 refine ae ?_
 refine sq (ra ?_)
 refine sN 2 2 [(5, .int .i64 (x1)), (6, .slice A3 (List.length (x2)) c4)] hE fun a hE => ?_
 obtain ⟨r30, h31, hf⟩ := bs hf
 refine aC rfl rfl rfl rfl hE rfl rfl rfl rfl (inspeximusref02_Text.calls h31 (hS.st.fore (L := [])) h5) fun a v w hR hE => ?_
 obtain ⟨D32, A34, c35, q36, rfl, hS1, h37⟩ := hR
 have le39 := hS1.dle
 have hS := hS.callR hS1 rfl (.c .n)
 obtain ⟨D40, q43, le41, hS, h44, h42⟩ := hS.lent h37
 obtain ⟨r45, h46, hf⟩ := bs hf
 refine aC rfl rfl rfl rfl hE rfl rfl rfl rfl (inspeximusref01_Sum.calls h46 (hS.st.fore (L := [])) h42 (hG0.mono (le2 le39 le41)) (hG1.mono (le2 le39 le41))) fun a v w hR hE => ?_
 obtain ⟨D47, rfl, hS1⟩ := hR
 have le49 := hS1.dle
 have hS := hS.callR hS1 rfl .n
 have hS := hS.p (.d 1 (.d 0 .n))
 refine at_op (op_store (v := .agg (List.toArray (acells .u8 32 (r45)))) (acells .u8 32 (r45)) rfl rfl rfl rfl hE hS rfl rfl (by kernel_rfl) (by kernel_rfl) (by kernel_rfl) (by kernel_rfl) (by kernel_rfl) (fun a w _ hE hS => ?_)) rfl
 refine ae ?_
 refine wpIn_ret ?_
 obtain rfl := si hf
 refine ret_ ?_
 refine ret_gen ([.agg (List.toArray (acells .u8 32 (r45)))]) hE (by rw [show Tryz.f88.results.toList = [.cell 4 23] from rfl]; exact ⟨_, _, _, 0, _, _, rfl, rfl, hS.heapAt (j := 0) rfl, by kernel_rfl, rfl⟩) ?_
 have hS := hS.p .n
 exact ⟨_, rfl, D47, rfl, hS⟩
set_option maxRecDepth 100000 in
theorem inspeximusref04_Com.calls {K : Nat} {g w0 : World} {D0 : Snap} {x1 : T_api_Rec} {A2 : Option Addr} {c3 : Nat} {A5 : Option Addr} {c6 : Nat} {r : ((Vector Int 32))} (hf : inspeximusref04_Com.f K x1 = some r) (hS0 : St g w0 D0 []) (h4 : Sl kd_T_api_Step D0 A2 c3 (x1.fSteps)) (h7 : Sl (kdInt .u8) D0 A5 c6 (x1.fData)) (hG0 : Cell (kdArr .u32 8) D0 0 0 gl_First) (hG1 : Cell (kdArr .u32 64) D0 1 0 gl_K) :
  CallsIn (Fw none) 0 Tryz.prog 65 (List.toArray [.agg (List.toArray (c_T_api_Rec (x1) A2 c3 A5 c6))]) w0 (fun e w' => ∃ v, e = .returned v ∧ ∃ D1, v = .agg (List.toArray (acells .u8 32 (r))) ∧ Stp g w0 D0 [] w' D1 []) := by
 unfold inspeximusref04_Com.f at hf
 have hS := Stp.refl hS0
 clear hS0
 refine calls_body (n := 22) Tryz.func65 rfl Tryz.ntmps65 rfl fun a hE => ?_
 have hE : Env a 22 [] [(0, .agg (List.toArray (c_T_api_Rec (x1) A2 c3 A5 c6)))] := hE
 refine sq (ra ?_)
 refine at_op (op_box rfl rfl rfl rfl hE rfl hS rfl (fun a b1 w _ hE hS => ?_)) rfl
 refine at_op (op_alloc (z := .agg (List.toArray (acells .u8 32 ((Vector.replicate 32 (0 : Int)))))) rfl rfl rfl rfl hE rfl hS (by kernel_rfl) (fun a b2 w _ hE hS => ?_)) rfl
 refine ae ?_
 refine sq ?_
 obtain ⟨j1, hj1, hf⟩ := jn_elim hf
 refine seq_join (fun a w => ∃ (y1 : Bool), ∃ D2, Env a 22 [] [(1, .pointer (some ⟨b1, 0, none⟩)), (2, .pointer (some ⟨b2, 0, none⟩)), (10, .bool (y1))] ∧ Stp g w0 D0 [] w D2 [bx b1 40 (c_T_api_Rec (x1) A2 c3 A5 c6), bx b2 23 (acells .u8 32 ((Vector.replicate 32 (0 : Int))))] ∧ Snap.le D0 D2 ∧ j1 y1 = some r) ?_ ?_
 ·clear hj1
  refine ra ?_
  refine sM 1 1 [1] [(3, .agg (List.toArray (c_T_api_Rec (x1) A2 c3 A5 c6)))] hE hS fun a hE => ?_
  obtain ⟨r2, h1, hf⟩ := bs hf
  refine aC rfl rfl rfl rfl hE rfl rfl rfl rfl (inspeximusref04_Right.calls h1 (hS.st.fore (L := [])) h4 h7) fun a v w hR hE => ?_
  obtain ⟨D3, rfl, hS1⟩ := hR
  have le4 := hS1.dle
  have hS := hS.callR hS1 rfl .n
  refine sN 2 4 [(6, .bool ((!r2)))] hE fun a hE => ?_
  refine bo ((!r2)) (fun hb => ?_) fun hb => ?_
  ·replace hf := cf hb hf
   have hE := hE.know (t := 6) rfl hb
   refine sM 4 8 [1] [(10, .bool ((!decide (x1.fKind = (1 : Int)))))] hE hS fun a hE => ?_
   refine ae ?_
   have hS := hS.p (.d 1 (.d 0 .n))
   exact ⟨(!decide (x1.fKind = (1 : Int))), D3, hE.wk, hS, le4, hf⟩
  replace hf := ct hb hf
  have hE := hE.know (t := 6) rfl hb
  refine sN 4 8 [(10, .bool true)] hE fun a hE => ?_
  refine ae ?_
  have hS := hS.p (.d 1 (.d 0 .n))
  exact ⟨true, D3, hE.wk, hS, le4, hf⟩
 clear hE hS
 rintro a w ⟨y1, D2, hE, hS, le1, hf⟩
 replace hf := hj1 _ hf
 clear hj1
 refine cond_split hE (b := y1) rfl (fun hb => ?_) (fun hb => ?_)
 ·replace hf := ct hb hf
  refine sq (ra ?_)
  refine at_op (op_tk hE (tk_build (acells .u8 32 ((vofL 32 [(0 : Int), (0 : Int), (0 : Int), (0 : Int), (0 : Int), (0 : Int), (0 : Int), (0 : Int), (0 : Int), (0 : Int), (0 : Int), (0 : Int), (0 : Int), (0 : Int), (0 : Int), (0 : Int), (0 : Int), (0 : Int), (0 : Int), (0 : Int), (0 : Int), (0 : Int), (0 : Int), (0 : Int), (0 : Int), (0 : Int), (0 : Int), (0 : Int), (0 : Int), (0 : Int), (0 : Int), (0 : Int)]))) rfl rfl rfl rfl hE rfl rfl (by kernel_rfl) (fun a hE => ?_))) rfl
  have hS := hS.p (.d 1 (.d 0 .n))
  refine at_op (op_store (v := .agg (List.toArray (acells .u8 32 ((vofL 32 [(0 : Int), (0 : Int), (0 : Int), (0 : Int), (0 : Int), (0 : Int), (0 : Int), (0 : Int), (0 : Int), (0 : Int), (0 : Int), (0 : Int), (0 : Int), (0 : Int), (0 : Int), (0 : Int), (0 : Int), (0 : Int), (0 : Int), (0 : Int), (0 : Int), (0 : Int), (0 : Int), (0 : Int), (0 : Int), (0 : Int), (0 : Int), (0 : Int), (0 : Int), (0 : Int), (0 : Int), (0 : Int)]))))) (acells .u8 32 ((vofL 32 [(0 : Int), (0 : Int), (0 : Int), (0 : Int), (0 : Int), (0 : Int), (0 : Int), (0 : Int), (0 : Int), (0 : Int), (0 : Int), (0 : Int), (0 : Int), (0 : Int), (0 : Int), (0 : Int), (0 : Int), (0 : Int), (0 : Int), (0 : Int), (0 : Int), (0 : Int), (0 : Int), (0 : Int), (0 : Int), (0 : Int), (0 : Int), (0 : Int), (0 : Int), (0 : Int), (0 : Int), (0 : Int)]))) rfl rfl rfl rfl hE hS rfl rfl (by kernel_rfl) (by kernel_rfl) (by kernel_rfl) (by kernel_rfl) (by kernel_rfl) (fun a w _ hE hS => ?_)) rfl
  refine ae ?_
  refine wpIn_ret ?_
  obtain rfl := si hf
  refine ret_ ?_
  refine ret_gen ([.agg (List.toArray (acells .u8 32 ((vofL 32 [(0 : Int), (0 : Int), (0 : Int), (0 : Int), (0 : Int), (0 : Int), (0 : Int), (0 : Int), (0 : Int), (0 : Int), (0 : Int), (0 : Int), (0 : Int), (0 : Int), (0 : Int), (0 : Int), (0 : Int), (0 : Int), (0 : Int), (0 : Int), (0 : Int), (0 : Int), (0 : Int), (0 : Int), (0 : Int), (0 : Int), (0 : Int), (0 : Int), (0 : Int), (0 : Int), (0 : Int), (0 : Int)]))))]) hE (by rw [show Tryz.f65.results.toList = [.cell 2 23] from rfl]; exact ⟨_, _, _, 0, _, _, rfl, rfl, hS.heapAt (j := 0) rfl, by kernel_rfl, rfl⟩) ?_
  have hS := hS.p .n
  exact ⟨_, rfl, D2, rfl, hS⟩
 replace hf := cf hb hf
 refine wpIn_skip ?_
 refine sq (sq (ra ?_))
 refine sM 2 2 [0] [(13, .bool (x1.fGone))] hE hS fun a hE => ?_
 refine ae ?_
 refine cond_split hE (b := x1.fGone) rfl (fun hb => ?_) (fun hb => ?_)
 ·replace hf := ct hb hf
  refine sq (ra ?_)
  refine sM 2 2 [0] [(15, .agg (List.toArray (acells .u8 32 (x1.fCom))))] hE hS fun a hE => ?_
  have hS := hS.p (.d 1 (.d 0 .n))
  refine at_op (op_store (v := .agg (List.toArray (acells .u8 32 (x1.fCom)))) (acells .u8 32 (x1.fCom)) rfl rfl rfl rfl hE hS rfl rfl (by kernel_rfl) (by kernel_rfl) (by kernel_rfl) (by kernel_rfl) (by kernel_rfl) (fun a w _ hE hS => ?_)) rfl
  refine ae ?_
  refine wpIn_ret ?_
  obtain rfl := si hf
  refine ret_ ?_
  refine ret_gen ([.agg (List.toArray (acells .u8 32 (x1.fCom)))]) hE (by rw [show Tryz.f65.results.toList = [.cell 2 23] from rfl]; exact ⟨_, _, _, 0, _, _, rfl, rfl, hS.heapAt (j := 0) rfl, by kernel_rfl, rfl⟩) ?_
  have hS := hS.p .n
  exact ⟨_, rfl, D2, rfl, hS⟩
 replace hf := cf hb hf
 refine wpIn_skip ?_
 refine sq ?_
 refine region_draw (fun j => Keeps (mfOf [(6, [b2])] j)) (by kernel_rfl) ?_
 have hS := hS.drew
 first | generalize w.drew = w at hS ⊢ | generalize w0.drew = w at hS ⊢
 refine wF 0 1 6 44 23 44 hE fun a hE => ?_
 obtain ⟨D4, le3, e1, hS⟩ := hS.freezeB
 have hc1 : Cell kd_T_api_Rec D4 b1 0 (x1) := ⟨c_T_api_Rec (x1) A2 c3 A5 c6, _, _, _, (kd_T_api_Rec_mk (D := D4) (x := x1) rfl rfl rfl rfl rfl rfl rfl rfl rfl rfl rfl (kslice (h4.mono (le2 le1 le3))) (kslice (h7.mono (le2 le1 le3))) rfl rfl rfl), e1, fun j u hu => by show (List.toArray (c_T_api_Rec (x1) A2 c3 A5 c6))[0 + j]? = some u; simpa using hu⟩
 obtain ⟨l1, h2, hf⟩ := bs hf
 refine tW 1 3 (fuel := 5) (by kernel_rfl) hE (fun M => tk_sliceArrAt (kk := .u8) (e := 5) (v := x1.fSalt) (off := 44) (cs := c_T_api_Rec (x1) A2 c3 A5 c6) rfl rfl rfl rfl hE rfl rfl (by kernel_rfl) rfl rfl e1 (by kernel_rfl) rfl h2 (fun a A3 c2 hE h3 => ?_))
 refine tW 2 7 (fuel := 4) (by kernel_rfl) hE (fun M => g_fieldAddr (fo := 43) (ft := 33) (0 + 43) rfl rfl rfl rfl hE rfl rfl (by kernel_rfl) rfl (fun a hE => ?_))
 obtain ⟨cs1, C1, T1, fr1, hr1, hb1, hc2⟩ := id hc1
 obtain ⟨A4, c4, A1, c1, rfl, h10, h5⟩ := kd_T_api_Rec_el hr1
 refine tT 3 15 (fuel := 3) (by kernel_rfl) hE (tk_loadX (off0 := 0) (off := 43) (c := c_T_api_Rec (x1) A4 c4 A1 c1) (.slice A1 (List.length (x1.fData)) c1) rfl rfl rfl rfl hE rfl hS rfl hb1 hc2 (by kernel_rfl) (by kernel_rfl) (kD hS dn_nil) (fun a hE => ?_))
 refine oG 4 31 (fuel := 2) (by kernel_rfl) (op_buildSlice (K := (kdSlice (kdInt .u8))) (e := 33) (cs := [.slice A3 (List.length (l1)) c2] ++ ([.slice A1 (List.length (x1.fData)) c1] ++ [])) ([l1, x1.fData] : List (List Int)) rfl rfl rfl rfl hE rfl hS rfl (by kernel_rfl) rfl rfl (by exact ⟨_, _, rfl, (kslice h3), ⟨_, _, rfl, (kslice h5), rfl⟩⟩) (fun a A6 q1 w hkp hE h6 hS => ⟨hkp.mono (fun _ h => absurd h List.not_mem_nil), ?_⟩))
 clear hkp
 obtain ⟨D6, q2, le5, hS, h11, h8⟩ := hS.lent h6
 obtain ⟨r1, h9, hf⟩ := bs hf
 refine oC 5 63 1 rfl rfl rfl rfl hE rfl rfl rfl rfl (inspeximusref02_Of.calls h9 (hS.st.fore (L := [])) h8 (hG0.mono (le2 (le2 le1 le3) le5)) (hG1.mono (le2 (le2 le1 le3) le5))) fun a v w hR hE => ?_
 obtain ⟨D5, rfl, hS1⟩ := hR
 refine ⟨(hS1.keeps.sub (M' := []) trivial).mono (fun _ h => h), ?_⟩
 have le6 := hS1.dle
 have hS := hS.callR hS1 rfl .n
 have hS := hS.p (.d 1 (.d 0 .n))
 refine oG 6 127 (fuel := 0) (by kernel_rfl) (op_store (v := .agg (List.toArray (acells .u8 32 (r1)))) (acells .u8 32 (r1)) rfl rfl rfl rfl hE hS rfl rfl (by kernel_rfl) (by kernel_rfl) (by kernel_rfl) (by kernel_rfl) (by kernel_rfl) (fun a w hkp hE hS => ⟨hkp.mono (fun _ h => h), ?_⟩))
 clear hkp
 refine doneG (by kernel_rfl) ?_
 refine wpIn_ret ?_
 obtain rfl := si hf
 refine ret_ ?_
 refine ret_gen ([.agg (List.toArray (acells .u8 32 (r1)))]) hE (by rw [show Tryz.f65.results.toList = [.cell 2 23] from rfl]; exact ⟨_, _, _, 0, _, _, rfl, rfl, hS.heapAt (j := 0) rfl, by kernel_rfl, rfl⟩) ?_
 have hS := hS.p .n
 exact ⟨_, rfl, D5, rfl, hS⟩
set_option maxRecDepth 100000 in
theorem inspeximusref04_flag.calls {K : Nat} {g w0 : World} {D0 : Snap} {x1 : Bool} {r : (Int)} (hf : inspeximusref04_flag.f K x1 = some r) (hS0 : St g w0 D0 []) :
  CallsIn (Fw none) 0 Tryz.prog 66 (List.toArray [.bool (x1)]) w0 (fun e w' => ∃ v, e = .returned v ∧ ∃ D1, v = .int .u8 (r) ∧ Stp g w0 D0 [] w' D1 []) := by
 unfold inspeximusref04_flag.f at hf
 have hS := Stp.refl hS0
 clear hS0
 refine calls_body (n := 4) Tryz.func66 rfl Tryz.ntmps66 rfl fun a hE => ?_
 have hE : Env a 4 [] [(0, .bool (x1))] := hE
 refine sq (ra ?_)
 refine sN 1 1 [(2, .int .u8 ((0 : Int)))] hE fun a hE => ?_
 refine ae ?_
 refine sq (sq (ra ?_))
 refine sN 1 1 [(3, .bool (x1))] hE fun a hE => ?_
 refine ae ?_
 refine cond_split hE (b := x1) rfl (fun hb => ?_) (fun hb => ?_)
 ·replace hf := ct hb hf
  refine sq (ra ?_)
  refine sN 1 1 [(2, .int .u8 ((1 : Int)))] hE fun a hE => ?_
  refine ae ?_
  refine wpIn_ret ?_
  obtain rfl := si hf
  refine ret_ ?_
  refine rT 2 (.int .u8 ((1 : Int))) hE ?_
  exact ⟨_, rfl, D0, rfl, hS⟩
 replace hf := cf hb hf
 refine wpIn_skip ?_
 refine sq (ra ?_)
 refine sN 1 1 [(2, .int .u8 ((0 : Int)))] hE fun a hE => ?_
 refine ae ?_
 refine wpIn_ret ?_
 obtain rfl := si hf
 refine ret_ ?_
 refine rT 2 (.int .u8 ((0 : Int))) hE ?_
 exact ⟨_, rfl, D0, rfl, hS⟩
set_option maxRecDepth 100000 in
theorem inspeximusref03_Bytes.calls {K : Nat} {g w0 : World} {D0 : Snap} {x1 : (List Int)} {A2 : Option Addr} {c3 : Nat} {r : ((List Int))} (hf : inspeximusref03_Bytes.f K x1 = some r) (hS0 : St g w0 D0 []) (h4 : Sl (kdInt .u8) D0 A2 c3 (x1)) :
  CallsIn (Fw none) 0 Tryz.prog 67 (List.toArray [.slice A2 (List.length (x1)) c3]) w0 (fun e w' => ∃ v, e = .returned v ∧ ∃ (D1 : Snap) (A22 : Option Addr) (c23 : Nat) (q24 : Blk), v = .slice A22 (List.length (r)) c23 ∧ Stp g w0 D0 [] w' D1 [q24] ∧ OwnD (kdInt .u8) 5 D1 A22 c23 (r) q24) := by
 unfold inspeximusref03_Bytes.f at hf
 have hS := Stp.refl hS0
 clear hS0
 refine calls_body (n := 8) Tryz.func67 rfl Tryz.ntmps67 rfl fun a hE => ?_
 have hE : Env a 8 [] [(0, .slice A2 (List.length (x1)) c3)] := hE
 refine sq (ra ?_)
 refine sN 1 1 [(2, .slice none 0 0)] hE fun a hE => ?_
 refine ae ?_
 refine sq (ra ?_)
 refine sN 2 2 [(4, .int .i64 (((List.length (x1) : Nat) : Int)))] hE fun a hE => ?_
 obtain ⟨r27, h28, hf⟩ := bs hf
 refine aC rfl rfl rfl rfl hE rfl rfl rfl rfl (inspeximusref03_Num.calls h28 (hS.st.fore (L := [])) ) fun a v w hR hE => ?_
 obtain ⟨D29, A31, c32, q33, rfl, hS1, h34⟩ := hR
 have le36 := hS1.dle
 have hS := hS.callR hS1 rfl (.c .n)
 refine sN 1 4 [(6, .slice A2 (List.length (x1)) c3)] hE fun a hE => ?_
 obtain ⟨l37, h38, hf⟩ := bs hf
 refine at_op (g_append (K := (kdInt .u8)) (e := 5) (bytes := 1) (l := r27) (m := x1) rfl rfl rfl rfl hE rfl hS rfl rfl (by kernel_rfl) rfl rfl h34 (h4.mono le36) h38 (fun a A39 c40 q41 w _ hE h42 hS => ?_)) rfl
 refine sN 1 6 [(2, .slice A39 (List.length (l37)) c40)] hE fun a hE => ?_
 refine ae ?_
 refine wpIn_ret ?_
 obtain rfl := si hf
 refine ret_ ?_
 refine rT 2 (.slice A39 (List.length (l37)) c40) hE ?_
 exact ⟨_, rfl, D29, A39, c40, q41, rfl, hS, h42⟩
end Go.Proofs.YtjgaokcplofimaaGreatDoor
