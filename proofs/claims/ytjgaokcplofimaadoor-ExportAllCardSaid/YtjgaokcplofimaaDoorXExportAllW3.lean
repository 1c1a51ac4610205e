/-
  Proved, text by text: a call of a function of the cut comes to what its plain function computes.
  Conditions: those that each theorem names.
-/
import Derived.Test.YtjgaokcplofimaaDoorProg
import Derived.Test.YtjgaokcplofimaaDoorSepN
import Derived.Test.YtjgaokcplofimaaDoorXExportAllW2
set_option linter.unusedVariables false
set_option maxHeartbeats 4000000
namespace Go.Proofs.YtjgaokcplofimaaDoor
open Go Go.Sep
set_option maxRecDepth 100000 in
theorem inspeximusref04_Same.calls {K : Nat} {g w0 : World} {D0 : Snap} {x1 : T_api_Rec} {x8 : T_api_Rec} {A2 : Option Addr} {c3 : Nat} {A5 : Option Addr} {c6 : Nat} {A9 : Option Addr} {c10 : Nat} {A12 : Option Addr} {c13 : Nat} {r : (Bool)} (hf : inspeximusref04_Same.f K x1 x8 = some r) (hS0 : St g w0 D0 []) (h4 : Sl kd_T_api_Step D0 A2 c3 (x1.fSteps)) (h7 : Sl (kdInt .u8) D0 A5 c6 (x1.fData)) (h11 : Sl kd_T_api_Step D0 A9 c10 (x8.fSteps)) (h14 : Sl (kdInt .u8) D0 A12 c13 (x8.fData)) :
  CallsIn (Fw none) 0 Tryd.prog 11 (List.toArray [.agg (List.toArray (c_T_api_Rec (x1) A2 c3 A5 c6)), .agg (List.toArray (c_T_api_Rec (x8) A9 c10 A12 c13))]) w0 (fun e w' => ∃ v, e = .returned v ∧ ∃ D1, v = .bool (r) ∧ Stp g w0 D0 [] w' D1 []) := by
 unfold inspeximusref04_Same.f at hf
 have hS := Stp.refl hS0
 clear hS0
 refine calls_body (n := 115) Tryd.func11 rfl Tryd.ntmps11 rfl fun a hE => ?_
 have hE : Env a 115 [] [(0, .agg (List.toArray (c_T_api_Rec (x1) A2 c3 A5 c6))), (1, .agg (List.toArray (c_T_api_Rec (x8) A9 c10 A12 c13)))] := hE
 refine sq (ra ?_)
 refine at_op (op_box rfl rfl rfl rfl hE rfl hS rfl (fun a b44 w _ hE hS => ?_)) rfl
 refine at_op (op_box rfl rfl rfl rfl hE rfl hS rfl (fun a b46 w _ hE hS => ?_)) rfl
 refine sN 1 3 [(4, .bool false)] hE fun a hE => ?_
 refine ae ?_
 obtain ⟨j61, hj62, hf⟩ := jn_elim hf
 refine seq_join (fun a w => ∃ (y58 : Bool), ∃ D59, Env a 115 [] [(4, .bool (y58))] ∧ Stp g w0 D0 [] w D59 [] ∧ Snap.le D0 D59 ∧ j61 y58 = some r) ?_ ?_
 ·clear hj62
  refine ra ?_
  refine sM 6 6 [1, 0] [(10, .bool ((decide (x1.fKind = x8.fKind))))] hE hS fun a hE => ?_
  refine bo ((decide (x1.fKind = x8.fKind))) (fun hb => ?_) fun hb => ?_
  ·replace hf := cf hb hf
   have hE := hE.know (t := 10) rfl hb
   refine sN 105 111 [(4, .bool false)] hE fun a hE => ?_
   refine ae ?_
   have hS := hS.p .n
   exact ⟨false, D0, hE.wk, hS, lr, hf⟩
  replace hf := ct hb hf
  have hE := hE.know (t := 10) rfl hb
  refine sM 7 13 [1, 0] [(17, .bool ((decide (x1.fSaga = x8.fSaga))))] hE hS fun a hE => ?_
  refine bo ((decide (x1.fSaga = x8.fSaga))) (fun hb => ?_) fun hb => ?_
  ·replace hf := cf hb hf
   have hE := hE.know (t := 17) rfl hb
   refine sN 98 111 [(4, .bool false)] hE fun a hE => ?_
   refine ae ?_
   have hS := hS.p .n
   exact ⟨false, D0, hE.wk, hS, lr, hf⟩
  replace hf := ct hb hf
  have hE := hE.know (t := 17) rfl hb
  refine sM 7 20 [1, 0] [(24, .bool ((decide (x1.fSeq = x8.fSeq))))] hE hS fun a hE => ?_
  refine bo ((decide (x1.fSeq = x8.fSeq))) (fun hb => ?_) fun hb => ?_
  ·replace hf := cf hb hf
   have hE := hE.know (t := 24) rfl hb
   refine sN 91 111 [(4, .bool false)] hE fun a hE => ?_
   refine ae ?_
   have hS := hS.p .n
   exact ⟨false, D0, hE.wk, hS, lr, hf⟩
  replace hf := ct hb hf
  have hE := hE.know (t := 24) rfl hb
  refine sM 7 27 [1, 0] [(31, .bool ((decide (x1.fStep = x8.fStep))))] hE hS fun a hE => ?_
  refine bo ((decide (x1.fStep = x8.fStep))) (fun hb => ?_) fun hb => ?_
  ·replace hf := cf hb hf
   have hE := hE.know (t := 31) rfl hb
   refine sN 84 111 [(4, .bool false)] hE fun a hE => ?_
   refine ae ?_
   have hS := hS.p .n
   exact ⟨false, D0, hE.wk, hS, lr, hf⟩
  replace hf := ct hb hf
  have hE := hE.know (t := 31) rfl hb
  refine sM 7 34 [1, 0] [(38, .bool ((decide (x1.fTry = x8.fTry))))] hE hS fun a hE => ?_
  refine bo ((decide (x1.fTry = x8.fTry))) (fun hb => ?_) fun hb => ?_
  ·replace hf := cf hb hf
   have hE := hE.know (t := 38) rfl hb
   refine sN 77 111 [(4, .bool false)] hE fun a hE => ?_
   refine ae ?_
   have hS := hS.p .n
   exact ⟨false, D0, hE.wk, hS, lr, hf⟩
  replace hf := ct hb hf
  have hE := hE.know (t := 38) rfl hb
  refine sM 4 38 [1, 0] [(40, .bool (x1.fBack)), (42, .bool (x8.fBack))] hE hS fun a hE => ?_
  refine at_op (op_tk hE (tk_bin (r := .bool ((x1.fBack == x8.fBack))) rfl rfl rfl rfl hE rfl rfl rfl (eqb_run (by kernel_rfl) _ _) (fun a hE => ?_))) rfl
  refine sN 2 41 [(45, .bool ((x1.fBack == x8.fBack)))] hE fun a hE => ?_
  refine bo ((x1.fBack == x8.fBack)) (fun hb => ?_) fun hb => ?_
  ·replace hf := cf hb hf
   have hE := hE.know (t := 45) rfl hb
   refine sN 70 111 [(4, .bool false)] hE fun a hE => ?_
   refine ae ?_
   have hS := hS.p .n
   exact ⟨false, D0, hE.wk, hS, lr, hf⟩
  replace hf := ct hb hf
  have hE := hE.know (t := 45) rfl hb
  refine sM 4 45 [1, 0] [(47, .bool (x1.fGood)), (49, .bool (x8.fGood))] hE hS fun a hE => ?_
  refine at_op (op_tk hE (tk_bin (r := .bool ((x1.fGood == x8.fGood))) rfl rfl rfl rfl hE rfl rfl rfl (eqb_run (by kernel_rfl) _ _) (fun a hE => ?_))) rfl
  refine sN 2 48 [(52, .bool ((x1.fGood == x8.fGood)))] hE fun a hE => ?_
  refine bo ((x1.fGood == x8.fGood)) (fun hb => ?_) fun hb => ?_
  ·replace hf := cf hb hf
   have hE := hE.know (t := 52) rfl hb
   refine sN 63 111 [(4, .bool false)] hE fun a hE => ?_
   refine ae ?_
   have hS := hS.p .n
   exact ⟨false, D0, hE.wk, hS, lr, hf⟩
  replace hf := ct hb hf
  have hE := hE.know (t := 52) rfl hb
  refine sM 7 55 [1, 0] [(59, .bool ((decide (x1.fEnd = x8.fEnd))))] hE hS fun a hE => ?_
  refine bo ((decide (x1.fEnd = x8.fEnd))) (fun hb => ?_) fun hb => ?_
  ·replace hf := cf hb hf
   have hE := hE.know (t := 59) rfl hb
   refine sN 56 111 [(4, .bool false)] hE fun a hE => ?_
   refine ae ?_
   have hS := hS.p .n
   exact ⟨false, D0, hE.wk, hS, lr, hf⟩
  replace hf := ct hb hf
  have hE := hE.know (t := 59) rfl hb
  refine sM 7 62 [1, 0] [(66, .bool ((decide (x1.fPart = x8.fPart))))] hE hS fun a hE => ?_
  refine bo ((decide (x1.fPart = x8.fPart))) (fun hb => ?_) fun hb => ?_
  ·replace hf := cf hb hf
   have hE := hE.know (t := 66) rfl hb
   refine sN 49 111 [(4, .bool false)] hE fun a hE => ?_
   refine ae ?_
   have hS := hS.p .n
   exact ⟨false, D0, hE.wk, hS, lr, hf⟩
  replace hf := ct hb hf
  have hE := hE.know (t := 66) rfl hb
  refine sM 7 69 [1, 0] [(73, .bool ((decide (x1.fEpoch = x8.fEpoch))))] hE hS fun a hE => ?_
  refine bo ((decide (x1.fEpoch = x8.fEpoch))) (fun hb => ?_) fun hb => ?_
  ·replace hf := cf hb hf
   have hE := hE.know (t := 73) rfl hb
   refine sN 42 111 [(4, .bool false)] hE fun a hE => ?_
   refine ae ?_
   have hS := hS.p .n
   exact ⟨false, D0, hE.wk, hS, lr, hf⟩
  replace hf := ct hb hf
  have hE := hE.know (t := 73) rfl hb
  refine sM 4 73 [1, 0] [(75, .agg (List.toArray (acells .u8 32 (x1.fTag)))), (77, .agg (List.toArray (acells .u8 32 (x8.fTag))))] hE hS fun a hE => ?_
  refine at_op (op_tk hE (tk_bin (r := .bool ((decide (x1.fTag = x8.fTag)))) rfl rfl rfl rfl hE rfl rfl rfl (eqagg_run (by kernel_rfl) (EqR_arr (k := .u8) (N := 32) (by kernel_rfl))) (fun a hE => ?_))) rfl
  refine sN 2 76 [(80, .bool ((decide (x1.fTag = x8.fTag))))] hE fun a hE => ?_
  refine bo ((decide (x1.fTag = x8.fTag))) (fun hb => ?_) fun hb => ?_
  ·replace hf := cf hb hf
   have hE := hE.know (t := 80) rfl hb
   refine sN 35 111 [(4, .bool false)] hE fun a hE => ?_
   refine ae ?_
   have hS := hS.p .n
   exact ⟨false, D0, hE.wk, hS, lr, hf⟩
  replace hf := ct hb hf
  have hE := hE.know (t := 80) rfl hb
  refine sM 4 80 [1, 0] [(82, .slice A2 (List.length (x1.fSteps)) c3), (84, .slice A9 (List.length (x8.fSteps)) c10)] hE hS fun a hE => ?_
  obtain ⟨r63, h64, hf⟩ := bs hf
  refine aC rfl rfl rfl rfl hE rfl rfl rfl rfl (inspeximusref04_Steps.calls h64 (hS.st.fore (L := [])) h4 h11) fun a v w hR hE => ?_
  obtain ⟨D65, rfl, hS1⟩ := hR
  have le67 := hS1.dle
  have hS := hS.callR hS1 rfl .n
  refine sN 2 83 [(87, .bool (r63))] hE fun a hE => ?_
  refine bo (r63) (fun hb => ?_) fun hb => ?_
  ·replace hf := cf hb hf
   have hE := hE.know (t := 87) rfl hb
   refine sN 28 111 [(4, .bool false)] hE fun a hE => ?_
   refine ae ?_
   have hS := hS.p .n
   exact ⟨false, D65, hE.wk, hS, le67, hf⟩
  replace hf := ct hb hf
  have hE := hE.know (t := 87) rfl hb
  refine sM 4 87 [1, 0] [(89, .slice A5 (List.length (x1.fData)) c6), (91, .slice A12 (List.length (x8.fData)) c13)] hE hS fun a hE => ?_
  obtain ⟨r68, h69, hf⟩ := bs hf
  refine aC rfl rfl rfl rfl hE rfl rfl rfl rfl (inspeximusref01_Bytes.calls h69 (hS.st.fore (L := [])) (h7.mono le67) (h14.mono le67)) fun a v w hR hE => ?_
  obtain ⟨D70, rfl, hS1⟩ := hR
  have le72 := hS1.dle
  have hS := hS.callR hS1 rfl .n
  refine sN 2 90 [(94, .bool (r68))] hE fun a hE => ?_
  refine bo (r68) (fun hb => ?_) fun hb => ?_
  ·replace hf := cf hb hf
   have hE := hE.know (t := 94) rfl hb
   refine sN 21 111 [(4, .bool false)] hE fun a hE => ?_
   refine ae ?_
   have hS := hS.p .n
   exact ⟨false, D70, hE.wk, hS, (le2 le67 le72), hf⟩
  replace hf := ct hb hf
  have hE := hE.know (t := 94) rfl hb
  refine sM 4 94 [1, 0] [(96, .agg (List.toArray (acells .u8 32 (x1.fSalt)))), (98, .agg (List.toArray (acells .u8 32 (x8.fSalt))))] hE hS fun a hE => ?_
  refine at_op (op_tk hE (tk_bin (r := .bool ((decide (x1.fSalt = x8.fSalt)))) rfl rfl rfl rfl hE rfl rfl rfl (eqagg_run (by kernel_rfl) (EqR_arr (k := .u8) (N := 32) (by kernel_rfl))) (fun a hE => ?_))) rfl
  refine sN 2 97 [(101, .bool ((decide (x1.fSalt = x8.fSalt))))] hE fun a hE => ?_
  refine bo ((decide (x1.fSalt = x8.fSalt))) (fun hb => ?_) fun hb => ?_
  ·replace hf := cf hb hf
   have hE := hE.know (t := 101) rfl hb
   refine sN 14 111 [(4, .bool false)] hE fun a hE => ?_
   refine ae ?_
   have hS := hS.p .n
   exact ⟨false, D70, hE.wk, hS, (le2 le67 le72), hf⟩
  replace hf := ct hb hf
  have hE := hE.know (t := 101) rfl hb
  refine sM 4 101 [1, 0] [(103, .bool (x1.fGone)), (105, .bool (x8.fGone))] hE hS fun a hE => ?_
  refine at_op (op_tk hE (tk_bin (r := .bool ((x1.fGone == x8.fGone))) rfl rfl rfl rfl hE rfl rfl rfl (eqb_run (by kernel_rfl) _ _) (fun a hE => ?_))) rfl
  refine sN 2 104 [(108, .bool ((x1.fGone == x8.fGone)))] hE fun a hE => ?_
  refine bo ((x1.fGone == x8.fGone)) (fun hb => ?_) fun hb => ?_
  ·replace hf := cf hb hf
   have hE := hE.know (t := 108) rfl hb
   refine sN 7 111 [(4, .bool false)] hE fun a hE => ?_
   refine ae ?_
   have hS := hS.p .n
   exact ⟨false, D70, hE.wk, hS, (le2 le67 le72), hf⟩
  replace hf := ct hb hf
  have hE := hE.know (t := 108) rfl hb
  refine sM 4 108 [1, 0] [(110, .agg (List.toArray (acells .u8 32 (x1.fCom)))), (112, .agg (List.toArray (acells .u8 32 (x8.fCom))))] hE hS fun a hE => ?_
  refine at_op (op_tk hE (tk_bin (r := .bool ((decide (x1.fCom = x8.fCom)))) rfl rfl rfl rfl hE rfl rfl rfl (eqagg_run (by kernel_rfl) (EqR_arr (k := .u8) (N := 32) (by kernel_rfl))) (fun a hE => ?_))) rfl
  refine sN 2 111 [(4, .bool ((decide (x1.fCom = x8.fCom))))] hE fun a hE => ?_
  refine ae ?_
  have hS := hS.p .n
  exact ⟨(decide (x1.fCom = x8.fCom)), D70, hE.wk, hS, (le2 le67 le72), hf⟩
 clear hE hS
 rintro a w ⟨y58, D59, hE, hS, le60, hf⟩
 replace hf := hj62 _ hf
 clear hj62
 refine wpIn_ret ?_
 obtain rfl := si hf
 refine ret_ ?_
 refine rT 4 (.bool (y58)) hE ?_
 exact ⟨_, rfl, D59, rfl, hS⟩
set_option maxRecDepth 100000 in
theorem inspeximusref05_Same.calls {K : Nat} {g w0 : World} {D0 : Snap} {x1 : (List (Vector Int 32))} {x5 : (List (Vector Int 32))} {A2 : Option Addr} {c3 : Nat} {A6 : Option Addr} {c7 : Nat} {r : (Bool)} (hf : inspeximusref05_Same.f K x1 x5 = some r) (hS0 : St g w0 D0 []) (h4 : Sl (kdArr .u8 32) D0 A2 c3 (x1)) (h8 : Sl (kdArr .u8 32) D0 A6 c7 (x5)) :
  CallsIn (Fw none) 0 Tryd.prog 20 (List.toArray [.slice A2 (List.length (x1)) c3, .slice A6 (List.length (x5)) c7]) w0 (fun e w' => ∃ v, e = .returned v ∧ ∃ D1, v = .bool (r) ∧ Stp g w0 D0 [] w' D1 []) := by
 unfold inspeximusref05_Same.f at hf
 have hS := Stp.refl hS0
 clear hS0
 refine calls_body (n := 26) Tryd.func20 rfl Tryd.ntmps20 rfl fun a hE => ?_
 have hE : Env a 26 [] [(0, .slice A2 (List.length (x1)) c3), (1, .slice A6 (List.length (x5)) c7)] := hE
 refine sq (ra ?_)
 refine sN 1 1 [(4, .bool false)] hE fun a hE => ?_
 refine ae ?_
 refine sq (sq (ra ?_))
 refine sN 5 5 [(10, .bool ((!decide (((List.length (x1) : Nat) : Int) = ((List.length (x5) : Nat) : Int)))))] hE fun a hE => ?_
 refine ae ?_
 refine cond_split hE (b := (!decide (((List.length (x1) : Nat) : Int) = ((List.length (x5) : Nat) : Int)))) rfl (fun hb => ?_) (fun hb => ?_)
 ·replace hf := ct hb hf
  refine sq (ra ?_)
  refine sN 1 1 [(4, .bool false)] hE fun a hE => ?_
  refine ae ?_
  refine wpIn_ret ?_
  obtain rfl := si hf
  refine ret_ ?_
  refine rT 4 (.bool false) hE ?_
  exact ⟨_, rfl, D0, rfl, hS⟩
 replace hf := cf hb hf
 refine wpIn_skip ?_
 refine sq (sq (ra ?_))
 refine sN 1 1 [(5, .int .i64 ((0 : Int)))] hE fun a hE => ?_
 refine ae ?_
 obtain ⟨s1, hf, hs1⟩ := bs hf
 refine block_loop (fun a w => ∃ (z1 : Unit), ∃ D3, Env a 26 [] [] ∧ Stp g w0 D0 [] w D3 [] ∧ Snap.le D0 D3 ∧ (Sum.inr z1) = s1) (fun k a w => ∃ (y1 : Int), ∃ D2, Env a 26 [] [(0, .slice A2 (List.length (x1)) c3), (1, .slice A6 (List.length (x5)) c7), (5, .int .i64 (y1))] ∧ Stp g w0 D0 [] w D2 [] ∧ Snap.le D0 D2 ∧ inspeximusref05_Same_l1.l K x1 x5 k y1 = some s1) K ?_ ?_ ?_
 ·exact ⟨(0 : Int), D0, hE.wk, hS, lr, hf⟩
 ·clear hE hS hf
  rintro a w ⟨z1, D3, hE, hS, le2, rfl⟩
  have hf := hs1
  clear hs1
  refine sq (ra ?_)
  refine sN 1 1 [(4, .bool true)] hE fun a hE => ?_
  refine ae ?_
  refine wpIn_ret ?_
  obtain rfl := si hf
  refine ret_ ?_
  refine rT 4 (.bool true) hE ?_
  exact ⟨_, rfl, D3, rfl, hS⟩
 clear hE hS hf
 rintro k a w ⟨y1, D2, hE, hS, le1, hf⟩
 obtain ⟨k, rfl, hf⟩ := inspeximusref05_Same_l1.some _ _ hf
 refine ⟨k, rfl, ?_⟩
 unfold inspeximusref05_Same_l1.b at hf
 refine sq (sq (ra ?_))
 refine sN 4 4 [(14, .bool ((decide (y1 < ((List.length (x1) : Nat) : Int)))))] hE fun a hE => ?_
 refine ae ?_
 refine cond_split hE (b := (decide (y1 < ((List.length (x1) : Nat) : Int)))) rfl (fun hb => ?_) (fun hb => ?_)
 ·replace hf := ct hb hf
  refine wpIn_skip ?_
  refine sq ?_
  refine wpIn_block ?_
  refine sq ?_
  refine region_draw (fun j => Keeps (mfOf [] j)) (by kernel_rfl) ?_
  have hS := hS.drew
  first | generalize w.drew = w at hS ⊢ | generalize w0.drew = w at hS ⊢
  refine wP 0 1 8 (.slice A2 (List.length (x1)) c3) hE fun a hE => ?_
  refine wP 1 3 7 (.int .i64 (y1)) hE fun a hE => ?_
  refine wP 4 19 6 (.slice A6 (List.length (x5)) c7) hE fun a hE => ?_
  refine wP 5 51 5 (.int .i64 (y1)) hE fun a hE => ?_
  obtain ⟨x2, h1, hf⟩ := bs hf
  refine tW 2 55 (fuel := 4) (by kernel_rfl) hE (fun M => g_index (K := (kdArr .u8 32)) (e := 24) (by_ := 32) (zl := 32) rfl rfl rfl rfl hE rfl rfl rfl (by kernel_rfl) rfl (h4.mono le1) h1 (fun a b1 o1 hE h2 => ?_))
  obtain ⟨cs1, C1, T1, fr1, hr1, hb1, hc1⟩ := id h2
  obtain rfl := hr1
  refine tT 3 63 (fuel := 3) (by kernel_rfl) hE (tk_loadX (off0 := o1) (off := 0) (c := acells .u8 32 (x2)) (.agg (List.toArray (acells .u8 32 (x2)))) rfl rfl rfl rfl hE rfl hS rfl hb1 hc1 (by kernel_rfl) (by kernel_rfl) (kD hS dn_nil) (fun a hE => ?_))
  obtain ⟨x3, h3, hf⟩ := bs hf
  refine tW 6 127 (fuel := 2) (by kernel_rfl) hE (fun M => g_index (K := (kdArr .u8 32)) (e := 24) (by_ := 32) (zl := 32) rfl rfl rfl rfl hE rfl rfl rfl (by kernel_rfl) rfl (h8.mono le1) h3 (fun a b2 o2 hE h5 => ?_))
  obtain ⟨cs2, C2, T2, fr2, hr2, hb2, hc2⟩ := id h5
  obtain rfl := hr2
  refine tT 7 255 (fuel := 1) (by kernel_rfl) hE (tk_loadX (off0 := o2) (off := 0) (c := acells .u8 32 (x3)) (.agg (List.toArray (acells .u8 32 (x3)))) rfl rfl rfl rfl hE rfl hS rfl hb2 hc2 (by kernel_rfl) (by kernel_rfl) (kD hS dn_nil) (fun a hE => ?_))
  refine tW 8 511 (fuel := 0) (by kernel_rfl) hE (fun M => tk_bin (r := .bool ((!(decide (x2 = x3))))) rfl rfl rfl rfl hE rfl rfl rfl (neagg_run (by kernel_rfl) (EqR_arr (k := .u8) (N := 32) (by kernel_rfl))) (fun a hE => ?_))
  refine doneG (by kernel_rfl) ?_
  refine cond_split hE (b := (!(decide (x2 = x3)))) rfl (fun hb => ?_) (fun hb => ?_)
  ·replace hf := ct hb hf
   refine sq (ra ?_)
   refine sN 1 1 [(4, .bool false)] hE fun a hE => ?_
   refine ae ?_
   refine wpIn_ret ?_
   obtain rfl := si hf
   replace hf := hs1
   obtain rfl := si hf
   refine ret_ ?_
   refine rT 4 (.bool false) hE ?_
   exact ⟨_, rfl, D2, rfl, hS⟩
  replace hf := cf hb hf
  refine wpIn_skip ?_
  refine ra ?_
  refine sN 3 3 [(5, .int .i64 ((IntKind.wrap .i64 (y1 + (1 : Int)))))] hE fun a hE => ?_
  exact ae ⟨(IntKind.wrap .i64 (y1 + (1 : Int))), D2, hE.wk, hS, le1, hf⟩
 replace hf := cf hb hf
 refine wpIn_exit ?_
 obtain rfl := si hf
 exact ⟨(), D2, hE.wk, hS, le1, rfl⟩
set_option maxRecDepth 100000 in
theorem inspeximusref17_Same.calls {K : Nat} {g w0 : World} {D0 : Snap} {x1 : T_api_Bundle} {x8 : T_api_Bundle} {A2 : Option Addr} {c3 : Nat} {A5 : Option Addr} {c6 : Nat} {A9 : Option Addr} {c10 : Nat} {A12 : Option Addr} {c13 : Nat} {r : (Bool)} (hf : inspeximusref17_Same.f K x1 x8 = some r) (hS0 : St g w0 D0 []) (h4 : Sl kd_T_api_Sig D0 A2 c3 (x1.fPoint.fSigs)) (h7 : Sl kd_T_api_Item D0 A5 c6 (x1.fItems)) (h11 : Sl kd_T_api_Sig D0 A9 c10 (x8.fPoint.fSigs)) (h14 : Sl kd_T_api_Item D0 A12 c13 (x8.fItems)) :
  CallsIn (Fw none) 0 Tryd.prog 14 (List.toArray [.agg (List.toArray (c_T_api_Bundle (x1) A2 c3 A5 c6)), .agg (List.toArray (c_T_api_Bundle (x8) A9 c10 A12 c13))]) w0 (fun e w' => ∃ v, e = .returned v ∧ ∃ D1, v = .bool (r) ∧ Stp g w0 D0 [] w' D1 []) := by
 unfold inspeximusref17_Same.f at hf
 have hS := Stp.refl hS0
 clear hS0
 refine calls_body (n := 68) Tryd.func14 rfl Tryd.ntmps14 rfl fun a hE => ?_
 have hE : Env a 68 [] [(0, .agg (List.toArray (c_T_api_Bundle (x1) A2 c3 A5 c6))), (1, .agg (List.toArray (c_T_api_Bundle (x8) A9 c10 A12 c13)))] := hE
 refine sq (ra ?_)
 refine at_op (op_box rfl rfl rfl rfl hE rfl hS rfl (fun a b1 w _ hE hS => ?_)) rfl
 refine at_op (op_box rfl rfl rfl rfl hE rfl hS rfl (fun a b2 w _ hE hS => ?_)) rfl
 refine sN 1 3 [(4, .bool false)] hE fun a hE => ?_
 refine ae ?_
 refine sq ?_
 obtain ⟨j1, hj1, hf⟩ := jn_elim hf
 refine seq_join (fun a w => ∃ (y3 : Bool), ∃ D4, Env a 68 [] [(2, .pointer (some ⟨b1, 0, none⟩)), (3, .pointer (some ⟨b2, 0, none⟩)), (29, .bool (y3))] ∧ Stp g w0 D0 [] w D4 [bx b1 32 (c_T_api_Bundle (x1) A2 c3 A5 c6), bx b2 32 (c_T_api_Bundle (x8) A9 c10 A12 c13)] ∧ Snap.le D0 D4 ∧ j1 y3 = some r) ?_ ?_
 ·clear hj1
  refine ra ?_
  refine sM 4 4 [1, 0] [(9, .bool (x1.fWhole)), (11, .bool (x8.fWhole))] hE hS fun a hE => ?_
  refine at_op (op_tk hE (tk_bin (r := .bool ((!(x1.fWhole == x8.fWhole)))) rfl rfl rfl rfl hE rfl rfl rfl (neb_run (by kernel_rfl) _ _) (fun a hE => ?_))) rfl
  refine sN 1 6 [(13, .bool ((!(x1.fWhole == x8.fWhole))))] hE fun a hE => ?_
  refine bo ((!(x1.fWhole == x8.fWhole))) (fun hb => ?_) fun hb => ?_
  ·replace hf := cf hb hf
   have hE := hE.know (t := 13) rfl hb
   refine sM 4 10 [1, 0] [(15, .agg (List.toArray (c_T_api_Point (x1.fPoint) A2 c3))), (17, .agg (List.toArray (c_T_api_Point (x8.fPoint) A9 c10)))] hE hS fun a hE => ?_
   obtain ⟨r1, h9, hf⟩ := bs hf
   refine aC rfl rfl rfl rfl hE rfl rfl rfl rfl (inspeximusref10_Points.calls h9 (hS.st.fore (L := [])) h4 h11) fun a v w hR hE => ?_
   obtain ⟨D7, rfl, hS1⟩ := hR
   have le4 := hS1.dle
   have hS := hS.callR hS1 rfl .n
   refine sN 3 14 [(21, .bool ((!r1)))] hE fun a hE => ?_
   refine bo ((!r1)) (fun hb => ?_) fun hb => ?_
   ·replace hf := cf hb hf
    have hE := hE.know (t := 21) rfl hb
    refine sM 8 22 [1, 0] [(29, .bool ((!decide (((List.length (x1.fItems) : Nat) : Int) = ((List.length (x8.fItems) : Nat) : Int)))))] hE hS fun a hE => ?_
    refine ae ?_
    have hS := hS.p (.d 1 (.d 0 .n))
    exact ⟨(!decide (((List.length (x1.fItems) : Nat) : Int) = ((List.length (x8.fItems) : Nat) : Int))), D7, hE.wk, hS, le4, hf⟩
   replace hf := ct hb hf
   have hE := hE.know (t := 21) rfl hb
   refine sN 8 22 [(29, .bool true)] hE fun a hE => ?_
   refine ae ?_
   have hS := hS.p (.d 1 (.d 0 .n))
   exact ⟨true, D7, hE.wk, hS, le4, hf⟩
  replace hf := ct hb hf
  have hE := hE.know (t := 13) rfl hb
  refine sN 16 22 [(29, .bool true)] hE fun a hE => ?_
  refine ae ?_
  have hS := hS.p (.d 1 (.d 0 .n))
  exact ⟨true, D0, hE.wk, hS, lr, hf⟩
 clear hE hS
 rintro a w ⟨y3, D4, hE, hS, le5, hf⟩
 replace hf := hj1 _ hf
 clear hj1
 refine cond_split hE (b := y3) rfl (fun hb => ?_) (fun hb => ?_)
 ·replace hf := ct hb hf
  refine sq (ra ?_)
  refine sN 1 1 [(4, .bool false)] hE fun a hE => ?_
  refine ae ?_
  refine wpIn_ret ?_
  obtain rfl := si hf
  refine ret_ ?_
  refine rT 4 (.bool false) hE ?_
  have hS := hS.p .n
  exact ⟨_, rfl, D4, rfl, hS⟩
 replace hf := cf hb hf
 refine wpIn_skip ?_
 refine sq (sq (ra ?_))
 refine sN 1 1 [(5, .int .i64 ((0 : Int)))] hE fun a hE => ?_
 refine ae ?_
 obtain ⟨s1, hf, hs1⟩ := bs hf
 refine block_loop (fun a w => ∃ (z1 : Unit), ∃ D6, Env a 68 [] [] ∧ Stp g w0 D0 [] w D6 [] ∧ Snap.le D4 D6 ∧ (Sum.inr z1) = s1) (fun k a w => ∃ (y2 : Int), ∃ D3, Env a 68 [] [(2, .pointer (some ⟨b1, 0, none⟩)), (3, .pointer (some ⟨b2, 0, none⟩)), (5, .int .i64 (y2))] ∧ Stp g w0 D0 [] w D3 [bx b1 32 (c_T_api_Bundle (x1) A2 c3 A5 c6), bx b2 32 (c_T_api_Bundle (x8) A9 c10 A12 c13)] ∧ Snap.le D4 D3 ∧ inspeximusref17_Same_l1.l K x1 x8 k y2 = some s1) K ?_ ?_ ?_
 ·exact ⟨(0 : Int), D4, hE.wk, hS, lr, hf⟩
 ·clear hE hS hf
  rintro a w ⟨z1, D6, hE, hS, le9, rfl⟩
  have hf := hs1
  clear hs1
  refine sq (ra ?_)
  refine sN 1 1 [(4, .bool true)] hE fun a hE => ?_
  refine ae ?_
  refine wpIn_ret ?_
  obtain rfl := si hf
  refine ret_ ?_
  refine rT 4 (.bool true) hE ?_
  exact ⟨_, rfl, D6, rfl, hS⟩
 clear hE hS hf
 rintro k a w ⟨y2, D3, hE, hS, le1, hf⟩
 obtain ⟨k, rfl, hf⟩ := inspeximusref17_Same_l1.some _ _ hf
 refine ⟨k, rfl, ?_⟩
 unfold inspeximusref17_Same_l1.b at hf
 refine sq (sq (ra ?_))
 refine sM 5 5 [0] [(34, .bool ((decide (y2 < ((List.length (x1.fItems) : Nat) : Int)))))] hE hS fun a hE => ?_
 refine ae ?_
 refine cond_split hE (b := (decide (y2 < ((List.length (x1.fItems) : Nat) : Int)))) rfl (fun hb => ?_) (fun hb => ?_)
 ·replace hf := ct hb hf
  refine wpIn_skip ?_
  refine sq ?_
  refine wpIn_block ?_
  obtain ⟨j2, hj2, hf⟩ := jn_elim hf
  refine seq_join (fun a w => ∃ (y1 : T_api_Item × T_api_Item), ∃ A10, ∃ c9, ∃ A11, ∃ c11, ∃ A13, ∃ c12, ∃ A14, ∃ c14, ∃ A15, ∃ c15, ∃ A16, ∃ c16, ∃ b3, ∃ b4, ∃ D2, Env a 68 [] [(2, .pointer (some ⟨b1, 0, none⟩)), (3, .pointer (some ⟨b2, 0, none⟩)), (5, .int .i64 (y2)), (6, .pointer (some ⟨b3, 0, none⟩)), (7, .pointer (some ⟨b4, 0, none⟩))] ∧ Stp g w0 D0 [] w D2 [bx b3 42 (c_T_api_Item (y1.1) A10 c9 A11 c11 A13 c12), bx b4 42 (c_T_api_Item (y1.2) A14 c14 A15 c15 A16 c16), bx b1 32 (c_T_api_Bundle (x1) A2 c3 A5 c6), bx b2 32 (c_T_api_Bundle (x8) A9 c10 A12 c13)] ∧ Snap.le D3 D2 ∧ Sl kd_T_api_Step D2 A10 c9 (y1.1.fRec.fSteps) ∧ Sl (kdInt .u8) D2 A11 c11 (y1.1.fRec.fData) ∧ Sl (kdArr .u8 32) D2 A13 c12 (y1.1.fPath) ∧ Sl kd_T_api_Step D2 A14 c14 (y1.2.fRec.fSteps) ∧ Sl (kdInt .u8) D2 A15 c15 (y1.2.fRec.fData) ∧ Sl (kdArr .u8 32) D2 A16 c16 (y1.2.fPath) ∧ j2 y1 = some s1) ?_ ?_
  ·clear hj2
   refine region_draw (fun j => RD D3 (plOf [] [b1, b2] j)) (by kernel_rfl) ?_
   have hS := hS.drew
   first | generalize w.drew = w at hS ⊢ | generalize w0.drew = w at hS ⊢
   refine wP 2 4 13 (.int .i64 (y2)) hE fun a hE => ?_
   refine wP 7 132 12 (.int .i64 (y2)) hE fun a hE => ?_
   refine wF 0 133 11 35 30 35 hE fun a hE => ?_
   refine tD 1 135 (fuel := 10) (by kernel_rfl) hE (tk_load 0 (.slice A5 (List.length (x1.fItems)) c6) rfl rfl rfl rfl hE rfl hS rfl rfl (by kernel_rfl) (fun _ h => h.1.at_ (List.Mem.head _)) (fun a hE => ?_))
   obtain ⟨x2, h10, hf⟩ := bs hf
   refine tW 3 143 (fuel := 9) (by kernel_rfl) hE (fun M => g_index (K := kd_T_api_Item) (e := 42) (by_ := 256) (zl := 111) rfl rfl rfl rfl hE rfl rfl rfl (by kernel_rfl) rfl (h7.mono (le2 le5 le1)) h10 (fun a b9 o1 hE h12 => ?_))
   obtain ⟨cs1, C1, T1, fr1, hr1, hb1, hc1⟩ := id h12
   obtain ⟨A1, c1, A3, c2, A4, c4, rfl, h1, h2, h3⟩ := kd_T_api_Item_el hr1
   refine tD 4 159 (fuel := 8) (by kernel_rfl) hE (tk_loadX (off0 := o1) (off := 0) (c := c_T_api_Item (x2) A1 c1 A3 c2 A4 c4) (.agg (List.toArray (c_T_api_Item (x2) A1 c1 A3 c2 A4 c4))) rfl rfl rfl rfl hE rfl hS rfl hb1 hc1 (by kernel_rfl) (by kernel_rfl) (fun _ h => h.2 hS.st.sees) (fun a hE => ?_))
   refine wF 5 191 7 35 30 35 hE fun a hE => ?_
   refine tD 6 255 (fuel := 6) (by kernel_rfl) hE (tk_load 1 (.slice A12 (List.length (x8.fItems)) c13) rfl rfl rfl rfl hE rfl hS rfl rfl (by kernel_rfl) (fun _ h => h.1.at_ (List.Mem.tail _ (List.Mem.head _))) (fun a hE => ?_))
   obtain ⟨x3, h13, hf⟩ := bs hf
   refine tW 8 511 (fuel := 5) (by kernel_rfl) hE (fun M => g_index (K := kd_T_api_Item) (e := 42) (by_ := 256) (zl := 111) rfl rfl rfl rfl hE rfl rfl rfl (by kernel_rfl) rfl (h14.mono (le2 le5 le1)) h13 (fun a b10 o2 hE h15 => ?_))
   obtain ⟨cs2, C2, T2, fr2, hr2, hb2, hc2⟩ := id h15
   obtain ⟨A6, c5, A7, c7, A8, c8, rfl, h5, h6, h8⟩ := kd_T_api_Item_el hr2
   refine tD 9 1023 (fuel := 4) (by kernel_rfl) hE (tk_loadX (off0 := o2) (off := 0) (c := c_T_api_Item (x3) A6 c5 A7 c7 A8 c8) (.agg (List.toArray (c_T_api_Item (x3) A6 c5 A7 c7 A8 c8))) rfl rfl rfl rfl hE rfl hS rfl hb2 hc2 (by kernel_rfl) (by kernel_rfl) (fun _ h => h.2 hS.st.sees) (fun a hE => ?_))
   refine twoB (i := 10) (j := 11) (fuel := 3) (m1 := 2047) (m2 := 3071) (by kernel_rfl) (by kernel_rfl) (by kernel_rfl) ?_ ?_
   ·have hp_b3119 := hS.heapAt (j := 0) rfl
    have hp_b3121 := hS.heapAt (j := 1) rfl
    refine (op_alloc (z := .agg (List.toArray (c_T_api_Item (z_T_api_Item) none 0 none 0 none 0))) rfl rfl rfl rfl hE rfl hS (by kernel_rfl) (fun a b5 w _ hE hS => ?_))
    refine ⟨⟨show RP [b1, b2] _ _ from ⟨(hS.heapAt (j := 1) rfl).trans hp_b3119.symm, ⟨(hS.heapAt (j := 2) rfl).trans hp_b3121.symm, trivial⟩⟩, fun _ => hS.st.sees⟩, ?_⟩
    clear hp_b3119 hp_b3121
    have hp_b3119 := hS.heapAt (j := 1) rfl
    have hp_b3121 := hS.heapAt (j := 2) rfl
    refine oG 11 4095 (fuel := 2) (by kernel_rfl) (op_alloc (z := .agg (List.toArray (c_T_api_Item (z_T_api_Item) none 0 none 0 none 0))) rfl rfl rfl rfl hE rfl hS (by kernel_rfl) (fun a b6 w _ hE hS => ?_))
    refine ⟨⟨show RP [b1, b2] _ _ from ⟨(hS.heapAt (j := 2) rfl).trans hp_b3119.symm, ⟨(hS.heapAt (j := 3) rfl).trans hp_b3121.symm, trivial⟩⟩, fun _ => hS.st.sees⟩, ?_⟩
    clear hp_b3119 hp_b3121
    have hp_b3119 := hS.heapAt (j := 2) rfl
    have hp_b3121 := hS.heapAt (j := 3) rfl
    have hS := hS.p (.d 1 (.d 0 (.d 2 (.d 3 .n))))
    refine oG 12 8191 (fuel := 1) (by kernel_rfl) (op_store (v := .agg (List.toArray (c_T_api_Item (x2) A1 c1 A3 c2 A4 c4))) (c_T_api_Item (x2) A1 c1 A3 c2 A4 c4) rfl rfl rfl rfl hE hS rfl rfl (by kernel_rfl) (by kernel_rfl) (by kernel_rfl) (by kernel_rfl) (by kernel_rfl) (fun a w _ hE hS => ?_))
    refine ⟨⟨show RP [b1, b2] _ _ from ⟨(hS.heapAt (j := 2) rfl).trans hp_b3119.symm, ⟨(hS.heapAt (j := 3) rfl).trans hp_b3121.symm, trivial⟩⟩, fun _ => hS.st.sees⟩, ?_⟩
    clear hp_b3119 hp_b3121
    have hp_b3119 := hS.heapAt (j := 2) rfl
    have hp_b3121 := hS.heapAt (j := 3) rfl
    have hS := hS.p (.d 1 (.d 0 (.d 2 (.d 3 .n))))
    refine oG 13 16383 (fuel := 0) (by kernel_rfl) (op_store (v := .agg (List.toArray (c_T_api_Item (x3) A6 c5 A7 c7 A8 c8))) (c_T_api_Item (x3) A6 c5 A7 c7 A8 c8) rfl rfl rfl rfl hE hS rfl rfl (by kernel_rfl) (by kernel_rfl) (by kernel_rfl) (by kernel_rfl) (by kernel_rfl) (fun a w _ hE hS => ?_))
    refine ⟨⟨show RP [b1, b2] _ _ from ⟨(hS.heapAt (j := 2) rfl).trans hp_b3119.symm, ⟨(hS.heapAt (j := 3) rfl).trans hp_b3121.symm, trivial⟩⟩, fun _ => hS.st.sees⟩, ?_⟩
    clear hp_b3119 hp_b3121
    refine doneG (by kernel_rfl) ?_
    have hS := hS.p (.d 1 (.d 0 (.d 2 (.d 3 .n))))
    exact ⟨(x2, x3), A1, c1, A3, c2, A4, c4, A6, c5, A7, c7, A8, c8, b5, b6, D3, hE.wk, hS, lr, h1, h2, h3, h5, h6, h8, hf⟩
   have hp_b3119 := hS.heapAt (j := 0) rfl
   have hp_b3121 := hS.heapAt (j := 1) rfl
   refine (op_alloc (z := .agg (List.toArray (c_T_api_Item (z_T_api_Item) none 0 none 0 none 0))) rfl rfl rfl rfl hE rfl hS (by kernel_rfl) (fun a b7 w _ hE hS => ?_))
   refine ⟨⟨show RP [b1, b2] _ _ from ⟨(hS.heapAt (j := 1) rfl).trans hp_b3119.symm, ⟨(hS.heapAt (j := 2) rfl).trans hp_b3121.symm, trivial⟩⟩, fun _ => hS.st.sees⟩, ?_⟩
   clear hp_b3119 hp_b3121
   have hp_b3119 := hS.heapAt (j := 1) rfl
   have hp_b3121 := hS.heapAt (j := 2) rfl
   refine oG 10 4095 (fuel := 2) (by kernel_rfl) (op_alloc (z := .agg (List.toArray (c_T_api_Item (z_T_api_Item) none 0 none 0 none 0))) rfl rfl rfl rfl hE rfl hS (by kernel_rfl) (fun a b8 w _ hE hS => ?_))
   refine ⟨⟨show RP [b1, b2] _ _ from ⟨(hS.heapAt (j := 2) rfl).trans hp_b3119.symm, ⟨(hS.heapAt (j := 3) rfl).trans hp_b3121.symm, trivial⟩⟩, fun _ => hS.st.sees⟩, ?_⟩
   clear hp_b3119 hp_b3121
   have hp_b3119 := hS.heapAt (j := 2) rfl
   have hp_b3121 := hS.heapAt (j := 3) rfl
   refine oG 12 8191 (fuel := 1) (by kernel_rfl) (op_store (v := .agg (List.toArray (c_T_api_Item (x2) A1 c1 A3 c2 A4 c4))) (c_T_api_Item (x2) A1 c1 A3 c2 A4 c4) rfl rfl rfl rfl hE hS rfl rfl (by kernel_rfl) (by kernel_rfl) (by kernel_rfl) (by kernel_rfl) (by kernel_rfl) (fun a w _ hE hS => ?_))
   refine ⟨⟨show RP [b1, b2] _ _ from ⟨(hS.heapAt (j := 2) rfl).trans hp_b3119.symm, ⟨(hS.heapAt (j := 3) rfl).trans hp_b3121.symm, trivial⟩⟩, fun _ => hS.st.sees⟩, ?_⟩
   clear hp_b3119 hp_b3121
   have hp_b3119 := hS.heapAt (j := 2) rfl
   have hp_b3121 := hS.heapAt (j := 3) rfl
   have hS := hS.p (.d 1 (.d 0 (.d 2 (.d 3 .n))))
   refine oG 13 16383 (fuel := 0) (by kernel_rfl) (op_store (v := .agg (List.toArray (c_T_api_Item (x3) A6 c5 A7 c7 A8 c8))) (c_T_api_Item (x3) A6 c5 A7 c7 A8 c8) rfl rfl rfl rfl hE hS rfl rfl (by kernel_rfl) (by kernel_rfl) (by kernel_rfl) (by kernel_rfl) (by kernel_rfl) (fun a w _ hE hS => ?_))
   refine ⟨⟨show RP [b1, b2] _ _ from ⟨(hS.heapAt (j := 2) rfl).trans hp_b3119.symm, ⟨(hS.heapAt (j := 3) rfl).trans hp_b3121.symm, trivial⟩⟩, fun _ => hS.st.sees⟩, ?_⟩
   clear hp_b3119 hp_b3121
   refine doneG (by kernel_rfl) ?_
   have hS := hS.p (.d 1 (.d 0 (.d 2 (.d 3 .n))))
   exact ⟨(x2, x3), A1, c1, A3, c2, A4, c4, A6, c5, A7, c7, A8, c8, b8, b7, D3, hE.wk, hS, lr, h1, h2, h3, h5, h6, h8, hf⟩
  clear hE hS
  rintro a w ⟨y1, A10, c9, A11, c11, A13, c12, A14, c14, A15, c15, A16, c16, b3, b4, D2, hE, hS, le6, h16, h17, h18, h19, h20, h21, hf⟩
  replace hf := hj2 _ hf
  clear hj2
  obtain ⟨j3, hj3, hf⟩ := jn_elim hf
  refine seq_join (fun a w => ∃ (y4 : Bool), ∃ D5, Env a 68 [] [(2, .pointer (some ⟨b1, 0, none⟩)), (3, .pointer (some ⟨b2, 0, none⟩)), (5, .int .i64 (y2)), (67, .bool (y4))] ∧ Stp g w0 D0 [] w D5 [bx b1 32 (c_T_api_Bundle (x1) A2 c3 A5 c6), bx b2 32 (c_T_api_Bundle (x8) A9 c10 A12 c13)] ∧ Snap.le D2 D5 ∧ j3 y4 = some s1) ?_ ?_
  ·clear hj3
   refine ra ?_
   refine sM 6 6 [0, 1] [(52, .bool ((!decide (y1.1.fAt = y1.2.fAt))))] hE hS fun a hE => ?_
   refine bo ((!decide (y1.1.fAt = y1.2.fAt))) (fun hb => ?_) fun hb => ?_
   ·replace hf := cf hb hf
    have hE := hE.know (t := 52) rfl hb
    refine sM 4 10 [0, 1] [(54, .agg (List.toArray (c_T_api_Rec (y1.1.fRec) A10 c9 A11 c11))), (56, .agg (List.toArray (c_T_api_Rec (y1.2.fRec) A14 c14 A15 c15)))] hE hS fun a hE => ?_
    obtain ⟨r2, h22, hf⟩ := bs hf
    refine aC rfl rfl rfl rfl hE rfl rfl rfl rfl (inspeximusref04_Same.calls h22 (hS.st.fore (L := [])) h16 h17 h19 h20) fun a v w hR hE => ?_
    obtain ⟨D8, rfl, hS1⟩ := hR
    have le3 := hS1.dle
    have hS := hS.callR hS1 rfl .n
    refine sN 3 14 [(60, .bool ((!r2)))] hE fun a hE => ?_
    refine bo ((!r2)) (fun hb => ?_) fun hb => ?_
    ·replace hf := cf hb hf
     have hE := hE.know (t := 60) rfl hb
     refine sM 4 18 [0, 1] [(62, .slice A13 (List.length (y1.1.fPath)) c12), (64, .slice A16 (List.length (y1.2.fPath)) c16)] hE hS fun a hE => ?_
     obtain ⟨r3, h23, hf⟩ := bs hf
     refine aC rfl rfl rfl rfl hE rfl rfl rfl rfl (inspeximusref05_Same.calls h23 (hS.st.fore (L := [])) (h18.mono le3) (h21.mono le3)) fun a v w hR hE => ?_
     obtain ⟨D9, rfl, hS1⟩ := hR
     have le7 := hS1.dle
     have hS := hS.callR hS1 rfl .n
     refine sN 2 21 [(67, .bool ((!r3)))] hE fun a hE => ?_
     refine ae ?_
     have hS := hS.p (.d 2 (.d 3 .n))
     exact ⟨(!r3), D9, hE.wk, hS, (le2 le3 le7), hf⟩
    replace hf := ct hb hf
    have hE := hE.know (t := 60) rfl hb
    refine sN 7 21 [(67, .bool true)] hE fun a hE => ?_
    refine ae ?_
    have hS := hS.p (.d 2 (.d 3 .n))
    exact ⟨true, D8, hE.wk, hS, le3, hf⟩
   replace hf := ct hb hf
   have hE := hE.know (t := 52) rfl hb
   refine sN 15 21 [(67, .bool true)] hE fun a hE => ?_
   refine ae ?_
   have hS := hS.p (.d 2 (.d 3 .n))
   exact ⟨true, D2, hE.wk, hS, lr, hf⟩
  clear hE hS
  rintro a w ⟨y4, D5, hE, hS, le8, hf⟩
  replace hf := hj3 _ hf
  clear hj3
  refine cond_split hE (b := y4) rfl (fun hb => ?_) (fun hb => ?_)
  ·replace hf := ct hb hf
   refine sq (ra ?_)
   refine sN 1 1 [(4, .bool false)] hE fun a hE => ?_
   refine ae ?_
   refine wpIn_ret ?_
   obtain rfl := si hf
   replace hf := hs1
   obtain rfl := si hf
   refine ret_ ?_
   refine rT 4 (.bool false) hE ?_
   have hS := hS.p .n
   exact ⟨_, rfl, D5, rfl, hS⟩
  replace hf := cf hb hf
  refine wpIn_skip ?_
  refine ra ?_
  refine sN 3 3 [(5, .int .i64 ((IntKind.wrap .i64 (y2 + (1 : Int)))))] hE fun a hE => ?_
  exact ae ⟨(IntKind.wrap .i64 (y2 + (1 : Int))), D5, hE.wk, hS, (le2 (le2 le1 le6) le8), hf⟩
 replace hf := cf hb hf
 refine wpIn_exit ?_
 obtain rfl := si hf
 have hS := hS.p .n
 exact ⟨(), D3, hE.wk, hS, le1, rfl⟩
set_option maxRecDepth 100000 in
theorem inspeximuslaw18_ExportAll.calls {K : Nat} {g w0 : World} {D0 : Snap} {x1 : (List T_api_Rec)} {x5 : T_api_Point} {x9 : Int} {A2 : Option Addr} {c3 : Nat} {A6 : Option Addr} {c7 : Nat} {r : (Bool)} (hf : inspeximuslaw18_ExportAll.f K x1 x5 x9 = some r) (hS0 : St g w0 D0 []) (h4 : Sl kd_T_api_Rec D0 A2 c3 (x1)) (h8 : Sl kd_T_api_Sig D0 A6 c7 (x5.fSigs)) (hG0 : Cell (kdArr .u32 8) D0 0 0 gl_First) (hG1 : Cell (kdArr .u32 64) D0 1 0 gl_K) :
  CallsIn (Fw none) 0 Tryd.prog 4 (List.toArray [.slice A2 (List.length (x1)) c3, .agg (List.toArray (c_T_api_Point (x5) A6 c7)), .int .u32 (x9)]) w0 (fun e w' => ∃ v, e = .returned v ∧ ∃ D1, v = .bool (r) ∧ Stp g w0 D0 [] w' D1 []) := by
 unfold inspeximuslaw18_ExportAll.f at hf
 have hS := Stp.refl hS0
 clear hS0
 refine calls_body (n := 114) Tryd.func4 rfl Tryd.ntmps4 rfl fun a hE => ?_
 have hE : Env a 114 [] [(0, .slice A2 (List.length (x1)) c3), (1, .agg (List.toArray (c_T_api_Point (x5) A6 c7))), (2, .int .u32 (x9))] := hE
 refine sq (ra ?_)
 refine at_op (op_box rfl rfl rfl rfl hE rfl hS rfl (fun a b3 w _ hE hS => ?_)) rfl
 refine sN 1 2 [(6, .bool false)] hE fun a hE => ?_
 refine ae ?_
 refine sq (sq (ra ?_))
 obtain ⟨r5, h5, hf⟩ := bs hf
 refine aC rfl rfl rfl rfl hE rfl rfl rfl rfl (inspeximuslaw18_alive.calls h5 (hS.st.fore (L := [])) hG0 hG1) fun a v w hR hE => ?_
 obtain ⟨D12, rfl, hS1⟩ := hR
 have le1 := hS1.dle
 have hS := hS.callR hS1 rfl .n
 refine sN 1 2 [(17, .bool ((!r5)))] hE fun a hE => ?_
 refine ae ?_
 refine cond_split hE (b := (!r5)) rfl (fun hb => ?_) (fun hb => ?_)
 ·replace hf := ct hb hf
  refine sq (ra ?_)
  refine sN 1 1 [(6, .bool false)] hE fun a hE => ?_
  refine ae ?_
  refine wpIn_ret ?_
  obtain rfl := si hf
  refine ret_ ?_
  refine rT 6 (.bool false) hE ?_
  have hS := hS.p .n
  exact ⟨_, rfl, D12, rfl, hS⟩
 replace hf := cf hb hf
 refine wpIn_skip ?_
 refine sq (sq (ra ?_))
 refine sM 2 2 [0] [(18, .slice A2 (List.length (x1)) c3), (19, .agg (List.toArray (c_T_api_Point (x5) A6 c7)))] hE hS fun a hE => ?_
 obtain ⟨r6, h6, hf⟩ := bs hf
 refine aC rfl rfl rfl rfl hE rfl rfl rfl rfl (inspeximuslaw18_few.calls h6 (hS.st.fore (L := [])) (h4.mono le1) (h8.mono le1)) fun a v w hR hE => ?_
 obtain ⟨D13, rfl, hS1⟩ := hR
 have le3 := hS1.dle
 have hS := hS.callR hS1 rfl .n
 refine sN 1 4 [(21, .bool ((!r6)))] hE fun a hE => ?_
 refine ae ?_
 refine cond_split hE (b := (!r6)) rfl (fun hb => ?_) (fun hb => ?_)
 ·replace hf := ct hb hf
  refine sq (ra ?_)
  refine sN 1 1 [(6, .bool true)] hE fun a hE => ?_
  refine ae ?_
  refine wpIn_ret ?_
  obtain rfl := si hf
  refine ret_ ?_
  refine rT 6 (.bool true) hE ?_
  have hS := hS.p .n
  exact ⟨_, rfl, D13, rfl, hS⟩
 replace hf := cf hb hf
 refine wpIn_skip ?_
 refine sq (ra ?_)
 refine sM 3 3 [0] [(23, .slice A2 (List.length (x1)) c3), (24, .agg (List.toArray (c_T_api_Point (x5) A6 c7))), (25, .int .u32 (x9))] hE hS fun a hE => ?_
 obtain ⟨r1, h7, hf⟩ := bs hf
 refine aC rfl rfl rfl rfl hE rfl rfl rfl rfl (export_Whole.calls h7 (hS.st.fore (L := [])) (h4.mono (le2 le1 le3)) (h8.mono (le2 le1 le3)) (hG0.mono (le2 le1 le3)) (hG1.mono (le2 le1 le3))) fun a v w hR hE => ?_
 obtain ⟨D15, A5, c5, A3, c2, rfl, hS1, h34, h2⟩ := hR
 have le6 := hS1.dle
 have hS := hS.callR hS1 rfl .n
 refine sN 3 7 [(27, .agg (List.toArray (c_T_api_Bundle (r1.1) A5 c5 A3 c2))), (28, .bool (r1.2))] hE fun a hE => ?_
 refine at_op (op_alloc (z := .agg (List.toArray (c_T_api_Bundle (z_T_api_Bundle) none 0 none 0))) rfl rfl rfl rfl hE rfl hS (by kernel_rfl) (fun a b1 w _ hE hS => ?_)) rfl
 refine at_op (op_store (v := .agg (List.toArray (c_T_api_Bundle (r1.1) A5 c5 A3 c2))) (c_T_api_Bundle (r1.1) A5 c5 A3 c2) rfl rfl rfl rfl hE hS rfl rfl (by kernel_rfl) (by kernel_rfl) (by kernel_rfl) (by kernel_rfl) (by kernel_rfl) (fun a w _ hE hS => ?_)) rfl
 refine sN 1 10 [(8, .bool (r1.2))] hE fun a hE => ?_
 refine ae ?_
 refine sq (ra ?_)
 refine sM 5 5 [1] [(30, .slice A2 (List.length (x1)) c3), (31, .agg (List.toArray (c_T_api_Point (x5) A6 c7))), (32, .int .u32 (x9)), (34, .int .i64 (((List.length (x1) : Nat) : Int)))] hE hS fun a hE => ?_
 obtain ⟨r2, h9, hf⟩ := bs hf
 refine aC rfl rfl rfl rfl hE rfl rfl rfl rfl (export_Range.calls h9 (hS.st.fore (L := [])) (h4.mono (le2 (le2 le1 le3) le6)) (h8.mono (le2 (le2 le1 le3) le6)) (hG0.mono (le2 (le2 le1 le3) le6)) (hG1.mono (le2 (le2 le1 le3) le6))) fun a v w hR hE => ?_
 obtain ⟨D3, A4, c4, A1, c1, rfl, hS1, h10, h1⟩ := hR
 have le7 := hS1.dle
 have hS := hS.callR hS1 rfl .n
 refine sN 3 9 [(36, .agg (List.toArray (c_T_api_Bundle (r2.1) A4 c4 A1 c1))), (37, .bool (r2.2))] hE fun a hE => ?_
 refine at_op (op_alloc (z := .agg (List.toArray (c_T_api_Bundle (z_T_api_Bundle) none 0 none 0))) rfl rfl rfl rfl hE rfl hS (by kernel_rfl) (fun a b2 w _ hE hS => ?_)) rfl
 refine at_op (op_store (v := .agg (List.toArray (c_T_api_Bundle (r2.1) A4 c4 A1 c1))) (c_T_api_Bundle (r2.1) A4 c4 A1 c1) rfl rfl rfl rfl hE hS rfl rfl (by kernel_rfl) (by kernel_rfl) (by kernel_rfl) (by kernel_rfl) (by kernel_rfl) (fun a w _ hE hS => ?_)) rfl
 refine sN 1 12 [(10, .bool (r2.2))] hE fun a hE => ?_
 refine ae ?_
 refine sq (sq (ra ?_))
 refine sN 2 2 [(38, .bool (r1.2)), (39, .bool (r2.2))] hE fun a hE => ?_
 refine at_op (op_tk hE (tk_bin (r := .bool ((!(r1.2 == r2.2)))) rfl rfl rfl rfl hE rfl rfl rfl (neb_run (by kernel_rfl) _ _) (fun a hE => ?_))) rfl
 refine ae ?_
 refine cond_split hE (b := (!(r1.2 == r2.2))) rfl (fun hb => ?_) (fun hb => ?_)
 ·replace hf := ct hb hf
  refine sq (ra ?_)
  refine sN 1 1 [(6, .bool false)] hE fun a hE => ?_
  refine ae ?_
  refine wpIn_ret ?_
  obtain rfl := si hf
  refine ret_ ?_
  refine rT 6 (.bool false) hE ?_
  have hS := hS.p .n
  exact ⟨_, rfl, D3, rfl, hS⟩
 replace hf := cf hb hf
 refine wpIn_skip ?_
 refine sq (sq (ra ?_))
 refine sN 2 2 [(42, .bool ((!r1.2)))] hE fun a hE => ?_
 refine ae ?_
 refine cond_split hE (b := (!r1.2)) rfl (fun hb => ?_) (fun hb => ?_)
 ·replace hf := ct hb hf
  refine sq (ra ?_)
  refine sN 1 1 [(6, .bool true)] hE fun a hE => ?_
  refine ae ?_
  refine wpIn_ret ?_
  obtain rfl := si hf
  refine ret_ ?_
  refine rT 6 (.bool true) hE ?_
  have hS := hS.p .n
  exact ⟨_, rfl, D3, rfl, hS⟩
 replace hf := cf hb hf
 refine wpIn_skip ?_
 refine sq (ra ?_)
 refine sN 1 1 [(11, .slice none 0 0)] hE fun a hE => ?_
 refine ae ?_
 refine sq (sq (ra ?_))
 refine sN 1 1 [(12, .int .i64 ((0 : Int)))] hE fun a hE => ?_
 refine ae ?_
 obtain ⟨s2, hf, hs2⟩ := bs hf
 have hS := hS.nils
 have hS := hS.p (.d 3 (.d 2 (.d 1 (.d 0 .n))))
 refine block_loop (fun a w => ∃ (z1 : (List Int)), ∃ A8, ∃ c8, ∃ q2, ∃ D7, Env a 114 [] [(0, .slice A2 (List.length (x1)) c3), (2, .int .u32 (x9)), (4, .pointer (some ⟨b3, 0, none⟩)), (7, .pointer (some ⟨b1, 0, none⟩)), (9, .pointer (some ⟨b2, 0, none⟩)), (11, .slice A8 (List.length (z1)) c8)] ∧ Stp g w0 D0 [] w D7 [bx b3 27 (c_T_api_Point (x5) A6 c7), bx b1 32 (c_T_api_Bundle (r1.1) A5 c5 A3 c2), bx b2 32 (c_T_api_Bundle (r2.1) A4 c4 A1 c1), q2] ∧ Snap.le D3 D7 ∧ OwnD (kdInt .i64) 3 D7 A8 c8 (z1) q2 ∧ z1 = s2) (fun k a w => ∃ (y1 : (List Int) × Int), ∃ A7, ∃ c6, ∃ q1, ∃ D4, Env a 114 [] [(0, .slice A2 (List.length (x1)) c3), (2, .int .u32 (x9)), (4, .pointer (some ⟨b3, 0, none⟩)), (7, .pointer (some ⟨b1, 0, none⟩)), (9, .pointer (some ⟨b2, 0, none⟩)), (11, .slice A7 (List.length (y1.1)) c6), (12, .int .i64 (y1.2))] ∧ Stp g w0 D0 [] w D4 [bx b3 27 (c_T_api_Point (x5) A6 c7), bx b1 32 (c_T_api_Bundle (r1.1) A5 c5 A3 c2), bx b2 32 (c_T_api_Bundle (r2.1) A4 c4 A1 c1), q1] ∧ Snap.le D3 D4 ∧ OwnD (kdInt .i64) 3 D4 A7 c6 (y1.1) q1 ∧ inspeximuslaw18_ExportAll_l1.l K x5 k y1 = some s2) K ?_ ?_ ?_
 ·exact ⟨(([] : List Int), (0 : Int)), none, 0, none, D3, hE.wk, hS, lr, (OwnD.nil (kdInt .i64) 3 D3), hf⟩
 ·clear hE hS hf
  rintro a w ⟨z1, A8, c8, q2, D7, hE, hS, le4, h11, rfl⟩
  have hf := hs2
  clear hs2
  refine sq (ra ?_)
  refine sM 4 4 [0] [(54, .slice A2 (List.length (x1)) c3), (55, .agg (List.toArray (c_T_api_Point (x5) A6 c7))), (56, .int .u32 (x9)), (57, .slice A8 (List.length (z1)) c8)] hE hS fun a hE => ?_
  have hS := hS.p (.d 3 (.d 0 (.d 1 (.d 2 .n))))
  obtain ⟨D16, q4, le5, hS, h35, h12⟩ := hS.lent h11
  obtain ⟨r3, h13, hf⟩ := bs hf
  refine aC rfl rfl rfl rfl hE rfl rfl rfl rfl (export_Some.calls h13 (hS.st.fore (L := [])) (h4.mono (le2 (le2 (le2 (le2 (le2 le1 le3) le6) le7) le4) le5)) (h8.mono (le2 (le2 (le2 (le2 (le2 le1 le3) le6) le7) le4) le5)) h12 (hG0.mono (le2 (le2 (le2 (le2 (le2 le1 le3) le6) le7) le4) le5)) (hG1.mono (le2 (le2 (le2 (le2 (le2 le1 le3) le6) le7) le4) le5))) fun a v w hR hE => ?_
  obtain ⟨D9, A9, c9, A10, c10, rfl, hS1, h14, h15⟩ := hR
  have le8 := hS1.dle
  have hS := hS.callR hS1 rfl .n
  refine sN 3 8 [(59, .agg (List.toArray (c_T_api_Bundle (r3.1) A9 c9 A10 c10))), (60, .bool (r3.2))] hE fun a hE => ?_
  refine at_op (op_alloc (z := .agg (List.toArray (c_T_api_Bundle (z_T_api_Bundle) none 0 none 0))) rfl rfl rfl rfl hE rfl hS (by kernel_rfl) (fun a b4 w _ hE hS => ?_)) rfl
  refine at_op (op_store (v := .agg (List.toArray (c_T_api_Bundle (r3.1) A9 c9 A10 c10))) (c_T_api_Bundle (r3.1) A9 c9 A10 c10) rfl rfl rfl rfl hE hS rfl rfl (by kernel_rfl) (by kernel_rfl) (by kernel_rfl) (by kernel_rfl) (by kernel_rfl) (fun a w _ hE hS => ?_)) rfl
  refine sN 1 11 [(14, .bool (r3.2))] hE fun a hE => ?_
  refine ae ?_
  refine sq ?_
  obtain ⟨j1, hj1, hf⟩ := jn_elim hf
  refine seq_join (fun a w => ∃ (y3 : Bool), ∃ D2, Env a 114 [] [(7, .pointer (some ⟨b1, 0, none⟩)), (9, .pointer (some ⟨b2, 0, none⟩)), (77, .bool (y3))] ∧ Stp g w0 D0 [] w D2 [bx b1 32 (c_T_api_Bundle (r1.1) A5 c5 A3 c2), bx b2 32 (c_T_api_Bundle (r2.1) A4 c4 A1 c1)] ∧ Snap.le D9 D2 ∧ j1 y3 = some r) ?_ ?_
  ·clear hj1
   refine ra ?_
   refine sN 3 3 [(63, .bool ((!r3.2)))] hE fun a hE => ?_
   refine bo ((!r3.2)) (fun hb => ?_) fun hb => ?_
   ·replace hf := cf hb hf
    have hE := hE.know (t := 63) rfl hb
    refine sM 2 5 [4, 0] [(64, .agg (List.toArray (c_T_api_Bundle (r2.1) A4 c4 A1 c1))), (65, .agg (List.toArray (c_T_api_Bundle (r3.1) A9 c9 A10 c10)))] hE hS fun a hE => ?_
    obtain ⟨r7, h16, hf⟩ := bs hf
    refine aC rfl rfl rfl rfl hE rfl rfl rfl rfl (inspeximusref17_Same.calls h16 (hS.st.fore (L := [])) (h10.mono (le2 (le2 le4 le5) le8)) (h1.mono (le2 (le2 le4 le5) le8)) h14 h15) fun a v w hR hE => ?_
    obtain ⟨D10, rfl, hS1⟩ := hR
    have le12 := hS1.dle
    have hS := hS.callR hS1 rfl .n
    refine sN 3 9 [(69, .bool ((!r7)))] hE fun a hE => ?_
    refine bo ((!r7)) (fun hb => ?_) fun hb => ?_
    ·replace hf := cf hb hf
     have hE := hE.know (t := 69) rfl hb
     refine sM 8 17 [3, 4] [(77, .bool ((!decide (((List.length (r1.1.fItems) : Nat) : Int) = ((List.length (r2.1.fItems) : Nat) : Int)))))] hE hS fun a hE => ?_
     refine ae ?_
     have hS := hS.p (.d 3 (.d 4 .n))
     exact ⟨(!decide (((List.length (r1.1.fItems) : Nat) : Int) = ((List.length (r2.1.fItems) : Nat) : Int))), D10, hE.wk, hS, le12, hf⟩
    replace hf := ct hb hf
    have hE := hE.know (t := 69) rfl hb
    refine sN 8 17 [(77, .bool true)] hE fun a hE => ?_
    refine ae ?_
    have hS := hS.p (.d 3 (.d 4 .n))
    exact ⟨true, D10, hE.wk, hS, le12, hf⟩
   replace hf := ct hb hf
   have hE := hE.know (t := 63) rfl hb
   refine sN 14 17 [(77, .bool true)] hE fun a hE => ?_
   refine ae ?_
   have hS := hS.p (.d 3 (.d 4 .n))
   exact ⟨true, D9, hE.wk, hS, lr, hf⟩
  clear hE hS
  rintro a w ⟨y3, D2, hE, hS, le10, hf⟩
  replace hf := hj1 _ hf
  clear hj1
  refine cond_split hE (b := y3) rfl (fun hb => ?_) (fun hb => ?_)
  ·replace hf := ct hb hf
   refine sq (ra ?_)
   refine sN 1 1 [(6, .bool false)] hE fun a hE => ?_
   refine ae ?_
   refine wpIn_ret ?_
   obtain rfl := si hf
   refine ret_ ?_
   refine rT 6 (.bool false) hE ?_
   have hS := hS.p .n
   exact ⟨_, rfl, D2, rfl, hS⟩
  replace hf := cf hb hf
  refine wpIn_skip ?_
  refine sq (sq (ra ?_))
  refine sN 1 1 [(15, .int .i64 ((0 : Int)))] hE fun a hE => ?_
  refine ae ?_
  obtain ⟨s1, hf, hs1⟩ := bs hf
  refine block_loop (fun a w => ∃ (z2 : Unit), ∃ D8, Env a 114 [] [] ∧ Stp g w0 D0 [] w D8 [] ∧ Snap.le D2 D8 ∧ (Sum.inr z2) = s1) (fun k a w => ∃ (y2 : Int), ∃ D5, Env a 114 [] [(7, .pointer (some ⟨b1, 0, none⟩)), (9, .pointer (some ⟨b2, 0, none⟩)), (15, .int .i64 (y2))] ∧ Stp g w0 D0 [] w D5 [bx b1 32 (c_T_api_Bundle (r1.1) A5 c5 A3 c2), bx b2 32 (c_T_api_Bundle (r2.1) A4 c4 A1 c1)] ∧ Snap.le D2 D5 ∧ inspeximuslaw18_ExportAll_l2.l K r1 r2 k y2 = some s1) K ?_ ?_ ?_
  ·exact ⟨(0 : Int), D2, hE.wk, hS, lr, hf⟩
  ·clear hE hS hf
   rintro a w ⟨z2, D8, hE, hS, le16, rfl⟩
   have hf := hs1
   clear hs1
   refine sq (ra ?_)
   refine sN 1 1 [(6, .bool true)] hE fun a hE => ?_
   refine ae ?_
   refine wpIn_ret ?_
   obtain rfl := si hf
   refine ret_ ?_
   refine rT 6 (.bool true) hE ?_
   exact ⟨_, rfl, D8, rfl, hS⟩
  clear hE hS hf
  rintro k a w ⟨y2, D5, hE, hS, le9, hf⟩
  obtain ⟨k, rfl, hf⟩ := inspeximuslaw18_ExportAll_l2.some _ _ hf
  refine ⟨k, rfl, ?_⟩
  unfold inspeximuslaw18_ExportAll_l2.b at hf
  refine sq (sq (ra ?_))
  refine sM 5 5 [0] [(82, .bool ((decide (y2 < ((List.length (r1.1.fItems) : Nat) : Int)))))] hE hS fun a hE => ?_
  refine ae ?_
  refine cond_split hE (b := (decide (y2 < ((List.length (r1.1.fItems) : Nat) : Int)))) rfl (fun hb => ?_) (fun hb => ?_)
  ·replace hf := ct hb hf
   refine wpIn_skip ?_
   refine sq ?_
   refine wpIn_block ?_
   obtain ⟨j2, hj2, hf⟩ := jn_elim hf
   refine seq_join (fun a w => ∃ (y4 : Bool), ∃ D6, Env a 114 [] [(7, .pointer (some ⟨b1, 0, none⟩)), (9, .pointer (some ⟨b2, 0, none⟩)), (15, .int .i64 (y2)), (113, .bool (y4))] ∧ Stp g w0 D0 [] w D6 [bx b1 32 (c_T_api_Bundle (r1.1) A5 c5 A3 c2), bx b2 32 (c_T_api_Bundle (r2.1) A4 c4 A1 c1)] ∧ Snap.le D5 D6 ∧ j2 y4 = some s1) ?_ ?_
   ·clear hj2
    refine region_draw (fun j => Keeps (mfOf [] j)) (by kernel_rfl) ?_
    have hS := hS.drew
    first | generalize w.drew = w at hS ⊢ | generalize w0.drew = w at hS ⊢
    refine wP 2 4 28 (.int .i64 (y2)) hE fun a hE => ?_
    refine wP 8 260 27 (.int .i64 (y2)) hE fun a hE => ?_
    refine wF 0 261 26 35 30 35 hE fun a hE => ?_
    refine tL 1 263 25 0 (.slice A3 (List.length (r1.1.fItems)) c2) hE hS fun a hE => ?_
    obtain ⟨x4, h17, hf⟩ := bs hf
    refine tW 3 271 (fuel := 24) (by kernel_rfl) hE (fun M => g_index (K := kd_T_api_Item) (e := 42) (by_ := 256) (zl := 111) rfl rfl rfl rfl hE rfl rfl rfl (by kernel_rfl) rfl (h2.mono (le2 (le2 (le2 (le2 (le2 le7 le4) le5) le8) le10) le9)) h17 (fun a b5 o1 hE h18 => ?_))
    refine tW 4 287 (fuel := 23) (by kernel_rfl) hE (fun M => g_fieldAddr (fo := 1) (ft := 39) (o1 + 1) rfl rfl rfl rfl hE rfl rfl (by kernel_rfl) rfl (fun a hE => ?_))
    obtain ⟨cs1, C1, T1, fr1, hr1, hb1, hc1⟩ := id h18
    obtain ⟨A11, c11, A12, c12, A16, c16, rfl, h19, h20, h36⟩ := kd_T_api_Item_el hr1
    refine tT 5 319 (fuel := 22) (by kernel_rfl) hE (tk_loadX (off0 := o1) (off := 1) (c := c_T_api_Item (x4) A11 c11 A12 c12 A16 c16) (.agg (List.toArray (c_T_api_Rec (x4.fRec) A11 c11 A12 c12))) rfl rfl rfl rfl hE rfl hS rfl hb1 hc1 (by kernel_rfl) (by kernel_rfl) (kD hS dn_nil) (fun a hE => ?_))
    refine wF 6 383 21 35 30 35 hE fun a hE => ?_
    refine tL 7 511 20 1 (.slice A1 (List.length (r2.1.fItems)) c1) hE hS fun a hE => ?_
    obtain ⟨x6, h21, hf⟩ := bs hf
    refine tW 9 1023 (fuel := 19) (by kernel_rfl) hE (fun M => g_index (K := kd_T_api_Item) (e := 42) (by_ := 256) (zl := 111) rfl rfl rfl rfl hE rfl rfl rfl (by kernel_rfl) rfl (h1.mono (le2 (le2 (le2 (le2 le4 le5) le8) le10) le9)) h21 (fun a b6 o2 hE h22 => ?_))
    refine tW 10 2047 (fuel := 18) (by kernel_rfl) hE (fun M => g_fieldAddr (fo := 1) (ft := 39) (o2 + 1) rfl rfl rfl rfl hE rfl rfl (by kernel_rfl) rfl (fun a hE => ?_))
    obtain ⟨cs2, C2, T2, fr2, hr2, hb2, hc2⟩ := id h22
    obtain ⟨A13, c13, A14, c14, A17, c17, rfl, h23, h24, h37⟩ := kd_T_api_Item_el hr2
    refine tT 11 4095 (fuel := 17) (by kernel_rfl) hE (tk_loadX (off0 := o2) (off := 1) (c := c_T_api_Item (x6) A13 c13 A14 c14 A17 c17) (.agg (List.toArray (c_T_api_Rec (x6.fRec) A13 c13 A14 c14))) rfl rfl rfl rfl hE rfl hS rfl hb2 hc2 (by kernel_rfl) (by kernel_rfl) (kD hS dn_nil) (fun a hE => ?_))
    obtain ⟨r4, h25, hf⟩ := bs hf
    refine oC 12 8191 16 rfl rfl rfl rfl hE rfl rfl rfl rfl (inspeximusref04_Same.calls h25 (hS.st.fore (L := [])) h19 h20 h23 h24) fun a v w hR hE => ?_
    obtain ⟨D11, rfl, hS1⟩ := hR
    refine ⟨(hS1.keeps.sub (M' := []) trivial).mono (fun _ h => h), ?_⟩
    have le11 := hS1.dle
    have hS := hS.callR hS1 rfl .n
    refine wP 13 16383 15 (.bool ((!r4))) hE fun a hE => ?_
    refine wP 14 32767 14 (.bool ((!r4))) hE fun a hE => ?_
    refine bo ((!r4)) (fun hb => ?_) fun hb => ?_
    ·replace hf := cf hb hf
     have hE := hE.know (t := 99) rfl hb
     refine wP 17 163839 13 (.int .i64 (y2)) hE fun a hE => ?_
     refine wP 23 8552447 12 (.int .i64 (y2)) hE fun a hE => ?_
     refine wF 15 8585215 11 35 30 35 hE fun a hE => ?_
     refine tL 16 8650751 10 0 (.slice A3 (List.length (r1.1.fItems)) c2) hE hS fun a hE => ?_
     obtain ⟨x2, h26, hf⟩ := bs hf
     refine tW 18 8912895 (fuel := 9) (by kernel_rfl) hE (fun M => g_index (K := kd_T_api_Item) (e := 42) (by_ := 256) (zl := 111) rfl rfl rfl rfl hE rfl rfl rfl (by kernel_rfl) rfl (h2.mono (le2 (le2 (le2 (le2 (le2 (le2 le7 le4) le5) le8) le10) le9) le11)) h26 (fun a b7 o3 hE h27 => ?_))
     refine tW 19 9437183 (fuel := 8) (by kernel_rfl) hE (fun M => g_fieldAddr (fo := 0) (ft := 3) (o3 + 0) rfl rfl rfl rfl hE rfl rfl (by kernel_rfl) rfl (fun a hE => ?_))
     obtain ⟨cs3, C3, T3, fr3, hr3, hb3, hc3⟩ := id h27
     obtain ⟨A18, c18, A19, c19, A20, c20, rfl, h38, h39, h40⟩ := kd_T_api_Item_el hr3
     refine tT 20 10485759 (fuel := 7) (by kernel_rfl) hE (tk_loadX (off0 := o3) (off := 0) (c := c_T_api_Item (x2) A18 c18 A19 c19 A20 c20) (.int .i64 (x2.fAt)) rfl rfl rfl rfl hE rfl hS rfl hb3 hc3 (by kernel_rfl) (by kernel_rfl) (kD hS dn_nil) (fun a hE => ?_))
     refine wF 21 12582911 6 35 30 35 hE fun a hE => ?_
     refine tL 22 16777215 5 1 (.slice A1 (List.length (r2.1.fItems)) c1) hE hS fun a hE => ?_
     obtain ⟨x3, h28, hf⟩ := bs hf
     refine tW 24 33554431 (fuel := 4) (by kernel_rfl) hE (fun M => g_index (K := kd_T_api_Item) (e := 42) (by_ := 256) (zl := 111) rfl rfl rfl rfl hE rfl rfl rfl (by kernel_rfl) rfl (h1.mono (le2 (le2 (le2 (le2 (le2 le4 le5) le8) le10) le9) le11)) h28 (fun a b8 o4 hE h29 => ?_))
     refine tW 25 67108863 (fuel := 3) (by kernel_rfl) hE (fun M => g_fieldAddr (fo := 0) (ft := 3) (o4 + 0) rfl rfl rfl rfl hE rfl rfl (by kernel_rfl) rfl (fun a hE => ?_))
     obtain ⟨cs4, C4, T4, fr4, hr4, hb4, hc4⟩ := id h29
     obtain ⟨A21, c21, A22, c22, A23, c23, rfl, h41, h42, h43⟩ := kd_T_api_Item_el hr4
     refine tT 26 134217727 (fuel := 2) (by kernel_rfl) hE (tk_loadX (off0 := o4) (off := 0) (c := c_T_api_Item (x3) A21 c21 A22 c22 A23 c23) (.int .i64 (x3.fAt)) rfl rfl rfl rfl hE rfl hS rfl hb4 hc4 (by kernel_rfl) (by kernel_rfl) (kD hS dn_nil) (fun a hE => ?_))
     refine wP 27 268435455 1 (.bool ((!decide (x2.fAt = x3.fAt)))) hE fun a hE => ?_
     refine wP 28 536870911 0 (.bool ((!decide (x2.fAt = x3.fAt)))) hE fun a hE => ?_
     refine doneG (by kernel_rfl) ?_
     exact ⟨(!decide (x2.fAt = x3.fAt)), D11, hE.wk, hS, le11, hf⟩
    replace hf := ct hb hf
    have hE := hE.know (t := 99) rfl hb
    refine wS 15 65535 13 hE fun a hE => ?_
    refine wS 16 131071 12 hE fun a hE => ?_
    refine wS 17 262143 11 hE fun a hE => ?_
    refine wS 18 524287 10 hE fun a hE => ?_
    refine wS 19 1048575 9 hE fun a hE => ?_
    refine wS 20 2097151 8 hE fun a hE => ?_
    refine wS 21 4194303 7 hE fun a hE => ?_
    refine wS 22 8388607 6 hE fun a hE => ?_
    refine wS 23 16777215 5 hE fun a hE => ?_
    refine wS 24 33554431 4 hE fun a hE => ?_
    refine wS 25 67108863 3 hE fun a hE => ?_
    refine wS 26 134217727 2 hE fun a hE => ?_
    refine wS 27 268435455 1 hE fun a hE => ?_
    refine wP 28 536870911 0 (.bool true) hE fun a hE => ?_
    refine doneG (by kernel_rfl) ?_
    exact ⟨true, D11, hE.wk, hS, le11, hf⟩
   clear hE hS
   rintro a w ⟨y4, D6, hE, hS, le15, hf⟩
   replace hf := hj2 _ hf
   clear hj2
   refine cond_split hE (b := y4) rfl (fun hb => ?_) (fun hb => ?_)
   ·replace hf := ct hb hf
    refine sq (ra ?_)
    refine sN 1 1 [(6, .bool false)] hE fun a hE => ?_
    refine ae ?_
    refine wpIn_ret ?_
    obtain rfl := si hf
    replace hf := hs1
    obtain rfl := si hf
    refine ret_ ?_
    refine rT 6 (.bool false) hE ?_
    have hS := hS.p .n
    exact ⟨_, rfl, D6, rfl, hS⟩
   replace hf := cf hb hf
   refine wpIn_skip ?_
   refine ra ?_
   refine sN 3 3 [(15, .int .i64 ((IntKind.wrap .i64 (y2 + (1 : Int)))))] hE fun a hE => ?_
   exact ae ⟨(IntKind.wrap .i64 (y2 + (1 : Int))), D6, hE.wk, hS, (le2 le9 le15), hf⟩
  replace hf := cf hb hf
  refine wpIn_exit ?_
  obtain rfl := si hf
  have hS := hS.p .n
  exact ⟨(), D5, hE.wk, hS, le9, rfl⟩
 clear hE hS hf
 rintro k a w ⟨y1, A7, c6, q1, D4, hE, hS, le13, h3, hf⟩
 obtain ⟨k, rfl, hf⟩ := inspeximuslaw18_ExportAll_l1.some _ hf
 refine ⟨k, rfl, ?_⟩
 unfold inspeximuslaw18_ExportAll_l1.b at hf
 refine sq (sq (ra ?_))
 refine sM 4 4 [0] [(46, .bool ((decide (y1.2 < x5.fSize))))] hE hS fun a hE => ?_
 refine ae ?_
 refine cond_split hE (b := (decide (y1.2 < x5.fSize))) rfl (fun hb => ?_) (fun hb => ?_)
 ·replace hf := ct hb hf
  refine wpIn_skip ?_
  refine sq ?_
  refine wpIn_block ?_
  refine ra ?_
  refine sN 2 2 [(49, .slice A7 (List.length (y1.1)) c6), (50, .int .i64 (y1.2))] hE fun a hE => ?_
  refine at_op (op_buildSlice (K := (kdInt .i64)) (e := 3) (cs := [.int .i64 (y1.2)] ++ []) ([y1.2] : List Int) rfl rfl rfl rfl hE rfl hS rfl (by kernel_rfl) rfl rfl (by exact ⟨_, _, rfl, rfl, rfl⟩) (fun a A24 q5 w _ hE h30 hS => ?_)) rfl
  obtain ⟨D14, q6, le14, hS, h44, h31⟩ := hS.lent h30
  have hS := hS.p (.d 4 (.d 0 (.d 1 (.d 2 (.d 3 .n)))))
  obtain ⟨l1, h32, hf⟩ := bs hf
  refine at_op (g_append (K := (kdInt .i64)) (e := 3) (bytes := 8) (l := y1.1) (m := ([y1.2] : List Int)) rfl rfl rfl rfl hE rfl hS rfl rfl (by kernel_rfl) rfl rfl (h3.mono le14) h31 h32 (fun a A15 c15 q3 w _ hE h33 hS => ?_)) rfl
  refine sN 1 5 [(11, .slice A15 (List.length (l1)) c15)] hE fun a hE => ?_
  refine ae ?_
  refine ra ?_
  refine sN 3 3 [(12, .int .i64 ((IntKind.wrap .i64 (y1.2 + (1 : Int)))))] hE fun a hE => ?_
  refine ae ?_
  have hS := hS.p (.d 2 (.d 3 (.d 4 (.d 0 .n))))
  exact ⟨(l1, (IntKind.wrap .i64 (y1.2 + (1 : Int)))), A15, c15, q3, D14, hE.wk, hS, (le2 le13 le14), h33, hf⟩
 replace hf := cf hb hf
 refine wpIn_exit ?_
 obtain rfl := si hf
 exact ⟨y1.1, A7, c6, q1, D4, hE.wk, hS, le13, h3, rfl⟩
end Go.Proofs.YtjgaokcplofimaaDoor
