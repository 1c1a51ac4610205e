/-
  Proved, text by text: a call of a function of the cut comes to what its plain function computes.
  Conditions: those that each theorem names.
-/
import Derived.Test.YtjgaokcplofimaaDoorProg
import Derived.Test.YtjgaokcplofimaaDoorSepN
import Derived.Test.YtjgaokcplofimaaDoorXExportPathsDef
set_option linter.unusedVariables false
set_option maxHeartbeats 4000000
namespace Go.Proofs.YtjgaokcplofimaaDoor
open Go Go.Sep
set_option maxRecDepth 100000 in
theorem export_those.calls {K : Nat} {g w0 : World} {D0 : Snap} {x5 : Int} {x6 : Int} {x7 : Int} {b1 : Nat} {b2 : Nat} {r : (Int)} (hf : export_those.f K x5 x6 x7 = some r) (hS0 : St g w0 D0 [bx b1 3 ([.int .i64 (x6)]), bx b2 3 ([.int .i64 (x7)])]) :
  CallsIn (Fw none) 0 Tryd.prog 29 (List.toArray [.int .i64 (x5), .func (.func 32) #[] #[.pointer (some ⟨b1, 0, none⟩), .pointer (some ⟨b2, 0, none⟩)]]) w0 (fun e w' => ∃ v, e = .returned v ∧ ∃ (D1 : Snap) (b12 : Nat) (b13 : Nat), v = .func (.func 64) #[] #[.pointer (some ⟨b12, 0, none⟩), .pointer (some ⟨b13, 0, none⟩)] ∧ Stp g w0 D0 [bx b1 3 ([.int .i64 (x6)]), bx b2 3 ([.int .i64 (x7)])] w' D1 [bx b1 3 ([.int .i64 (x6)]), bx b2 3 ([.int .i64 (x7)]), bx b12 3 ([.int .i64 (r)]), bx b13 70 ([.func (.func 32) #[] #[.pointer (some ⟨b1, 0, none⟩), .pointer (some ⟨b2, 0, none⟩)]])]) := by
 unfold export_those.f at hf
 have hS := Stp.refl hS0
 clear hS0
 refine calls_body (n := 6) Tryd.func29 rfl Tryd.ntmps29 rfl fun a hE => ?_
 have hE : Env a 6 [] [(0, .int .i64 (x5)), (1, .func (.func 32) #[] #[.pointer (some ⟨b1, 0, none⟩), .pointer (some ⟨b2, 0, none⟩)])] := hE
 refine sq (ra ?_)
 refine at_op (op_box rfl rfl rfl rfl hE rfl hS rfl (fun a b16 w _ hE hS => ?_)) rfl
 refine at_op (op_box rfl rfl rfl rfl hE rfl hS rfl (fun a b18 w _ hE hS => ?_)) rfl
 refine sN 1 3 [(4, .nilFunc)] hE fun a hE => ?_
 refine ae ?_
 refine sq (ra ?_)
 refine sN 2 2 [(4, .func (.func 64) #[] #[.pointer (some ⟨b16, 0, none⟩), .pointer (some ⟨b18, 0, none⟩)])] hE fun a hE => ?_
 refine ae ?_
 refine wpIn_ret ?_
 obtain rfl := si hf
 refine ret_ ?_
 refine rT 4 (.func (.func 64) #[] #[.pointer (some ⟨b16, 0, none⟩), .pointer (some ⟨b18, 0, none⟩)]) hE ?_
 have hS := hS.p (.d 2 (.d 3 (.d 1 (.d 0 .n))))
 exact ⟨_, rfl, D0, b16, b18, rfl, hS⟩
set_option maxRecDepth 100000 in
theorem rec_within.calls {K : Nat} {g w0 : World} {D0 : Snap} {x1 : Int} {x2 : Int} {x3 : Int} {r : (Bool)} (hf : rec_within.f K x1 x2 x3 = some r) (hS0 : St g w0 D0 []) :
  CallsIn (Fw none) 0 Tryd.prog 87 (List.toArray [.int .i64 (x1), .int .i64 (x2), .int .i64 (x3)]) w0 (fun e w' => ∃ v, e = .returned v ∧ ∃ D1, v = .bool (r) ∧ Stp g w0 D0 [] w' D1 []) := by
 unfold rec_within.f at hf
 have hS := Stp.refl hS0
 clear hS0
 refine calls_body (n := 15) Tryd.func87 rfl Tryd.ntmps87 rfl fun a hE => ?_
 have hE : Env a 15 [] [(0, .int .i64 (x1)), (1, .int .i64 (x2)), (2, .int .i64 (x3))] := hE
 refine sq (ra ?_)
 refine sN 1 1 [(6, .bool false)] hE fun a hE => ?_
 refine ae ?_
 refine sq (ra ?_)
 refine sN 4 4 [(10, .bool ((decide (x2 ≤ x1))))] hE fun a hE => ?_
 refine bo ((decide (x2 ≤ x1))) (fun hb => ?_) fun hb => ?_
 ·replace hf := cf hb hf
  have hE := hE.know (t := 10) rfl hb
  refine sN 5 9 [(6, .bool false)] hE fun a hE => ?_
  refine ae ?_
  refine wpIn_ret ?_
  obtain rfl := si hf
  refine ret_ ?_
  refine rT 6 (.bool false) hE ?_
  exact ⟨_, rfl, D0, rfl, hS⟩
 replace hf := ct hb hf
 have hE := hE.know (t := 10) rfl hb
 refine sN 5 9 [(6, .bool ((decide (x1 ≤ x3))))] hE fun a hE => ?_
 refine ae ?_
 refine wpIn_ret ?_
 obtain rfl := si hf
 refine ret_ ?_
 refine rT 6 (.bool ((decide (x1 ≤ x3)))) hE ?_
 exact ⟨_, rfl, D0, rfl, hS⟩
set_option maxRecDepth 100000 in
theorem rec_ranges_1.calls {K : Nat} {g w0 : World} {D0 : Snap} {x1 : T_api_Step} {r : (Bool)} (hf : rec_ranges_1.f K x1 = some r) (hS0 : St g w0 D0 []) :
  CallsIn (Fw none) 0 Tryd.prog 88 (List.toArray [.agg (List.toArray (c_T_api_Step (x1)))]) w0 (fun e w' => ∃ v, e = .returned v ∧ ∃ D1, v = .bool (r) ∧ Stp g w0 D0 [] w' D1 []) := by
 unfold rec_ranges_1.f at hf
 have hS := Stp.refl hS0
 clear hS0
 refine calls_body (n := 13) Tryd.func88 rfl Tryd.ntmps88 rfl fun a hE => ?_
 have hE : Env a 13 [] [(0, .agg (List.toArray (c_T_api_Step (x1))))] := hE
 refine sq (ra ?_)
 refine at_op (op_box rfl rfl rfl rfl hE rfl hS rfl (fun a b24 w _ hE hS => ?_)) rfl
 refine sN 1 2 [(2, .bool false)] hE fun a hE => ?_
 refine ae ?_
 refine sq (ra ?_)
 refine sM 2 2 [0] [(4, .int .i64 (x1.fPart))] hE hS fun a hE => ?_
 obtain ⟨r36, h37, hf⟩ := bs hf
 refine aC rfl rfl rfl rfl hE rfl rfl rfl rfl (rec_within.calls h37 (hS.st.fore (L := [])) ) fun a v w hR hE => ?_
 obtain ⟨D38, rfl, hS1⟩ := hR
 have le40 := hS1.dle
 have hS := hS.callR hS1 rfl .n
 refine sN 2 5 [(7, .bool ((!r36)))] hE fun a hE => ?_
 refine bo ((!r36)) (fun hb => ?_) fun hb => ?_
 ·replace hf := cf hb hf
  have hE := hE.know (t := 7) rfl hb
  refine sM 2 7 [0] [(9, .int .i64 (x1.fKind))] hE hS fun a hE => ?_
  obtain ⟨r41, h42, hf⟩ := bs hf
  refine aC rfl rfl rfl rfl hE rfl rfl rfl rfl (rec_within.calls h42 (hS.st.fore (L := [])) ) fun a v w hR hE => ?_
  obtain ⟨D43, rfl, hS1⟩ := hR
  have le45 := hS1.dle
  have hS := hS.callR hS1 rfl .n
  refine sN 3 11 [(2, .bool ((!r41)))] hE fun a hE => ?_
  refine ae ?_
  refine wpIn_ret ?_
  obtain rfl := si hf
  refine ret_ ?_
  refine rT 2 (.bool ((!r41))) hE ?_
  have hS := hS.p .n
  exact ⟨_, rfl, D43, rfl, hS⟩
 replace hf := ct hb hf
 have hE := hE.know (t := 7) rfl hb
 refine sN 6 11 [(2, .bool true)] hE fun a hE => ?_
 refine ae ?_
 refine wpIn_ret ?_
 obtain rfl := si hf
 refine ret_ ?_
 refine rT 2 (.bool true) hE ?_
 have hS := hS.p .n
 exact ⟨_, rfl, D38, rfl, hS⟩
set_option maxRecDepth 100000 in
theorem slices_IndexFunc_api_Step_api_Step.calls {K : Nat} {g w0 : World} {D0 : Snap} {x1 : (List T_api_Step)} {A2 : Option Addr} {c3 : Nat} {r : (Int)} (hf : slices_IndexFunc_api_Step_api_Step.f K x1 = some r) (hS0 : St g w0 D0 []) (h4 : Sl kd_T_api_Step D0 A2 c3 (x1)) :
  CallsIn (Fw none) 0 Tryd.prog 108 (List.toArray [.slice A2 (List.length (x1)) c3, .func (.func 88) #[] #[]]) w0 (fun e w' => ∃ v, e = .returned v ∧ ∃ D1, v = .int .i64 (r) ∧ Stp g w0 D0 [] w' D1 []) := by
 unfold slices_IndexFunc_api_Step_api_Step.f at hf
 have hS := Stp.refl hS0
 clear hS0
 refine calls_body (n := 19) Tryd.func108 rfl Tryd.ntmps108 rfl fun a hE => ?_
 have hE : Env a 19 [] [(0, .slice A2 (List.length (x1)) c3), (1, .func (.func 88) #[] #[])] := hE
 refine sq (ra ?_)
 refine sN 1 1 [(4, .int .i64 ((0 : Int)))] hE fun a hE => ?_
 refine ae ?_
 refine sq (sq (ra ?_))
 refine sN 3 3 [(7, .int .i64 (((List.length (x1) : Nat) : Int))), (8, .int .i64 ((0 : Int)))] hE fun a hE => ?_
 refine ae ?_
 obtain ⟨s1, hf, hs1⟩ := bs hf
 refine block_loop (fun a w => ∃ (z1 : Unit), ∃ D2, Env a 19 [] [] ∧ Stp g w0 D0 [] w D2 [] ∧ Snap.le D0 D2 ∧ (Sum.inr z1) = s1) (fun k a w => ∃ (y1 : Int), ∃ D3, Env a 19 [] [(0, .slice A2 (List.length (x1)) c3), (1, .func (.func 88) #[] #[]), (7, .int .i64 (((List.length (x1) : Nat) : Int))), (8, .int .i64 (y1))] ∧ Stp g w0 D0 [] w D3 [] ∧ Snap.le D0 D3 ∧ slices_IndexFunc_api_Step_api_Step_l1.l K x1 k y1 = some s1) K ?_ ?_ ?_
 ·exact ⟨(0 : Int), D0, hE.wk, hS, lr, hf⟩
 ·clear hE hS hf
  rintro a w ⟨z1, D2, hE, hS, le4, rfl⟩
  have hf := hs1
  clear hs1
  refine sq (ra ?_)
  refine sN 1 1 [(4, .int .i64 ((-1 : Int)))] hE fun a hE => ?_
  refine ae ?_
  refine wpIn_ret ?_
  obtain rfl := si hf
  refine ret_ ?_
  refine rT 4 (.int .i64 ((-1 : Int))) hE ?_
  exact ⟨_, rfl, D2, rfl, hS⟩
 clear hE hS hf
 rintro k a w ⟨y1, D3, hE, hS, le1, hf⟩
 obtain ⟨k, rfl, hf⟩ := slices_IndexFunc_api_Step_api_Step_l1.some _ hf
 refine ⟨k, rfl, ?_⟩
 unfold slices_IndexFunc_api_Step_api_Step_l1.b at hf
 refine sq (ra ?_)
 refine sN 1 1 [(9, .bool ((decide (y1 < ((List.length (x1) : Nat) : Int)))))] hE fun a hE => ?_
 refine ae ?_
 refine sq ?_
 refine cond_split hE (b := (decide (y1 < ((List.length (x1) : Nat) : Int)))) rfl (fun hb => ?_) (fun hb => ?_)
 ·replace hf := ct hb hf
  refine wpIn_skip ?_
  refine sq ?_
  refine wpIn_block ?_
  refine sq (ra ?_)
  refine sN 2 2 [(5, .int .i64 (y1))] hE fun a hE => ?_
  refine ae ?_
  refine sq (ra ?_)
  refine sN 3 3 [(11, .func (.func 88) #[] #[]), (12, .slice A2 (List.length (x1)) c3), (13, .int .i64 (y1))] hE fun a hE => ?_
  obtain ⟨x2, h1, hf⟩ := bs hf
  refine at_op (op_tk hE (g_index (K := kd_T_api_Step) (e := 44) (by_ := 16) (zl := 2) rfl rfl rfl rfl hE rfl rfl rfl (by kernel_rfl) rfl (h4.mono le1) h1 (fun a b1 o1 hE h2 => ?_))) rfl
  obtain ⟨cs1, C1, T1, fr1, hr1, hb1, hc1⟩ := id h2
  obtain ⟨rfl⟩ := kd_T_api_Step_el hr1
  refine at_op (op_tk hE (tk_loadX (off0 := o1) (off := 0) (c := c_T_api_Step (x2)) (.agg (List.toArray (c_T_api_Step (x2)))) rfl rfl rfl rfl hE rfl hS rfl hb1 hc1 (by kernel_rfl) (by kernel_rfl) (kD hS dn_nil) (fun a hE => ?_))) rfl
  obtain ⟨r1, h3, hf⟩ := bs hf
  refine aC rfl rfl rfl rfl hE rfl rfl rfl rfl (rec_ranges_1.calls h3 (hS.st.fore (L := [])) ) fun a v w hR hE => ?_
  obtain ⟨D4, rfl, hS1⟩ := hR
  have le3 := hS1.dle
  have hS := hS.callR hS1 rfl .n
  refine ae ?_
  refine cond_split hE (b := r1) rfl (fun hb => ?_) (fun hb => ?_)
  ·replace hf := ct hb hf
   refine sq (ra ?_)
   refine sN 2 2 [(4, .int .i64 (y1))] hE fun a hE => ?_
   refine ae ?_
   refine wpIn_ret ?_
   obtain rfl := si hf
   replace hf := hs1
   obtain rfl := si hf
   refine ret_ ?_
   refine rT 4 (.int .i64 (y1)) hE ?_
   exact ⟨_, rfl, D4, rfl, hS⟩
  replace hf := cf hb hf
  refine wpIn_skip ?_
  refine ra ?_
  refine sN 2 2 [(8, .int .i64 ((IntKind.wrap .i64 (y1 + (1 : Int)))))] hE fun a hE => ?_
  exact ae ⟨(IntKind.wrap .i64 (y1 + (1 : Int))), D4, hE.wk, hS, (le2 le1 le3), hf⟩
 replace hf := cf hb hf
 refine wpIn_exit ?_
 obtain rfl := si hf
 exact ⟨(), D3, hE.wk, hS, le1, rfl⟩
set_option maxRecDepth 100000 in
theorem slices_ContainsFunc_api_Step_api_Step.calls {K : Nat} {g w0 : World} {D0 : Snap} {x1 : (List T_api_Step)} {A2 : Option Addr} {c3 : Nat} {r : (Bool)} (hf : slices_ContainsFunc_api_Step_api_Step.f K x1 = some r) (hS0 : St g w0 D0 []) (h4 : Sl kd_T_api_Step D0 A2 c3 (x1)) :
  CallsIn (Fw none) 0 Tryd.prog 89 (List.toArray [.slice A2 (List.length (x1)) c3, .func (.func 88) #[] #[]]) w0 (fun e w' => ∃ v, e = .returned v ∧ ∃ D1, v = .bool (r) ∧ Stp g w0 D0 [] w' D1 []) := by
 unfold slices_ContainsFunc_api_Step_api_Step.f at hf
 have hS := Stp.refl hS0
 clear hS0
 refine calls_body (n := 9) Tryd.func89 rfl Tryd.ntmps89 rfl fun a hE => ?_
 have hE : Env a 9 [] [(0, .slice A2 (List.length (x1)) c3), (1, .func (.func 88) #[] #[])] := hE
 refine sq (ra ?_)
 refine sN 1 1 [(4, .bool false)] hE fun a hE => ?_
 refine ae ?_
 refine sq (ra ?_)
 refine sN 2 2 [(5, .slice A2 (List.length (x1)) c3), (6, .func (.func 88) #[] #[])] hE fun a hE => ?_
 obtain ⟨r10, h11, hf⟩ := bs hf
 refine aC rfl rfl rfl rfl hE rfl rfl rfl rfl (slices_IndexFunc_api_Step_api_Step.calls h11 (hS.st.fore (L := [])) h4) fun a v w hR hE => ?_
 obtain ⟨D12, rfl, hS1⟩ := hR
 have le14 := hS1.dle
 have hS := hS.callR hS1 rfl .n
 refine sN 2 5 [(4, .bool ((decide ((0 : Int) ≤ r10))))] hE fun a hE => ?_
 refine ae ?_
 refine wpIn_ret ?_
 obtain rfl := si hf
 refine ret_ ?_
 refine rT 4 (.bool ((decide ((0 : Int) ≤ r10)))) hE ?_
 exact ⟨_, rfl, D12, rfl, hS⟩
set_option maxRecDepth 100000 in
theorem rec_ranges.calls {K : Nat} {g w0 : World} {D0 : Snap} {x1 : T_api_Rec} {A2 : Option Addr} {c3 : Nat} {A5 : Option Addr} {c6 : Nat} {r : (Bool)} (hf : rec_ranges.f K x1 = some r) (hS0 : St g w0 D0 []) (h4 : Sl kd_T_api_Step D0 A2 c3 (x1.fSteps)) (h7 : Sl (kdInt .u8) D0 A5 c6 (x1.fData)) :
  CallsIn (Fw none) 0 Tryd.prog 66 (List.toArray [.agg (List.toArray (c_T_api_Rec (x1) A2 c3 A5 c6))]) w0 (fun e w' => ∃ v, e = .returned v ∧ ∃ D1, v = .bool (r) ∧ Stp g w0 D0 [] w' D1 []) := by
 unfold rec_ranges.f at hf
 have hS := Stp.refl hS0
 clear hS0
 refine calls_body (n := 76) Tryd.func66 rfl Tryd.ntmps66 rfl fun a hE => ?_
 have hE : Env a 76 [] [(0, .agg (List.toArray (c_T_api_Rec (x1) A2 c3 A5 c6)))] := hE
 refine sq (ra ?_)
 refine at_op (op_box rfl rfl rfl rfl hE rfl hS rfl (fun a b1 w _ hE hS => ?_)) rfl
 refine sN 1 2 [(2, .bool false)] hE fun a hE => ?_
 refine ae ?_
 refine sq ?_
 obtain ⟨j1, hj1, hf⟩ := jn_elim hf
 refine seq_join (fun a w => ∃ (y1 : Bool), ∃ D2, Env a 76 [] [(1, .pointer (some ⟨b1, 0, none⟩)), (19, .bool (y1))] ∧ Stp g w0 D0 [] w D2 [bx b1 39 (c_T_api_Rec (x1) A2 c3 A5 c6)] ∧ Snap.le D0 D2 ∧ j1 y1 = some r) ?_ ?_
 ·clear hj1
  refine ra ?_
  refine sM 2 2 [0] [(5, .int .i64 (x1.fSaga))] hE hS fun a hE => ?_
  obtain ⟨r1, h1, hf⟩ := bs hf
  refine aC rfl rfl rfl rfl hE rfl rfl rfl rfl (rec_within.calls h1 (hS.st.fore (L := [])) ) fun a v w hR hE => ?_
  obtain ⟨D5, rfl, hS1⟩ := hR
  have le1 := hS1.dle
  have hS := hS.callR hS1 rfl .n
  refine sN 2 5 [(8, .bool ((!r1)))] hE fun a hE => ?_
  refine bo ((!r1)) (fun hb => ?_) fun hb => ?_
  ·replace hf := cf hb hf
   have hE := hE.know (t := 8) rfl hb
   refine sM 2 7 [0] [(10, .int .i64 (x1.fPart))] hE hS fun a hE => ?_
   obtain ⟨r2, h2, hf⟩ := bs hf
   refine aC rfl rfl rfl rfl hE rfl rfl rfl rfl (rec_within.calls h2 (hS.st.fore (L := [])) ) fun a v w hR hE => ?_
   obtain ⟨D6, rfl, hS1⟩ := hR
   have le3 := hS1.dle
   have hS := hS.callR hS1 rfl .n
   refine sN 3 11 [(14, .bool ((!r2)))] hE fun a hE => ?_
   refine bo ((!r2)) (fun hb => ?_) fun hb => ?_
   ·replace hf := cf hb hf
    have hE := hE.know (t := 14) rfl hb
    refine sM 2 13 [0] [(16, .int .i64 (x1.fEpoch))] hE hS fun a hE => ?_
    obtain ⟨r3, h3, hf⟩ := bs hf
    refine aC rfl rfl rfl rfl hE rfl rfl rfl rfl (rec_within.calls h3 (hS.st.fore (L := [])) ) fun a v w hR hE => ?_
    obtain ⟨D7, rfl, hS1⟩ := hR
    have le4 := hS1.dle
    have hS := hS.callR hS1 rfl .n
    refine sN 2 16 [(19, .bool ((!r3)))] hE fun a hE => ?_
    exact ae ⟨(!r3), D7, hE.wk, hS, (le2 (le2 le1 le3) le4), hf⟩
   replace hf := ct hb hf
   have hE := hE.know (t := 14) rfl hb
   refine sN 5 16 [(19, .bool true)] hE fun a hE => ?_
   exact ae ⟨true, D6, hE.wk, hS, (le2 le1 le3), hf⟩
  replace hf := ct hb hf
  have hE := hE.know (t := 8) rfl hb
  refine sN 11 16 [(19, .bool true)] hE fun a hE => ?_
  exact ae ⟨true, D5, hE.wk, hS, le1, hf⟩
 clear hE hS
 rintro a w ⟨y1, D2, hE, hS, le5, hf⟩
 replace hf := hj1 _ hf
 clear hj1
 refine cond_split hE (b := y1) rfl (fun hb => ?_) (fun hb => ?_)
 ·replace hf := ct hb hf
  refine sq (ra ?_)
  refine sN 1 1 [(2, .bool false)] hE fun a hE => ?_
  refine ae ?_
  refine wpIn_ret ?_
  obtain rfl := si hf
  refine ret_ ?_
  refine rT 2 (.bool false) hE ?_
  have hS := hS.p .n
  exact ⟨_, rfl, D2, rfl, hS⟩
 replace hf := cf hb hf
 refine wpIn_skip ?_
 refine sq (sq (ra ?_))
 refine sM 2 2 [0] [(21, .int .i64 (x1.fKind))] hE hS fun a hE => ?_
 refine ae ?_
 refine wpIn_block ?_
 refine sq (ra ?_)
 refine sN 2 2 [(22, .bool ((decide (x1.fKind = (1 : Int)))))] hE fun a hE => ?_
 refine ae ?_
 refine cond_split hE (b := (decide (x1.fKind = (1 : Int)))) rfl (fun hb => ?_) (fun hb => ?_)
 ·replace hf := ct hb hf
  refine sq (ra ?_)
  refine sN 1 1 [(3, .func (.func 88) #[] #[])] hE fun a hE => ?_
  refine ae ?_
  refine sq (ra ?_)
  refine sM 3 3 [0] [(26, .int .i64 (((List.length (x1.fSteps) : Nat) : Int)))] hE hS fun a hE => ?_
  obtain ⟨r4, h5, hf⟩ := bs hf
  refine aC rfl rfl rfl rfl hE rfl rfl rfl rfl (rec_within.calls h5 (hS.st.fore (L := [])) ) fun a v w hR hE => ?_
  obtain ⟨D8, rfl, hS1⟩ := hR
  have le6 := hS1.dle
  have hS := hS.callR hS1 rfl .n
  refine sN 1 5 [(28, .bool (r4))] hE fun a hE => ?_
  refine bo (r4) (fun hb => ?_) fun hb => ?_
  ·replace hf := cf hb hf
   have hE := hE.know (t := 28) rfl hb
   refine sN 13 18 [(2, .bool false)] hE fun a hE => ?_
   refine ae ?_
   refine wpIn_ret ?_
   obtain rfl := si hf
   refine ret_ ?_
   refine rT 2 (.bool false) hE ?_
   have hS := hS.p .n
   exact ⟨_, rfl, D8, rfl, hS⟩
  replace hf := ct hb hf
  have hE := hE.know (t := 28) rfl hb
  refine sM 3 8 [0] [(30, .slice A2 (List.length (x1.fSteps)) c3), (31, .func (.func 88) #[] #[])] hE hS fun a hE => ?_
  obtain ⟨r5, h6, hf⟩ := bs hf
  refine aC rfl rfl rfl rfl hE rfl rfl rfl rfl (slices_ContainsFunc_api_Step_api_Step.calls h6 (hS.st.fore (L := [])) (h4.mono (le2 le5 le6))) fun a v w hR hE => ?_
  obtain ⟨D4, rfl, hS1⟩ := hR
  have le7 := hS1.dle
  have hS := hS.callR hS1 rfl .n
  refine sN 3 12 [(35, .bool ((!r5)))] hE fun a hE => ?_
  refine bo ((!r5)) (fun hb => ?_) fun hb => ?_
  ·replace hf := cf hb hf
   have hE := hE.know (t := 35) rfl hb
   refine sN 6 18 [(2, .bool false)] hE fun a hE => ?_
   refine ae ?_
   refine wpIn_ret ?_
   obtain rfl := si hf
   refine ret_ ?_
   refine rT 2 (.bool false) hE ?_
   have hS := hS.p .n
   exact ⟨_, rfl, D4, rfl, hS⟩
  replace hf := ct hb hf
  have hE := hE.know (t := 35) rfl hb
  refine sM 6 18 [0] [(2, .bool ((decide (((List.length (x1.fData) : Nat) : Int) ≤ (60 : Int)))))] hE hS fun a hE => ?_
  refine ae ?_
  refine wpIn_ret ?_
  obtain rfl := si hf
  refine ret_ ?_
  refine rT 2 (.bool ((decide (((List.length (x1.fData) : Nat) : Int) ≤ (60 : Int))))) hE ?_
  have hS := hS.p .n
  exact ⟨_, rfl, D4, rfl, hS⟩
 replace hf := cf hb hf
 obtain ⟨j2, hj2, hf⟩ := jn_elim hf
 refine seq_join (fun a w => ∃ (y2 : Bool), ∃ D3, Env a 76 [] [(1, .pointer (some ⟨b1, 0, none⟩)), (21, .int .i64 (x1.fKind)), (41, .bool (y2))] ∧ Stp g w0 D0 [] w D3 [bx b1 39 (c_T_api_Rec (x1) A2 c3 A5 c6)] ∧ Snap.le D2 D3 ∧ j2 y2 = some r) ?_ ?_
 ·clear hj2
  refine sq (ra ?_)
  refine sN 2 2 [(41, .bool ((decide (x1.fKind = (2 : Int)))))] hE fun a hE => ?_
  refine ae ?_
  refine cond_split hE (b := (decide (x1.fKind = (2 : Int)))) rfl (fun hb => ?_) (fun hb => ?_)
  ·replace hf := ct hb hf
   refine wpIn_skip ?_
   exact ⟨(decide (x1.fKind = (2 : Int))), D2, hE.wk, hS, lr, hf⟩
  replace hf := cf hb hf
  refine sq (ra ?_)
  refine sN 2 2 [(41, .bool ((decide (x1.fKind = (4 : Int)))))] hE fun a hE => ?_
  refine ae ?_
  refine cond_split hE (b := (decide (x1.fKind = (4 : Int)))) rfl (fun hb => ?_) (fun hb => ?_)
  ·replace hf := ct hb hf
   refine wpIn_skip ?_
   exact ⟨(decide (x1.fKind = (4 : Int))), D2, hE.wk, hS, lr, hf⟩
  replace hf := cf hb hf
  refine ra ?_
  refine sN 2 2 [(41, .bool ((decide (x1.fKind = (3 : Int)))))] hE fun a hE => ?_
  exact ae ⟨(decide (x1.fKind = (3 : Int))), D2, hE.wk, hS, lr, hf⟩
 clear hE hS
 rintro a w ⟨y2, D3, hE, hS, le8, hf⟩
 replace hf := hj2 _ hf
 clear hj2
 refine cond_split hE (b := y2) rfl (fun hb => ?_) (fun hb => ?_)
 ·replace hf := ct hb hf
  refine sq (ra ?_)
  refine sM 2 2 [0] [(46, .int .i64 (x1.fSeq))] hE hS fun a hE => ?_
  obtain ⟨r6, h8, hf⟩ := bs hf
  refine aC rfl rfl rfl rfl hE rfl rfl rfl rfl (rec_within.calls h8 (hS.st.fore (L := [])) ) fun a v w hR hE => ?_
  obtain ⟨D9, rfl, hS1⟩ := hR
  have le9 := hS1.dle
  have hS := hS.callR hS1 rfl .n
  refine sN 1 4 [(48, .bool (r6))] hE fun a hE => ?_
  refine bo (r6) (fun hb => ?_) fun hb => ?_
  ·replace hf := cf hb hf
   have hE := hE.know (t := 48) rfl hb
   refine sN 10 14 [(2, .bool false)] hE fun a hE => ?_
   refine ae ?_
   refine wpIn_ret ?_
   obtain rfl := si hf
   refine ret_ ?_
   refine rT 2 (.bool false) hE ?_
   have hS := hS.p .n
   exact ⟨_, rfl, D9, rfl, hS⟩
  replace hf := ct hb hf
  have hE := hE.know (t := 48) rfl hb
  refine sM 2 6 [0] [(50, .int .i64 (x1.fStep))] hE hS fun a hE => ?_
  obtain ⟨r7, h9, hf⟩ := bs hf
  refine aC rfl rfl rfl rfl hE rfl rfl rfl rfl (rec_within.calls h9 (hS.st.fore (L := [])) ) fun a v w hR hE => ?_
  obtain ⟨D10, rfl, hS1⟩ := hR
  have le10 := hS1.dle
  have hS := hS.callR hS1 rfl .n
  refine sN 2 9 [(53, .bool (r7))] hE fun a hE => ?_
  refine bo (r7) (fun hb => ?_) fun hb => ?_
  ·replace hf := cf hb hf
   have hE := hE.know (t := 53) rfl hb
   refine sN 5 14 [(2, .bool false)] hE fun a hE => ?_
   refine ae ?_
   refine wpIn_ret ?_
   obtain rfl := si hf
   refine ret_ ?_
   refine rT 2 (.bool false) hE ?_
   have hS := hS.p .n
   exact ⟨_, rfl, D10, rfl, hS⟩
  replace hf := ct hb hf
  have hE := hE.know (t := 53) rfl hb
  refine sM 2 11 [0] [(55, .int .i64 (x1.fTry))] hE hS fun a hE => ?_
  obtain ⟨r8, h10, hf⟩ := bs hf
  refine aC rfl rfl rfl rfl hE rfl rfl rfl rfl (rec_within.calls h10 (hS.st.fore (L := [])) ) fun a v w hR hE => ?_
  obtain ⟨D11, rfl, hS1⟩ := hR
  have le11 := hS1.dle
  have hS := hS.callR hS1 rfl .n
  refine sN 2 14 [(2, .bool (r8))] hE fun a hE => ?_
  refine ae ?_
  refine wpIn_ret ?_
  obtain rfl := si hf
  refine ret_ ?_
  refine rT 2 (.bool (r8)) hE ?_
  have hS := hS.p .n
  exact ⟨_, rfl, D11, rfl, hS⟩
 replace hf := cf hb hf
 refine sq (ra ?_)
 refine sN 2 2 [(58, .bool ((decide (x1.fKind = (5 : Int)))))] hE fun a hE => ?_
 refine ae ?_
 refine cond_split hE (b := (decide (x1.fKind = (5 : Int)))) rfl (fun hb => ?_) (fun hb => ?_)
 ·replace hf := ct hb hf
  refine sq (ra ?_)
  refine sM 2 2 [0] [(61, .int .i64 (x1.fSeq))] hE hS fun a hE => ?_
  obtain ⟨r9, h11, hf⟩ := bs hf
  refine aC rfl rfl rfl rfl hE rfl rfl rfl rfl (rec_within.calls h11 (hS.st.fore (L := [])) ) fun a v w hR hE => ?_
  obtain ⟨D12, rfl, hS1⟩ := hR
  have le12 := hS1.dle
  have hS := hS.callR hS1 rfl .n
  refine sN 1 4 [(63, .bool (r9))] hE fun a hE => ?_
  refine bo (r9) (fun hb => ?_) fun hb => ?_
  ·replace hf := cf hb hf
   have hE := hE.know (t := 63) rfl hb
   refine sN 5 9 [(2, .bool false)] hE fun a hE => ?_
   refine ae ?_
   refine wpIn_ret ?_
   obtain rfl := si hf
   refine ret_ ?_
   refine rT 2 (.bool false) hE ?_
   have hS := hS.p .n
   exact ⟨_, rfl, D12, rfl, hS⟩
  replace hf := ct hb hf
  have hE := hE.know (t := 63) rfl hb
  refine sM 2 6 [0] [(65, .int .i64 (x1.fEnd))] hE hS fun a hE => ?_
  obtain ⟨r10, h12, hf⟩ := bs hf
  refine aC rfl rfl rfl rfl hE rfl rfl rfl rfl (rec_within.calls h12 (hS.st.fore (L := [])) ) fun a v w hR hE => ?_
  obtain ⟨D13, rfl, hS1⟩ := hR
  have le13 := hS1.dle
  have hS := hS.callR hS1 rfl .n
  refine sN 2 9 [(2, .bool (r10))] hE fun a hE => ?_
  refine ae ?_
  refine wpIn_ret ?_
  obtain rfl := si hf
  refine ret_ ?_
  refine rT 2 (.bool (r10)) hE ?_
  have hS := hS.p .n
  exact ⟨_, rfl, D13, rfl, hS⟩
 replace hf := cf hb hf
 refine wpIn_skip ?_
 refine sq (ra ?_)
 refine sM 4 4 [0] [(71, .bool ((decide (x1.fKind = (6 : Int)))))] hE hS fun a hE => ?_
 refine bo ((decide (x1.fKind = (6 : Int)))) (fun hb => ?_) fun hb => ?_
 ·replace hf := cf hb hf
  have hE := hE.know (t := 71) rfl hb
  refine sN 5 9 [(2, .bool false)] hE fun a hE => ?_
  refine ae ?_
  refine wpIn_ret ?_
  obtain rfl := si hf
  refine ret_ ?_
  refine rT 2 (.bool false) hE ?_
  have hS := hS.p .n
  exact ⟨_, rfl, D3, rfl, hS⟩
 replace hf := ct hb hf
 have hE := hE.know (t := 71) rfl hb
 refine sM 5 9 [0] [(2, .bool ((decide ((1 : Int) ≤ x1.fEpoch))))] hE hS fun a hE => ?_
 refine ae ?_
 refine wpIn_ret ?_
 obtain rfl := si hf
 refine ret_ ?_
 refine rT 2 (.bool ((decide ((1 : Int) ≤ x1.fEpoch)))) hE ?_
 have hS := hS.p .n
 exact ⟨_, rfl, D3, rfl, hS⟩
set_option maxRecDepth 100000 in
theorem rec_kept.calls {K : Nat} {g w0 : World} {D0 : Snap} {x1 : T_api_Rec} {A2 : Option Addr} {c3 : Nat} {A5 : Option Addr} {c6 : Nat} {r : (T_api_Rec)} (hf : rec_kept.f K x1 = some r) (hS0 : St g w0 D0 []) (h4 : Sl kd_T_api_Step D0 A2 c3 (x1.fSteps)) (h7 : Sl (kdInt .u8) D0 A5 c6 (x1.fData)) :
  CallsIn (Fw none) 0 Tryd.prog 67 (List.toArray [.agg (List.toArray (c_T_api_Rec (x1) A2 c3 A5 c6))]) w0 (fun e w' => ∃ v, e = .returned v ∧ ∃ (D1 : Snap) (A7 : Option Addr) (c7 : Nat) (A8 : Option Addr) (c8 : Nat), v = .agg (List.toArray (c_T_api_Rec ((T_api_Rec.mk (r.fKind) (r.fSaga) (r.fSeq) (r.fStep) (r.fTry) (r.fBack) (r.fGood) (r.fEnd) (r.fPart) (r.fEpoch) (r.fTag) (r.fSteps) (r.fData) (r.fSalt) (r.fGone) (r.fCom))) A7 c7 A8 c8)) ∧ Stp g w0 D0 [] w' D1 [] ∧ Sl kd_T_api_Step D1 A7 c7 (r.fSteps) ∧ Sl (kdInt .u8) D1 A8 c8 (r.fData)) := by
 unfold rec_kept.f at hf
 have hS := Stp.refl hS0
 clear hS0
 refine calls_body (n := 83) Tryd.func67 rfl Tryd.ntmps67 rfl fun a hE => ?_
 have hE : Env a 83 [] [(0, .agg (List.toArray (c_T_api_Rec (x1) A2 c3 A5 c6)))] := hE
 refine sq (ra ?_)
 refine at_op (op_box rfl rfl rfl rfl hE rfl hS rfl (fun a b2 w _ hE hS => ?_)) rfl
 refine at_op (op_alloc (z := .agg (List.toArray (c_T_api_Rec (z_T_api_Rec) none 0 none 0))) rfl rfl rfl rfl hE rfl hS (by kernel_rfl) (fun a b3 w _ hE hS => ?_)) rfl
 refine ae ?_
 refine sq (ra ?_)
 refine sM 2 2 [1] [(5, .int .i64 (x1.fKind))] hE hS fun a hE => ?_
 refine at_op (op_tk hE (tk_build (c_T_api_Rec ({ z_T_api_Rec with fKind := x1.fKind }) none 0 none 0) rfl rfl rfl rfl hE rfl rfl (by kernel_rfl) (fun a hE => ?_))) rfl
 refine at_op (op_alloc (z := .agg (List.toArray (c_T_api_Rec (z_T_api_Rec) none 0 none 0))) rfl rfl rfl rfl hE rfl hS (by kernel_rfl) (fun a b1 w _ hE hS => ?_)) rfl
 obtain ⟨v1, hv1, hf⟩ := bs hf
 replace hv1 := Option.some.inj hv1
 refine at_op (op_store (v := .agg (List.toArray (c_T_api_Rec ({ z_T_api_Rec with fKind := x1.fKind }) none 0 none 0))) (c_T_api_Rec (v1) none 0 none 0) rfl rfl rfl rfl hE hS rfl rfl (by kernel_rfl) (by kernel_rfl) (by kernel_rfl) (by kernel_rfl) (by rw [← hv1]; kernel_rfl) (fun a w _ hE hS => ?_)) rfl
 have h1 : Sl kd_T_api_Step D0 none 0 (v1.fSteps) := by rw [← hv1]; exact (Sl.nil kd_T_api_Step D0)
 have h2 : Sl (kdInt .u8) D0 none 0 (v1.fData) := by rw [← hv1]; exact (Sl.nil (kdInt .u8) D0)
 refine ae ?_
 obtain ⟨j1, hj1, hf⟩ := jn_elim hf
 refine seq_join (fun a w => ∃ (y1 : T_api_Rec), ∃ A4, ∃ c4, ∃ A6, ∃ c5, ∃ D4, Env a 83 [] [(2, .pointer (some ⟨b3, 0, none⟩)), (3, .pointer (some ⟨b1, 0, none⟩))] ∧ Stp g w0 D0 [] w D4 [bx b3 39 (c_T_api_Rec (z_T_api_Rec) none 0 none 0), bx b1 39 (c_T_api_Rec (y1) A4 c4 A6 c5)] ∧ Snap.le D0 D4 ∧ Sl kd_T_api_Step D4 A4 c4 (y1.fSteps) ∧ Sl (kdInt .u8) D4 A6 c5 (y1.fData) ∧ j1 y1 = some r) ?_ ?_
 ·clear hj1
  refine sq (ra ?_)
  refine sM 2 2 [2] [(8, .int .i64 (x1.fKind))] hE hS fun a hE => ?_
  refine ae ?_
  refine wpIn_block ?_
  refine sq ?_
  refine wpIn_block ?_
  refine sq ?_
  refine wpIn_block ?_
  obtain ⟨j2, hj2, hf⟩ := jn_elim hf
  refine seq_join (fun a w => ∃ (y2 : T_api_Rec), ∃ A1, ∃ c1, ∃ A3, ∃ c2, ∃ D2, Env a 83 [] [(1, .pointer (some ⟨b2, 0, none⟩)), (2, .pointer (some ⟨b3, 0, none⟩)), (3, .pointer (some ⟨b1, 0, none⟩))] ∧ Stp g w0 D0 [] w D2 [bx b2 39 (c_T_api_Rec (x1) A2 c3 A5 c6), bx b3 39 (c_T_api_Rec (z_T_api_Rec) none 0 none 0), bx b1 39 (c_T_api_Rec (y2) A1 c1 A3 c2)] ∧ Snap.le D0 D2 ∧ Sl kd_T_api_Step D2 A1 c1 (y2.fSteps) ∧ Sl (kdInt .u8) D2 A3 c2 (y2.fData) ∧ j2 y2 = some r) ?_ ?_
  ·clear hj2
   refine wpIn_block ?_
   refine sq ?_
   refine wpIn_block ?_
   refine sq ?_
   refine wpIn_block ?_
   refine sq (sq (sq ?_))
   refine ra ?_
   refine sN 2 2 [(9, .bool ((decide (x1.fKind = (1 : Int)))))] hE fun a hE => ?_
   refine ae ?_
   refine cond_split hE (b := (decide (x1.fKind = (1 : Int)))) rfl (fun hb => ?_) (fun hb => ?_)
   ·replace hf := ct hb hf
    refine wpIn_exit ?_
    refine sq (sq ?_)
    refine region_draw (fun j => Keeps (mfOf [(7, [b1]), (9, [b1]), (11, [b1])] j)) (by kernel_rfl) ?_
    have hS := hS.drew
    first | generalize w.drew = w at hS ⊢ | generalize w0.drew = w at hS ⊢
    refine wF 0 1 11 1 3 1 hE fun a hE => ?_
    refine tL 1 3 10 2 (.int .i64 (x1.fSaga)) hE hS fun a hE => ?_
    refine wF 2 7 9 42 36 42 hE fun a hE => ?_
    refine tN (T := [(7, [b1]), (9, [b1]), (11, [b1])]) [7] 3 15 (fuel := 8) (by kernel_rfl) hE (tk_load 2 (.slice A2 (List.length (x1.fSteps)) c3) rfl rfl rfl rfl hE rfl hS rfl rfl (by kernel_rfl) (kL (j := 2) hS rfl (show b2 ∉ [b1] from (nm_cons (hS.ne (i := 2) (j := 0) (by decide) rfl rfl) List.not_mem_nil))) (fun a hE => ?_))
    refine wF 4 31 7 76 4 76 hE fun a hE => ?_
    refine tN (T := [(7, [b1]), (9, [b1]), (11, [b1])]) [7, 9] 5 63 (fuel := 6) (by kernel_rfl) hE (tk_load 2 (.bool (x1.fGone)) rfl rfl rfl rfl hE rfl hS rfl rfl (by kernel_rfl) (kL (j := 2) hS rfl (show b2 ∉ [b1, b1] from (nm_cons (hS.ne (i := 2) (j := 0) (by decide) rfl rfl) (nm_cons (hS.ne (i := 2) (j := 0) (by decide) rfl rfl) List.not_mem_nil)))) (fun a hE => ?_))
    refine wF 6 127 5 1 3 1 hE fun a hE => ?_
    obtain ⟨v8, hv2, hf⟩ := bs hf
    replace hv2 := Option.some.inj hv2
    refine oG 7 255 (fuel := 4) (by kernel_rfl) (op_store (v := .int .i64 (x1.fSaga)) (c_T_api_Rec (v8) none 0 none 0) rfl rfl rfl rfl hE hS rfl rfl (by kernel_rfl) (by kernel_rfl) (by kernel_rfl) (by kernel_rfl) (by rw [← hv2]; kernel_rfl) (fun a w hkp hE hS => ⟨hkp.mono (fun _ h => h), ?_⟩))
    clear hkp
    have h48 : Sl kd_T_api_Step D0 none 0 (v8.fSteps) := by rw [← hv2]; exact h1
    have h5 : Sl (kdInt .u8) D0 none 0 (v8.fData) := by rw [← hv2]; exact h2
    refine wF 8 511 3 42 36 42 hE fun a hE => ?_
    obtain ⟨v9, hv3, hf⟩ := bs hf
    replace hv3 := Option.some.inj hv3
    refine oG 9 1023 (fuel := 2) (by kernel_rfl) (op_store (v := .slice A2 (List.length (x1.fSteps)) c3) (c_T_api_Rec (v9) A2 c3 none 0) rfl rfl rfl rfl hE hS rfl rfl (by kernel_rfl) (by kernel_rfl) (by kernel_rfl) (by kernel_rfl) (by rw [← hv3]; kernel_rfl) (fun a w hkp hE hS => ⟨hkp.mono (fun _ h => h), ?_⟩))
    clear hkp
    have h6 : Sl kd_T_api_Step D0 A2 c3 (v9.fSteps) := by rw [← hv3]; exact h4
    have h8 : Sl (kdInt .u8) D0 none 0 (v9.fData) := by rw [← hv3]; exact h5
    refine wF 10 2047 1 76 4 76 hE fun a hE => ?_
    obtain ⟨v10, hv4, hf⟩ := bs hf
    replace hv4 := Option.some.inj hv4
    refine oG 11 4095 (fuel := 0) (by kernel_rfl) (op_store (v := .bool (x1.fGone)) (c_T_api_Rec (v10) A2 c3 none 0) rfl rfl rfl rfl hE hS rfl rfl (by kernel_rfl) (by kernel_rfl) (by kernel_rfl) (by kernel_rfl) (by rw [← hv4]; kernel_rfl) (fun a w hkp hE hS => ⟨hkp.mono (fun _ h => h), ?_⟩))
    clear hkp
    have h3 : Sl kd_T_api_Step D0 A2 c3 (v10.fSteps) := by rw [← hv4]; exact h6
    have h9 : Sl (kdInt .u8) D0 none 0 (v10.fData) := by rw [← hv4]; exact h8
    refine doneG (by kernel_rfl) ?_
    refine sq (ra ?_)
    refine sM 2 2 [2] [(30, .bool (x1.fGone))] hE hS fun a hE => ?_
    refine ae ?_
    refine cond_split hE (b := x1.fGone) rfl (fun hb => ?_) (fun hb => ?_)
    ·replace hf := ct hb hf
     refine ra ?_
     refine sM 3 3 [2] [(32, .agg (List.toArray (acells .u8 32 (x1.fCom)))), (33, .pointer (some ⟨b1, 77, none⟩))] hE hS fun a hE => ?_
     obtain ⟨v2, hv5, hf⟩ := bs hf
     replace hv5 := Option.some.inj hv5
     refine at_op (op_store (v := .agg (List.toArray (acells .u8 32 (x1.fCom)))) (c_T_api_Rec (v2) A2 c3 none 0) rfl rfl rfl rfl hE hS rfl rfl (by kernel_rfl) (by kernel_rfl) (by kernel_rfl) (by kernel_rfl) (by rw [← hv5]; kernel_rfl) (fun a w _ hE hS => ?_)) rfl
     have h10 : Sl kd_T_api_Step D0 A2 c3 (v2.fSteps) := by rw [← hv5]; exact h3
     have h11 : Sl (kdInt .u8) D0 none 0 (v2.fData) := by rw [← hv5]; exact h9
     refine ae ?_
     refine wpIn_exit ?_
     have hS := hS.p (.d 1 (.d 0 .n))
     exact ⟨v2, A2, c3, none, 0, D0, hE.wk, hS, lr, h10, h11, hf⟩
    replace hf := cf hb hf
    refine region_draw (fun j => Keeps (mfOf [(5, [b1]), (7, [b1])] j)) (by kernel_rfl) ?_
    have hS := hS.drew
    first | generalize w.drew = w at hS ⊢ | generalize w0.drew = w at hS ⊢
    refine wF 0 1 7 43 37 43 hE fun a hE => ?_
    refine tL 1 3 6 2 (.slice A5 (List.length (x1.fData)) c6) hE hS fun a hE => ?_
    refine wF 2 7 5 44 24 44 hE fun a hE => ?_
    refine tN (T := [(5, [b1]), (7, [b1])]) [5] 3 15 (fuel := 4) (by kernel_rfl) hE (tk_load 2 (.agg (List.toArray (acells .u8 32 (x1.fSalt)))) rfl rfl rfl rfl hE rfl hS rfl rfl (by kernel_rfl) (kL (j := 2) hS rfl (show b2 ∉ [b1] from (nm_cons (hS.ne (i := 2) (j := 0) (by decide) rfl rfl) List.not_mem_nil))) (fun a hE => ?_))
    refine wF 4 31 3 43 37 43 hE fun a hE => ?_
    obtain ⟨v11, hv6, hf⟩ := bs hf
    replace hv6 := Option.some.inj hv6
    refine oG 5 63 (fuel := 2) (by kernel_rfl) (op_store (v := .slice A5 (List.length (x1.fData)) c6) (c_T_api_Rec (v11) A2 c3 A5 c6) rfl rfl rfl rfl hE hS rfl rfl (by kernel_rfl) (by kernel_rfl) (by kernel_rfl) (by kernel_rfl) (by rw [← hv6]; kernel_rfl) (fun a w hkp hE hS => ⟨hkp.mono (fun _ h => h), ?_⟩))
    clear hkp
    have h12 : Sl kd_T_api_Step D0 A2 c3 (v11.fSteps) := by rw [← hv6]; exact h3
    have h13 : Sl (kdInt .u8) D0 A5 c6 (v11.fData) := by rw [← hv6]; exact h7
    refine wF 6 127 1 44 24 44 hE fun a hE => ?_
    obtain ⟨v3, hv7, hf⟩ := bs hf
    replace hv7 := Option.some.inj hv7
    refine oG 7 255 (fuel := 0) (by kernel_rfl) (op_store (v := .agg (List.toArray (acells .u8 32 (x1.fSalt)))) (c_T_api_Rec (v3) A2 c3 A5 c6) rfl rfl rfl rfl hE hS rfl rfl (by kernel_rfl) (by kernel_rfl) (by kernel_rfl) (by kernel_rfl) (by rw [← hv7]; kernel_rfl) (fun a w hkp hE hS => ⟨hkp.mono (fun _ h => h), ?_⟩))
    clear hkp
    have h14 : Sl kd_T_api_Step D0 A2 c3 (v3.fSteps) := by rw [← hv7]; exact h12
    have h15 : Sl (kdInt .u8) D0 A5 c6 (v3.fData) := by rw [← hv7]; exact h13
    refine doneG (by kernel_rfl) ?_
    refine wpIn_exit ?_
    have hS := hS.p (.d 1 (.d 0 .n))
    exact ⟨v3, A2, c3, A5, c6, D0, hE.wk, hS, lr, h14, h15, hf⟩
   replace hf := cf hb hf
   refine wpIn_skip ?_
   refine sq (sq (ra ?_))
   refine sN 2 2 [(11, .bool ((decide (x1.fKind = (3 : Int)))))] hE fun a hE => ?_
   refine ae ?_
   refine cond_split hE (b := (decide (x1.fKind = (3 : Int)))) rfl (fun hb => ?_) (fun hb => ?_)
   ·replace hf := ct hb hf
    refine wpIn_exit ?_
    refine region_draw (fun j => Keeps (mfOf [(9, [b1]), (11, [b1]), (13, [b1]), (15, [b1])] j)) (by kernel_rfl) ?_
    have hS := hS.drew
    first | generalize w.drew = w at hS ⊢ | generalize w0.drew = w at hS ⊢
    refine wF 0 1 15 6 4 6 hE fun a hE => ?_
    refine tL 1 3 14 2 (.bool (x1.fGood)) hE hS fun a hE => ?_
    refine wF 2 7 13 8 3 8 hE fun a hE => ?_
    refine tN (T := [(9, [b1]), (11, [b1]), (13, [b1]), (15, [b1])]) [9] 3 15 (fuel := 12) (by kernel_rfl) hE (tk_load 2 (.int .i64 (x1.fPart)) rfl rfl rfl rfl hE rfl hS rfl rfl (by kernel_rfl) (kL (j := 2) hS rfl (show b2 ∉ [b1] from (nm_cons (hS.ne (i := 2) (j := 0) (by decide) rfl rfl) List.not_mem_nil))) (fun a hE => ?_))
    refine wF 4 31 11 9 3 9 hE fun a hE => ?_
    refine tN (T := [(9, [b1]), (11, [b1]), (13, [b1]), (15, [b1])]) [9, 11] 5 63 (fuel := 10) (by kernel_rfl) hE (tk_load 2 (.int .i64 (x1.fEpoch)) rfl rfl rfl rfl hE rfl hS rfl rfl (by kernel_rfl) (kL (j := 2) hS rfl (show b2 ∉ [b1, b1] from (nm_cons (hS.ne (i := 2) (j := 0) (by decide) rfl rfl) (nm_cons (hS.ne (i := 2) (j := 0) (by decide) rfl rfl) List.not_mem_nil)))) (fun a hE => ?_))
    refine wF 6 127 9 10 24 10 hE fun a hE => ?_
    refine tN (T := [(9, [b1]), (11, [b1]), (13, [b1]), (15, [b1])]) [9, 11, 13] 7 255 (fuel := 8) (by kernel_rfl) hE (tk_load 2 (.agg (List.toArray (acells .u8 32 (x1.fTag)))) rfl rfl rfl rfl hE rfl hS rfl rfl (by kernel_rfl) (kL (j := 2) hS rfl (show b2 ∉ [b1, b1, b1] from (nm_cons (hS.ne (i := 2) (j := 0) (by decide) rfl rfl) (nm_cons (hS.ne (i := 2) (j := 0) (by decide) rfl rfl) (nm_cons (hS.ne (i := 2) (j := 0) (by decide) rfl rfl) List.not_mem_nil))))) (fun a hE => ?_))
    refine wF 8 511 7 6 4 6 hE fun a hE => ?_
    obtain ⟨v12, hv8, hf⟩ := bs hf
    replace hv8 := Option.some.inj hv8
    refine oG 9 1023 (fuel := 6) (by kernel_rfl) (op_store (v := .bool (x1.fGood)) (c_T_api_Rec (v12) none 0 none 0) rfl rfl rfl rfl hE hS rfl rfl (by kernel_rfl) (by kernel_rfl) (by kernel_rfl) (by kernel_rfl) (by rw [← hv8]; kernel_rfl) (fun a w hkp hE hS => ⟨hkp.mono (fun _ h => h), ?_⟩))
    clear hkp
    have h16 : Sl kd_T_api_Step D0 none 0 (v12.fSteps) := by rw [← hv8]; exact h1
    have h17 : Sl (kdInt .u8) D0 none 0 (v12.fData) := by rw [← hv8]; exact h2
    refine wF 10 2047 5 8 3 8 hE fun a hE => ?_
    obtain ⟨v13, hv9, hf⟩ := bs hf
    replace hv9 := Option.some.inj hv9
    refine oG 11 4095 (fuel := 4) (by kernel_rfl) (op_store (v := .int .i64 (x1.fPart)) (c_T_api_Rec (v13) none 0 none 0) rfl rfl rfl rfl hE hS rfl rfl (by kernel_rfl) (by kernel_rfl) (by kernel_rfl) (by kernel_rfl) (by rw [← hv9]; kernel_rfl) (fun a w hkp hE hS => ⟨hkp.mono (fun _ h => h), ?_⟩))
    clear hkp
    have h18 : Sl kd_T_api_Step D0 none 0 (v13.fSteps) := by rw [← hv9]; exact h16
    have h19 : Sl (kdInt .u8) D0 none 0 (v13.fData) := by rw [← hv9]; exact h17
    refine wF 12 8191 3 9 3 9 hE fun a hE => ?_
    obtain ⟨v14, hv10, hf⟩ := bs hf
    replace hv10 := Option.some.inj hv10
    refine oG 13 16383 (fuel := 2) (by kernel_rfl) (op_store (v := .int .i64 (x1.fEpoch)) (c_T_api_Rec (v14) none 0 none 0) rfl rfl rfl rfl hE hS rfl rfl (by kernel_rfl) (by kernel_rfl) (by kernel_rfl) (by kernel_rfl) (by rw [← hv10]; kernel_rfl) (fun a w hkp hE hS => ⟨hkp.mono (fun _ h => h), ?_⟩))
    clear hkp
    have h20 : Sl kd_T_api_Step D0 none 0 (v14.fSteps) := by rw [← hv10]; exact h18
    have h21 : Sl (kdInt .u8) D0 none 0 (v14.fData) := by rw [← hv10]; exact h19
    refine wF 14 32767 1 10 24 10 hE fun a hE => ?_
    obtain ⟨v4, hv11, hf⟩ := bs hf
    replace hv11 := Option.some.inj hv11
    refine oG 15 65535 (fuel := 0) (by kernel_rfl) (op_store (v := .agg (List.toArray (acells .u8 32 (x1.fTag)))) (c_T_api_Rec (v4) none 0 none 0) rfl rfl rfl rfl hE hS rfl rfl (by kernel_rfl) (by kernel_rfl) (by kernel_rfl) (by kernel_rfl) (by rw [← hv11]; kernel_rfl) (fun a w hkp hE hS => ⟨hkp.mono (fun _ h => h), ?_⟩))
    clear hkp
    have h22 : Sl kd_T_api_Step D0 none 0 (v4.fSteps) := by rw [← hv11]; exact h20
    have h23 : Sl (kdInt .u8) D0 none 0 (v4.fData) := by rw [← hv11]; exact h21
    refine doneG (by kernel_rfl) ?_
    have hS := hS.p (.d 2 (.d 1 (.d 0 .n)))
    exact ⟨v4, none, 0, none, 0, D0, hE.wk, hS, lr, h22, h23, hf⟩
   replace hf := cf hb hf
   refine wpIn_skip ?_
   refine sq ?_
   obtain ⟨j3, hj3, hf⟩ := jn_elim hf
   refine seq_join (fun a w => ∃ (y3 : Bool), ∃ D3, Env a 83 [] [(1, .pointer (some ⟨b2, 0, none⟩)), (2, .pointer (some ⟨b3, 0, none⟩)), (3, .pointer (some ⟨b1, 0, none⟩)), (8, .int .i64 (x1.fKind)), (13, .bool (y3))] ∧ Stp g w0 D0 [] w D3 [bx b2 39 (c_T_api_Rec (x1) A2 c3 A5 c6), bx b3 39 (c_T_api_Rec (z_T_api_Rec) none 0 none 0), bx b1 39 (c_T_api_Rec (v1) none 0 none 0)] ∧ Snap.le D0 D3 ∧ j3 y3 = some r) ?_ ?_
   ·clear hj3
    refine sq (ra ?_)
    refine sN 2 2 [(13, .bool ((decide (x1.fKind = (2 : Int)))))] hE fun a hE => ?_
    refine ae ?_
    refine cond_split hE (b := (decide (x1.fKind = (2 : Int)))) rfl (fun hb => ?_) (fun hb => ?_)
    ·replace hf := ct hb hf
     refine wpIn_skip ?_
     have hS := hS.p (.d 2 (.d 1 (.d 0 .n)))
     exact ⟨(decide (x1.fKind = (2 : Int))), D0, hE.wk, hS, lr, hf⟩
    replace hf := cf hb hf
    refine ra ?_
    refine sN 2 2 [(13, .bool ((decide (x1.fKind = (4 : Int)))))] hE fun a hE => ?_
    refine ae ?_
    have hS := hS.p (.d 2 (.d 1 (.d 0 .n)))
    exact ⟨(decide (x1.fKind = (4 : Int))), D0, hE.wk, hS, lr, hf⟩
   clear hE hS
   rintro a w ⟨y3, D3, hE, hS, le1, hf⟩
   replace hf := hj3 _ hf
   clear hj3
   refine cond_split hE (b := y3) rfl (fun hb => ?_) (fun hb => ?_)
   ·replace hf := ct hb hf
    refine wpIn_exit ?_
    exact ⟨v1, none, 0, none, 0, D3, hE.wk, hS, le1, (h1.mono le1), (h2.mono le1), hf⟩
   replace hf := cf hb hf
   refine wpIn_skip ?_
   refine sq (sq (ra ?_))
   refine sN 2 2 [(16, .bool ((decide (x1.fKind = (5 : Int)))))] hE fun a hE => ?_
   refine ae ?_
   refine cond_split hE (b := (decide (x1.fKind = (5 : Int)))) rfl (fun hb => ?_) (fun hb => ?_)
   ·replace hf := ct hb hf
    refine wpIn_exit ?_
    refine sq ?_
    refine region_draw (fun j => Keeps (mfOf [(7, [b1]), (9, [b1]), (11, [b1])] j)) (by kernel_rfl) ?_
    have hS := hS.drew
    first | generalize w.drew = w at hS ⊢ | generalize w0.drew = w at hS ⊢
    refine wF 0 1 11 1 3 1 hE fun a hE => ?_
    refine tL 1 3 10 0 (.int .i64 (x1.fSaga)) hE hS fun a hE => ?_
    refine wF 2 7 9 2 3 2 hE fun a hE => ?_
    refine tN (T := [(7, [b1]), (9, [b1]), (11, [b1])]) [7] 3 15 (fuel := 8) (by kernel_rfl) hE (tk_load 0 (.int .i64 (x1.fSeq)) rfl rfl rfl rfl hE rfl hS rfl rfl (by kernel_rfl) (kL (j := 0) hS rfl (show b2 ∉ [b1] from (nm_cons (hS.ne (i := 0) (j := 2) (by decide) rfl rfl) List.not_mem_nil))) (fun a hE => ?_))
    refine wF 4 31 7 7 3 7 hE fun a hE => ?_
    refine tN (T := [(7, [b1]), (9, [b1]), (11, [b1])]) [7, 9] 5 63 (fuel := 6) (by kernel_rfl) hE (tk_load 0 (.int .i64 (x1.fEnd)) rfl rfl rfl rfl hE rfl hS rfl rfl (by kernel_rfl) (kL (j := 0) hS rfl (show b2 ∉ [b1, b1] from (nm_cons (hS.ne (i := 0) (j := 2) (by decide) rfl rfl) (nm_cons (hS.ne (i := 0) (j := 2) (by decide) rfl rfl) List.not_mem_nil)))) (fun a hE => ?_))
    refine wF 6 127 5 1 3 1 hE fun a hE => ?_
    have hS := hS.p (.d 2 (.d 0 (.d 1 .n)))
    obtain ⟨v15, hv12, hf⟩ := bs hf
    replace hv12 := Option.some.inj hv12
    refine oG 7 255 (fuel := 4) (by kernel_rfl) (op_store (v := .int .i64 (x1.fSaga)) (c_T_api_Rec (v15) none 0 none 0) rfl rfl rfl rfl hE hS rfl rfl (by kernel_rfl) (by kernel_rfl) (by kernel_rfl) (by kernel_rfl) (by rw [← hv12]; kernel_rfl) (fun a w hkp hE hS => ⟨hkp.mono (fun _ h => h), ?_⟩))
    clear hkp
    have h24 : Sl kd_T_api_Step D0 none 0 (v15.fSteps) := by rw [← hv12]; exact h1
    have h25 : Sl (kdInt .u8) D0 none 0 (v15.fData) := by rw [← hv12]; exact h2
    refine wF 8 511 3 2 3 2 hE fun a hE => ?_
    obtain ⟨v16, hv13, hf⟩ := bs hf
    replace hv13 := Option.some.inj hv13
    refine oG 9 1023 (fuel := 2) (by kernel_rfl) (op_store (v := .int .i64 (x1.fSeq)) (c_T_api_Rec (v16) none 0 none 0) rfl rfl rfl rfl hE hS rfl rfl (by kernel_rfl) (by kernel_rfl) (by kernel_rfl) (by kernel_rfl) (by rw [← hv13]; kernel_rfl) (fun a w hkp hE hS => ⟨hkp.mono (fun _ h => h), ?_⟩))
    clear hkp
    have h26 : Sl kd_T_api_Step D0 none 0 (v16.fSteps) := by rw [← hv13]; exact h24
    have h27 : Sl (kdInt .u8) D0 none 0 (v16.fData) := by rw [← hv13]; exact h25
    refine wF 10 2047 1 7 3 7 hE fun a hE => ?_
    obtain ⟨v5, hv14, hf⟩ := bs hf
    replace hv14 := Option.some.inj hv14
    refine oG 11 4095 (fuel := 0) (by kernel_rfl) (op_store (v := .int .i64 (x1.fEnd)) (c_T_api_Rec (v5) none 0 none 0) rfl rfl rfl rfl hE hS rfl rfl (by kernel_rfl) (by kernel_rfl) (by kernel_rfl) (by kernel_rfl) (by rw [← hv14]; kernel_rfl) (fun a w hkp hE hS => ⟨hkp.mono (fun _ h => h), ?_⟩))
    clear hkp
    have h28 : Sl kd_T_api_Step D0 none 0 (v5.fSteps) := by rw [← hv14]; exact h26
    have h29 : Sl (kdInt .u8) D0 none 0 (v5.fData) := by rw [← hv14]; exact h27
    refine doneG (by kernel_rfl) ?_
    refine wpIn_exit ?_
    have hS := hS.p (.d 2 (.d 0 .n))
    exact ⟨v5, none, 0, none, 0, D3, hE.wk, hS, le1, (h28.mono le1), (h29.mono le1), hf⟩
   replace hf := cf hb hf
   refine wpIn_skip ?_
   refine sq (ra ?_)
   refine sN 2 2 [(18, .bool ((decide (x1.fKind = (6 : Int)))))] hE fun a hE => ?_
   refine ae ?_
   refine cond_split hE (b := (decide (x1.fKind = (6 : Int)))) rfl (fun hb => ?_) (fun hb => ?_)
   ·replace hf := ct hb hf
    refine wpIn_exit ?_
    refine sq ?_
    refine region_draw (fun j => Keeps (mfOf [(5, [b1]), (7, [b1])] j)) (by kernel_rfl) ?_
    have hS := hS.drew
    first | generalize w.drew = w at hS ⊢ | generalize w0.drew = w at hS ⊢
    refine wF 0 1 7 8 3 8 hE fun a hE => ?_
    refine tL 1 3 6 0 (.int .i64 (x1.fPart)) hE hS fun a hE => ?_
    refine wF 2 7 5 9 3 9 hE fun a hE => ?_
    refine tN (T := [(5, [b1]), (7, [b1])]) [5] 3 15 (fuel := 4) (by kernel_rfl) hE (tk_load 0 (.int .i64 (x1.fEpoch)) rfl rfl rfl rfl hE rfl hS rfl rfl (by kernel_rfl) (kL (j := 0) hS rfl (show b2 ∉ [b1] from (nm_cons (hS.ne (i := 0) (j := 2) (by decide) rfl rfl) List.not_mem_nil))) (fun a hE => ?_))
    refine wF 4 31 3 8 3 8 hE fun a hE => ?_
    have hS := hS.p (.d 2 (.d 0 (.d 1 .n)))
    obtain ⟨v17, hv15, hf⟩ := bs hf
    replace hv15 := Option.some.inj hv15
    refine oG 5 63 (fuel := 2) (by kernel_rfl) (op_store (v := .int .i64 (x1.fPart)) (c_T_api_Rec (v17) none 0 none 0) rfl rfl rfl rfl hE hS rfl rfl (by kernel_rfl) (by kernel_rfl) (by kernel_rfl) (by kernel_rfl) (by rw [← hv15]; kernel_rfl) (fun a w hkp hE hS => ⟨hkp.mono (fun _ h => h), ?_⟩))
    clear hkp
    have h30 : Sl kd_T_api_Step D0 none 0 (v17.fSteps) := by rw [← hv15]; exact h1
    have h31 : Sl (kdInt .u8) D0 none 0 (v17.fData) := by rw [← hv15]; exact h2
    refine wF 6 127 1 9 3 9 hE fun a hE => ?_
    obtain ⟨v6, hv16, hf⟩ := bs hf
    replace hv16 := Option.some.inj hv16
    refine oG 7 255 (fuel := 0) (by kernel_rfl) (op_store (v := .int .i64 (x1.fEpoch)) (c_T_api_Rec (v6) none 0 none 0) rfl rfl rfl rfl hE hS rfl rfl (by kernel_rfl) (by kernel_rfl) (by kernel_rfl) (by kernel_rfl) (by rw [← hv16]; kernel_rfl) (fun a w hkp hE hS => ⟨hkp.mono (fun _ h => h), ?_⟩))
    clear hkp
    have h32 : Sl kd_T_api_Step D0 none 0 (v6.fSteps) := by rw [← hv16]; exact h30
    have h33 : Sl (kdInt .u8) D0 none 0 (v6.fData) := by rw [← hv16]; exact h31
    refine doneG (by kernel_rfl) ?_
    refine wpIn_exit ?_
    have hS := hS.p (.d 2 (.d 0 .n))
    exact ⟨v6, none, 0, none, 0, D3, hE.wk, hS, le1, (h32.mono le1), (h33.mono le1), hf⟩
   replace hf := cf hb hf
   refine wpIn_skip ?_
   refine wpIn_exit ?_
   have hS := hS.p (.d 1 (.d 2 .n))
   exact ⟨v1, none, 0, none, 0, D3, hE.wk, hS, le1, (h1.mono le1), (h2.mono le1), hf⟩
  clear hE hS
  rintro a w ⟨y2, A1, c1, A3, c2, D2, hE, hS, le2, h34, h35, hf⟩
  replace hf := hj2 _ hf
  clear hj2
  refine sq ?_
  refine region_draw (fun j => Keeps (mfOf [(11, [b1]), (13, [b1]), (15, [b1]), (17, [b1]), (19, [b1])] j)) (by kernel_rfl) ?_
  have hS := hS.drew
  first | generalize w.drew = w at hS ⊢ | generalize w0.drew = w at hS ⊢
  refine wF 0 1 19 1 3 1 hE fun a hE => ?_
  refine tL 1 3 18 0 (.int .i64 (x1.fSaga)) hE hS fun a hE => ?_
  refine wF 2 7 17 2 3 2 hE fun a hE => ?_
  refine tN (T := [(11, [b1]), (13, [b1]), (15, [b1]), (17, [b1]), (19, [b1])]) [11] 3 15 (fuel := 16) (by kernel_rfl) hE (tk_load 0 (.int .i64 (x1.fSeq)) rfl rfl rfl rfl hE rfl hS rfl rfl (by kernel_rfl) (kL (j := 0) hS rfl (show b2 ∉ [b1] from (nm_cons (hS.ne (i := 0) (j := 2) (by decide) rfl rfl) List.not_mem_nil))) (fun a hE => ?_))
  refine wF 4 31 15 3 3 3 hE fun a hE => ?_
  refine tN (T := [(11, [b1]), (13, [b1]), (15, [b1]), (17, [b1]), (19, [b1])]) [11, 13] 5 63 (fuel := 14) (by kernel_rfl) hE (tk_load 0 (.int .i64 (x1.fStep)) rfl rfl rfl rfl hE rfl hS rfl rfl (by kernel_rfl) (kL (j := 0) hS rfl (show b2 ∉ [b1, b1] from (nm_cons (hS.ne (i := 0) (j := 2) (by decide) rfl rfl) (nm_cons (hS.ne (i := 0) (j := 2) (by decide) rfl rfl) List.not_mem_nil)))) (fun a hE => ?_))
  refine wF 6 127 13 4 3 4 hE fun a hE => ?_
  refine tN (T := [(11, [b1]), (13, [b1]), (15, [b1]), (17, [b1]), (19, [b1])]) [11, 13, 15] 7 255 (fuel := 12) (by kernel_rfl) hE (tk_load 0 (.int .i64 (x1.fTry)) rfl rfl rfl rfl hE rfl hS rfl rfl (by kernel_rfl) (kL (j := 0) hS rfl (show b2 ∉ [b1, b1, b1] from (nm_cons (hS.ne (i := 0) (j := 2) (by decide) rfl rfl) (nm_cons (hS.ne (i := 0) (j := 2) (by decide) rfl rfl) (nm_cons (hS.ne (i := 0) (j := 2) (by decide) rfl rfl) List.not_mem_nil))))) (fun a hE => ?_))
  refine wF 8 511 11 5 4 5 hE fun a hE => ?_
  refine tN (T := [(11, [b1]), (13, [b1]), (15, [b1]), (17, [b1]), (19, [b1])]) [11, 13, 15, 17] 9 1023 (fuel := 10) (by kernel_rfl) hE (tk_load 0 (.bool (x1.fBack)) rfl rfl rfl rfl hE rfl hS rfl rfl (by kernel_rfl) (kL (j := 0) hS rfl (show b2 ∉ [b1, b1, b1, b1] from (nm_cons (hS.ne (i := 0) (j := 2) (by decide) rfl rfl) (nm_cons (hS.ne (i := 0) (j := 2) (by decide) rfl rfl) (nm_cons (hS.ne (i := 0) (j := 2) (by decide) rfl rfl) (nm_cons (hS.ne (i := 0) (j := 2) (by decide) rfl rfl) List.not_mem_nil)))))) (fun a hE => ?_))
  refine wF 10 2047 9 1 3 1 hE fun a hE => ?_
  have hS := hS.p (.d 2 (.d 0 (.d 1 .n)))
  obtain ⟨v18, hv17, hf⟩ := bs hf
  replace hv17 := Option.some.inj hv17
  refine oG 11 4095 (fuel := 8) (by kernel_rfl) (op_store (v := .int .i64 (x1.fSaga)) (c_T_api_Rec (v18) A1 c1 A3 c2) rfl rfl rfl rfl hE hS rfl rfl (by kernel_rfl) (by kernel_rfl) (by kernel_rfl) (by kernel_rfl) (by rw [← hv17]; kernel_rfl) (fun a w hkp hE hS => ⟨hkp.mono (fun _ h => h), ?_⟩))
  clear hkp
  have h36 : Sl kd_T_api_Step D2 A1 c1 (v18.fSteps) := by rw [← hv17]; exact h34
  have h37 : Sl (kdInt .u8) D2 A3 c2 (v18.fData) := by rw [← hv17]; exact h35
  refine wF 12 8191 7 2 3 2 hE fun a hE => ?_
  obtain ⟨v19, hv18, hf⟩ := bs hf
  replace hv18 := Option.some.inj hv18
  refine oG 13 16383 (fuel := 6) (by kernel_rfl) (op_store (v := .int .i64 (x1.fSeq)) (c_T_api_Rec (v19) A1 c1 A3 c2) rfl rfl rfl rfl hE hS rfl rfl (by kernel_rfl) (by kernel_rfl) (by kernel_rfl) (by kernel_rfl) (by rw [← hv18]; kernel_rfl) (fun a w hkp hE hS => ⟨hkp.mono (fun _ h => h), ?_⟩))
  clear hkp
  have h38 : Sl kd_T_api_Step D2 A1 c1 (v19.fSteps) := by rw [← hv18]; exact h36
  have h39 : Sl (kdInt .u8) D2 A3 c2 (v19.fData) := by rw [← hv18]; exact h37
  refine wF 14 32767 5 3 3 3 hE fun a hE => ?_
  obtain ⟨v20, hv19, hf⟩ := bs hf
  replace hv19 := Option.some.inj hv19
  refine oG 15 65535 (fuel := 4) (by kernel_rfl) (op_store (v := .int .i64 (x1.fStep)) (c_T_api_Rec (v20) A1 c1 A3 c2) rfl rfl rfl rfl hE hS rfl rfl (by kernel_rfl) (by kernel_rfl) (by kernel_rfl) (by kernel_rfl) (by rw [← hv19]; kernel_rfl) (fun a w hkp hE hS => ⟨hkp.mono (fun _ h => h), ?_⟩))
  clear hkp
  have h40 : Sl kd_T_api_Step D2 A1 c1 (v20.fSteps) := by rw [← hv19]; exact h38
  have h41 : Sl (kdInt .u8) D2 A3 c2 (v20.fData) := by rw [← hv19]; exact h39
  refine wF 16 131071 3 4 3 4 hE fun a hE => ?_
  obtain ⟨v21, hv20, hf⟩ := bs hf
  replace hv20 := Option.some.inj hv20
  refine oG 17 262143 (fuel := 2) (by kernel_rfl) (op_store (v := .int .i64 (x1.fTry)) (c_T_api_Rec (v21) A1 c1 A3 c2) rfl rfl rfl rfl hE hS rfl rfl (by kernel_rfl) (by kernel_rfl) (by kernel_rfl) (by kernel_rfl) (by rw [← hv20]; kernel_rfl) (fun a w hkp hE hS => ⟨hkp.mono (fun _ h => h), ?_⟩))
  clear hkp
  have h42 : Sl kd_T_api_Step D2 A1 c1 (v21.fSteps) := by rw [← hv20]; exact h40
  have h43 : Sl (kdInt .u8) D2 A3 c2 (v21.fData) := by rw [← hv20]; exact h41
  refine wF 18 524287 1 5 4 5 hE fun a hE => ?_
  obtain ⟨v7, hv21, hf⟩ := bs hf
  replace hv21 := Option.some.inj hv21
  refine oG 19 1048575 (fuel := 0) (by kernel_rfl) (op_store (v := .bool (x1.fBack)) (c_T_api_Rec (v7) A1 c1 A3 c2) rfl rfl rfl rfl hE hS rfl rfl (by kernel_rfl) (by kernel_rfl) (by kernel_rfl) (by kernel_rfl) (by rw [← hv21]; kernel_rfl) (fun a w hkp hE hS => ⟨hkp.mono (fun _ h => h), ?_⟩))
  clear hkp
  have h44 : Sl kd_T_api_Step D2 A1 c1 (v7.fSteps) := by rw [← hv21]; exact h42
  have h45 : Sl (kdInt .u8) D2 A3 c2 (v7.fData) := by rw [← hv21]; exact h43
  refine doneG (by kernel_rfl) ?_
  refine wpIn_exit ?_
  have hS := hS.p (.d 2 (.d 0 .n))
  exact ⟨v7, A1, c1, A3, c2, D2, hE.wk, hS, le2, h44, h45, hf⟩
 clear hE hS
 rintro a w ⟨y1, A4, c4, A6, c5, D4, hE, hS, le3, h46, h47, hf⟩
 replace hf := hj1 _ hf
 clear hj1
 refine sq (ra ?_)
 refine sM 1 1 [1] [(82, .agg (List.toArray (c_T_api_Rec (y1) A4 c4 A6 c5)))] hE hS fun a hE => ?_
 refine at_op (op_store (v := .agg (List.toArray (c_T_api_Rec (y1) A4 c4 A6 c5))) (c_T_api_Rec (y1) A4 c4 A6 c5) rfl rfl rfl rfl hE hS rfl rfl (by kernel_rfl) (by kernel_rfl) (by kernel_rfl) (by kernel_rfl) (by kernel_rfl) (fun a w _ hE hS => ?_)) rfl
 refine ae ?_
 refine wpIn_ret ?_
 obtain rfl := si hf
 refine ret_ ?_
 refine ret_gen ([.agg (List.toArray (c_T_api_Rec (y1) A4 c4 A6 c5))]) hE (by rw [show Tryd.f67.results.toList = [.cell 2 39] from rfl]; exact ⟨_, _, _, 0, _, _, rfl, rfl, hS.heapAt (j := 0) rfl, by kernel_rfl, rfl⟩) ?_
 have hS := hS.p .n
 exact ⟨_, rfl, D4, A4, c4, A6, c5, rfl, hS, h46, h47⟩
set_option maxRecDepth 100000 in
theorem slices_Equal_api_Step_api_Step.calls {K : Nat} {g w0 : World} {D0 : Snap} {x1 : (List T_api_Step)} {x5 : (List T_api_Step)} {A2 : Option Addr} {c3 : Nat} {A6 : Option Addr} {c7 : Nat} {r : (Bool)} (hf : slices_Equal_api_Step_api_Step.f K x1 x5 = some r) (hS0 : St g w0 D0 []) (h4 : Sl kd_T_api_Step D0 A2 c3 (x1)) (h8 : Sl kd_T_api_Step D0 A6 c7 (x5)) :
  CallsIn (Fw none) 0 Tryd.prog 57 (List.toArray [.slice A2 (List.length (x1)) c3, .slice A6 (List.length (x5)) c7]) w0 (fun e w' => ∃ v, e = .returned v ∧ ∃ D1, v = .bool (r) ∧ Stp g w0 D0 [] w' D1 []) := by
 unfold slices_Equal_api_Step_api_Step.f at hf
 have hS := Stp.refl hS0
 clear hS0
 refine calls_body (n := 26) Tryd.func57 rfl Tryd.ntmps57 rfl fun a hE => ?_
 have hE : Env a 26 [] [(0, .slice A2 (List.length (x1)) c3), (1, .slice A6 (List.length (x5)) c7)] := hE
 refine sq (ra ?_)
 refine sN 1 1 [(4, .bool false)] hE fun a hE => ?_
 refine ae ?_
 refine sq (sq (ra ?_))
 refine sN 5 5 [(10, .bool ((!decide (((List.length (x1) : Nat) : Int) = ((List.length (x5) : Nat) : Int)))))] hE fun a hE => ?_
 refine ae ?_
 refine cond_split hE (b := (!decide (((List.length (x1) : Nat) : Int) = ((List.length (x5) : Nat) : Int)))) rfl (fun hb => ?_) (fun hb => ?_)
 ·replace hf := ct hb hf
  refine sq (ra ?_)
  refine sN 1 1 [(4, .bool false)] hE fun a hE => ?_
  refine ae ?_
  refine wpIn_ret ?_
  obtain rfl := si hf
  refine ret_ ?_
  refine rT 4 (.bool false) hE ?_
  exact ⟨_, rfl, D0, rfl, hS⟩
 replace hf := cf hb hf
 refine wpIn_skip ?_
 refine sq (sq (ra ?_))
 refine sN 3 3 [(12, .int .i64 (((List.length (x1) : Nat) : Int))), (13, .int .i64 ((0 : Int)))] hE fun a hE => ?_
 refine ae ?_
 obtain ⟨s1, hf, hs1⟩ := bs hf
 refine block_loop (fun a w => ∃ (z1 : Unit), ∃ D3, Env a 26 [] [] ∧ Stp g w0 D0 [] w D3 [] ∧ Snap.le D0 D3 ∧ (Sum.inr z1) = s1) (fun k a w => ∃ (y1 : Int), ∃ D2, Env a 26 [] [(0, .slice A2 (List.length (x1)) c3), (1, .slice A6 (List.length (x5)) c7), (12, .int .i64 (((List.length (x1) : Nat) : Int))), (13, .int .i64 (y1))] ∧ Stp g w0 D0 [] w D2 [] ∧ Snap.le D0 D2 ∧ slices_Equal_api_Step_api_Step_l1.l K x1 x5 k y1 = some s1) K ?_ ?_ ?_
 ·exact ⟨(0 : Int), D0, hE.wk, hS, lr, hf⟩
 ·clear hE hS hf
  rintro a w ⟨z1, D3, hE, hS, le2, rfl⟩
  have hf := hs1
  clear hs1
  refine sq (ra ?_)
  refine sN 1 1 [(4, .bool true)] hE fun a hE => ?_
  refine ae ?_
  refine wpIn_ret ?_
  obtain rfl := si hf
  refine ret_ ?_
  refine rT 4 (.bool true) hE ?_
  exact ⟨_, rfl, D3, rfl, hS⟩
 clear hE hS hf
 rintro k a w ⟨y1, D2, hE, hS, le1, hf⟩
 obtain ⟨k, rfl, hf⟩ := slices_Equal_api_Step_api_Step_l1.some _ _ hf
 refine ⟨k, rfl, ?_⟩
 unfold slices_Equal_api_Step_api_Step_l1.b at hf
 refine sq (ra ?_)
 refine sN 1 1 [(14, .bool ((decide (y1 < ((List.length (x1) : Nat) : Int)))))] hE fun a hE => ?_
 refine ae ?_
 refine sq ?_
 refine cond_split hE (b := (decide (y1 < ((List.length (x1) : Nat) : Int)))) rfl (fun hb => ?_) (fun hb => ?_)
 ·replace hf := ct hb hf
  refine wpIn_skip ?_
  refine sq ?_
  refine wpIn_block ?_
  refine sq (ra ?_)
  refine sN 2 2 [(5, .int .i64 (y1))] hE fun a hE => ?_
  refine ae ?_
  refine sq ?_
  refine region_draw (fun j => Keeps (mfOf [] j)) (by kernel_rfl) ?_
  have hS := hS.drew
  first | generalize w.drew = w at hS ⊢ | generalize w0.drew = w at hS ⊢
  refine wP 0 1 8 (.slice A2 (List.length (x1)) c3) hE fun a hE => ?_
  refine wP 1 3 7 (.int .i64 (y1)) hE fun a hE => ?_
  refine wP 4 19 6 (.slice A6 (List.length (x5)) c7) hE fun a hE => ?_
  refine wP 5 51 5 (.int .i64 (y1)) hE fun a hE => ?_
  obtain ⟨x2, h1, hf⟩ := bs hf
  refine tW 2 55 (fuel := 4) (by kernel_rfl) hE (fun M => g_index (K := kd_T_api_Step) (e := 44) (by_ := 16) (zl := 2) rfl rfl rfl rfl hE rfl rfl rfl (by kernel_rfl) rfl (h4.mono le1) h1 (fun a b1 o1 hE h2 => ?_))
  obtain ⟨cs1, C1, T1, fr1, hr1, hb1, hc1⟩ := id h2
  obtain ⟨rfl⟩ := kd_T_api_Step_el hr1
  refine tT 3 63 (fuel := 3) (by kernel_rfl) hE (tk_loadX (off0 := o1) (off := 0) (c := c_T_api_Step (x2)) (.agg (List.toArray (c_T_api_Step (x2)))) rfl rfl rfl rfl hE rfl hS rfl hb1 hc1 (by kernel_rfl) (by kernel_rfl) (kD hS dn_nil) (fun a hE => ?_))
  obtain ⟨x3, h3, hf⟩ := bs hf
  refine tW 6 127 (fuel := 2) (by kernel_rfl) hE (fun M => g_index (K := kd_T_api_Step) (e := 44) (by_ := 16) (zl := 2) rfl rfl rfl rfl hE rfl rfl rfl (by kernel_rfl) rfl (h8.mono le1) h3 (fun a b2 o2 hE h5 => ?_))
  obtain ⟨cs2, C2, T2, fr2, hr2, hb2, hc2⟩ := id h5
  obtain ⟨rfl⟩ := kd_T_api_Step_el hr2
  refine tT 7 255 (fuel := 1) (by kernel_rfl) hE (tk_loadX (off0 := o2) (off := 0) (c := c_T_api_Step (x3)) (.agg (List.toArray (c_T_api_Step (x3)))) rfl rfl rfl rfl hE rfl hS rfl hb2 hc2 (by kernel_rfl) (by kernel_rfl) (kD hS dn_nil) (fun a hE => ?_))
  refine tW 8 511 (fuel := 0) (by kernel_rfl) hE (fun M => tk_bin (r := .bool ((!((decide (x2.fPart = x3.fPart)) && ((decide (x2.fKind = x3.fKind)) && true))))) rfl rfl rfl rfl hE rfl rfl rfl (neagg_run (by kernel_rfl) (EqR_struct (fs := structFs Tryd.prog 44) (by kernel_rfl) ⟨.int .i64 (x2.fPart), .int .i64 (x3.fPart), (decide (x2.fPart = x3.fPart)), _, by kernel_rfl, by kernel_rfl, by kernel_rfl, (EqR_int (by kernel_rfl)), ⟨.int .i64 (x2.fKind), .int .i64 (x3.fKind), (decide (x2.fKind = x3.fKind)), _, by kernel_rfl, by kernel_rfl, by kernel_rfl, (EqR_int (by kernel_rfl)), rfl, rfl⟩, rfl⟩)) (fun a hE => ?_))
  refine doneG (by kernel_rfl) ?_
  refine cond_split hE (b := (!((decide (x2.fPart = x3.fPart)) && ((decide (x2.fKind = x3.fKind)) && true)))) rfl (fun hb => ?_) (fun hb => ?_)
  ·replace hf := ct hb hf
   refine sq (ra ?_)
   refine sN 1 1 [(4, .bool false)] hE fun a hE => ?_
   refine ae ?_
   refine wpIn_ret ?_
   obtain rfl := si hf
   replace hf := hs1
   obtain rfl := si hf
   refine ret_ ?_
   refine rT 4 (.bool false) hE ?_
   exact ⟨_, rfl, D2, rfl, hS⟩
  replace hf := cf hb hf
  refine wpIn_skip ?_
  refine ra ?_
  refine sN 2 2 [(13, .int .i64 ((IntKind.wrap .i64 (y1 + (1 : Int)))))] hE fun a hE => ?_
  exact ae ⟨(IntKind.wrap .i64 (y1 + (1 : Int))), D2, hE.wk, hS, le1, hf⟩
 replace hf := cf hb hf
 refine wpIn_exit ?_
 obtain rfl := si hf
 exact ⟨(), D2, hE.wk, hS, le1, rfl⟩
set_option maxRecDepth 100000 in
theorem bytes_Equal.calls {K : Nat} {g w0 : World} {D0 : Snap} {x1 : (List Int)} {x5 : (List Int)} {A2 : Option Addr} {c3 : Nat} {A6 : Option Addr} {c7 : Nat} {r : (Bool)} (hf : bytes_Equal.f K x1 x5 = some r) (hS0 : St g w0 D0 []) (h4 : Sl (kdInt .u8) D0 A2 c3 (x1)) (h8 : Sl (kdInt .u8) D0 A6 c7 (x5)) :
  CallsIn (Fw none) 0 Tryd.prog 58 (List.toArray [.slice A2 (List.length (x1)) c3, .slice A6 (List.length (x5)) c7]) w0 (fun e w' => ∃ v, e = .returned v ∧ ∃ D1, v = .bool (r) ∧ Stp g w0 D0 [] w' D1 []) := by
 unfold bytes_Equal.f at hf
 have hS := Stp.refl hS0
 clear hS0
 refine calls_body (n := 10) Tryd.func58 rfl Tryd.ntmps58 rfl fun a hE => ?_
 have hE : Env a 10 [] [(0, .slice A2 (List.length (x1)) c3), (1, .slice A6 (List.length (x5)) c7)] := hE
 refine sq (ra ?_)
 refine sN 1 1 [(4, .bool false)] hE fun a hE => ?_
 refine ae ?_
 refine sq (ra ?_)
 refine sN 1 1 [(5, .slice A2 (List.length (x1)) c3)] hE fun a hE => ?_
 refine at_op (op_tk hE (tk_b2s rfl rfl rfl rfl hE rfl hS rfl (by kernel_rfl) h4 (kD hS dn_nil) (fun a hE => ?_))) rfl
 refine sN 1 3 [(7, .slice A6 (List.length (x5)) c7)] hE fun a hE => ?_
 refine at_op (op_tk hE (tk_b2s rfl rfl rfl rfl hE rfl hS rfl (by kernel_rfl) h8 (kD hS dn_nil) (fun a hE => ?_))) rfl
 refine at_op (op_tk hE (tk_bin (r := .bool ((ByteArray.toList (bofL (x1)) == ByteArray.toList (bofL (x5))))) rfl rfl rfl rfl hE rfl rfl rfl (fun w => bstr_run _ _ w _ rfl (by decide)) (fun a hE => ?_))) rfl
 refine sN 1 6 [(4, .bool ((ByteArray.toList (bofL (x1)) == ByteArray.toList (bofL (x5)))))] hE fun a hE => ?_
 refine ae ?_
 refine wpIn_ret ?_
 obtain rfl := si hf
 refine ret_ ?_
 refine rT 4 (.bool ((ByteArray.toList (bofL (x1)) == ByteArray.toList (bofL (x5))))) hE ?_
 exact ⟨_, rfl, D0, rfl, hS⟩
set_option maxRecDepth 100000 in
theorem rec_head.calls {K : Nat} {g w0 : World} {D0 : Snap} {x1 : T_api_Rec} {A2 : Option Addr} {c3 : Nat} {A5 : Option Addr} {c6 : Nat} {r : (T_rec_plain)} (hf : rec_head.f K x1 = some r) (hS0 : St g w0 D0 []) (h4 : Sl kd_T_api_Step D0 A2 c3 (x1.fSteps)) (h7 : Sl (kdInt .u8) D0 A5 c6 (x1.fData)) :
  CallsIn (Fw none) 0 Tryd.prog 59 (List.toArray [.agg (List.toArray (c_T_api_Rec (x1) A2 c3 A5 c6))]) w0 (fun e w' => ∃ v, e = .returned v ∧ ∃ D1, v = .agg (List.toArray (c_T_rec_plain ((T_rec_plain.mk (r.fKind) (r.fSaga) (r.fSeq) (r.fStep) (r.fTry) (r.fBack) (r.fGood) (r.fGone) (r.fEnd) (r.fPart) (r.fEpoch))))) ∧ Stp g w0 D0 [] w' D1 []) := by
 unfold rec_head.f at hf
 have hS := Stp.refl hS0
 clear hS0
 refine calls_body (n := 26) Tryd.func59 rfl Tryd.ntmps59 rfl fun a hE => ?_
 have hE : Env a 26 [] [(0, .agg (List.toArray (c_T_api_Rec (x1) A2 c3 A5 c6)))] := hE
 refine sq (ra ?_)
 refine at_op (op_box rfl rfl rfl rfl hE rfl hS rfl (fun a b14 w _ hE hS => ?_)) rfl
 refine at_op (op_alloc (z := .agg (List.toArray (c_T_rec_plain (z_T_rec_plain)))) rfl rfl rfl rfl hE rfl hS (by kernel_rfl) (fun a b16 w _ hE hS => ?_)) rfl
 refine ae ?_
 refine sq (ra ?_)
 refine sM 22 22 [1, 1, 1, 1, 1, 1, 1, 1, 1, 1, 1] [(4, .int .i64 (x1.fKind)), (6, .int .i64 (x1.fSaga)), (8, .int .i64 (x1.fSeq)), (10, .int .i64 (x1.fStep)), (12, .int .i64 (x1.fTry)), (14, .bool (x1.fBack)), (16, .bool (x1.fGood)), (18, .bool (x1.fGone)), (20, .int .i64 (x1.fEnd)), (22, .int .i64 (x1.fPart)), (24, .int .i64 (x1.fEpoch))] hE hS fun a hE => ?_
 refine at_op (op_tk hE (tk_build (c_T_rec_plain ((T_rec_plain.mk (x1.fKind) (x1.fSaga) (x1.fSeq) (x1.fStep) (x1.fTry) (x1.fBack) (x1.fGood) (x1.fGone) (x1.fEnd) (x1.fPart) (x1.fEpoch)))) rfl rfl rfl rfl hE rfl rfl (by kernel_rfl) (fun a hE => ?_))) rfl
 obtain ⟨v18, hv19, hf⟩ := bs hf
 replace hv19 := Option.some.inj hv19
 refine at_op (op_store (v := .agg (List.toArray (c_T_rec_plain ((T_rec_plain.mk (x1.fKind) (x1.fSaga) (x1.fSeq) (x1.fStep) (x1.fTry) (x1.fBack) (x1.fGood) (x1.fGone) (x1.fEnd) (x1.fPart) (x1.fEpoch)))))) (c_T_rec_plain (v18)) rfl rfl rfl rfl hE hS rfl rfl (by kernel_rfl) (by kernel_rfl) (by kernel_rfl) (by kernel_rfl) (by rw [← hv19]; kernel_rfl) (fun a w _ hE hS => ?_)) rfl
 refine ae ?_
 refine wpIn_ret ?_
 obtain rfl := si hf
 refine ret_ ?_
 refine ret_gen ([.agg (List.toArray (c_T_rec_plain (v18)))]) hE (by rw [show Tryd.f59.results.toList = [.cell 2 97] from rfl]; exact ⟨_, _, _, 0, _, _, rfl, rfl, hS.heapAt (j := 0) rfl, by kernel_rfl, rfl⟩) ?_
 have hS := hS.p .n
 exact ⟨_, rfl, D0, rfl, hS⟩
set_option maxRecDepth 100000 in
theorem rec_Same.calls {K : Nat} {g w0 : World} {D0 : Snap} {x1 : T_api_Rec} {x8 : T_api_Rec} {A2 : Option Addr} {c3 : Nat} {A5 : Option Addr} {c6 : Nat} {A9 : Option Addr} {c10 : Nat} {A12 : Option Addr} {c13 : Nat} {r : (Bool)} (hf : rec_Same.f K x1 x8 = some r) (hS0 : St g w0 D0 []) (h4 : Sl kd_T_api_Step D0 A2 c3 (x1.fSteps)) (h7 : Sl (kdInt .u8) D0 A5 c6 (x1.fData)) (h11 : Sl kd_T_api_Step D0 A9 c10 (x8.fSteps)) (h14 : Sl (kdInt .u8) D0 A12 c13 (x8.fData)) :
  CallsIn (Fw none) 0 Tryd.prog 26 (List.toArray [.agg (List.toArray (c_T_api_Rec (x1) A2 c3 A5 c6)), .agg (List.toArray (c_T_api_Rec (x8) A9 c10 A12 c13))]) w0 (fun e w' => ∃ v, e = .returned v ∧ ∃ D1, v = .bool (r) ∧ Stp g w0 D0 [] w' D1 []) := by
 unfold rec_Same.f at hf
 have hS := Stp.refl hS0
 clear hS0
 refine calls_body (n := 45) Tryd.func26 rfl Tryd.ntmps26 rfl fun a hE => ?_
 have hE : Env a 45 [] [(0, .agg (List.toArray (c_T_api_Rec (x1) A2 c3 A5 c6))), (1, .agg (List.toArray (c_T_api_Rec (x8) A9 c10 A12 c13)))] := hE
 refine sq (ra ?_)
 refine at_op (op_box rfl rfl rfl rfl hE rfl hS rfl (fun a b1 w _ hE hS => ?_)) rfl
 refine at_op (op_box rfl rfl rfl rfl hE rfl hS rfl (fun a b2 w _ hE hS => ?_)) rfl
 refine sN 1 3 [(4, .bool false)] hE fun a hE => ?_
 refine ae ?_
 refine sq ?_
 obtain ⟨j1, hj1, hf⟩ := jn_elim hf
 refine seq_join (fun a w => ∃ (y1 : Bool), ∃ D2, Env a 45 [] [(2, .pointer (some ⟨b1, 0, none⟩)), (3, .pointer (some ⟨b2, 0, none⟩)), (18, .bool (y1))] ∧ Stp g w0 D0 [] w D2 [bx b1 39 (c_T_api_Rec (x1) A2 c3 A5 c6), bx b2 39 (c_T_api_Rec (x8) A9 c10 A12 c13)] ∧ Snap.le D0 D2 ∧ j1 y1 = some r) ?_ ?_
 ·clear hj1
  refine ra ?_
  refine sM 4 4 [1, 0] [(6, .slice A2 (List.length (x1.fSteps)) c3), (8, .slice A9 (List.length (x8.fSteps)) c10)] hE hS fun a hE => ?_
  obtain ⟨r3, h1, hf⟩ := bs hf
  refine aC rfl rfl rfl rfl hE rfl rfl rfl rfl (slices_Equal_api_Step_api_Step.calls h1 (hS.st.fore (L := [])) h4 h11) fun a v w hR hE => ?_
  obtain ⟨D5, rfl, hS1⟩ := hR
  have le3 := hS1.dle
  have hS := hS.callR hS1 rfl .n
  refine sN 2 7 [(11, .bool ((!r3)))] hE fun a hE => ?_
  refine bo ((!r3)) (fun hb => ?_) fun hb => ?_
  ·replace hf := cf hb hf
   have hE := hE.know (t := 11) rfl hb
   refine sM 4 11 [1, 0] [(13, .slice A5 (List.length (x1.fData)) c6), (15, .slice A12 (List.length (x8.fData)) c13)] hE hS fun a hE => ?_
   obtain ⟨r4, h2, hf⟩ := bs hf
   refine aC rfl rfl rfl rfl hE rfl rfl rfl rfl (bytes_Equal.calls h2 (hS.st.fore (L := [])) (h7.mono le3) (h14.mono le3)) fun a v w hR hE => ?_
   obtain ⟨D6, rfl, hS1⟩ := hR
   have le6 := hS1.dle
   have hS := hS.callR hS1 rfl .n
   refine sN 2 14 [(18, .bool ((!r4)))] hE fun a hE => ?_
   refine ae ?_
   have hS := hS.p (.d 1 (.d 0 .n))
   exact ⟨(!r4), D6, hE.wk, hS, (le2 le3 le6), hf⟩
  replace hf := ct hb hf
  have hE := hE.know (t := 11) rfl hb
  refine sN 7 14 [(18, .bool true)] hE fun a hE => ?_
  refine ae ?_
  have hS := hS.p (.d 1 (.d 0 .n))
  exact ⟨true, D5, hE.wk, hS, le3, hf⟩
 clear hE hS
 rintro a w ⟨y1, D2, hE, hS, le4, hf⟩
 replace hf := hj1 _ hf
 clear hj1
 refine cond_split hE (b := y1) rfl (fun hb => ?_) (fun hb => ?_)
 ·replace hf := ct hb hf
  refine sq (ra ?_)
  refine sN 1 1 [(4, .bool false)] hE fun a hE => ?_
  refine ae ?_
  refine wpIn_ret ?_
  obtain rfl := si hf
  refine ret_ ?_
  refine rT 4 (.bool false) hE ?_
  have hS := hS.p .n
  exact ⟨_, rfl, D2, rfl, hS⟩
 replace hf := cf hb hf
 refine wpIn_skip ?_
 obtain ⟨j2, hj2, hf⟩ := jn_elim hf
 refine seq_join (fun a w => ∃ (y2 : Bool), ∃ D3, Env a 45 [] [(4, .bool (y2))] ∧ Stp g w0 D0 [] w D3 [] ∧ Snap.le D2 D3 ∧ j2 y2 = some r) ?_ ?_
 ·clear hj2
  refine region_draw (fun j => Keeps (mfOf [] j)) (by kernel_rfl) ?_
  have hS := hS.drew
  first | generalize w.drew = w at hS ⊢ | generalize w0.drew = w at hS ⊢
  refine tL 0 1 26 0 (.agg (List.toArray (c_T_api_Rec (x1) A2 c3 A5 c6))) hE hS fun a hE => ?_
  refine tL 2 5 25 1 (.agg (List.toArray (c_T_api_Rec (x8) A9 c10 A12 c13))) hE hS fun a hE => ?_
  obtain ⟨r1, h3, hf⟩ := bs hf
  refine oC 1 7 24 rfl rfl rfl rfl hE rfl rfl rfl rfl (rec_head.calls h3 (hS.st.fore (L := [])) (h4.mono le4) (h7.mono le4)) fun a v w hR hE => ?_
  obtain ⟨D7, rfl, hS1⟩ := hR
  refine ⟨(hS1.keeps.sub (M' := []) trivial).mono (fun _ h => h), ?_⟩
  have le1 := hS1.dle
  have hS := hS.callR hS1 rfl .n
  obtain ⟨r2, h5, hf⟩ := bs hf
  refine oC 3 15 23 rfl rfl rfl rfl hE rfl rfl rfl rfl (rec_head.calls h5 (hS.st.fore (L := [])) (h11.mono (le2 le4 le1)) (h14.mono (le2 le4 le1))) fun a v w hR hE => ?_
  obtain ⟨D4, rfl, hS1⟩ := hR
  refine ⟨(hS1.keeps.sub (M' := []) trivial).mono (fun _ h => h), ?_⟩
  have le5 := hS1.dle
  have hS := hS.callR hS1 rfl .n
  refine tW 4 31 (fuel := 22) (by kernel_rfl) hE (fun M => tk_bin (r := .bool (((decide (r1.fKind = r2.fKind)) && ((decide (r1.fSaga = r2.fSaga)) && ((decide (r1.fSeq = r2.fSeq)) && ((decide (r1.fStep = r2.fStep)) && ((decide (r1.fTry = r2.fTry)) && ((r1.fBack == r2.fBack) && ((r1.fGood == r2.fGood) && ((r1.fGone == r2.fGone) && ((decide (r1.fEnd = r2.fEnd)) && ((decide (r1.fPart = r2.fPart)) && ((decide (r1.fEpoch = r2.fEpoch)) && true))))))))))))) rfl rfl rfl rfl hE rfl rfl rfl (eqagg_run (by kernel_rfl) (EqR_struct (fs := structFs Tryd.prog 97) (by kernel_rfl) ⟨.int .i64 (r1.fKind), .int .i64 (r2.fKind), (decide (r1.fKind = r2.fKind)), _, by kernel_rfl, by kernel_rfl, by kernel_rfl, (EqR_int (by kernel_rfl)), ⟨.int .i64 (r1.fSaga), .int .i64 (r2.fSaga), (decide (r1.fSaga = r2.fSaga)), _, by kernel_rfl, by kernel_rfl, by kernel_rfl, (EqR_int (by kernel_rfl)), ⟨.int .i64 (r1.fSeq), .int .i64 (r2.fSeq), (decide (r1.fSeq = r2.fSeq)), _, by kernel_rfl, by kernel_rfl, by kernel_rfl, (EqR_int (by kernel_rfl)), ⟨.int .i64 (r1.fStep), .int .i64 (r2.fStep), (decide (r1.fStep = r2.fStep)), _, by kernel_rfl, by kernel_rfl, by kernel_rfl, (EqR_int (by kernel_rfl)), ⟨.int .i64 (r1.fTry), .int .i64 (r2.fTry), (decide (r1.fTry = r2.fTry)), _, by kernel_rfl, by kernel_rfl, by kernel_rfl, (EqR_int (by kernel_rfl)), ⟨.bool (r1.fBack), .bool (r2.fBack), (r1.fBack == r2.fBack), _, by kernel_rfl, by kernel_rfl, by kernel_rfl, (EqR_bool (by kernel_rfl)), ⟨.bool (r1.fGood), .bool (r2.fGood), (r1.fGood == r2.fGood), _, by kernel_rfl, by kernel_rfl, by kernel_rfl, (EqR_bool (by kernel_rfl)), ⟨.bool (r1.fGone), .bool (r2.fGone), (r1.fGone == r2.fGone), _, by kernel_rfl, by kernel_rfl, by kernel_rfl, (EqR_bool (by kernel_rfl)), ⟨.int .i64 (r1.fEnd), .int .i64 (r2.fEnd), (decide (r1.fEnd = r2.fEnd)), _, by kernel_rfl, by kernel_rfl, by kernel_rfl, (EqR_int (by kernel_rfl)), ⟨.int .i64 (r1.fPart), .int .i64 (r2.fPart), (decide (r1.fPart = r2.fPart)), _, by kernel_rfl, by kernel_rfl, by kernel_rfl, (EqR_int (by kernel_rfl)), ⟨.int .i64 (r1.fEpoch), .int .i64 (r2.fEpoch), (decide (r1.fEpoch = r2.fEpoch)), _, by kernel_rfl, by kernel_rfl, by kernel_rfl, (EqR_int (by kernel_rfl)), rfl, rfl⟩, rfl⟩, rfl⟩, rfl⟩, rfl⟩, rfl⟩, rfl⟩, rfl⟩, rfl⟩, rfl⟩, rfl⟩)) (fun a hE => ?_))
  refine wP 5 63 21 (.bool (((decide (r1.fKind = r2.fKind)) && ((decide (r1.fSaga = r2.fSaga)) && ((decide (r1.fSeq = r2.fSeq)) && ((decide (r1.fStep = r2.fStep)) && ((decide (r1.fTry = r2.fTry)) && ((r1.fBack == r2.fBack) && ((r1.fGood == r2.fGood) && ((r1.fGone == r2.fGone) && ((decide (r1.fEnd = r2.fEnd)) && ((decide (r1.fPart = r2.fPart)) && ((decide (r1.fEpoch = r2.fEpoch)) && true))))))))))))) hE fun a hE => ?_
  refine bo (((decide (r1.fKind = r2.fKind)) && ((decide (r1.fSaga = r2.fSaga)) && ((decide (r1.fSeq = r2.fSeq)) && ((decide (r1.fStep = r2.fStep)) && ((decide (r1.fTry = r2.fTry)) && ((r1.fBack == r2.fBack) && ((r1.fGood == r2.fGood) && ((r1.fGone == r2.fGone) && ((decide (r1.fEnd = r2.fEnd)) && ((decide (r1.fPart = r2.fPart)) && ((decide (r1.fEpoch = r2.fEpoch)) && true)))))))))))) (fun hb => ?_) fun hb => ?_
  ·replace hf := cf hb hf
   have hE := hE.know (t := 24) rfl hb
   refine wS 6 127 20 hE fun a hE => ?_
   refine wS 7 255 19 hE fun a hE => ?_
   refine wS 8 511 18 hE fun a hE => ?_
   refine wS 9 1023 17 hE fun a hE => ?_
   refine wS 10 2047 16 hE fun a hE => ?_
   refine wP 11 4095 15 (.bool false) hE fun a hE => ?_
   refine wP 12 8191 14 (.bool false) hE fun a hE => ?_
   refine wS 13 16383 13 hE fun a hE => ?_
   refine wS 14 32767 12 hE fun a hE => ?_
   refine wS 15 65535 11 hE fun a hE => ?_
   refine wS 16 131071 10 hE fun a hE => ?_
   refine wS 17 262143 9 hE fun a hE => ?_
   refine wP 18 524287 8 (.bool false) hE fun a hE => ?_
   refine wP 19 1048575 7 (.bool false) hE fun a hE => ?_
   refine wS 20 2097151 6 hE fun a hE => ?_
   refine wS 21 4194303 5 hE fun a hE => ?_
   refine wS 22 8388607 4 hE fun a hE => ?_
   refine wS 23 16777215 3 hE fun a hE => ?_
   refine wS 24 33554431 2 hE fun a hE => ?_
   refine wP 25 67108863 1 (.bool false) hE fun a hE => ?_
   refine wP 26 134217727 0 (.bool false) hE fun a hE => ?_
   refine doneG (by kernel_rfl) ?_
   have hS := hS.p .n
   exact ⟨false, D4, hE.wk, hS, (le2 le1 le5), hf⟩
  replace hf := ct hb hf
  have hE := hE.know (t := 24) rfl hb
  refine wF 6 127 20 10 24 10 hE fun a hE => ?_
  refine tL 7 255 19 0 (.agg (List.toArray (acells .u8 32 (x1.fTag)))) hE hS fun a hE => ?_
  refine wF 8 511 18 10 24 10 hE fun a hE => ?_
  refine tL 9 1023 17 1 (.agg (List.toArray (acells .u8 32 (x8.fTag)))) hE hS fun a hE => ?_
  refine tW 10 2047 (fuel := 16) (by kernel_rfl) hE (fun M => tk_bin (r := .bool ((decide (x1.fTag = x8.fTag)))) rfl rfl rfl rfl hE rfl rfl rfl (eqagg_run (by kernel_rfl) (EqR_arr (k := .u8) (N := 32) (by kernel_rfl))) (fun a hE => ?_))
  refine wP 11 4095 15 (.bool ((decide (x1.fTag = x8.fTag)))) hE fun a hE => ?_
  refine wP 12 8191 14 (.bool ((decide (x1.fTag = x8.fTag)))) hE fun a hE => ?_
  refine bo ((decide (x1.fTag = x8.fTag))) (fun hb => ?_) fun hb => ?_
  ·replace hf := cf hb hf
   have hE := hE.know (t := 31) rfl hb
   refine wS 13 16383 13 hE fun a hE => ?_
   refine wS 14 32767 12 hE fun a hE => ?_
   refine wS 15 65535 11 hE fun a hE => ?_
   refine wS 16 131071 10 hE fun a hE => ?_
   refine wS 17 262143 9 hE fun a hE => ?_
   refine wP 18 524287 8 (.bool false) hE fun a hE => ?_
   refine wP 19 1048575 7 (.bool false) hE fun a hE => ?_
   refine wS 20 2097151 6 hE fun a hE => ?_
   refine wS 21 4194303 5 hE fun a hE => ?_
   refine wS 22 8388607 4 hE fun a hE => ?_
   refine wS 23 16777215 3 hE fun a hE => ?_
   refine wS 24 33554431 2 hE fun a hE => ?_
   refine wP 25 67108863 1 (.bool false) hE fun a hE => ?_
   refine wP 26 134217727 0 (.bool false) hE fun a hE => ?_
   refine doneG (by kernel_rfl) ?_
   have hS := hS.p .n
   exact ⟨false, D4, hE.wk, hS, (le2 le1 le5), hf⟩
  replace hf := ct hb hf
  have hE := hE.know (t := 31) rfl hb
  refine wF 13 16383 13 44 24 44 hE fun a hE => ?_
  refine tL 14 32767 12 0 (.agg (List.toArray (acells .u8 32 (x1.fSalt)))) hE hS fun a hE => ?_
  refine wF 15 65535 11 44 24 44 hE fun a hE => ?_
  refine tL 16 131071 10 1 (.agg (List.toArray (acells .u8 32 (x8.fSalt)))) hE hS fun a hE => ?_
  refine tW 17 262143 (fuel := 9) (by kernel_rfl) hE (fun M => tk_bin (r := .bool ((decide (x1.fSalt = x8.fSalt)))) rfl rfl rfl rfl hE rfl rfl rfl (eqagg_run (by kernel_rfl) (EqR_arr (k := .u8) (N := 32) (by kernel_rfl))) (fun a hE => ?_))
  refine wP 18 524287 8 (.bool ((decide (x1.fSalt = x8.fSalt)))) hE fun a hE => ?_
  refine wP 19 1048575 7 (.bool ((decide (x1.fSalt = x8.fSalt)))) hE fun a hE => ?_
  refine bo ((decide (x1.fSalt = x8.fSalt))) (fun hb => ?_) fun hb => ?_
  ·replace hf := cf hb hf
   have hE := hE.know (t := 38) rfl hb
   refine wS 20 2097151 6 hE fun a hE => ?_
   refine wS 21 4194303 5 hE fun a hE => ?_
   refine wS 22 8388607 4 hE fun a hE => ?_
   refine wS 23 16777215 3 hE fun a hE => ?_
   refine wS 24 33554431 2 hE fun a hE => ?_
   refine wP 25 67108863 1 (.bool false) hE fun a hE => ?_
   refine wP 26 134217727 0 (.bool false) hE fun a hE => ?_
   refine doneG (by kernel_rfl) ?_
   have hS := hS.p .n
   exact ⟨false, D4, hE.wk, hS, (le2 le1 le5), hf⟩
  replace hf := ct hb hf
  have hE := hE.know (t := 38) rfl hb
  refine wF 20 2097151 6 77 24 77 hE fun a hE => ?_
  refine tL 21 4194303 5 0 (.agg (List.toArray (acells .u8 32 (x1.fCom)))) hE hS fun a hE => ?_
  refine wF 22 8388607 4 77 24 77 hE fun a hE => ?_
  refine tL 23 16777215 3 1 (.agg (List.toArray (acells .u8 32 (x8.fCom)))) hE hS fun a hE => ?_
  refine tW 24 33554431 (fuel := 2) (by kernel_rfl) hE (fun M => tk_bin (r := .bool ((decide (x1.fCom = x8.fCom)))) rfl rfl rfl rfl hE rfl rfl rfl (eqagg_run (by kernel_rfl) (EqR_arr (k := .u8) (N := 32) (by kernel_rfl))) (fun a hE => ?_))
  refine wP 25 67108863 1 (.bool ((decide (x1.fCom = x8.fCom)))) hE fun a hE => ?_
  refine wP 26 134217727 0 (.bool ((decide (x1.fCom = x8.fCom)))) hE fun a hE => ?_
  refine doneG (by kernel_rfl) ?_
  have hS := hS.p .n
  exact ⟨(decide (x1.fCom = x8.fCom)), D4, hE.wk, hS, (le2 le1 le5), hf⟩
 clear hE hS
 rintro a w ⟨y2, D3, hE, hS, le7, hf⟩
 replace hf := hj2 _ hf
 clear hj2
 refine wpIn_ret ?_
 obtain rfl := si hf
 refine ret_ ?_
 refine rT 4 (.bool (y2)) hE ?_
 exact ⟨_, rfl, D3, rfl, hS⟩
set_option maxRecDepth 100000 in
theorem rec_Right.calls {K : Nat} {g w0 : World} {D0 : Snap} {x1 : T_api_Rec} {A2 : Option Addr} {c3 : Nat} {A5 : Option Addr} {c6 : Nat} {r : (Bool)} (hf : rec_Right.f K x1 = some r) (hS0 : St g w0 D0 []) (h4 : Sl kd_T_api_Step D0 A2 c3 (x1.fSteps)) (h7 : Sl (kdInt .u8) D0 A5 c6 (x1.fData)) :
  CallsIn (Fw none) 0 Tryd.prog 36 (List.toArray [.agg (List.toArray (c_T_api_Rec (x1) A2 c3 A5 c6))]) w0 (fun e w' => ∃ v, e = .returned v ∧ ∃ D1, v = .bool (r) ∧ Stp g w0 D0 [] w' D1 []) := by
 unfold rec_Right.f at hf
 have hS := Stp.refl hS0
 clear hS0
 refine calls_body (n := 11) Tryd.func36 rfl Tryd.ntmps36 rfl fun a hE => ?_
 have hE : Env a 11 [] [(0, .agg (List.toArray (c_T_api_Rec (x1) A2 c3 A5 c6)))] := hE
 refine sq (ra ?_)
 refine at_op (op_box rfl rfl rfl rfl hE rfl hS rfl (fun a b94 w _ hE hS => ?_)) rfl
 refine sN 1 2 [(2, .bool false)] hE fun a hE => ?_
 refine ae ?_
 refine sq ?_
 refine region_draw (fun j => Keeps (mfOf [] j)) (by kernel_rfl) ?_
 have hS := hS.drew
 first | generalize w.drew = w at hS ⊢ | generalize w0.drew = w at hS ⊢
 refine tL 0 1 8 0 (.agg (List.toArray (c_T_api_Rec (x1) A2 c3 A5 c6))) hE hS fun a hE => ?_
 obtain ⟨r2, h1, hf⟩ := bs hf
 refine oC 1 3 7 rfl rfl rfl rfl hE rfl rfl rfl rfl (rec_ranges.calls h1 (hS.st.fore (L := [])) h4 h7) fun a v w hR hE => ?_
 obtain ⟨D2, rfl, hS1⟩ := hR
 refine ⟨(hS1.keeps.sub (M' := []) trivial).mono (fun _ h => h), ?_⟩
 have le1 := hS1.dle
 have hS := hS.callR hS1 rfl .n
 refine wP 2 7 6 (.bool (r2)) hE fun a hE => ?_
 refine bo (r2) (fun hb => ?_) fun hb => ?_
 ·replace hf := cf hb hf
  have hE := hE.know (t := 5) rfl hb
  refine wS 3 15 5 hE fun a hE => ?_
  refine wS 4 31 4 hE fun a hE => ?_
  refine wS 5 63 3 hE fun a hE => ?_
  refine wS 6 127 2 hE fun a hE => ?_
  refine wP 7 255 1 (.bool false) hE fun a hE => ?_
  refine wP 8 511 0 (.bool false) hE fun a hE => ?_
  refine doneG (by kernel_rfl) ?_
  refine wpIn_ret ?_
  obtain rfl := si hf
  refine ret_ ?_
  refine rT 2 (.bool false) hE ?_
  have hS := hS.p .n
  exact ⟨_, rfl, D2, rfl, hS⟩
 replace hf := ct hb hf
 have hE := hE.know (t := 5) rfl hb
 refine tL 3 15 5 0 (.agg (List.toArray (c_T_api_Rec (x1) A2 c3 A5 c6))) hE hS fun a hE => ?_
 refine tL 4 31 4 0 (.agg (List.toArray (c_T_api_Rec (x1) A2 c3 A5 c6))) hE hS fun a hE => ?_
 obtain ⟨r3, h2, hf⟩ := bs hf
 refine oC 5 63 3 rfl rfl rfl rfl hE rfl rfl rfl rfl (rec_kept.calls h2 (hS.st.fore (L := [])) (h4.mono le1) (h7.mono le1)) fun a v w hR hE => ?_
 obtain ⟨D4, A1, c1, A3, c2, rfl, hS1, h3, h5⟩ := hR
 refine ⟨(hS1.keeps.sub (M' := []) trivial).mono (fun _ h => h), ?_⟩
 have le3 := hS1.dle
 have hS := hS.callR hS1 rfl .n
 obtain ⟨r1, h6, hf⟩ := bs hf
 refine oC 6 127 2 rfl rfl rfl rfl hE rfl rfl rfl rfl (rec_Same.calls h6 (hS.st.fore (L := [])) (h4.mono (le2 le1 le3)) (h7.mono (le2 le1 le3)) h3 h5) fun a v w hR hE => ?_
 obtain ⟨D3, rfl, hS1⟩ := hR
 refine ⟨(hS1.keeps.sub (M' := []) trivial).mono (fun _ h => h), ?_⟩
 have le4 := hS1.dle
 have hS := hS.callR hS1 rfl .n
 refine wP 7 255 1 (.bool (r1)) hE fun a hE => ?_
 refine wP 8 511 0 (.bool (r1)) hE fun a hE => ?_
 refine doneG (by kernel_rfl) ?_
 refine wpIn_ret ?_
 obtain rfl := si hf
 refine ret_ ?_
 refine rT 2 (.bool (r1)) hE ?_
 have hS := hS.p .n
 exact ⟨_, rfl, D3, rfl, hS⟩
set_option maxRecDepth 100000 in
theorem export_right_1.calls {K : Nat} {g w0 : World} {D0 : Snap} {x1 : T_api_Rec} {A2 : Option Addr} {c3 : Nat} {A5 : Option Addr} {c6 : Nat} {r : (Bool)} (hf : export_right_1.f K x1 = some r) (hS0 : St g w0 D0 []) (h4 : Sl kd_T_api_Step D0 A2 c3 (x1.fSteps)) (h7 : Sl (kdInt .u8) D0 A5 c6 (x1.fData)) :
  CallsIn (Fw none) 0 Tryd.prog 78 (List.toArray [.agg (List.toArray (c_T_api_Rec (x1) A2 c3 A5 c6))]) w0 (fun e w' => ∃ v, e = .returned v ∧ ∃ D1, v = .bool (r) ∧ Stp g w0 D0 [] w' D1 []) := by
 unfold export_right_1.f at hf
 have hS := Stp.refl hS0
 clear hS0
 refine calls_body (n := 6) Tryd.func78 rfl Tryd.ntmps78 rfl fun a hE => ?_
 have hE : Env a 6 [] [(0, .agg (List.toArray (c_T_api_Rec (x1) A2 c3 A5 c6)))] := hE
 refine sq (ra ?_)
 refine at_op (op_box rfl rfl rfl rfl hE rfl hS rfl (fun a b15 w _ hE hS => ?_)) rfl
 refine sN 1 2 [(2, .bool false)] hE fun a hE => ?_
 refine ae ?_
 refine sq (ra ?_)
 refine sM 1 1 [0] [(3, .agg (List.toArray (c_T_api_Rec (x1) A2 c3 A5 c6)))] hE hS fun a hE => ?_
 obtain ⟨r17, h18, hf⟩ := bs hf
 refine aC rfl rfl rfl rfl hE rfl rfl rfl rfl (rec_Right.calls h18 (hS.st.fore (L := [])) h4 h7) fun a v w hR hE => ?_
 obtain ⟨D19, rfl, hS1⟩ := hR
 have le21 := hS1.dle
 have hS := hS.callR hS1 rfl .n
 refine sN 2 4 [(2, .bool ((!r17)))] hE fun a hE => ?_
 refine ae ?_
 refine wpIn_ret ?_
 obtain rfl := si hf
 refine ret_ ?_
 refine rT 2 (.bool ((!r17))) hE ?_
 have hS := hS.p .n
 exact ⟨_, rfl, D19, rfl, hS⟩
set_option maxRecDepth 100000 in
theorem slices_IndexFunc_api_Rec_api_Rec.calls {K : Nat} {g w0 : World} {D0 : Snap} {x1 : (List T_api_Rec)} {A2 : Option Addr} {c3 : Nat} {r : (Int)} (hf : slices_IndexFunc_api_Rec_api_Rec.f K x1 = some r) (hS0 : St g w0 D0 []) (h4 : Sl kd_T_api_Rec D0 A2 c3 (x1)) :
  CallsIn (Fw none) 0 Tryd.prog 96 (List.toArray [.slice A2 (List.length (x1)) c3, .func (.func 78) #[] #[]]) w0 (fun e w' => ∃ v, e = .returned v ∧ ∃ D1, v = .int .i64 (r) ∧ Stp g w0 D0 [] w' D1 []) := by
 unfold slices_IndexFunc_api_Rec_api_Rec.f at hf
 have hS := Stp.refl hS0
 clear hS0
 refine calls_body (n := 19) Tryd.func96 rfl Tryd.ntmps96 rfl fun a hE => ?_
 have hE : Env a 19 [] [(0, .slice A2 (List.length (x1)) c3), (1, .func (.func 78) #[] #[])] := hE
 refine sq (ra ?_)
 refine sN 1 1 [(4, .int .i64 ((0 : Int)))] hE fun a hE => ?_
 refine ae ?_
 refine sq (sq (ra ?_))
 refine sN 3 3 [(7, .int .i64 (((List.length (x1) : Nat) : Int))), (8, .int .i64 ((0 : Int)))] hE fun a hE => ?_
 refine ae ?_
 obtain ⟨s1, hf, hs1⟩ := bs hf
 refine block_loop (fun a w => ∃ (z1 : Unit), ∃ D2, Env a 19 [] [] ∧ Stp g w0 D0 [] w D2 [] ∧ Snap.le D0 D2 ∧ (Sum.inr z1) = s1) (fun k a w => ∃ (y1 : Int), ∃ D3, Env a 19 [] [(0, .slice A2 (List.length (x1)) c3), (1, .func (.func 78) #[] #[]), (7, .int .i64 (((List.length (x1) : Nat) : Int))), (8, .int .i64 (y1))] ∧ Stp g w0 D0 [] w D3 [] ∧ Snap.le D0 D3 ∧ slices_IndexFunc_api_Rec_api_Rec_l1.l K x1 k y1 = some s1) K ?_ ?_ ?_
 ·exact ⟨(0 : Int), D0, hE.wk, hS, lr, hf⟩
 ·clear hE hS hf
  rintro a w ⟨z1, D2, hE, hS, le4, rfl⟩
  have hf := hs1
  clear hs1
  refine sq (ra ?_)
  refine sN 1 1 [(4, .int .i64 ((-1 : Int)))] hE fun a hE => ?_
  refine ae ?_
  refine wpIn_ret ?_
  obtain rfl := si hf
  refine ret_ ?_
  refine rT 4 (.int .i64 ((-1 : Int))) hE ?_
  exact ⟨_, rfl, D2, rfl, hS⟩
 clear hE hS hf
 rintro k a w ⟨y1, D3, hE, hS, le1, hf⟩
 obtain ⟨k, rfl, hf⟩ := slices_IndexFunc_api_Rec_api_Rec_l1.some _ hf
 refine ⟨k, rfl, ?_⟩
 unfold slices_IndexFunc_api_Rec_api_Rec_l1.b at hf
 refine sq (ra ?_)
 refine sN 1 1 [(9, .bool ((decide (y1 < ((List.length (x1) : Nat) : Int)))))] hE fun a hE => ?_
 refine ae ?_
 refine sq ?_
 refine cond_split hE (b := (decide (y1 < ((List.length (x1) : Nat) : Int)))) rfl (fun hb => ?_) (fun hb => ?_)
 ·replace hf := ct hb hf
  refine wpIn_skip ?_
  refine sq ?_
  refine wpIn_block ?_
  refine sq (ra ?_)
  refine sN 2 2 [(5, .int .i64 (y1))] hE fun a hE => ?_
  refine ae ?_
  refine sq (ra ?_)
  refine sN 3 3 [(11, .func (.func 78) #[] #[]), (12, .slice A2 (List.length (x1)) c3), (13, .int .i64 (y1))] hE fun a hE => ?_
  obtain ⟨x2, h1, hf⟩ := bs hf
  refine at_op (op_tk hE (g_index (K := kd_T_api_Rec) (e := 39) (by_ := 224) (zl := 109) rfl rfl rfl rfl hE rfl rfl rfl (by kernel_rfl) rfl (h4.mono le1) h1 (fun a b1 o1 hE h2 => ?_))) rfl
  obtain ⟨cs1, C1, T1, fr1, hr1, hb1, hc1⟩ := id h2
  obtain ⟨A1, c1, A3, c2, rfl, h3, h5⟩ := kd_T_api_Rec_el hr1
  refine at_op (op_tk hE (tk_loadX (off0 := o1) (off := 0) (c := c_T_api_Rec (x2) A1 c1 A3 c2) (.agg (List.toArray (c_T_api_Rec (x2) A1 c1 A3 c2))) rfl rfl rfl rfl hE rfl hS rfl hb1 hc1 (by kernel_rfl) (by kernel_rfl) (kD hS dn_nil) (fun a hE => ?_))) rfl
  obtain ⟨r1, h6, hf⟩ := bs hf
  refine aC rfl rfl rfl rfl hE rfl rfl rfl rfl (export_right_1.calls h6 (hS.st.fore (L := [])) h3 h5) fun a v w hR hE => ?_
  obtain ⟨D4, rfl, hS1⟩ := hR
  have le3 := hS1.dle
  have hS := hS.callR hS1 rfl .n
  refine ae ?_
  refine cond_split hE (b := r1) rfl (fun hb => ?_) (fun hb => ?_)
  ·replace hf := ct hb hf
   refine sq (ra ?_)
   refine sN 2 2 [(4, .int .i64 (y1))] hE fun a hE => ?_
   refine ae ?_
   refine wpIn_ret ?_
   obtain rfl := si hf
   replace hf := hs1
   obtain rfl := si hf
   refine ret_ ?_
   refine rT 4 (.int .i64 (y1)) hE ?_
   exact ⟨_, rfl, D4, rfl, hS⟩
  replace hf := cf hb hf
  refine wpIn_skip ?_
  refine ra ?_
  refine sN 2 2 [(8, .int .i64 ((IntKind.wrap .i64 (y1 + (1 : Int)))))] hE fun a hE => ?_
  exact ae ⟨(IntKind.wrap .i64 (y1 + (1 : Int))), D4, hE.wk, hS, (le2 le1 le3), hf⟩
 replace hf := cf hb hf
 refine wpIn_exit ?_
 obtain rfl := si hf
 exact ⟨(), D3, hE.wk, hS, le1, rfl⟩
set_option maxRecDepth 100000 in
theorem slices_ContainsFunc_api_Rec_api_Rec.calls {K : Nat} {g w0 : World} {D0 : Snap} {x1 : (List T_api_Rec)} {A2 : Option Addr} {c3 : Nat} {r : (Bool)} (hf : slices_ContainsFunc_api_Rec_api_Rec.f K x1 = some r) (hS0 : St g w0 D0 []) (h4 : Sl kd_T_api_Rec D0 A2 c3 (x1)) :
  CallsIn (Fw none) 0 Tryd.prog 77 (List.toArray [.slice A2 (List.length (x1)) c3, .func (.func 78) #[] #[]]) w0 (fun e w' => ∃ v, e = .returned v ∧ ∃ D1, v = .bool (r) ∧ Stp g w0 D0 [] w' D1 []) := by
 unfold slices_ContainsFunc_api_Rec_api_Rec.f at hf
 have hS := Stp.refl hS0
 clear hS0
 refine calls_body (n := 9) Tryd.func77 rfl Tryd.ntmps77 rfl fun a hE => ?_
 have hE : Env a 9 [] [(0, .slice A2 (List.length (x1)) c3), (1, .func (.func 78) #[] #[])] := hE
 refine sq (ra ?_)
 refine sN 1 1 [(4, .bool false)] hE fun a hE => ?_
 refine ae ?_
 refine sq (ra ?_)
 refine sN 2 2 [(5, .slice A2 (List.length (x1)) c3), (6, .func (.func 78) #[] #[])] hE fun a hE => ?_
 obtain ⟨r10, h11, hf⟩ := bs hf
 refine aC rfl rfl rfl rfl hE rfl rfl rfl rfl (slices_IndexFunc_api_Rec_api_Rec.calls h11 (hS.st.fore (L := [])) h4) fun a v w hR hE => ?_
 obtain ⟨D12, rfl, hS1⟩ := hR
 have le14 := hS1.dle
 have hS := hS.callR hS1 rfl .n
 refine sN 2 5 [(4, .bool ((decide ((0 : Int) ≤ r10))))] hE fun a hE => ?_
 refine ae ?_
 refine wpIn_ret ?_
 obtain rfl := si hf
 refine ret_ ?_
 refine rT 4 (.bool ((decide ((0 : Int) ≤ r10)))) hE ?_
 exact ⟨_, rfl, D12, rfl, hS⟩
set_option maxRecDepth 100000 in
theorem export_right.calls {K : Nat} {g w0 : World} {D0 : Snap} {x1 : (List T_api_Rec)} {A2 : Option Addr} {c3 : Nat} {r : (Bool)} (hf : export_right.f K x1 = some r) (hS0 : St g w0 D0 []) (h4 : Sl kd_T_api_Rec D0 A2 c3 (x1)) :
  CallsIn (Fw none) 0 Tryd.prog 49 (List.toArray [.slice A2 (List.length (x1)) c3]) w0 (fun e w' => ∃ v, e = .returned v ∧ ∃ D1, v = .bool (r) ∧ Stp g w0 D0 [] w' D1 []) := by
 unfold export_right.f at hf
 have hS := Stp.refl hS0
 clear hS0
 refine calls_body (n := 6) Tryd.func49 rfl Tryd.ntmps49 rfl fun a hE => ?_
 have hE : Env a 6 [] [(0, .slice A2 (List.length (x1)) c3)] := hE
 refine sq (ra ?_)
 refine sN 1 1 [(2, .bool false)] hE fun a hE => ?_
 refine ae ?_
 refine sq (ra ?_)
 refine sN 1 1 [(3, .slice A2 (List.length (x1)) c3)] hE fun a hE => ?_
 obtain ⟨r10, h11, hf⟩ := bs hf
 refine aC rfl rfl rfl rfl hE rfl rfl rfl rfl (slices_ContainsFunc_api_Rec_api_Rec.calls h11 (hS.st.fore (L := [])) h4) fun a v w hR hE => ?_
 obtain ⟨D12, rfl, hS1⟩ := hR
 have le14 := hS1.dle
 have hS := hS.callR hS1 rfl .n
 refine sN 2 4 [(2, .bool ((!r10)))] hE fun a hE => ?_
 refine ae ?_
 refine wpIn_ret ?_
 obtain rfl := si hf
 refine ret_ ?_
 refine rT 2 (.bool ((!r10))) hE ?_
 exact ⟨_, rfl, D12, rfl, hS⟩
set_option maxRecDepth 100000 in
theorem slices_Reverse_byte_byte.calls {K : Nat} {g w0 : World} {D0 : Snap} {x1 : (List Int)} {A2 : Option Addr} {c3 : Nat} {q4 : Blk} {r : ((List Int))} (hf : slices_Reverse_byte_byte.f K x1 = some r) (hS0 : St g w0 D0 [q4]) (h5 : OwnD (kdInt .u8) 5 D0 A2 c3 (x1) q4) :
  CallsIn (Fw none) 0 Tryd.prog 72 (List.toArray [.slice A2 (List.length (x1)) c3]) w0 (fun e w' => ∃ v, e = .returned v ∧ ∃ (D1 : Snap) (q3 : Blk), v = .tuple #[] ∧ Stp g w0 D0 [q4] w' D1 [q3] ∧ OwnD (kdInt .u8) 5 D1 A2 c3 (r) q3) := by
 unfold slices_Reverse_byte_byte.f at hf
 have hS := Stp.refl hS0
 clear hS0
 refine calls_body (n := 28) Tryd.func72 rfl Tryd.ntmps72 rfl fun a hE => ?_
 have hE : Env a 28 [] [(0, .slice A2 (List.length (x1)) c3)] := hE
 refine sq (ra ?_)
 refine sN 5 5 [(2, .int .i64 ((0 : Int))), (3, .int .i64 ((IntKind.wrap .i64 (((List.length (x1) : Nat) : Int) - (1 : Int)))))] hE fun a hE => ?_
 refine ae ?_
 obtain ⟨s1, hf, hs1⟩ := bs hf
 refine block_loop (fun a w => ∃ (z1 : (List Int)), ∃ q2, ∃ D3, Env a 28 [] [] ∧ Stp g w0 D0 [q4] w D3 [q2] ∧ Snap.le D0 D3 ∧ OwnD (kdInt .u8) 5 D3 A2 c3 (z1) q2 ∧ z1 = s1) (fun k a w => ∃ (y1 : (List Int) × Int × Int), ∃ q1, ∃ D2, Env a 28 [] [(0, .slice A2 (List.length (y1.1)) c3), (2, .int .i64 (y1.2.1)), (3, .int .i64 (y1.2.2))] ∧ Stp g w0 D0 [q4] w D2 [q1] ∧ Snap.le D0 D2 ∧ OwnD (kdInt .u8) 5 D2 A2 c3 (y1.1) q1 ∧ slices_Reverse_byte_byte_l1.l K k y1 = some s1) K ?_ ?_ ?_
 ·exact ⟨(x1, (0 : Int), (IntKind.wrap .i64 (((List.length (x1) : Nat) : Int) - (1 : Int)))), q4, D0, hE.wk, hS, lr, h5, hf⟩
 ·clear hE hS hf
  rintro a w ⟨z1, q2, D3, hE, hS, le2, h8, rfl⟩
  have hf := hs1
  clear hs1
  obtain rfl := si hf
  refine ret_genN ([]) hE (by rw [show Tryd.f72.results.toList = [] from rfl]; exact rfl) ?_
  exact ⟨_, rfl, D3, q2, rfl, hS, h8⟩
 clear hE hS hf
 rintro k a w ⟨y1, q1, D2, hE, hS, le1, h1, hf⟩
 obtain ⟨k, rfl, hf⟩ := slices_Reverse_byte_byte_l1.some hf
 refine ⟨k, rfl, ?_⟩
 unfold slices_Reverse_byte_byte_l1.b at hf
 refine sq (sq (ra ?_))
 refine sN 3 3 [(9, .bool ((decide (y1.2.1 < y1.2.2))))] hE fun a hE => ?_
 refine ae ?_
 refine cond_split hE (b := (decide (y1.2.1 < y1.2.2))) rfl (fun hb => ?_) (fun hb => ?_)
 ·replace hf := ct hb hf
  refine wpIn_skip ?_
  refine sq ?_
  refine wpIn_block ?_
  refine region_draw (fun j => Keeps (mfOf [(13, ids [q1]), (15, ids [q1])] j)) (by kernel_rfl) ?_
  have hS := hS.drew
  first | generalize w.drew = w at hS ⊢ | generalize w0.drew = w at hS ⊢
  refine wP 0 1 15 (.slice A2 (List.length (y1.1)) c3) hE fun a hE => ?_
  refine wP 1 3 14 (.int .i64 (y1.2.1)) hE fun a hE => ?_
  refine wP 2 7 13 (.slice A2 (List.length (y1.1)) c3) hE fun a hE => ?_
  refine wP 3 15 12 (.int .i64 (y1.2.2)) hE fun a hE => ?_
  refine wP 4 31 11 (.slice A2 (List.length (y1.1)) c3) hE fun a hE => ?_
  refine wP 5 63 10 (.int .i64 (y1.2.2)) hE fun a hE => ?_
  refine wP 8 319 9 (.slice A2 (List.length (y1.1)) c3) hE fun a hE => ?_
  refine wP 9 831 8 (.int .i64 (y1.2.1)) hE fun a hE => ?_
  obtain ⟨x2, h2, hf⟩ := bs hf
  refine tW 6 895 (fuel := 7) (by kernel_rfl) hE (fun M => tk_indexO (K := (kdInt .u8)) (T := 5) (by_ := 1) (zl := 1) rfl rfl rfl rfl hE rfl rfl rfl (by kernel_rfl) h1 h2 (fun a b1 u2 hq hE => ?_))
  subst hq
  obtain ⟨cs1, C1, hr1, hb1, hc1⟩ := OwnD.cell h1 h2
  obtain rfl := hr1
  refine tT 7 1023 (fuel := 6) (by kernel_rfl) hE (tk_loadO 0 (off0 := Int.toNat (y1.2.2) * 1) (off := 0) (c := [.int .u8 (x2)]) (Cl := C1) (T := 5) (fr := (0, 0)) (.int .u8 (x2)) rfl rfl rfl rfl hE rfl hS rfl (by rw [hb1]; rfl) hc1 (by kernel_rfl) (kL (j := 0) hS rfl List.not_mem_nil) (fun a hE => ?_))
  obtain ⟨x3, h3, hf⟩ := bs hf
  refine tW 10 2047 (fuel := 5) (by kernel_rfl) hE (fun M => tk_indexO (K := (kdInt .u8)) (T := 5) (by_ := 1) (zl := 1) rfl rfl rfl rfl hE rfl rfl rfl (by kernel_rfl) h1 h3 (fun a b2 u3 hq hE => ?_))
  obtain ⟨rfl, rfl⟩ := some_pair hq
  obtain ⟨cs2, C2, hr2, hb2, hc2⟩ := OwnD.cell h1 h3
  obtain rfl := hr2
  refine tT 11 4095 (fuel := 4) (by kernel_rfl) hE (tk_loadO 0 (off0 := Int.toNat (y1.2.1) * 1) (off := 0) (c := [.int .u8 (x3)]) (Cl := C2) (T := 5) (fr := (0, 0)) (.int .u8 (x3)) rfl rfl rfl rfl hE rfl hS rfl (by rw [hb2]; rfl) hc2 (by kernel_rfl) (kL (j := 0) hS rfl List.not_mem_nil) (fun a hE => ?_))
  obtain ⟨x4, h4, hf⟩ := bs hf
  refine tW 12 8191 (fuel := 3) (by kernel_rfl) hE (fun M => tk_indexO (K := (kdInt .u8)) (T := 5) (by_ := 1) (zl := 1) rfl rfl rfl rfl hE rfl rfl rfl (by kernel_rfl) h1 h4 (fun a b3 u4 hq hE => ?_))
  obtain ⟨rfl, rfl⟩ := some_pair hq
  refine oG 13 16383 (fuel := 2) (by kernel_rfl) (op_storeO (K := (kdInt .u8)) (T := 5) (l := y1.1) (x2) rfl rfl rfl rfl hE hS h1 rfl rfl (inI_of h4) (rfl) (by kernel_rfl) (by kernel_rfl) (fun a u5 w hkp hE h6 hS => ⟨hkp.mono (fun _ h => h), ?_⟩))
  clear hkp
  have hE : Env a 28 [] [(0, .slice A2 (List.length ((List.set (y1.1) (Int.toNat (y1.2.1)) (x2)))) c3), (2, .int .i64 (y1.2.1)), (3, .int .i64 (y1.2.2)), (9, .bool ((decide (y1.2.1 < y1.2.2)))), (14, .slice A2 (List.length ((List.set (y1.1) (Int.toNat (y1.2.1)) (x2)))) c3), (15, .int .i64 (y1.2.1)), (16, .slice A2 (List.length ((List.set (y1.1) (Int.toNat (y1.2.1)) (x2)))) c3), (17, .int .i64 (y1.2.2)), (18, .slice A2 (List.length ((List.set (y1.1) (Int.toNat (y1.2.1)) (x2)))) c3), (19, .int .i64 (y1.2.2)), (20, .pointer (some ⟨b1, Int.toNat (y1.2.2) * 1, none⟩)), (21, .int .u8 (x2)), (22, .slice A2 (List.length ((List.set (y1.1) (Int.toNat (y1.2.1)) (x2)))) c3), (23, .int .i64 (y1.2.1)), (24, .pointer (some ⟨b1, Int.toNat (y1.2.1) * 1, none⟩)), (25, .int .u8 (x3)), (26, .pointer (some ⟨b1, Int.toNat (y1.2.1) * 1, none⟩))] := by have h := hE.weak (E' := [(0, .slice A2 (List.length (y1.1)) c3), (2, .int .i64 (y1.2.1)), (3, .int .i64 (y1.2.2)), (9, .bool ((decide (y1.2.1 < y1.2.2)))), (14, .slice A2 (List.length (y1.1)) c3), (15, .int .i64 (y1.2.1)), (16, .slice A2 (List.length (y1.1)) c3), (17, .int .i64 (y1.2.2)), (18, .slice A2 (List.length (y1.1)) c3), (19, .int .i64 (y1.2.2)), (20, .pointer (some ⟨b1, Int.toNat (y1.2.2) * 1, none⟩)), (21, .int .u8 (x2)), (22, .slice A2 (List.length (y1.1)) c3), (23, .int .i64 (y1.2.1)), (24, .pointer (some ⟨b1, Int.toNat (y1.2.1) * 1, none⟩)), (25, .int .u8 (x3)), (26, .pointer (some ⟨b1, Int.toNat (y1.2.1) * 1, none⟩))]) (by kernel_rfl); simpa only [List.length_set] using h
  obtain ⟨x5, h7, hf⟩ := bs hf
  refine tW 14 32767 (fuel := 1) (by kernel_rfl) hE (fun M => tk_indexO (K := (kdInt .u8)) (T := 5) (by_ := 1) (zl := 1) rfl rfl rfl rfl hE rfl rfl rfl (by kernel_rfl) h6 h7 (fun a b4 u6 hq hE => ?_))
  obtain ⟨rfl, rfl⟩ := some_pair hq
  refine oG 15 65535 (fuel := 0) (by kernel_rfl) (op_storeO (K := (kdInt .u8)) (T := 5) (l := (List.set (y1.1) (Int.toNat (y1.2.1)) (x2))) (x3) rfl rfl rfl rfl hE hS h6 rfl rfl (inI_of h7) (rfl) (by kernel_rfl) (by kernel_rfl) (fun a u1 w hkp hE h9 hS => ⟨hkp.mono (fun _ h => h), ?_⟩))
  clear hkp
  have hE : Env a 28 [] [(0, .slice A2 (List.length ((List.set ((List.set (y1.1) (Int.toNat (y1.2.1)) (x2))) (Int.toNat (y1.2.2)) (x3)))) c3), (2, .int .i64 (y1.2.1)), (3, .int .i64 (y1.2.2)), (9, .bool ((decide (y1.2.1 < y1.2.2)))), (14, .slice A2 (List.length ((List.set ((List.set (y1.1) (Int.toNat (y1.2.1)) (x2))) (Int.toNat (y1.2.2)) (x3)))) c3), (15, .int .i64 (y1.2.1)), (16, .slice A2 (List.length ((List.set ((List.set (y1.1) (Int.toNat (y1.2.1)) (x2))) (Int.toNat (y1.2.2)) (x3)))) c3), (17, .int .i64 (y1.2.2)), (18, .slice A2 (List.length ((List.set ((List.set (y1.1) (Int.toNat (y1.2.1)) (x2))) (Int.toNat (y1.2.2)) (x3)))) c3), (19, .int .i64 (y1.2.2)), (20, .pointer (some ⟨b1, Int.toNat (y1.2.2) * 1, none⟩)), (21, .int .u8 (x2)), (22, .slice A2 (List.length ((List.set ((List.set (y1.1) (Int.toNat (y1.2.1)) (x2))) (Int.toNat (y1.2.2)) (x3)))) c3), (23, .int .i64 (y1.2.1)), (24, .pointer (some ⟨b1, Int.toNat (y1.2.1) * 1, none⟩)), (25, .int .u8 (x3)), (26, .pointer (some ⟨b1, Int.toNat (y1.2.1) * 1, none⟩)), (27, .pointer (some ⟨b1, Int.toNat (y1.2.2) * 1, none⟩))] := by have h := hE.weak (E' := [(0, .slice A2 (List.length ((List.set (y1.1) (Int.toNat (y1.2.1)) (x2)))) c3), (2, .int .i64 (y1.2.1)), (3, .int .i64 (y1.2.2)), (9, .bool ((decide (y1.2.1 < y1.2.2)))), (14, .slice A2 (List.length ((List.set (y1.1) (Int.toNat (y1.2.1)) (x2)))) c3), (15, .int .i64 (y1.2.1)), (16, .slice A2 (List.length ((List.set (y1.1) (Int.toNat (y1.2.1)) (x2)))) c3), (17, .int .i64 (y1.2.2)), (18, .slice A2 (List.length ((List.set (y1.1) (Int.toNat (y1.2.1)) (x2)))) c3), (19, .int .i64 (y1.2.2)), (20, .pointer (some ⟨b1, Int.toNat (y1.2.2) * 1, none⟩)), (21, .int .u8 (x2)), (22, .slice A2 (List.length ((List.set (y1.1) (Int.toNat (y1.2.1)) (x2)))) c3), (23, .int .i64 (y1.2.1)), (24, .pointer (some ⟨b1, Int.toNat (y1.2.1) * 1, none⟩)), (25, .int .u8 (x3)), (26, .pointer (some ⟨b1, Int.toNat (y1.2.1) * 1, none⟩)), (27, .pointer (some ⟨b1, Int.toNat (y1.2.2) * 1, none⟩))]) (by kernel_rfl); simpa only [List.length_set] using h
  refine doneG (by kernel_rfl) ?_
  refine ra ?_
  refine sN 6 6 [(2, .int .i64 ((IntKind.wrap .i64 (y1.2.1 + (1 : Int))))), (3, .int .i64 ((IntKind.wrap .i64 (y1.2.2 - (1 : Int)))))] hE fun a hE => ?_
  exact ae ⟨((List.set ((List.set (y1.1) (Int.toNat (y1.2.1)) (x2))) (Int.toNat (y1.2.2)) (x3)), (IntKind.wrap .i64 (y1.2.1 + (1 : Int))), (IntKind.wrap .i64 (y1.2.2 - (1 : Int)))), (some (b1, u1)), D2, hE.wk, hS, le1, h9, hf⟩
 replace hf := cf hb hf
 refine wpIn_exit ?_
 obtain rfl := si hf
 exact ⟨y1.1, q1, D2, hE.wk, hS, le1, h1, rfl⟩
set_option maxRecDepth 100000 in
theorem wire_Num.calls {K : Nat} {g w0 : World} {D0 : Snap} {x1 : Int} {r : ((List Int))} (hf : wire_Num.f K x1 = some r) (hS0 : St g w0 D0 []) :
  CallsIn (Fw none) 0 Tryd.prog 42 (List.toArray [.int .i64 (x1)]) w0 (fun e w' => ∃ v, e = .returned v ∧ ∃ (D1 : Snap) (A3 : Option Addr) (c3 : Nat) (q3 : Blk), v = .slice A3 (List.length (r)) c3 ∧ Stp g w0 D0 [] w' D1 [q3] ∧ OwnD (kdInt .u8) 5 D1 A3 c3 (r) q3) := by
 unfold wire_Num.f at hf
 have hS := Stp.refl hS0
 clear hS0
 refine calls_body (n := 30) Tryd.func42 rfl Tryd.ntmps42 rfl fun a hE => ?_
 have hE : Env a 30 [] [(0, .int .i64 (x1))] := hE
 refine sq (ra ?_)
 refine sN 1 1 [(2, .slice none 0 0)] hE fun a hE => ?_
 refine ae ?_
 refine sq ?_
 obtain ⟨j1, hj1, hf⟩ := jn_elim hf
 refine seq_join (fun a w => ∃ (y2 : Bool), ∃ D2, Env a 30 [] [(0, .int .i64 (x1)), (9, .bool (y2))] ∧ Stp g w0 D0 [] w D2 [] ∧ Snap.le D0 D2 ∧ j1 y2 = some r) ?_ ?_
 ·clear hj1
  refine ra ?_
  refine sN 3 3 [(6, .bool ((decide (x1 < (0 : Int)))))] hE fun a hE => ?_
  refine bo ((decide (x1 < (0 : Int)))) (fun hb => ?_) fun hb => ?_
  ·replace hf := cf hb hf
   have hE := hE.know (t := 6) rfl hb
   refine sN 3 6 [(9, .bool ((decide ((2147483647 : Int) < x1))))] hE fun a hE => ?_
   exact ae ⟨(decide ((2147483647 : Int) < x1)), D0, hE.wk, hS, lr, hf⟩
  replace hf := ct hb hf
  have hE := hE.know (t := 6) rfl hb
  refine sN 3 6 [(9, .bool true)] hE fun a hE => ?_
  exact ae ⟨true, D0, hE.wk, hS, lr, hf⟩
 clear hE hS
 rintro a w ⟨y2, D2, hE, hS, le4, hf⟩
 replace hf := hj1 _ hf
 clear hj1
 refine cond_split hE (b := y2) rfl (fun hb => ?_) (fun hb => ?_)
 ·replace hf := ct hb hf
  refine sq (ra ?_)
  refine sN 1 1 [(2, .slice none 0 0)] hE fun a hE => ?_
  refine ae ?_
  refine wpIn_ret ?_
  have hS := hS.nils
  obtain rfl := si hf
  refine ret_ ?_
  refine rT 2 (.slice none 0 0) hE ?_
  exact ⟨_, rfl, D2, none, 0, none, rfl, hS, (OwnD.nil (kdInt .u8) 5 D2)⟩
 replace hf := cf hb hf
 refine wpIn_skip ?_
 refine sq (ra ?_)
 refine sN 3 3 [(12, .int .u8 ((IntKind.wrap .u8 (Int.tmod x1 128))))] hE fun a hE => ?_
 refine at_op (op_buildSlice (K := (kdInt .u8)) (e := 5) (cs := [.int .u8 ((IntKind.wrap .u8 (Int.tmod x1 128)))] ++ []) ([(IntKind.wrap .u8 (Int.tmod x1 128))] : List Int) rfl rfl rfl rfl hE rfl hS rfl (by kernel_rfl) rfl rfl (by exact ⟨_, _, rfl, rfl, rfl⟩) (fun a A4 q4 w _ hE h3 hS => ?_)) rfl
 refine sN 1 5 [(3, .slice A4 (List.length (([(IntKind.wrap .u8 (Int.tmod x1 128))] : List Int))) 1)] hE fun a hE => ?_
 refine ae ?_
 refine sq (sq (ra ?_))
 refine sN 3 3 [(0, .int .i64 ((Int.fdiv x1 (2 ^ 7))))] hE fun a hE => ?_
 refine ae ?_
 obtain ⟨s1, hf, hs1⟩ := bs hf
 refine block_loop (fun a w => ∃ (z1 : (List Int)), ∃ A1, ∃ c1, ∃ q1, ∃ D4, Env a 30 [] [(3, .slice A1 (List.length (z1)) c1)] ∧ Stp g w0 D0 [] w D4 [q1] ∧ Snap.le D2 D4 ∧ OwnD (kdInt .u8) 5 D4 A1 c1 (z1) q1 ∧ z1 = s1) (fun k a w => ∃ (y1 : Int × (List Int)), ∃ A2, ∃ c2, ∃ q2, ∃ D3, Env a 30 [] [(0, .int .i64 (y1.1)), (3, .slice A2 (List.length (y1.2)) c2)] ∧ Stp g w0 D0 [] w D3 [q2] ∧ Snap.le D2 D3 ∧ OwnD (kdInt .u8) 5 D3 A2 c2 (y1.2) q2 ∧ wire_Num_l1.l K k y1 = some s1) K ?_ ?_ ?_
 ·exact ⟨((Int.fdiv x1 (2 ^ 7)), ([(IntKind.wrap .u8 (Int.tmod x1 128))] : List Int)), A4, 1, q4, D2, hE.wk, hS, lr, h3, hf⟩
 ·clear hE hS hf
  rintro a w ⟨z1, A1, c1, q1, D4, hE, hS, le5, h4, rfl⟩
  have hf := hs1
  clear hs1
  refine sq (ra ?_)
  refine sN 1 1 [(27, .slice A1 (List.length (z1)) c1)] hE fun a hE => ?_
  obtain ⟨r1, h1, hf⟩ := bs hf
  refine aC rfl rfl rfl rfl hE rfl rfl rfl rfl (slices_Reverse_byte_byte.calls h1 (hS.st.fore (L := [q1])) h4) fun a v w hR hE => ?_
  obtain ⟨D5, q5, rfl, hS1, h5⟩ := hR
  have le6 := hS1.dle
  have hS := hS.callR hS1 rfl (.c .n)
  have hl612 := slices_Reverse_byte_byte.len h1
  have hE : Env a 30 [] [(3, .slice A1 (List.length (r1)) c1), (27, .slice A1 (List.length (r1)) c1), (28, .tuple #[])] := by have h := hE.weak (E' := [(3, .slice A1 (List.length (z1)) c1), (27, .slice A1 (List.length (z1)) c1), (28, .tuple #[])]) (by kernel_rfl); simpa only [hl612] using h
  clear hl612
  refine ae ?_
  refine sq (ra ?_)
  refine sN 2 2 [(2, .slice A1 (List.length (r1)) c1)] hE fun a hE => ?_
  refine ae ?_
  refine wpIn_ret ?_
  obtain rfl := si hf
  refine ret_ ?_
  refine rT 2 (.slice A1 (List.length (r1)) c1) hE ?_
  exact ⟨_, rfl, D5, A1, c1, q5, rfl, hS, h5⟩
 clear hE hS hf
 rintro k a w ⟨y1, A2, c2, q2, D3, hE, hS, le1, h2, hf⟩
 obtain ⟨k, rfl, hf⟩ := wire_Num_l1.some hf
 refine ⟨k, rfl, ?_⟩
 unfold wire_Num_l1.b at hf
 refine sq (sq (ra ?_))
 refine sN 2 2 [(17, .bool ((decide ((0 : Int) < y1.1))))] hE fun a hE => ?_
 refine ae ?_
 refine cond_split hE (b := (decide ((0 : Int) < y1.1))) rfl (fun hb => ?_) (fun hb => ?_)
 ·replace hf := ct hb hf
  refine wpIn_skip ?_
  refine sq ?_
  refine wpIn_block ?_
  refine ra ?_
  refine sN 5 5 [(20, .slice A2 (List.length (y1.2)) c2), (24, .int .u8 ((bor .u8 (IntKind.wrap .u8 (Int.tmod y1.1 128)) (128 : Int))))] hE fun a hE => ?_
  refine at_op (op_buildSlice (K := (kdInt .u8)) (e := 5) (cs := [.int .u8 ((bor .u8 (IntKind.wrap .u8 (Int.tmod y1.1 128)) (128 : Int)))] ++ []) ([(bor .u8 (IntKind.wrap .u8 (Int.tmod y1.1 128)) (128 : Int))] : List Int) rfl rfl rfl rfl hE rfl hS rfl (by kernel_rfl) rfl rfl (by exact ⟨_, _, rfl, rfl, rfl⟩) (fun a A6 q7 w _ hE h6 hS => ?_)) rfl
  obtain ⟨D6, q8, le3, hS, h10, h7⟩ := hS.lent h6
  have hS := hS.p (.d 1 (.d 0 .n))
  obtain ⟨l1, h8, hf⟩ := bs hf
  refine at_op (g_append (K := (kdInt .u8)) (e := 5) (bytes := 1) (l := y1.2) (m := ([(bor .u8 (IntKind.wrap .u8 (Int.tmod y1.1 128)) (128 : Int))] : List Int)) rfl rfl rfl rfl hE rfl hS rfl rfl (by kernel_rfl) rfl rfl (h2.mono le3) h7 h8 (fun a A5 c4 q6 w _ hE h9 hS => ?_)) rfl
  refine sN 1 8 [(3, .slice A5 (List.length (l1)) c4)] hE fun a hE => ?_
  refine ae ?_
  refine ra ?_
  refine sN 3 3 [(0, .int .i64 ((Int.fdiv y1.1 (2 ^ 7))))] hE fun a hE => ?_
  refine ae ?_
  have hS := hS.p (.d 0 .n)
  exact ⟨((Int.fdiv y1.1 (2 ^ 7)), l1), A5, c4, q6, D6, hE.wk, hS, (le2 le1 le3), h9, hf⟩
 replace hf := cf hb hf
 refine wpIn_exit ?_
 obtain rfl := si hf
 exact ⟨y1.2, A2, c2, q2, D3, hE.wk, hS, le1, h2, rfl⟩
set_option maxRecDepth 100000 in
theorem rec_forms.calls {K : Nat} {g w0 : World} {D0 : Snap} {r : Unit} (hf : rec_forms.f K = some r) (hS0 : St g w0 D0 []) :
  CallsIn (Fw none) 0 Tryd.prog 86 (List.toArray []) w0 (fun e w' => ∃ v, e = .returned v ∧ ∃ D1, v = .agg (List.toArray (([.nilFunc]) ++ (([.func (.func 102) #[] #[]]) ++ (([.func (.func 103) #[] #[]]) ++ (([.func (.func 104) #[] #[]]) ++ (([.func (.func 103) #[] #[]]) ++ (([.func (.func 106) #[] #[]]) ++ (([.func (.func 107) #[] #[]]))))))))) ∧ Stp g w0 D0 [] w' D1 []) := by
 unfold rec_forms.f at hf
 have hS := Stp.refl hS0
 clear hS0
 refine calls_body (n := 8) Tryd.func86 rfl Tryd.ntmps86 rfl fun a hE => ?_
 have hE : Env a 8 [] [] := hE
 refine sq (ra ?_)
 refine at_op (op_alloc (z := .agg (List.toArray (([.nilFunc]) ++ (([.nilFunc]) ++ (([.nilFunc]) ++ (([.nilFunc]) ++ (([.nilFunc]) ++ (([.nilFunc]) ++ (([.nilFunc])))))))))) rfl rfl rfl rfl hE rfl hS (by kernel_rfl) (fun a b3 w _ hE hS => ?_)) rfl
 refine ae ?_
 refine sq (ra ?_)
 refine at_op (op_tk hE (tk_build ([.func (.func 102) #[] #[]]) rfl rfl rfl rfl hE rfl rfl (by kernel_rfl) (fun a hE => ?_))) rfl
 refine at_op (op_tk hE (tk_build ([.func (.func 103) #[] #[]]) rfl rfl rfl rfl hE rfl rfl (by kernel_rfl) (fun a hE => ?_))) rfl
 refine at_op (op_tk hE (tk_build ([.func (.func 103) #[] #[]]) rfl rfl rfl rfl hE rfl rfl (by kernel_rfl) (fun a hE => ?_))) rfl
 refine at_op (op_tk hE (tk_build ([.func (.func 104) #[] #[]]) rfl rfl rfl rfl hE rfl rfl (by kernel_rfl) (fun a hE => ?_))) rfl
 refine at_op (op_tk hE (tk_build ([.func (.func 106) #[] #[]]) rfl rfl rfl rfl hE rfl rfl (by kernel_rfl) (fun a hE => ?_))) rfl
 refine at_op (op_tk hE (tk_build ([.func (.func 107) #[] #[]]) rfl rfl rfl rfl hE rfl rfl (by kernel_rfl) (fun a hE => ?_))) rfl
 refine at_op (op_tk hE (tk_build (([.nilFunc]) ++ (([.func (.func 102) #[] #[]]) ++ (([.func (.func 103) #[] #[]]) ++ (([.func (.func 104) #[] #[]]) ++ (([.func (.func 103) #[] #[]]) ++ (([.func (.func 106) #[] #[]]) ++ (([.func (.func 107) #[] #[]])))))))) rfl rfl rfl rfl hE rfl rfl (by kernel_rfl) (fun a hE => ?_))) rfl
 refine at_op (op_store (v := .agg (List.toArray (([.nilFunc]) ++ (([.func (.func 102) #[] #[]]) ++ (([.func (.func 103) #[] #[]]) ++ (([.func (.func 104) #[] #[]]) ++ (([.func (.func 103) #[] #[]]) ++ (([.func (.func 106) #[] #[]]) ++ (([.func (.func 107) #[] #[]])))))))))) (([.nilFunc]) ++ (([.func (.func 102) #[] #[]]) ++ (([.func (.func 103) #[] #[]]) ++ (([.func (.func 104) #[] #[]]) ++ (([.func (.func 103) #[] #[]]) ++ (([.func (.func 106) #[] #[]]) ++ (([.func (.func 107) #[] #[]])))))))) rfl rfl rfl rfl hE hS rfl rfl (by kernel_rfl) (by kernel_rfl) (by kernel_rfl) (by kernel_rfl) (by kernel_rfl) (fun a w _ hE hS => ?_)) rfl
 refine ae ?_
 refine wpIn_ret ?_
 obtain rfl := si hf
 refine ret_ ?_
 refine ret_gen ([.agg (List.toArray (([.nilFunc]) ++ (([.func (.func 102) #[] #[]]) ++ (([.func (.func 103) #[] #[]]) ++ (([.func (.func 104) #[] #[]]) ++ (([.func (.func 103) #[] #[]]) ++ (([.func (.func 106) #[] #[]]) ++ (([.func (.func 107) #[] #[]])))))))))]) hE (by rw [show Tryd.f86.results.toList = [.cell 0 124] from rfl]; exact ⟨_, _, _, 0, _, _, rfl, rfl, hS.heapAt (j := 0) rfl, by kernel_rfl, rfl⟩) ?_
 have hS := hS.p .n
 exact ⟨_, rfl, D0, rfl, hS⟩
set_option maxRecDepth 100000 in
theorem rec_numbers.calls {K : Nat} {g w0 : World} {D0 : Snap} {x1 : (List Int)} {A2 : Option Addr} {c3 : Nat} {r : ((List Int))} (hf : rec_numbers.f K x1 = some r) (hS0 : St g w0 D0 []) (h4 : Sl (kdInt .i64) D0 A2 c3 (x1)) :
  CallsIn (Fw none) 0 Tryd.prog 105 (List.toArray [.slice A2 (List.length (x1)) c3]) w0 (fun e w' => ∃ v, e = .returned v ∧ ∃ (D1 : Snap) (A4 : Option Addr) (c4 : Nat) (q3 : Blk), v = .slice A4 (List.length (r)) c4 ∧ Stp g w0 D0 [] w' D1 [q3] ∧ OwnD (kdInt .u8) 5 D1 A4 c4 (r) q3) := by
 unfold rec_numbers.f at hf
 have hS := Stp.refl hS0
 clear hS0
 refine calls_body (n := 18) Tryd.func105 rfl Tryd.ntmps105 rfl fun a hE => ?_
 have hE : Env a 18 [] [(0, .slice A2 (List.length (x1)) c3)] := hE
 refine sq (ra ?_)
 refine sN 1 1 [(2, .slice none 0 0)] hE fun a hE => ?_
 refine ae ?_
 refine sq (ra ?_)
 refine sN 1 1 [(3, .slice none 0 0)] hE fun a hE => ?_
 refine ae ?_
 refine sq (sq (ra ?_))
 refine sN 3 3 [(6, .slice A2 (List.length (x1)) c3), (7, .int .i64 (((List.length (x1) : Nat) : Int))), (8, .int .i64 ((0 : Int)))] hE fun a hE => ?_
 refine ae ?_
 obtain ⟨s1, hf, hs1⟩ := bs hf
 have hS := hS.nils
 refine block_loop (fun a w => ∃ (z1 : (List Int)), ∃ A1, ∃ c1, ∃ q1, ∃ D2, Env a 18 [] [(3, .slice A1 (List.length (z1)) c1)] ∧ Stp g w0 D0 [] w D2 [q1] ∧ Snap.le D0 D2 ∧ OwnD (kdInt .u8) 5 D2 A1 c1 (z1) q1 ∧ z1 = s1) (fun k a w => ∃ (y1 : (List Int) × Int), ∃ A3, ∃ c2, ∃ q2, ∃ D3, Env a 18 [] [(3, .slice A3 (List.length (y1.1)) c2), (6, .slice A2 (List.length (x1)) c3), (7, .int .i64 (((List.length (x1) : Nat) : Int))), (8, .int .i64 (y1.2))] ∧ Stp g w0 D0 [] w D3 [q2] ∧ Snap.le D0 D3 ∧ OwnD (kdInt .u8) 5 D3 A3 c2 (y1.1) q2 ∧ rec_numbers_l1.l K x1 k y1 = some s1) K ?_ ?_ ?_
 ·exact ⟨(([] : List Int), (0 : Int)), none, 0, none, D0, hE.wk, hS, lr, (OwnD.nil (kdInt .u8) 5 D0), hf⟩
 ·clear hE hS hf
  rintro a w ⟨z1, A1, c1, q1, D2, hE, hS, le5, h2, rfl⟩
  have hf := hs1
  clear hs1
  refine sq (ra ?_)
  refine sN 2 2 [(2, .slice A1 (List.length (z1)) c1)] hE fun a hE => ?_
  refine ae ?_
  refine wpIn_ret ?_
  obtain rfl := si hf
  refine ret_ ?_
  refine rT 2 (.slice A1 (List.length (z1)) c1) hE ?_
  exact ⟨_, rfl, D2, A1, c1, q1, rfl, hS, h2⟩
 clear hE hS hf
 rintro k a w ⟨y1, A3, c2, q2, D3, hE, hS, le1, h1, hf⟩
 obtain ⟨k, rfl, hf⟩ := rec_numbers_l1.some _ hf
 refine ⟨k, rfl, ?_⟩
 unfold rec_numbers_l1.b at hf
 refine sq (ra ?_)
 refine sN 1 1 [(9, .bool ((decide (y1.2 < ((List.length (x1) : Nat) : Int)))))] hE fun a hE => ?_
 refine ae ?_
 refine sq ?_
 refine cond_split hE (b := (decide (y1.2 < ((List.length (x1) : Nat) : Int)))) rfl (fun hb => ?_) (fun hb => ?_)
 ·replace hf := ct hb hf
  refine wpIn_skip ?_
  refine sq ?_
  refine wpIn_block ?_
  refine sq (ra ?_)
  obtain ⟨x2, h3, hf⟩ := bs hf
  refine at_op (op_tk hE (g_index (K := (kdInt .i64)) (e := 3) (by_ := 8) (zl := 1) rfl rfl rfl rfl hE rfl rfl rfl (by kernel_rfl) rfl (h4.mono le1) h3 (fun a b1 o1 hE h5 => ?_))) rfl
  obtain ⟨cs1, C1, T1, fr1, hr1, hb1, hc1⟩ := id h5
  obtain rfl := hr1
  refine at_op (op_tk hE (tk_loadX (off0 := o1) (off := 0) (c := [.int .i64 (x2)]) (.int .i64 (x2)) rfl rfl rfl rfl hE rfl hS rfl hb1 hc1 (by kernel_rfl) (by kernel_rfl) (kD hS dn_nil) (fun a hE => ?_))) rfl
  refine sN 1 3 [(5, .int .i64 (x2))] hE fun a hE => ?_
  refine ae ?_
  refine ra ?_
  refine sN 2 2 [(12, .slice A3 (List.length (y1.1)) c2), (13, .int .i64 (x2))] hE fun a hE => ?_
  obtain ⟨r1, h6, hf⟩ := bs hf
  refine aC rfl rfl rfl rfl hE rfl rfl rfl rfl (wire_Num.calls h6 (hS.st.fore (L := [])) ) fun a v w hR hE => ?_
  obtain ⟨D5, A6, c6, q5, rfl, hS1, h7⟩ := hR
  have le3 := hS1.dle
  have hS := hS.callR hS1 rfl (.c .n)
  obtain ⟨D4, q6, le4, hS, h11, h8⟩ := hS.lent h7
  have hS := hS.p (.d 1 (.d 0 .n))
  obtain ⟨l1, h9, hf⟩ := bs hf
  refine at_op (g_append (K := (kdInt .u8)) (e := 5) (bytes := 1) (l := y1.1) (m := r1) rfl rfl rfl rfl hE rfl hS rfl rfl (by kernel_rfl) rfl rfl (h1.mono (le2 le3 le4)) h8 h9 (fun a A5 c5 q4 w _ hE h10 hS => ?_)) rfl
  refine sN 1 5 [(3, .slice A5 (List.length (l1)) c5)] hE fun a hE => ?_
  refine ae ?_
  refine ra ?_
  refine sN 2 2 [(8, .int .i64 ((IntKind.wrap .i64 (y1.2 + (1 : Int)))))] hE fun a hE => ?_
  refine ae ?_
  have hS := hS.p (.d 0 .n)
  exact ⟨(l1, (IntKind.wrap .i64 (y1.2 + (1 : Int)))), A5, c5, q4, D4, hE.wk, hS, (le2 (le2 le1 le3) le4), h10, hf⟩
 replace hf := cf hb hf
 refine wpIn_exit ?_
 obtain rfl := si hf
 exact ⟨y1.1, A3, c2, q2, D3, hE.wk, hS, le1, h1, rfl⟩
set_option maxRecDepth 100000 in
theorem rec_begin.calls {K : Nat} {g w0 : World} {D0 : Snap} {x1 : T_api_Rec} {A2 : Option Addr} {c3 : Nat} {A5 : Option Addr} {c6 : Nat} {r : ((List Int))} (hf : rec_begin.f K x1 = some r) (hS0 : St g w0 D0 []) (h4 : Sl kd_T_api_Step D0 A2 c3 (x1.fSteps)) (h7 : Sl (kdInt .u8) D0 A5 c6 (x1.fData)) :
  CallsIn (Fw none) 0 Tryd.prog 102 (List.toArray [.agg (List.toArray (c_T_api_Rec (x1) A2 c3 A5 c6))]) w0 (fun e w' => ∃ v, e = .returned v ∧ ∃ (D1 : Snap) (A4 : Option Addr) (c4 : Nat) (q3 : Blk), v = .slice A4 (List.length (r)) c4 ∧ Stp g w0 D0 [] w' D1 [q3] ∧ OwnD (kdInt .u8) 5 D1 A4 c4 (r) q3) := by
 unfold rec_begin.f at hf
 have hS := Stp.refl hS0
 clear hS0
 refine calls_body (n := 30) Tryd.func102 rfl Tryd.ntmps102 rfl fun a hE => ?_
 have hE : Env a 30 [] [(0, .agg (List.toArray (c_T_api_Rec (x1) A2 c3 A5 c6)))] := hE
 refine sq (ra ?_)
 refine at_op (op_box rfl rfl rfl rfl hE rfl hS rfl (fun a b1 w _ hE hS => ?_)) rfl
 refine sN 1 2 [(2, .slice none 0 0)] hE fun a hE => ?_
 refine ae ?_
 refine sq (ra ?_)
 refine sM 5 5 [0, 0] [(7, .int .i64 (x1.fSaga)), (10, .int .i64 (((List.length (x1.fSteps) : Nat) : Int)))] hE hS fun a hE => ?_
 refine at_op (op_buildSlice (K := (kdInt .i64)) (e := 3) (cs := [.int .i64 (x1.fSaga)] ++ ([.int .i64 (((List.length (x1.fSteps) : Nat) : Int))] ++ [])) ([x1.fSaga, ((List.length (x1.fSteps) : Nat) : Int)] : List Int) rfl rfl rfl rfl hE rfl hS rfl (by kernel_rfl) rfl rfl (by exact ⟨_, _, rfl, rfl, ⟨_, _, rfl, rfl, rfl⟩⟩) (fun a A8 q6 w _ hE h2 hS => ?_)) rfl
 obtain ⟨D6, q7, le6, hS, h18, h3⟩ := hS.lent h2
 obtain ⟨r1, h5, hf⟩ := bs hf
 refine aC rfl rfl rfl rfl hE rfl rfl rfl rfl (rec_numbers.calls h5 (hS.st.fore (L := [])) h3) fun a v w hR hE => ?_
 obtain ⟨D4, A6, c5, q4, rfl, hS1, h6⟩ := hR
 have le7 := hS1.dle
 have hS := hS.callR hS1 rfl (.c .n)
 refine sN 1 8 [(3, .slice A6 (List.length (r1)) c5)] hE fun a hE => ?_
 refine ae ?_
 refine sq (sq (ra ?_))
 refine sM 4 4 [2] [(14, .slice A2 (List.length (x1.fSteps)) c3), (15, .int .i64 (((List.length (x1.fSteps) : Nat) : Int))), (16, .int .i64 ((0 : Int)))] hE hS fun a hE => ?_
 refine ae ?_
 obtain ⟨s1, hf, hs1⟩ := bs hf
 have hS := hS.p (.d 0 .n)
 refine block_loop (fun a w => ∃ (z1 : (List Int)), ∃ A1, ∃ c1, ∃ q1, ∃ D2, Env a 30 [] [(3, .slice A1 (List.length (z1)) c1)] ∧ Stp g w0 D0 [] w D2 [q1] ∧ Snap.le D4 D2 ∧ OwnD (kdInt .u8) 5 D2 A1 c1 (z1) q1 ∧ z1 = s1) (fun k a w => ∃ (y1 : (List Int) × Int), ∃ A3, ∃ c2, ∃ q2, ∃ D3, Env a 30 [] [(3, .slice A3 (List.length (y1.1)) c2), (14, .slice A2 (List.length (x1.fSteps)) c3), (15, .int .i64 (((List.length (x1.fSteps) : Nat) : Int))), (16, .int .i64 (y1.2))] ∧ Stp g w0 D0 [] w D3 [q2] ∧ Snap.le D4 D3 ∧ OwnD (kdInt .u8) 5 D3 A3 c2 (y1.1) q2 ∧ rec_begin_l1.l K x1 k y1 = some s1) K ?_ ?_ ?_
 ·exact ⟨(r1, (0 : Int)), A6, c5, q4, D4, hE.wk, hS, lr, h6, hf⟩
 ·clear hE hS hf
  rintro a w ⟨z1, A1, c1, q1, D2, hE, hS, le8, h8, rfl⟩
  have hf := hs1
  clear hs1
  refine sq (ra ?_)
  refine sN 2 2 [(2, .slice A1 (List.length (z1)) c1)] hE fun a hE => ?_
  refine ae ?_
  refine wpIn_ret ?_
  obtain rfl := si hf
  refine ret_ ?_
  refine rT 2 (.slice A1 (List.length (z1)) c1) hE ?_
  exact ⟨_, rfl, D2, A1, c1, q1, rfl, hS, h8⟩
 clear hE hS hf
 rintro k a w ⟨y1, A3, c2, q2, D3, hE, hS, le1, h1, hf⟩
 obtain ⟨k, rfl, hf⟩ := rec_begin_l1.some _ hf
 refine ⟨k, rfl, ?_⟩
 unfold rec_begin_l1.b at hf
 refine sq (ra ?_)
 refine sN 1 1 [(17, .bool ((decide (y1.2 < ((List.length (x1.fSteps) : Nat) : Int)))))] hE fun a hE => ?_
 refine ae ?_
 refine sq ?_
 refine cond_split hE (b := (decide (y1.2 < ((List.length (x1.fSteps) : Nat) : Int)))) rfl (fun hb => ?_) (fun hb => ?_)
 ·replace hf := ct hb hf
  refine wpIn_skip ?_
  refine sq ?_
  refine wpIn_block ?_
  refine sq (ra ?_)
  obtain ⟨x2, h9, hf⟩ := bs hf
  refine at_op (op_tk hE (g_index (K := kd_T_api_Step) (e := 44) (by_ := 16) (zl := 2) rfl rfl rfl rfl hE rfl rfl rfl (by kernel_rfl) rfl (h4.mono (le2 (le2 le6 le7) le1)) h9 (fun a b2 o1 hE h10 => ?_))) rfl
  obtain ⟨cs1, C1, T1, fr1, hr1, hb1, hc1⟩ := id h10
  obtain ⟨rfl⟩ := kd_T_api_Step_el hr1
  refine at_op (op_tk hE (tk_loadX (off0 := o1) (off := 0) (c := c_T_api_Step (x2)) (.agg (List.toArray (c_T_api_Step (x2)))) rfl rfl rfl rfl hE rfl hS rfl hb1 hc1 (by kernel_rfl) (by kernel_rfl) (kD hS dn_nil) (fun a hE => ?_))) rfl
  refine at_op (op_alloc (z := .agg (List.toArray (c_T_api_Step ((T_api_Step.mk ((0 : Int)) ((0 : Int))))))) rfl rfl rfl rfl hE rfl hS (by kernel_rfl) (fun a b3 w _ hE hS => ?_)) rfl
  refine at_op (op_store (v := .agg (List.toArray (c_T_api_Step (x2)))) (c_T_api_Step (x2)) rfl rfl rfl rfl hE hS rfl rfl (by kernel_rfl) (by kernel_rfl) (by kernel_rfl) (by kernel_rfl) (by kernel_rfl) (fun a w _ hE hS => ?_)) rfl
  refine ae ?_
  refine ra ?_
  refine sM 5 5 [0, 0] [(20, .slice A3 (List.length (y1.1)) c2), (22, .int .i64 (x2.fPart)), (24, .int .i64 (x2.fKind))] hE hS fun a hE => ?_
  refine at_op (op_buildSlice (K := (kdInt .i64)) (e := 3) (cs := [.int .i64 (x2.fPart)] ++ ([.int .i64 (x2.fKind)] ++ [])) ([x2.fPart, x2.fKind] : List Int) rfl rfl rfl rfl hE rfl hS rfl (by kernel_rfl) rfl rfl (by exact ⟨_, _, rfl, rfl, ⟨_, _, rfl, rfl, rfl⟩⟩) (fun a A9 q8 w _ hE h11 hS => ?_)) rfl
  obtain ⟨D7, q9, le3, hS, h19, h12⟩ := hS.lent h11
  obtain ⟨r2, h13, hf⟩ := bs hf
  refine aC rfl rfl rfl rfl hE rfl rfl rfl rfl (rec_numbers.calls h13 (hS.st.fore (L := [])) h12) fun a v w hR hE => ?_
  obtain ⟨D8, A10, c8, q10, rfl, hS1, h14⟩ := hR
  have le4 := hS1.dle
  have hS := hS.callR hS1 rfl (.c .n)
  obtain ⟨D5, q11, le5, hS, h20, h15⟩ := hS.lent h14
  have hS := hS.p (.d 3 (.d 0 (.d 1 (.d 2 .n))))
  obtain ⟨l1, h16, hf⟩ := bs hf
  refine at_op (g_append (K := (kdInt .u8)) (e := 5) (bytes := 1) (l := y1.1) (m := r2) rfl rfl rfl rfl hE rfl hS rfl rfl (by kernel_rfl) rfl rfl (h1.mono (le2 (le2 le3 le4) le5)) h15 h16 (fun a A7 c7 q5 w _ hE h17 hS => ?_)) rfl
  refine sN 1 9 [(3, .slice A7 (List.length (l1)) c7)] hE fun a hE => ?_
  refine ae ?_
  refine ra ?_
  refine sN 2 2 [(16, .int .i64 ((IntKind.wrap .i64 (y1.2 + (1 : Int)))))] hE fun a hE => ?_
  refine ae ?_
  have hS := hS.p (.d 0 .n)
  exact ⟨(l1, (IntKind.wrap .i64 (y1.2 + (1 : Int)))), A7, c7, q5, D5, hE.wk, hS, (le2 (le2 (le2 le1 le3) le4) le5), h17, hf⟩
 replace hf := cf hb hf
 refine wpIn_exit ?_
 obtain rfl := si hf
 exact ⟨y1.1, A3, c2, q2, D3, hE.wk, hS, le1, h1, rfl⟩
set_option maxRecDepth 100000 in
theorem slices_Grow_byte_byte.calls {K : Nat} {g w0 : World} {D0 : Snap} {x1 : Int} {r : ((List Int))} (hf : slices_Grow_byte_byte.f K x1 = some r) (hS0 : St g w0 D0 []) :
  CallsIn (Fw none) 0 Tryd.prog 95 (List.toArray [.slice none 0 0, .int .i64 (x1)]) w0 (fun e w' => ∃ v, e = .returned v ∧ ∃ (D1 : Snap) (A22 : Option Addr) (c23 : Nat) (q24 : Blk), v = .slice A22 (List.length (r)) c23 ∧ Stp g w0 D0 [] w' D1 [q24] ∧ OwnD (kdInt .u8) 5 D1 A22 c23 (r) q24) := by
 unfold slices_Grow_byte_byte.f at hf
 have hS := Stp.refl hS0
 clear hS0
 refine calls_body (n := 27) Tryd.func95 rfl Tryd.ntmps95 rfl fun a hE => ?_
 have hE : Env a 27 [] [(0, .slice none 0 0), (1, .int .i64 (x1))] := hE
 refine sq (ra ?_)
 refine sN 1 1 [(4, .slice none 0 0)] hE fun a hE => ?_
 refine ae ?_
 refine sq (sq (ra ?_))
 refine sN 2 2 [(6, .bool ((decide (x1 < (0 : Int)))))] hE fun a hE => ?_
 refine ae ?_
 refine cond_split hE (b := (decide (x1 < (0 : Int)))) rfl (fun hb => ?_) (fun hb => ?_)
 ·replace hf := ct hb hf
  refine ra ?_
  cases hf
 replace hf := cf hb hf
 refine wpIn_skip ?_
 refine sq (sq (ra ?_))
 refine sN 2 2 [(8, .int .i64 (x1)), (9, .slice none 0 0)] hE fun a hE => ?_
 refine at_op (op_tk hE (tk_capNil rfl rfl rfl rfl hE rfl rfl (by kernel_rfl) (fun a hE => ?_))) rfl
 refine sN 5 8 [(1, .int .i64 ((IntKind.wrap .i64 (x1 - (IntKind.wrap .i64 (((0 : Nat) : Int) - ((0 : Nat) : Int)))))))] hE fun a hE => ?_
 refine ae ?_
 refine sq (ra ?_)
 refine sN 2 2 [(16, .bool ((decide ((0 : Int) < (IntKind.wrap .i64 (x1 - (IntKind.wrap .i64 (((0 : Nat) : Int) - ((0 : Nat) : Int)))))))))] hE fun a hE => ?_
 refine ae ?_
 refine cond_split hE (b := (decide ((0 : Int) < (IntKind.wrap .i64 (x1 - (IntKind.wrap .i64 (((0 : Nat) : Int) - ((0 : Nat) : Int)))))))) rfl (fun hb => ?_) (fun hb => ?_)
 ·replace hf := ct hb hf
  refine ra ?_
  refine sN 2 2 [(17, .slice none 0 0), (18, .slice none 0 0)] hE fun a hE => ?_
  refine at_op (op_tk hE (tk_capNil rfl rfl rfl rfl hE rfl rfl (by kernel_rfl) (fun a hE => ?_))) rfl
  refine at_op (op_tk hE (tk_sliceNil (e := 5) (sz := 1) (by_ := 1) (zl := 1) rfl rfl rfl rfl hE rfl rfl (by kernel_rfl) rfl ⟨_, rfl⟩ (fun a hE => ?_))) rfl
  refine sN 1 5 [(21, .int .i64 ((IntKind.wrap .i64 (x1 - (IntKind.wrap .i64 (((0 : Nat) : Int) - ((0 : Nat) : Int)))))))] hE fun a hE => ?_
  obtain ⟨l37, h38, hf⟩ := bs hf
  refine at_op (op_appendZ (K := (kdInt .u8)) (e := 5) (bytes := 1) (z := (0 : Int)) (cz := [.int .u8 ((0 : Int))]) rfl rfl rfl rfl hE rfl hS rfl rfl (by kernel_rfl) (by kernel_rfl) (by kernel_rfl) rfl rfl rfl h38 (fun a A39 c40 q41 w _ hE h42 hS => ?_)) rfl
  refine sN 2 8 [(24, .int .i64 (((0 : Nat) : Int)))] hE fun a hE => ?_
  obtain ⟨l44, h45, hf⟩ := bs hf
  refine at_op (op_tk hE (op_prefixO (K := (kdInt .u8)) (T := 5) (by_ := 1) (zl := 1) rfl rfl rfl rfl hE rfl rfl (by kernel_rfl) ⟨_, rfl⟩ h42 h45 (fun a hE h46 => ?_))) rfl
  refine sN 1 10 [(0, .slice A39 (List.length (l44)) c40)] hE fun a hE => ?_
  refine ae ?_
  refine sq (ra ?_)
  refine sN 2 2 [(4, .slice A39 (List.length (l44)) c40)] hE fun a hE => ?_
  refine ae ?_
  refine wpIn_ret ?_
  obtain rfl := si hf
  refine ret_ ?_
  refine rT 4 (.slice A39 (List.length (l44)) c40) hE ?_
  exact ⟨_, rfl, D0, A39, c40, q41, rfl, hS, h46⟩
 replace hf := cf hb hf
 refine wpIn_skip ?_
 refine sq (ra ?_)
 refine sN 2 2 [(4, .slice none 0 0)] hE fun a hE => ?_
 refine ae ?_
 refine wpIn_ret ?_
 have hS := hS.nils
 obtain rfl := si hf
 refine ret_ ?_
 refine rT 4 (.slice none 0 0) hE ?_
 exact ⟨_, rfl, D0, none, 0, none, rfl, hS, (OwnD.nil (kdInt .u8) 5 D0)⟩
set_option maxRecDepth 100000 in
theorem slices_Concat_byte_byte.calls {K : Nat} {g w0 : World} {D0 : Snap} {x1 : (List (List Int))} {A2 : Option Addr} {c3 : Nat} {r : ((List Int))} (hf : slices_Concat_byte_byte.f K x1 = some r) (hS0 : St g w0 D0 []) (h4 : Sl (kdSlice (kdInt .u8)) D0 A2 c3 (x1)) :
  CallsIn (Fw none) 0 Tryd.prog 71 (List.toArray [.slice A2 (List.length (x1)) c3]) w0 (fun e w' => ∃ v, e = .returned v ∧ ∃ (D1 : Snap) (A6 : Option Addr) (c6 : Nat) (q3 : Blk), v = .slice A6 (List.length (r)) c6 ∧ Stp g w0 D0 [] w' D1 [q3] ∧ OwnD (kdInt .u8) 5 D1 A6 c6 (r) q3) := by
 unfold slices_Concat_byte_byte.f at hf
 have hS := Stp.refl hS0
 clear hS0
 refine calls_body (n := 36) Tryd.func71 rfl Tryd.ntmps71 rfl fun a hE => ?_
 have hE : Env a 36 [] [(0, .slice A2 (List.length (x1)) c3)] := hE
 refine sq (ra ?_)
 refine sN 1 1 [(2, .slice none 0 0)] hE fun a hE => ?_
 refine ae ?_
 refine sq (ra ?_)
 refine sN 1 1 [(3, .int .i64 ((0 : Int)))] hE fun a hE => ?_
 refine ae ?_
 refine sq (sq (ra ?_))
 refine sN 3 3 [(9, .slice A2 (List.length (x1)) c3), (10, .int .i64 (((List.length (x1) : Nat) : Int))), (11, .int .i64 ((0 : Int)))] hE fun a hE => ?_
 refine ae ?_
 obtain ⟨s1, hf, hs1⟩ := bs hf
 refine block_loop (fun a w => ∃ (z2 : Int), ∃ D5, Env a 36 [] [(0, .slice A2 (List.length (x1)) c3), (3, .int .i64 (z2))] ∧ Stp g w0 D0 [] w D5 [] ∧ Snap.le D0 D5 ∧ z2 = s1) (fun k a w => ∃ (y1 : Int × Int), ∃ D3, Env a 36 [] [(0, .slice A2 (List.length (x1)) c3), (3, .int .i64 (y1.1)), (9, .slice A2 (List.length (x1)) c3), (10, .int .i64 (((List.length (x1) : Nat) : Int))), (11, .int .i64 (y1.2))] ∧ Stp g w0 D0 [] w D3 [] ∧ Snap.le D0 D3 ∧ slices_Concat_byte_byte_l1.l K x1 k y1 = some s1) K ?_ ?_ ?_
 ·exact ⟨((0 : Int), (0 : Int)), D0, hE.wk, hS, lr, hf⟩
 ·clear hE hS hf
  rintro a w ⟨z2, D5, hE, hS, le4, rfl⟩
  have hf := hs1
  clear hs1
  refine sq (ra ?_)
  refine sN 1 1 [(23, .int .i64 (z2))] hE fun a hE => ?_
  obtain ⟨r1, h2, hf⟩ := bs hf
  refine aC rfl rfl rfl rfl hE rfl rfl rfl rfl (slices_Grow_byte_byte.calls h2 (hS.st.fore (L := [])) ) fun a v w hR hE => ?_
  obtain ⟨D6, A7, c7, q4, rfl, hS1, h3⟩ := hR
  have le5 := hS1.dle
  have hS := hS.callR hS1 rfl (.c .n)
  refine sN 1 3 [(6, .slice A7 (List.length (r1)) c7)] hE fun a hE => ?_
  refine ae ?_
  refine sq (sq (ra ?_))
  refine sN 3 3 [(25, .slice A2 (List.length (x1)) c3), (26, .int .i64 (((List.length (x1) : Nat) : Int))), (27, .int .i64 ((0 : Int)))] hE fun a hE => ?_
  refine ae ?_
  obtain ⟨s2, hf, hs2⟩ := bs hf
  refine block_loop (fun a w => ∃ (z1 : (List Int)), ∃ A1, ∃ c1, ∃ q1, ∃ D4, Env a 36 [] [(6, .slice A1 (List.length (z1)) c1)] ∧ Stp g w0 D0 [] w D4 [q1] ∧ Snap.le D6 D4 ∧ OwnD (kdInt .u8) 5 D4 A1 c1 (z1) q1 ∧ z1 = s2) (fun k a w => ∃ (y2 : (List Int) × Int), ∃ A3, ∃ c2, ∃ q2, ∃ D2, Env a 36 [] [(6, .slice A3 (List.length (y2.1)) c2), (25, .slice A2 (List.length (x1)) c3), (26, .int .i64 (((List.length (x1) : Nat) : Int))), (27, .int .i64 (y2.2))] ∧ Stp g w0 D0 [] w D2 [q2] ∧ Snap.le D6 D2 ∧ OwnD (kdInt .u8) 5 D2 A3 c2 (y2.1) q2 ∧ slices_Concat_byte_byte_l2.l K x1 k y2 = some s2) K ?_ ?_ ?_
  ·exact ⟨(r1, (0 : Int)), A7, c7, q4, D6, hE.wk, hS, lr, h3, hf⟩
  ·clear hE hS hf
   rintro a w ⟨z1, A1, c1, q1, D4, hE, hS, le6, h5, rfl⟩
   have hf := hs2
   clear hs2
   refine sq (ra ?_)
   refine sN 2 2 [(2, .slice A1 (List.length (z1)) c1)] hE fun a hE => ?_
   refine ae ?_
   refine wpIn_ret ?_
   obtain rfl := si hf
   refine ret_ ?_
   refine rT 2 (.slice A1 (List.length (z1)) c1) hE ?_
   exact ⟨_, rfl, D4, A1, c1, q1, rfl, hS, h5⟩
  clear hE hS hf
  rintro k a w ⟨y2, A3, c2, q2, D2, hE, hS, le1, h1, hf⟩
  obtain ⟨k, rfl, hf⟩ := slices_Concat_byte_byte_l2.some _ hf
  refine ⟨k, rfl, ?_⟩
  unfold slices_Concat_byte_byte_l2.b at hf
  refine sq (ra ?_)
  refine sN 1 1 [(28, .bool ((decide (y2.2 < ((List.length (x1) : Nat) : Int)))))] hE fun a hE => ?_
  refine ae ?_
  refine sq ?_
  refine cond_split hE (b := (decide (y2.2 < ((List.length (x1) : Nat) : Int)))) rfl (fun hb => ?_) (fun hb => ?_)
  ·replace hf := ct hb hf
   refine wpIn_skip ?_
   refine sq ?_
   refine wpIn_block ?_
   refine sq (ra ?_)
   obtain ⟨x3, h6, hf⟩ := bs hf
   refine at_op (op_tk hE (g_index (K := (kdSlice (kdInt .u8))) (e := 37) (by_ := 24) (zl := 1) rfl rfl rfl rfl hE rfl rfl rfl (by kernel_rfl) rfl (h4.mono (le2 (le2 le4 le5) le1)) h6 (fun a b1 o1 hE h7 => ?_))) rfl
   obtain ⟨cs1, C1, T1, fr1, hr1, hb1, hc1⟩ := id h7
   obtain ⟨A4, c4, rfl, h8⟩ := hr1
   refine at_op (op_tk hE (tk_loadX (off0 := o1) (off := 0) (c := [.slice A4 (List.length (x3)) c4]) (.slice A4 (List.length (x3)) c4) rfl rfl rfl rfl hE rfl hS rfl hb1 hc1 (by kernel_rfl) (by kernel_rfl) (kD hS dn_nil) (fun a hE => ?_))) rfl
   refine sN 1 3 [(8, .slice A4 (List.length (x3)) c4)] hE fun a hE => ?_
   refine ae ?_
   refine ra ?_
   refine sN 2 2 [(31, .slice A3 (List.length (y2.1)) c2), (32, .slice A4 (List.length (x3)) c4)] hE fun a hE => ?_
   obtain ⟨l1, h9, hf⟩ := bs hf
   refine at_op (g_append (K := (kdInt .u8)) (e := 5) (bytes := 1) (l := y2.1) (m := x3) rfl rfl rfl rfl hE rfl hS rfl rfl (by kernel_rfl) rfl rfl h1 h8 h9 (fun a A8 c8 q5 w _ hE h10 hS => ?_)) rfl
   refine sN 1 4 [(6, .slice A8 (List.length (l1)) c8)] hE fun a hE => ?_
   refine ae ?_
   refine ra ?_
   refine sN 2 2 [(27, .int .i64 ((IntKind.wrap .i64 (y2.2 + (1 : Int)))))] hE fun a hE => ?_
   exact ae ⟨(l1, (IntKind.wrap .i64 (y2.2 + (1 : Int)))), A8, c8, q5, D2, hE.wk, hS, le1, h10, hf⟩
  replace hf := cf hb hf
  refine wpIn_exit ?_
  obtain rfl := si hf
  exact ⟨y2.1, A3, c2, q2, D2, hE.wk, hS, le1, h1, rfl⟩
 clear hE hS hf
 rintro k a w ⟨y1, D3, hE, hS, le3, hf⟩
 obtain ⟨k, rfl, hf⟩ := slices_Concat_byte_byte_l1.some _ hf
 refine ⟨k, rfl, ?_⟩
 unfold slices_Concat_byte_byte_l1.b at hf
 refine sq (ra ?_)
 refine sN 1 1 [(12, .bool ((decide (y1.2 < ((List.length (x1) : Nat) : Int)))))] hE fun a hE => ?_
 refine ae ?_
 refine sq ?_
 refine cond_split hE (b := (decide (y1.2 < ((List.length (x1) : Nat) : Int)))) rfl (fun hb => ?_) (fun hb => ?_)
 ·replace hf := ct hb hf
  refine wpIn_skip ?_
  refine sq ?_
  refine wpIn_block ?_
  refine sq (ra ?_)
  obtain ⟨x2, h11, hf⟩ := bs hf
  refine at_op (op_tk hE (g_index (K := (kdSlice (kdInt .u8))) (e := 37) (by_ := 24) (zl := 1) rfl rfl rfl rfl hE rfl rfl rfl (by kernel_rfl) rfl (h4.mono le3) h11 (fun a b2 o2 hE h12 => ?_))) rfl
  obtain ⟨cs2, C2, T2, fr2, hr2, hb2, hc2⟩ := id h12
  obtain ⟨A5, c5, rfl, h13⟩ := hr2
  refine at_op (op_tk hE (tk_loadX (off0 := o2) (off := 0) (c := [.slice A5 (List.length (x2)) c5]) (.slice A5 (List.length (x2)) c5) rfl rfl rfl rfl hE rfl hS rfl hb2 hc2 (by kernel_rfl) (by kernel_rfl) (kD hS dn_nil) (fun a hE => ?_))) rfl
  refine sN 1 3 [(5, .slice A5 (List.length (x2)) c5)] hE fun a hE => ?_
  refine ae ?_
  refine sq (ra ?_)
  refine sN 5 5 [(3, .int .i64 ((IntKind.wrap .i64 (y1.1 + ((List.length (x2) : Nat) : Int)))))] hE fun a hE => ?_
  refine ae ?_
  refine sq (ra ?_)
  refine sN 2 2 [(20, .bool ((decide ((IntKind.wrap .i64 (y1.1 + ((List.length (x2) : Nat) : Int))) < (0 : Int)))))] hE fun a hE => ?_
  refine ae ?_
  refine cond_split hE (b := (decide ((IntKind.wrap .i64 (y1.1 + ((List.length (x2) : Nat) : Int))) < (0 : Int)))) rfl (fun hb => ?_) (fun hb => ?_)
  ·replace hf := ct hb hf
   refine ra ?_
   cases hf
  replace hf := cf hb hf
  refine wpIn_skip ?_
  refine ra ?_
  refine sN 2 2 [(11, .int .i64 ((IntKind.wrap .i64 (y1.2 + (1 : Int)))))] hE fun a hE => ?_
  exact ae ⟨((IntKind.wrap .i64 (y1.1 + ((List.length (x2) : Nat) : Int))), (IntKind.wrap .i64 (y1.2 + (1 : Int)))), D3, hE.wk, hS, le3, hf⟩
 replace hf := cf hb hf
 refine wpIn_exit ?_
 obtain rfl := si hf
 exact ⟨y1.1, D3, hE.wk, hS, le3, rfl⟩
set_option maxRecDepth 100000 in
theorem wire_All.calls {K : Nat} {g w0 : World} {D0 : Snap} {x1 : (List (List Int))} {A2 : Option Addr} {c3 : Nat} {r : ((List Int))} (hf : wire_All.f K x1 = some r) (hS0 : St g w0 D0 []) (h4 : Sl (kdSlice (kdInt .u8)) D0 A2 c3 (x1)) :
  CallsIn (Fw none) 0 Tryd.prog 40 (List.toArray [.slice A2 (List.length (x1)) c3]) w0 (fun e w' => ∃ v, e = .returned v ∧ ∃ (D1 : Snap) (A15 : Option Addr) (c16 : Nat) (q17 : Blk), v = .slice A15 (List.length (r)) c16 ∧ Stp g w0 D0 [] w' D1 [q17] ∧ OwnD (kdInt .u8) 5 D1 A15 c16 (r) q17) := by
 unfold wire_All.f at hf
 have hS := Stp.refl hS0
 clear hS0
 refine calls_body (n := 5) Tryd.func40 rfl Tryd.ntmps40 rfl fun a hE => ?_
 have hE : Env a 5 [] [(0, .slice A2 (List.length (x1)) c3)] := hE
 refine sq (ra ?_)
 refine sN 1 1 [(2, .slice none 0 0)] hE fun a hE => ?_
 refine ae ?_
 refine sq (ra ?_)
 refine sN 1 1 [(3, .slice A2 (List.length (x1)) c3)] hE fun a hE => ?_
 obtain ⟨r20, h21, hf⟩ := bs hf
 refine aC rfl rfl rfl rfl hE rfl rfl rfl rfl (slices_Concat_byte_byte.calls h21 (hS.st.fore (L := [])) h4) fun a v w hR hE => ?_
 obtain ⟨D22, A24, c25, q26, rfl, hS1, h27⟩ := hR
 have le29 := hS1.dle
 have hS := hS.callR hS1 rfl (.c .n)
 refine sN 1 3 [(2, .slice A24 (List.length (r20)) c25)] hE fun a hE => ?_
 refine ae ?_
 refine wpIn_ret ?_
 obtain rfl := si hf
 refine ret_ ?_
 refine rT 2 (.slice A24 (List.length (r20)) c25) hE ?_
 exact ⟨_, rfl, D22, A24, c25, q26, rfl, hS, h27⟩
set_option maxRecDepth 100000 in
theorem wire_Flag.calls {K : Nat} {g w0 : World} {D0 : Snap} {x1 : Bool} {r : ((List Int))} (hf : wire_Flag.f K x1 = some r) (hS0 : St g w0 D0 []) :
  CallsIn (Fw none) 0 Tryd.prog 41 (List.toArray [.bool (x1)]) w0 (fun e w' => ∃ v, e = .returned v ∧ ∃ (D1 : Snap) (A14 : Option Addr) (c15 : Nat) (q16 : Blk), v = .slice A14 (List.length (r)) c15 ∧ Stp g w0 D0 [] w' D1 [q16] ∧ OwnD (kdInt .u8) 5 D1 A14 c15 (r) q16) := by
 unfold wire_Flag.f at hf
 have hS := Stp.refl hS0
 clear hS0
 refine calls_body (n := 6) Tryd.func41 rfl Tryd.ntmps41 rfl fun a hE => ?_
 have hE : Env a 6 [] [(0, .bool (x1))] := hE
 refine sq (ra ?_)
 refine sN 1 1 [(2, .slice none 0 0)] hE fun a hE => ?_
 refine ae ?_
 refine sq (sq (ra ?_))
 refine sN 1 1 [(3, .bool (x1))] hE fun a hE => ?_
 refine ae ?_
 refine cond_split hE (b := x1) rfl (fun hb => ?_) (fun hb => ?_)
 ·replace hf := ct hb hf
  refine sq (ra ?_)
  refine at_op (op_buildSlice (K := (kdInt .u8)) (e := 5) (cs := [.int .u8 ((1 : Int))] ++ []) ([(1 : Int)] : List Int) rfl rfl rfl rfl hE rfl hS rfl (by kernel_rfl) rfl rfl (by exact ⟨_, _, rfl, rfl, rfl⟩) (fun a A23 q24 w _ hE h25 hS => ?_)) rfl
  refine sN 1 2 [(2, .slice A23 (List.length (([(1 : Int)] : List Int))) 1)] hE fun a hE => ?_
  refine ae ?_
  refine wpIn_ret ?_
  obtain rfl := si hf
  refine ret_ ?_
  refine rT 2 (.slice A23 (List.length (([(1 : Int)] : List Int))) 1) hE ?_
  exact ⟨_, rfl, D0, A23, 1, q24, rfl, hS, h25⟩
 replace hf := cf hb hf
 refine wpIn_skip ?_
 refine sq (ra ?_)
 refine at_op (op_buildSlice (K := (kdInt .u8)) (e := 5) (cs := [.int .u8 ((0 : Int))] ++ []) ([(0 : Int)] : List Int) rfl rfl rfl rfl hE rfl hS rfl (by kernel_rfl) rfl rfl (by exact ⟨_, _, rfl, rfl, rfl⟩) (fun a A27 q28 w _ hE h29 hS => ?_)) rfl
 refine sN 1 2 [(2, .slice A27 (List.length (([(0 : Int)] : List Int))) 1)] hE fun a hE => ?_
 refine ae ?_
 refine wpIn_ret ?_
 obtain rfl := si hf
 refine ret_ ?_
 refine rT 2 (.slice A27 (List.length (([(0 : Int)] : List Int))) 1) hE ?_
 exact ⟨_, rfl, D0, A27, 1, q28, rfl, hS, h29⟩
set_option maxRecDepth 100000 in
theorem rec_call.calls {K : Nat} {g w0 : World} {D0 : Snap} {x1 : T_api_Rec} {A2 : Option Addr} {c3 : Nat} {A5 : Option Addr} {c6 : Nat} {r : ((List Int))} (hf : rec_call.f K x1 = some r) (hS0 : St g w0 D0 []) (h4 : Sl kd_T_api_Step D0 A2 c3 (x1.fSteps)) (h7 : Sl (kdInt .u8) D0 A5 c6 (x1.fData)) :
  CallsIn (Fw none) 0 Tryd.prog 103 (List.toArray [.agg (List.toArray (c_T_api_Rec (x1) A2 c3 A5 c6))]) w0 (fun e w' => ∃ v, e = .returned v ∧ ∃ (D1 : Snap) (A3 : Option Addr) (c2 : Nat) (q1 : Blk), v = .slice A3 (List.length (r)) c2 ∧ Stp g w0 D0 [] w' D1 [q1] ∧ OwnD (kdInt .u8) 5 D1 A3 c2 (r) q1) := by
 unfold rec_call.f at hf
 have hS := Stp.refl hS0
 clear hS0
 refine calls_body (n := 18) Tryd.func103 rfl Tryd.ntmps103 rfl fun a hE => ?_
 have hE : Env a 18 [] [(0, .agg (List.toArray (c_T_api_Rec (x1) A2 c3 A5 c6)))] := hE
 refine sq (ra ?_)
 refine at_op (op_box rfl rfl rfl rfl hE rfl hS rfl (fun a b1 w _ hE hS => ?_)) rfl
 refine sN 1 2 [(2, .slice none 0 0)] hE fun a hE => ?_
 refine ae ?_
 refine sq ?_
 refine region_draw (fun j => Keeps (mfOf [] j)) (by kernel_rfl) ?_
 have hS := hS.drew
 first | generalize w.drew = w at hS ⊢ | generalize w0.drew = w at hS ⊢
 refine wF 0 1 15 1 3 1 hE fun a hE => ?_
 refine tL 1 3 14 0 (.int .i64 (x1.fSaga)) hE hS fun a hE => ?_
 refine wF 2 7 13 2 3 2 hE fun a hE => ?_
 refine tL 3 15 12 0 (.int .i64 (x1.fSeq)) hE hS fun a hE => ?_
 refine wF 4 31 11 3 3 3 hE fun a hE => ?_
 refine tL 5 63 10 0 (.int .i64 (x1.fStep)) hE hS fun a hE => ?_
 refine wF 6 127 9 4 3 4 hE fun a hE => ?_
 refine tL 7 255 8 0 (.int .i64 (x1.fTry)) hE hS fun a hE => ?_
 refine wF 10 1279 7 5 4 5 hE fun a hE => ?_
 refine tL 11 3327 6 0 (.bool (x1.fBack)) hE hS fun a hE => ?_
 refine oG 8 3583 (fuel := 5) (by kernel_rfl) (op_buildSlice (K := (kdInt .i64)) (e := 3) (cs := [.int .i64 (x1.fSaga)] ++ ([.int .i64 (x1.fSeq)] ++ ([.int .i64 (x1.fStep)] ++ ([.int .i64 (x1.fTry)] ++ [])))) ([x1.fSaga, x1.fSeq, x1.fStep, x1.fTry] : List Int) rfl rfl rfl rfl hE rfl hS rfl (by kernel_rfl) rfl rfl (by exact ⟨_, _, rfl, rfl, ⟨_, _, rfl, rfl, ⟨_, _, rfl, rfl, ⟨_, _, rfl, rfl, rfl⟩⟩⟩⟩) (fun a A7 q3 w hkp hE h1 hS => ⟨hkp.mono (fun _ h => absurd h List.not_mem_nil), ?_⟩))
 clear hkp
 obtain ⟨D3, q4, le4, hS, h15, h2⟩ := hS.lent h1
 obtain ⟨r1, h3, hf⟩ := bs hf
 refine oC 9 4095 4 rfl rfl rfl rfl hE rfl rfl rfl rfl (rec_numbers.calls h3 (hS.st.fore (L := [])) h2) fun a v w hR hE => ?_
 obtain ⟨D4, A4, c4, q5, rfl, hS1, h5⟩ := hR
 refine ⟨(hS1.keeps.sub (M' := []) trivial).mono (fun _ h => h), ?_⟩
 have le5 := hS1.dle
 have hS := hS.callR hS1 rfl (.c .n)
 obtain ⟨r2, h6, hf⟩ := bs hf
 refine oC 12 8191 3 rfl rfl rfl rfl hE rfl rfl rfl rfl (wire_Flag.calls h6 (hS.st.fore (L := [])) ) fun a v w hR hE => ?_
 obtain ⟨D5, A6, c5, q6, rfl, hS1, h8⟩ := hR
 refine ⟨(hS1.keeps.sub (M' := []) trivial).mono (fun _ h => h), ?_⟩
 have le1 := hS1.dle
 have hS := hS.callR hS1 rfl (.c .n)
 have hS := hS.p (.d 1 (.d 0 (.d 2 (.d 3 .n))))
 obtain ⟨D6, q7, le2, hS, h16, h9⟩ := hS.lent (h5.mono le1)
 have hS := hS.p (.d 1 (.d 0 (.d 2 (.d 3 .n))))
 obtain ⟨D7, q8, le3, hS, h17, h10⟩ := hS.lent (h8.mono le2)
 refine oG 13 16383 (fuel := 2) (by kernel_rfl) (op_buildSlice (K := (kdSlice (kdInt .u8))) (e := 37) (cs := [.slice A4 (List.length (r1)) c4] ++ ([.slice A6 (List.length (r2)) c5] ++ [])) ([r1, r2] : List (List Int)) rfl rfl rfl rfl hE rfl hS rfl (by kernel_rfl) rfl rfl (by exact ⟨_, _, rfl, (kslice (h9.mono le3)), ⟨_, _, rfl, (kslice h10), rfl⟩⟩) (fun a A8 q9 w hkp hE h11 hS => ⟨hkp.mono (fun _ h => absurd h List.not_mem_nil), ?_⟩))
 clear hkp
 obtain ⟨D8, q10, le6, hS, h18, h12⟩ := hS.lent h11
 obtain ⟨r3, h13, hf⟩ := bs hf
 refine oC 14 32767 1 rfl rfl rfl rfl hE rfl rfl rfl rfl (wire_All.calls h13 (hS.st.fore (L := [])) h12) fun a v w hR hE => ?_
 obtain ⟨D2, A1, c1, q2, rfl, hS1, h14⟩ := hR
 refine ⟨(hS1.keeps.sub (M' := []) trivial).mono (fun _ h => h), ?_⟩
 have le7 := hS1.dle
 have hS := hS.callR hS1 rfl (.c .n)
 refine wP 15 65535 0 (.slice A1 (List.length (r3)) c1) hE fun a hE => ?_
 refine doneG (by kernel_rfl) ?_
 refine wpIn_ret ?_
 obtain rfl := si hf
 refine ret_ ?_
 refine rT 2 (.slice A1 (List.length (r3)) c1) hE ?_
 have hS := hS.p (.d 0 .n)
 exact ⟨_, rfl, D2, A1, c1, q2, rfl, hS, h14⟩
set_option maxRecDepth 100000 in
theorem slices_Clone_byte_byte.calls {K : Nat} {g w0 : World} {D0 : Snap} {x1 : (List Int)} {A2 : Option Addr} {c3 : Nat} {r : ((List Int))} (hf : slices_Clone_byte_byte.f K x1 = some r) (hS0 : St g w0 D0 []) (h4 : Sl (kdInt .u8) D0 A2 c3 (x1)) :
  CallsIn (Fw none) 0 Tryd.prog 73 (List.toArray [.slice A2 (List.length (x1)) c3]) w0 (fun e w' => ∃ v, e = .returned v ∧ ∃ (D1 : Snap) (A16 : Option Addr) (c17 : Nat) (q18 : Blk), v = .slice A16 (List.length (r)) c17 ∧ Stp g w0 D0 [] w' D1 [q18] ∧ OwnD (kdInt .u8) 5 D1 A16 c17 (r) q18) := by
 unfold slices_Clone_byte_byte.f at hf
 have hS := Stp.refl hS0
 clear hS0
 refine calls_body (n := 8) Tryd.func73 rfl Tryd.ntmps73 rfl fun a hE => ?_
 have hE : Env a 8 [] [(0, .slice A2 (List.length (x1)) c3)] := hE
 refine sq (ra ?_)
 refine sN 1 1 [(2, .slice none 0 0)] hE fun a hE => ?_
 refine ae ?_
 refine sq (sq (ra ?_))
 refine sN 1 1 [(3, .slice A2 (List.length (x1)) c3)] hE fun a hE => ?_
 refine at_op (op_tk hE (tk_bin (r := .bool ((Option.isNone A2))) rfl rfl rfl rfl hE rfl rfl rfl (eqnil_run (by kernel_rfl) _ _ _) (fun a hE => ?_))) rfl
 refine ae ?_
 refine cond_split hE (b := (Option.isNone A2)) rfl (fun hb => ?_) (fun hb => ?_)
 ·have hx := Sl.of_none h4 hb rfl
  rw [hx] at hf
  replace hf : (some ([] : List Int)) = some r := hf
  refine sq (ra ?_)
  refine sN 1 1 [(2, .slice none 0 0)] hE fun a hE => ?_
  refine ae ?_
  refine wpIn_ret ?_
  have hS := hS.nils
  obtain rfl := si hf
  refine ret_ ?_
  refine rT 2 (.slice none 0 0) hE ?_
  exact ⟨_, rfl, D0, none, 0, none, rfl, hS, (OwnD.nil (kdInt .u8) 5 D0)⟩
 refine wpIn_skip ?_
 refine sq (ra ?_)
 refine at_op (op_buildSlice (K := (kdInt .u8)) (e := 5) (cs := []) ([] : List Int) rfl rfl rfl rfl hE rfl hS rfl (by kernel_rfl) rfl rfl (by exact rfl) (fun a A22 q23 w _ hE h24 hS => ?_)) rfl
 refine sN 1 2 [(6, .slice A2 (List.length (x1)) c3)] hE fun a hE => ?_
 obtain ⟨l26, h27, hf⟩ := bs hf
 refine at_op (g_append (K := (kdInt .u8)) (e := 5) (bytes := 1) (l := ([] : List Int)) (m := x1) rfl rfl rfl rfl hE rfl hS rfl rfl (by kernel_rfl) rfl rfl h24 h4 h27 (fun a A28 c29 q30 w _ hE h31 hS => ?_)) rfl
 refine sN 1 4 [(2, .slice A28 (List.length (l26)) c29)] hE fun a hE => ?_
 refine ae ?_
 refine wpIn_ret ?_
 obtain rfl := si hf
 refine ret_ ?_
 refine rT 2 (.slice A28 (List.length (l26)) c29) hE ?_
 exact ⟨_, rfl, D0, A28, c29, q30, rfl, hS, h31⟩
set_option maxRecDepth 100000 in
theorem wire_Hash.calls {K : Nat} {g w0 : World} {D0 : Snap} {x1 : (Vector Int 32)} {r : ((List Int))} (hf : wire_Hash.f K x1 = some r) (hS0 : St g w0 D0 []) :
  CallsIn (Fw none) 0 Tryd.prog 43 (List.toArray [.agg (List.toArray (acells .u8 32 (x1)))]) w0 (fun e w' => ∃ v, e = .returned v ∧ ∃ (D1 : Snap) (A22 : Option Addr) (c23 : Nat) (q24 : Blk), v = .slice A22 (List.length (r)) c23 ∧ Stp g w0 D0 [] w' D1 [q24] ∧ OwnD (kdInt .u8) 5 D1 A22 c23 (r) q24) := by
 unfold wire_Hash.f at hf
 have hS := Stp.refl hS0
 clear hS0
 refine calls_body (n := 5) Tryd.func43 rfl Tryd.ntmps43 rfl fun a hE => ?_
 have hE : Env a 5 [] [(0, .agg (List.toArray (acells .u8 32 (x1))))] := hE
 refine sq (ra ?_)
 refine at_op (op_box rfl rfl rfl rfl hE rfl hS rfl (fun a b27 w _ hE hS => ?_)) rfl
 refine sN 1 2 [(2, .slice none 0 0)] hE fun a hE => ?_
 refine ae ?_
 refine sq (ra ?_)
 obtain ⟨D29, le30, e31, hS⟩ := hS.freezeB
 obtain ⟨l32, h33, hf⟩ := bs hf
 refine at_op (op_tk hE (g_sliceArr (kk := .u8) (e := 5) (v := x1) rfl rfl rfl rfl hE rfl rfl (by kernel_rfl) rfl rfl e31 rfl h33 (fun a A34 c35 hE h36 => ?_))) rfl
 obtain ⟨r37, h38, hf⟩ := bs hf
 refine aC rfl rfl rfl rfl hE rfl rfl rfl rfl (slices_Clone_byte_byte.calls h38 (hS.st.fore (L := [])) h36) fun a v w hR hE => ?_
 obtain ⟨D39, A41, c42, q43, rfl, hS1, h44⟩ := hR
 have le46 := hS1.dle
 have hS := hS.callR hS1 rfl (.c .n)
 refine sN 1 3 [(2, .slice A41 (List.length (r37)) c42)] hE fun a hE => ?_
 refine ae ?_
 refine wpIn_ret ?_
 obtain rfl := si hf
 refine ret_ ?_
 refine rT 2 (.slice A41 (List.length (r37)) c42) hE ?_
 exact ⟨_, rfl, D39, A41, c42, q43, rfl, hS, h44⟩
set_option maxRecDepth 100000 in
theorem rec_forms_1.calls {K : Nat} {g w0 : World} {D0 : Snap} {x1 : T_api_Rec} {A2 : Option Addr} {c3 : Nat} {A5 : Option Addr} {c6 : Nat} {r : ((List Int))} (hf : rec_forms_1.f K x1 = some r) (hS0 : St g w0 D0 []) (h4 : Sl kd_T_api_Step D0 A2 c3 (x1.fSteps)) (h7 : Sl (kdInt .u8) D0 A5 c6 (x1.fData)) :
  CallsIn (Fw none) 0 Tryd.prog 104 (List.toArray [.agg (List.toArray (c_T_api_Rec (x1) A2 c3 A5 c6))]) w0 (fun e w' => ∃ v, e = .returned v ∧ ∃ (D1 : Snap) (A6 : Option Addr) (c5 : Nat) (q1 : Blk), v = .slice A6 (List.length (r)) c5 ∧ Stp g w0 D0 [] w' D1 [q1] ∧ OwnD (kdInt .u8) 5 D1 A6 c5 (r) q1) := by
 unfold rec_forms_1.f at hf
 have hS := Stp.refl hS0
 clear hS0
 refine calls_body (n := 19) Tryd.func104 rfl Tryd.ntmps104 rfl fun a hE => ?_
 have hE : Env a 19 [] [(0, .agg (List.toArray (c_T_api_Rec (x1) A2 c3 A5 c6)))] := hE
 refine sq (ra ?_)
 refine at_op (op_box rfl rfl rfl rfl hE rfl hS rfl (fun a b1 w _ hE hS => ?_)) rfl
 refine sN 1 2 [(2, .slice none 0 0)] hE fun a hE => ?_
 refine ae ?_
 refine sq ?_
 refine region_draw (fun j => Keeps (mfOf [] j)) (by kernel_rfl) ?_
 have hS := hS.drew
 first | generalize w.drew = w at hS ⊢ | generalize w0.drew = w at hS ⊢
 refine tL 0 1 16 0 (.agg (List.toArray (c_T_api_Rec (x1) A2 c3 A5 c6))) hE hS fun a hE => ?_
 refine wF 2 5 15 6 4 6 hE fun a hE => ?_
 refine tL 3 13 14 0 (.bool (x1.fGood)) hE hS fun a hE => ?_
 refine wF 5 45 13 8 3 8 hE fun a hE => ?_
 refine tL 6 109 12 0 (.int .i64 (x1.fPart)) hE hS fun a hE => ?_
 refine wF 7 237 11 9 3 9 hE fun a hE => ?_
 refine tL 8 493 10 0 (.int .i64 (x1.fEpoch)) hE hS fun a hE => ?_
 refine wF 11 2541 9 10 24 10 hE fun a hE => ?_
 refine tL 12 6637 8 0 (.agg (List.toArray (acells .u8 32 (x1.fTag)))) hE hS fun a hE => ?_
 refine twoB (i := 1) (j := 9) (fuel := 7) (m1 := 6639) (m2 := 7149) (by kernel_rfl) (by kernel_rfl) (by kernel_rfl) ?_ ?_
 ·obtain ⟨r1, h2, hf⟩ := bs hf
  refine (op_call rfl rfl rfl rfl hE rfl rfl rfl rfl (by kernel_rfl) (rec_call.calls h2 (hS.st.fore (L := [])) h4 h7) (fun a v w hR hE => ?_))
  obtain ⟨D5, A7, c7, q5, rfl, hS1, h1⟩ := hR
  refine ⟨(hS1.keeps.sub (M' := []) trivial).mono (fun _ h => h), ?_⟩
  have le27 := hS1.dle
  have hS := hS.callR hS1 rfl (.c .n)
  refine twoB (i := 4) (j := 9) (fuel := 6) (m1 := 6655) (m2 := 7151) (by kernel_rfl) (by kernel_rfl) (by kernel_rfl) ?_ ?_
  ·obtain ⟨r2, h3, hf⟩ := bs hf
   refine (op_call rfl rfl rfl rfl hE rfl rfl rfl rfl (by kernel_rfl) (wire_Flag.calls h3 (hS.st.fore (L := [])) ) (fun a v w hR hE => ?_))
   obtain ⟨D6, A8, c8, q6, rfl, hS1, h5⟩ := hR
   refine ⟨(hS1.keeps.sub (M' := []) trivial).mono (fun _ h => h), ?_⟩
   have le25 := hS1.dle
   have hS := hS.callR hS1 rfl (.c .n)
   refine oG 9 7167 (fuel := 5) (by kernel_rfl) (op_buildSlice (K := (kdInt .i64)) (e := 3) (cs := [.int .i64 (x1.fPart)] ++ ([.int .i64 (x1.fEpoch)] ++ [])) ([x1.fPart, x1.fEpoch] : List Int) rfl rfl rfl rfl hE rfl hS rfl (by kernel_rfl) rfl rfl (by exact ⟨_, _, rfl, rfl, ⟨_, _, rfl, rfl, rfl⟩⟩) (fun a A18 q7 w hkp hE h6 hS => ⟨hkp.mono (fun _ h => absurd h List.not_mem_nil), ?_⟩))
   clear hkp
   obtain ⟨D7, q8, le17, hS, h55, h8⟩ := hS.lent h6
   obtain ⟨r3, h9, hf⟩ := bs hf
   refine oC 10 8191 4 rfl rfl rfl rfl hE rfl rfl rfl rfl (rec_numbers.calls h9 (hS.st.fore (L := [])) h8) fun a v w hR hE => ?_
   obtain ⟨D8, A9, c9, q9, rfl, hS1, h10⟩ := hR
   refine ⟨(hS1.keeps.sub (M' := []) trivial).mono (fun _ h => h), ?_⟩
   have le18 := hS1.dle
   have hS := hS.callR hS1 rfl (.c .n)
   obtain ⟨r4, h11, hf⟩ := bs hf
   refine oC 13 16383 3 rfl rfl rfl rfl hE rfl rfl rfl rfl (wire_Hash.calls h11 (hS.st.fore (L := [])) ) fun a v w hR hE => ?_
   obtain ⟨D9, A10, c10, q10, rfl, hS1, h12⟩ := hR
   refine ⟨(hS1.keeps.sub (M' := []) trivial).mono (fun _ h => h), ?_⟩
   have le1 := hS1.dle
   have hS := hS.callR hS1 rfl (.c .n)
   have hS := hS.p (.d 4 (.d 0 (.d 1 (.d 2 (.d 3 (.d 5 .n))))))
   obtain ⟨D10, q11, le3, hS, h56, h13⟩ := hS.lent (h1.mono (le2 (le2 (le2 le25 le17) le18) le1))
   have hS := hS.p (.d 4 (.d 0 (.d 1 (.d 2 (.d 3 (.d 5 .n))))))
   obtain ⟨D11, q12, le4, hS, h57, h14⟩ := hS.lent (h5.mono (le2 (le2 (le2 le17 le18) le1) le3))
   have hS := hS.p (.d 3 (.d 0 (.d 1 (.d 2 (.d 4 (.d 5 .n))))))
   obtain ⟨D12, q13, le5, hS, h58, h15⟩ := hS.lent (h10.mono (le2 (le2 le1 le3) le4))
   have hS := hS.p (.d 3 (.d 0 (.d 1 (.d 2 (.d 4 (.d 5 .n))))))
   obtain ⟨D13, q14, le6, hS, h59, h16⟩ := hS.lent (h12.mono (le2 (le2 le3 le4) le5))
   refine oG 14 32767 (fuel := 2) (by kernel_rfl) (op_buildSlice (K := (kdSlice (kdInt .u8))) (e := 37) (cs := [.slice A7 (List.length (r1)) c7] ++ ([.slice A8 (List.length (r2)) c8] ++ ([.slice A9 (List.length (r3)) c9] ++ ([.slice A10 (List.length (r4)) c10] ++ [])))) ([r1, r2, r3, r4] : List (List Int)) rfl rfl rfl rfl hE rfl hS rfl (by kernel_rfl) rfl rfl (by exact ⟨_, _, rfl, (kslice (h13.mono (le2 (le2 le4 le5) le6))), ⟨_, _, rfl, (kslice (h14.mono (le2 le5 le6))), ⟨_, _, rfl, (kslice (h15.mono le6)), ⟨_, _, rfl, (kslice h16), rfl⟩⟩⟩⟩) (fun a A19 q15 w hkp hE h17 hS => ⟨hkp.mono (fun _ h => absurd h List.not_mem_nil), ?_⟩))
   clear hkp
   obtain ⟨D14, q16, le28, hS, h60, h18⟩ := hS.lent h17
   obtain ⟨r5, h19, hf⟩ := bs hf
   refine oC 15 65535 1 rfl rfl rfl rfl hE rfl rfl rfl rfl (wire_All.calls h19 (hS.st.fore (L := [])) h18) fun a v w hR hE => ?_
   obtain ⟨D2, A1, c1, q2, rfl, hS1, h20⟩ := hR
   refine ⟨(hS1.keeps.sub (M' := []) trivial).mono (fun _ h => h), ?_⟩
   have le29 := hS1.dle
   have hS := hS.callR hS1 rfl (.c .n)
   refine wP 16 131071 0 (.slice A1 (List.length (r5)) c1) hE fun a hE => ?_
   refine doneG (by kernel_rfl) ?_
   refine wpIn_ret ?_
   obtain rfl := si hf
   refine ret_ ?_
   refine rT 2 (.slice A1 (List.length (r5)) c1) hE ?_
   have hS := hS.p (.d 0 .n)
   exact ⟨_, rfl, D2, A1, c1, q2, rfl, hS, h20⟩
  refine (op_buildSlice (K := (kdInt .i64)) (e := 3) (cs := [.int .i64 (x1.fPart)] ++ ([.int .i64 (x1.fEpoch)] ++ [])) ([x1.fPart, x1.fEpoch] : List Int) rfl rfl rfl rfl hE rfl hS rfl (by kernel_rfl) rfl rfl (by exact ⟨_, _, rfl, rfl, ⟨_, _, rfl, rfl, rfl⟩⟩) (fun a A20 q17 w hkp hE h21 hS => ⟨hkp.mono (fun _ h => absurd h List.not_mem_nil), ?_⟩))
  clear hkp
  obtain ⟨r6, h22, hf⟩ := bs hf
  refine oC 4 7167 5 rfl rfl rfl rfl hE rfl rfl rfl rfl (wire_Flag.calls h22 (hS.st.fore (L := [])) ) fun a v w hR hE => ?_
  obtain ⟨D15, A11, c11, q18, rfl, hS1, h23⟩ := hR
  refine ⟨(hS1.keeps.sub (M' := []) trivial).mono (fun _ h => h), ?_⟩
  have le19 := hS1.dle
  have hS := hS.callR hS1 rfl (.c .n)
  have hS := hS.p (.d 1 (.d 0 (.d 2 (.d 3 .n))))
  obtain ⟨D16, q19, le20, hS, h61, h24⟩ := hS.lent (h21.mono le19)
  obtain ⟨r7, h25, hf⟩ := bs hf
  refine oC 10 8191 4 rfl rfl rfl rfl hE rfl rfl rfl rfl (rec_numbers.calls h25 (hS.st.fore (L := [])) h24) fun a v w hR hE => ?_
  obtain ⟨D17, A12, c12, q20, rfl, hS1, h26⟩ := hR
  refine ⟨(hS1.keeps.sub (M' := []) trivial).mono (fun _ h => h), ?_⟩
  have le21 := hS1.dle
  have hS := hS.callR hS1 rfl (.c .n)
  obtain ⟨r8, h27, hf⟩ := bs hf
  refine oC 13 16383 3 rfl rfl rfl rfl hE rfl rfl rfl rfl (wire_Hash.calls h27 (hS.st.fore (L := [])) ) fun a v w hR hE => ?_
  obtain ⟨D18, A13, c13, q21, rfl, hS1, h28⟩ := hR
  refine ⟨(hS1.keeps.sub (M' := []) trivial).mono (fun _ h => h), ?_⟩
  have le7 := hS1.dle
  have hS := hS.callR hS1 rfl (.c .n)
  have hS := hS.p (.d 4 (.d 0 (.d 1 (.d 2 (.d 3 (.d 5 .n))))))
  obtain ⟨D19, q22, le8, hS, h62, h29⟩ := hS.lent (h1.mono (le2 (le2 (le2 le19 le20) le21) le7))
  have hS := hS.p (.d 4 (.d 0 (.d 1 (.d 2 (.d 3 (.d 5 .n))))))
  obtain ⟨D20, q23, le9, hS, h63, h30⟩ := hS.lent (h23.mono (le2 (le2 (le2 le20 le21) le7) le8))
  have hS := hS.p (.d 3 (.d 0 (.d 1 (.d 2 (.d 4 (.d 5 .n))))))
  obtain ⟨D21, q24, le10, hS, h64, h31⟩ := hS.lent (h26.mono (le2 (le2 le7 le8) le9))
  have hS := hS.p (.d 3 (.d 0 (.d 1 (.d 2 (.d 4 (.d 5 .n))))))
  obtain ⟨D22, q25, le11, hS, h65, h32⟩ := hS.lent (h28.mono (le2 (le2 le8 le9) le10))
  refine oG 14 32767 (fuel := 2) (by kernel_rfl) (op_buildSlice (K := (kdSlice (kdInt .u8))) (e := 37) (cs := [.slice A7 (List.length (r1)) c7] ++ ([.slice A11 (List.length (r6)) c11] ++ ([.slice A12 (List.length (r7)) c12] ++ ([.slice A13 (List.length (r8)) c13] ++ [])))) ([r1, r6, r7, r8] : List (List Int)) rfl rfl rfl rfl hE rfl hS rfl (by kernel_rfl) rfl rfl (by exact ⟨_, _, rfl, (kslice (h29.mono (le2 (le2 le9 le10) le11))), ⟨_, _, rfl, (kslice (h30.mono (le2 le10 le11))), ⟨_, _, rfl, (kslice (h31.mono le11)), ⟨_, _, rfl, (kslice h32), rfl⟩⟩⟩⟩) (fun a A21 q26 w hkp hE h33 hS => ⟨hkp.mono (fun _ h => absurd h List.not_mem_nil), ?_⟩))
  clear hkp
  obtain ⟨D23, q27, le30, hS, h66, h34⟩ := hS.lent h33
  obtain ⟨r9, h35, hf⟩ := bs hf
  refine oC 15 65535 1 rfl rfl rfl rfl hE rfl rfl rfl rfl (wire_All.calls h35 (hS.st.fore (L := [])) h34) fun a v w hR hE => ?_
  obtain ⟨D3, A3, c2, q3, rfl, hS1, h36⟩ := hR
  refine ⟨(hS1.keeps.sub (M' := []) trivial).mono (fun _ h => h), ?_⟩
  have le31 := hS1.dle
  have hS := hS.callR hS1 rfl (.c .n)
  refine wP 16 131071 0 (.slice A3 (List.length (r9)) c2) hE fun a hE => ?_
  refine doneG (by kernel_rfl) ?_
  refine wpIn_ret ?_
  obtain rfl := si hf
  refine ret_ ?_
  refine rT 2 (.slice A3 (List.length (r9)) c2) hE ?_
  have hS := hS.p (.d 0 .n)
  exact ⟨_, rfl, D3, A3, c2, q3, rfl, hS, h36⟩
 refine (op_buildSlice (K := (kdInt .i64)) (e := 3) (cs := [.int .i64 (x1.fPart)] ++ ([.int .i64 (x1.fEpoch)] ++ [])) ([x1.fPart, x1.fEpoch] : List Int) rfl rfl rfl rfl hE rfl hS rfl (by kernel_rfl) rfl rfl (by exact ⟨_, _, rfl, rfl, ⟨_, _, rfl, rfl, rfl⟩⟩) (fun a A22 q28 w hkp hE h37 hS => ⟨hkp.mono (fun _ h => absurd h List.not_mem_nil), ?_⟩))
 clear hkp
 obtain ⟨r10, h38, hf⟩ := bs hf
 refine oC 1 7151 6 rfl rfl rfl rfl hE rfl rfl rfl rfl (rec_call.calls h38 (hS.st.fore (L := [])) h4 h7) fun a v w hR hE => ?_
 obtain ⟨D24, A14, c14, q29, rfl, hS1, h39⟩ := hR
 refine ⟨(hS1.keeps.sub (M' := []) trivial).mono (fun _ h => h), ?_⟩
 have le26 := hS1.dle
 have hS := hS.callR hS1 rfl (.c .n)
 obtain ⟨r11, h40, hf⟩ := bs hf
 refine oC 4 7167 5 rfl rfl rfl rfl hE rfl rfl rfl rfl (wire_Flag.calls h40 (hS.st.fore (L := [])) ) fun a v w hR hE => ?_
 obtain ⟨D25, A15, c15, q30, rfl, hS1, h41⟩ := hR
 refine ⟨(hS1.keeps.sub (M' := []) trivial).mono (fun _ h => h), ?_⟩
 have le22 := hS1.dle
 have hS := hS.callR hS1 rfl (.c .n)
 have hS := hS.p (.d 2 (.d 0 (.d 1 (.d 3 .n))))
 obtain ⟨D26, q31, le23, hS, h67, h42⟩ := hS.lent (h37.mono (le2 le26 le22))
 obtain ⟨r12, h43, hf⟩ := bs hf
 refine oC 10 8191 4 rfl rfl rfl rfl hE rfl rfl rfl rfl (rec_numbers.calls h43 (hS.st.fore (L := [])) h42) fun a v w hR hE => ?_
 obtain ⟨D27, A16, c16, q32, rfl, hS1, h44⟩ := hR
 refine ⟨(hS1.keeps.sub (M' := []) trivial).mono (fun _ h => h), ?_⟩
 have le24 := hS1.dle
 have hS := hS.callR hS1 rfl (.c .n)
 obtain ⟨r13, h45, hf⟩ := bs hf
 refine oC 13 16383 3 rfl rfl rfl rfl hE rfl rfl rfl rfl (wire_Hash.calls h45 (hS.st.fore (L := [])) ) fun a v w hR hE => ?_
 obtain ⟨D28, A17, c17, q33, rfl, hS1, h46⟩ := hR
 refine ⟨(hS1.keeps.sub (M' := []) trivial).mono (fun _ h => h), ?_⟩
 have le12 := hS1.dle
 have hS := hS.callR hS1 rfl (.c .n)
 have hS := hS.p (.d 4 (.d 0 (.d 1 (.d 2 (.d 3 (.d 5 .n))))))
 obtain ⟨D29, q34, le13, hS, h68, h47⟩ := hS.lent (h39.mono (le2 (le2 (le2 le22 le23) le24) le12))
 have hS := hS.p (.d 4 (.d 0 (.d 1 (.d 2 (.d 3 (.d 5 .n))))))
 obtain ⟨D30, q35, le14, hS, h69, h48⟩ := hS.lent (h41.mono (le2 (le2 (le2 le23 le24) le12) le13))
 have hS := hS.p (.d 3 (.d 0 (.d 1 (.d 2 (.d 4 (.d 5 .n))))))
 obtain ⟨D31, q36, le15, hS, h70, h49⟩ := hS.lent (h44.mono (le2 (le2 le12 le13) le14))
 have hS := hS.p (.d 3 (.d 0 (.d 1 (.d 2 (.d 4 (.d 5 .n))))))
 obtain ⟨D32, q37, le16, hS, h71, h50⟩ := hS.lent (h46.mono (le2 (le2 le13 le14) le15))
 refine oG 14 32767 (fuel := 2) (by kernel_rfl) (op_buildSlice (K := (kdSlice (kdInt .u8))) (e := 37) (cs := [.slice A14 (List.length (r10)) c14] ++ ([.slice A15 (List.length (r11)) c15] ++ ([.slice A16 (List.length (r12)) c16] ++ ([.slice A17 (List.length (r13)) c17] ++ [])))) ([r10, r11, r12, r13] : List (List Int)) rfl rfl rfl rfl hE rfl hS rfl (by kernel_rfl) rfl rfl (by exact ⟨_, _, rfl, (kslice (h47.mono (le2 (le2 le14 le15) le16))), ⟨_, _, rfl, (kslice (h48.mono (le2 le15 le16))), ⟨_, _, rfl, (kslice (h49.mono le16)), ⟨_, _, rfl, (kslice h50), rfl⟩⟩⟩⟩) (fun a A23 q38 w hkp hE h51 hS => ⟨hkp.mono (fun _ h => absurd h List.not_mem_nil), ?_⟩))
 clear hkp
 obtain ⟨D33, q39, le32, hS, h72, h52⟩ := hS.lent h51
 obtain ⟨r14, h53, hf⟩ := bs hf
 refine oC 15 65535 1 rfl rfl rfl rfl hE rfl rfl rfl rfl (wire_All.calls h53 (hS.st.fore (L := [])) h52) fun a v w hR hE => ?_
 obtain ⟨D4, A4, c4, q4, rfl, hS1, h54⟩ := hR
 refine ⟨(hS1.keeps.sub (M' := []) trivial).mono (fun _ h => h), ?_⟩
 have le33 := hS1.dle
 have hS := hS.callR hS1 rfl (.c .n)
 refine wP 16 131071 0 (.slice A4 (List.length (r14)) c4) hE fun a hE => ?_
 refine doneG (by kernel_rfl) ?_
 refine wpIn_ret ?_
 obtain rfl := si hf
 refine ret_ ?_
 refine rT 2 (.slice A4 (List.length (r14)) c4) hE ?_
 have hS := hS.p (.d 0 .n)
 exact ⟨_, rfl, D4, A4, c4, q4, rfl, hS, h54⟩
set_option maxRecDepth 100000 in
theorem rec_forms_2.calls {K : Nat} {g w0 : World} {D0 : Snap} {x1 : T_api_Rec} {A2 : Option Addr} {c3 : Nat} {A5 : Option Addr} {c6 : Nat} {r : ((List Int))} (hf : rec_forms_2.f K x1 = some r) (hS0 : St g w0 D0 []) (h4 : Sl kd_T_api_Step D0 A2 c3 (x1.fSteps)) (h7 : Sl (kdInt .u8) D0 A5 c6 (x1.fData)) :
  CallsIn (Fw none) 0 Tryd.prog 106 (List.toArray [.agg (List.toArray (c_T_api_Rec (x1) A2 c3 A5 c6))]) w0 (fun e w' => ∃ v, e = .returned v ∧ ∃ (D1 : Snap) (A29 : Option Addr) (c30 : Nat) (q31 : Blk), v = .slice A29 (List.length (r)) c30 ∧ Stp g w0 D0 [] w' D1 [q31] ∧ OwnD (kdInt .u8) 5 D1 A29 c30 (r) q31) := by
 unfold rec_forms_2.f at hf
 have hS := Stp.refl hS0
 clear hS0
 refine calls_body (n := 11) Tryd.func106 rfl Tryd.ntmps106 rfl fun a hE => ?_
 have hE : Env a 11 [] [(0, .agg (List.toArray (c_T_api_Rec (x1) A2 c3 A5 c6)))] := hE
 refine sq (ra ?_)
 refine at_op (op_box rfl rfl rfl rfl hE rfl hS rfl (fun a b34 w _ hE hS => ?_)) rfl
 refine sN 1 2 [(2, .slice none 0 0)] hE fun a hE => ?_
 refine ae ?_
 refine sq (ra ?_)
 refine sM 6 6 [0, 0, 0] [(4, .int .i64 (x1.fSaga)), (6, .int .i64 (x1.fSeq)), (8, .int .i64 (x1.fEnd))] hE hS fun a hE => ?_
 refine at_op (op_buildSlice (K := (kdInt .i64)) (e := 3) (cs := [.int .i64 (x1.fSaga)] ++ ([.int .i64 (x1.fSeq)] ++ ([.int .i64 (x1.fEnd)] ++ []))) ([x1.fSaga, x1.fSeq, x1.fEnd] : List Int) rfl rfl rfl rfl hE rfl hS rfl (by kernel_rfl) rfl rfl (by exact ⟨_, _, rfl, rfl, ⟨_, _, rfl, rfl, ⟨_, _, rfl, rfl, rfl⟩⟩⟩) (fun a A36 q37 w _ hE h38 hS => ?_)) rfl
 obtain ⟨D40, q43, le41, hS, h44, h42⟩ := hS.lent h38
 obtain ⟨r45, h46, hf⟩ := bs hf
 refine aC rfl rfl rfl rfl hE rfl rfl rfl rfl (rec_numbers.calls h46 (hS.st.fore (L := [])) h42) fun a v w hR hE => ?_
 obtain ⟨D47, A49, c50, q51, rfl, hS1, h52⟩ := hR
 have le54 := hS1.dle
 have hS := hS.callR hS1 rfl (.c .n)
 refine sN 1 9 [(2, .slice A49 (List.length (r45)) c50)] hE fun a hE => ?_
 refine ae ?_
 refine wpIn_ret ?_
 obtain rfl := si hf
 refine ret_ ?_
 refine rT 2 (.slice A49 (List.length (r45)) c50) hE ?_
 have hS := hS.p (.d 0 .n)
 exact ⟨_, rfl, D47, A49, c50, q51, rfl, hS, h52⟩
set_option maxRecDepth 100000 in
theorem rec_forms_3.calls {K : Nat} {g w0 : World} {D0 : Snap} {x1 : T_api_Rec} {A2 : Option Addr} {c3 : Nat} {A5 : Option Addr} {c6 : Nat} {r : ((List Int))} (hf : rec_forms_3.f K x1 = some r) (hS0 : St g w0 D0 []) (h4 : Sl kd_T_api_Step D0 A2 c3 (x1.fSteps)) (h7 : Sl (kdInt .u8) D0 A5 c6 (x1.fData)) :
  CallsIn (Fw none) 0 Tryd.prog 107 (List.toArray [.agg (List.toArray (c_T_api_Rec (x1) A2 c3 A5 c6))]) w0 (fun e w' => ∃ v, e = .returned v ∧ ∃ (D1 : Snap) (A29 : Option Addr) (c30 : Nat) (q31 : Blk), v = .slice A29 (List.length (r)) c30 ∧ Stp g w0 D0 [] w' D1 [q31] ∧ OwnD (kdInt .u8) 5 D1 A29 c30 (r) q31) := by
 unfold rec_forms_3.f at hf
 have hS := Stp.refl hS0
 clear hS0
 refine calls_body (n := 9) Tryd.func107 rfl Tryd.ntmps107 rfl fun a hE => ?_
 have hE : Env a 9 [] [(0, .agg (List.toArray (c_T_api_Rec (x1) A2 c3 A5 c6)))] := hE
 refine sq (ra ?_)
 refine at_op (op_box rfl rfl rfl rfl hE rfl hS rfl (fun a b34 w _ hE hS => ?_)) rfl
 refine sN 1 2 [(2, .slice none 0 0)] hE fun a hE => ?_
 refine ae ?_
 refine sq (ra ?_)
 refine sM 4 4 [0, 0] [(4, .int .i64 (x1.fPart)), (6, .int .i64 (x1.fEpoch))] hE hS fun a hE => ?_
 refine at_op (op_buildSlice (K := (kdInt .i64)) (e := 3) (cs := [.int .i64 (x1.fPart)] ++ ([.int .i64 (x1.fEpoch)] ++ [])) ([x1.fPart, x1.fEpoch] : List Int) rfl rfl rfl rfl hE rfl hS rfl (by kernel_rfl) rfl rfl (by exact ⟨_, _, rfl, rfl, ⟨_, _, rfl, rfl, rfl⟩⟩) (fun a A36 q37 w _ hE h38 hS => ?_)) rfl
 obtain ⟨D40, q43, le41, hS, h44, h42⟩ := hS.lent h38
 obtain ⟨r45, h46, hf⟩ := bs hf
 refine aC rfl rfl rfl rfl hE rfl rfl rfl rfl (rec_numbers.calls h46 (hS.st.fore (L := [])) h42) fun a v w hR hE => ?_
 obtain ⟨D47, A49, c50, q51, rfl, hS1, h52⟩ := hR
 have le54 := hS1.dle
 have hS := hS.callR hS1 rfl (.c .n)
 refine sN 1 7 [(2, .slice A49 (List.length (r45)) c50)] hE fun a hE => ?_
 refine ae ?_
 refine wpIn_ret ?_
 obtain rfl := si hf
 refine ret_ ?_
 refine rT 2 (.slice A49 (List.length (r45)) c50) hE ?_
 have hS := hS.p (.d 0 .n)
 exact ⟨_, rfl, D47, A49, c50, q51, rfl, hS, h52⟩
set_option maxRecDepth 100000 in
theorem mac_row.calls {K : Nat} {g w0 : World} {D0 : Snap} {x1 : Int} {x2 : Int} {r : ((List Int))} (hf : mac_row.f K x1 x2 = some r) (hS0 : St g w0 D0 []) :
  CallsIn (Fw none) 0 Tryd.prog 92 (List.toArray [.int .u64 (x1), .int .i64 (x2)]) w0 (fun e w' => ∃ v, e = .returned v ∧ ∃ (D1 : Snap) (A2 : Option Addr) (c2 : Nat) (q3 : Blk), v = .slice A2 (List.length (r)) c2 ∧ Stp g w0 D0 [] w' D1 [q3] ∧ OwnD (kdInt .u8) 5 D1 A2 c2 (r) q3) := by
 unfold mac_row.f at hf
 have hS := Stp.refl hS0
 clear hS0
 refine calls_body (n := 26) Tryd.func92 rfl Tryd.ntmps92 rfl fun a hE => ?_
 have hE : Env a 26 [] [(0, .int .u64 (x1)), (1, .int .i64 (x2))] := hE
 refine sq (ra ?_)
 refine sN 1 1 [(4, .slice none 0 0)] hE fun a hE => ?_
 refine ae ?_
 refine sq (ra ?_)
 refine sN 1 1 [(7, .int .i64 (x2))] hE fun a hE => ?_
 obtain ⟨l1, h3, hf⟩ := bs hf
 refine at_op (op_makeSlice (K := (kdInt .u8)) (e := 5) (bytes := 1) (z := (0 : Int)) (cz := [.int .u8 ((0 : Int))]) rfl rfl rfl rfl hE rfl hS rfl rfl (by kernel_rfl) (by kernel_rfl) rfl rfl rfl h3 (fun a A1 c1 q4 w _ hE h4 hS => ?_)) rfl
 refine sN 1 3 [(5, .slice A1 (List.length (l1)) c1)] hE fun a hE => ?_
 refine ae ?_
 refine sq (sq (ra ?_))
 refine sN 3 3 [(10, .int .i64 (((List.length (l1) : Nat) : Int))), (11, .int .i64 ((0 : Int)))] hE fun a hE => ?_
 refine ae ?_
 obtain ⟨s1, hf, hs1⟩ := bs hf
 refine block_loop (fun a w => ∃ (z1 : (List Int)), ∃ q1, ∃ D3, Env a 26 [] [(5, .slice A1 (List.length (z1)) c1)] ∧ Stp g w0 D0 [] w D3 [q1] ∧ Snap.le D0 D3 ∧ OwnD (kdInt .u8) 5 D3 A1 c1 (z1) q1 ∧ z1 = s1) (fun k a w => ∃ (y1 : Int × (List Int) × Int), ∃ q2, ∃ D2, Env a 26 [] [(0, .int .u64 (y1.1)), (1, .int .i64 (x2)), (5, .slice A1 (List.length (y1.2.1)) c1), (10, .int .i64 (((List.length (l1) : Nat) : Int))), (11, .int .i64 (y1.2.2))] ∧ Stp g w0 D0 [] w D2 [q2] ∧ Snap.le D0 D2 ∧ OwnD (kdInt .u8) 5 D2 A1 c1 (y1.2.1) q2 ∧ mac_row_l1.l K x2 l1 k y1 = some s1) K ?_ ?_ ?_
 ·exact ⟨(x1, l1, (0 : Int)), q4, D0, hE.wk, hS, lr, h4, hf⟩
 ·clear hE hS hf
  rintro a w ⟨z1, q1, D3, hE, hS, le2, h5, rfl⟩
  have hf := hs1
  clear hs1
  refine sq (ra ?_)
  refine sN 2 2 [(4, .slice A1 (List.length (z1)) c1)] hE fun a hE => ?_
  refine ae ?_
  refine wpIn_ret ?_
  obtain rfl := si hf
  refine ret_ ?_
  refine rT 4 (.slice A1 (List.length (z1)) c1) hE ?_
  exact ⟨_, rfl, D3, A1, c1, q1, rfl, hS, h5⟩
 clear hE hS hf
 rintro k a w ⟨y1, q2, D2, hE, hS, le1, h1, hf⟩
 obtain ⟨k, rfl, hf⟩ := mac_row_l1.some _ _ hf
 refine ⟨k, rfl, ?_⟩
 unfold mac_row_l1.b at hf
 refine sq (ra ?_)
 refine sN 1 1 [(12, .bool ((decide (y1.2.2 < ((List.length (l1) : Nat) : Int)))))] hE fun a hE => ?_
 refine ae ?_
 refine sq ?_
 refine cond_split hE (b := (decide (y1.2.2 < ((List.length (l1) : Nat) : Int)))) rfl (fun hb => ?_) (fun hb => ?_)
 ·replace hf := ct hb hf
  refine wpIn_skip ?_
  refine sq ?_
  refine wpIn_block ?_
  refine sq (ra ?_)
  refine sN 2 2 [(6, .int .i64 (y1.2.2))] hE fun a hE => ?_
  refine ae ?_
  refine sq (ra ?_)
  refine sN 7 7 [(14, .slice A1 (List.length (y1.2.1)) c1), (18, .int .i64 ((IntKind.wrap .i64 ((IntKind.wrap .i64 (x2 - (1 : Int))) - y1.2.2)))), (20, .int .u8 ((IntKind.wrap .u8 y1.1)))] hE fun a hE => ?_
  obtain ⟨x3, h2, hf⟩ := bs hf
  refine at_op (op_tk hE (tk_indexO (K := (kdInt .u8)) (T := 5) (by_ := 1) (zl := 1) rfl rfl rfl rfl hE rfl rfl rfl (by kernel_rfl) h1 h2 (fun a b1 u2 hq hE => ?_))) rfl
  subst hq
  refine at_op (op_storeO (K := (kdInt .u8)) (T := 5) (l := y1.2.1) ((IntKind.wrap .u8 y1.1)) rfl rfl rfl rfl hE hS h1 rfl rfl (inI_of h2) (rfl) (by kernel_rfl) (by kernel_rfl) (fun a u1 w _ hE h6 hS => ?_)) rfl
  have hE : Env a 26 [] [(0, .int .u64 (y1.1)), (1, .int .i64 (x2)), (5, .slice A1 (List.length ((List.set (y1.2.1) (Int.toNat ((IntKind.wrap .i64 ((IntKind.wrap .i64 (x2 - (1 : Int))) - y1.2.2)))) ((IntKind.wrap .u8 y1.1))))) c1), (6, .int .i64 (y1.2.2)), (10, .int .i64 (((List.length (l1) : Nat) : Int))), (11, .int .i64 (y1.2.2)), (12, .bool ((decide (y1.2.2 < ((List.length (l1) : Nat) : Int))))), (14, .slice A1 (List.length ((List.set (y1.2.1) (Int.toNat ((IntKind.wrap .i64 ((IntKind.wrap .i64 (x2 - (1 : Int))) - y1.2.2)))) ((IntKind.wrap .u8 y1.1))))) c1), (18, .int .i64 ((IntKind.wrap .i64 ((IntKind.wrap .i64 (x2 - (1 : Int))) - y1.2.2)))), (20, .int .u8 ((IntKind.wrap .u8 y1.1))), (21, .pointer (some ⟨b1, Int.toNat ((IntKind.wrap .i64 ((IntKind.wrap .i64 (x2 - (1 : Int))) - y1.2.2))) * 1, none⟩))] := by have h := hE.weak (E' := [(0, .int .u64 (y1.1)), (1, .int .i64 (x2)), (5, .slice A1 (List.length (y1.2.1)) c1), (6, .int .i64 (y1.2.2)), (10, .int .i64 (((List.length (l1) : Nat) : Int))), (11, .int .i64 (y1.2.2)), (12, .bool ((decide (y1.2.2 < ((List.length (l1) : Nat) : Int))))), (14, .slice A1 (List.length (y1.2.1)) c1), (18, .int .i64 ((IntKind.wrap .i64 ((IntKind.wrap .i64 (x2 - (1 : Int))) - y1.2.2)))), (20, .int .u8 ((IntKind.wrap .u8 y1.1))), (21, .pointer (some ⟨b1, Int.toNat ((IntKind.wrap .i64 ((IntKind.wrap .i64 (x2 - (1 : Int))) - y1.2.2))) * 1, none⟩))]) (by kernel_rfl); simpa only [List.length_set] using h
  refine ae ?_
  refine ra ?_
  refine sN 3 3 [(0, .int .u64 ((Int.fdiv y1.1 (2 ^ 8))))] hE fun a hE => ?_
  refine ae ?_
  refine ra ?_
  refine sN 2 2 [(11, .int .i64 ((IntKind.wrap .i64 (y1.2.2 + (1 : Int)))))] hE fun a hE => ?_
  exact ae ⟨((Int.fdiv y1.1 (2 ^ 8)), (List.set (y1.2.1) (Int.toNat ((IntKind.wrap .i64 ((IntKind.wrap .i64 (x2 - (1 : Int))) - y1.2.2)))) ((IntKind.wrap .u8 y1.1))), (IntKind.wrap .i64 (y1.2.2 + (1 : Int)))), (some (b1, u1)), D2, hE.wk, hS, le1, h6, hf⟩
 replace hf := cf hb hf
 refine wpIn_exit ?_
 obtain rfl := si hf
 exact ⟨y1.2.1, q2, D2, hE.wk, hS, le1, h1, rfl⟩
set_option maxRecDepth 100000 in
theorem mac_Of_1.calls {K : Nat} {g w0 : World} {D0 : Snap} {x1 : (List Int)} {A2 : Option Addr} {c3 : Nat} {r : ((List Int))} (hf : mac_Of_1.f K x1 = some r) (hS0 : St g w0 D0 []) (h4 : Sl (kdInt .u8) D0 A2 c3 (x1)) :
  CallsIn (Fw none) 0 Tryd.prog 91 (List.toArray [.slice A2 (List.length (x1)) c3]) w0 (fun e w' => ∃ v, e = .returned v ∧ ∃ (D1 : Snap) (A39 : Option Addr) (c40 : Nat) (q41 : Blk), v = .slice A39 (List.length (r)) c40 ∧ Stp g w0 D0 [] w' D1 [q41] ∧ OwnD (kdInt .u8) 5 D1 A39 c40 (r) q41) := by
 unfold mac_Of_1.f at hf
 have hS := Stp.refl hS0
 clear hS0
 refine calls_body (n := 10) Tryd.func91 rfl Tryd.ntmps91 rfl fun a hE => ?_
 have hE : Env a 10 [] [(0, .slice A2 (List.length (x1)) c3)] := hE
 refine sq (ra ?_)
 refine sN 1 1 [(2, .slice none 0 0)] hE fun a hE => ?_
 refine ae ?_
 refine sq (ra ?_)
 refine sN 3 3 [(5, .int .u64 ((IntKind.wrap .u64 ((List.length (x1) : Nat) : Int))))] hE fun a hE => ?_
 obtain ⟨r44, h45, hf⟩ := bs hf
 refine aC rfl rfl rfl rfl hE rfl rfl rfl rfl (mac_row.calls h45 (hS.st.fore (L := [])) ) fun a v w hR hE => ?_
 obtain ⟨D46, A48, c49, q50, rfl, hS1, h51⟩ := hR
 have le53 := hS1.dle
 have hS := hS.callR hS1 rfl (.c .n)
 refine sN 1 5 [(7, .slice A2 (List.length (x1)) c3)] hE fun a hE => ?_
 obtain ⟨D54, q57, le55, hS, h58, h56⟩ := hS.lent h51
 refine at_op (op_buildSlice (K := (kdSlice (kdInt .u8))) (e := 37) (cs := [.slice A48 (List.length (r44)) c49] ++ ([.slice A2 (List.length (x1)) c3] ++ [])) ([r44, x1] : List (List Int)) rfl rfl rfl rfl hE rfl hS rfl (by kernel_rfl) rfl rfl (by exact ⟨_, _, rfl, (kslice h56), ⟨_, _, rfl, (kslice (h4.mono (le2 le53 le55))), rfl⟩⟩) (fun a A59 q60 w _ hE h61 hS => ?_)) rfl
 obtain ⟨D63, q66, le64, hS, h67, h65⟩ := hS.lent h61
 obtain ⟨r68, h69, hf⟩ := bs hf
 refine aC rfl rfl rfl rfl hE rfl rfl rfl rfl (slices_Concat_byte_byte.calls h69 (hS.st.fore (L := [])) h65) fun a v w hR hE => ?_
 obtain ⟨D70, A72, c73, q74, rfl, hS1, h75⟩ := hR
 have le77 := hS1.dle
 have hS := hS.callR hS1 rfl (.c .n)
 refine sN 1 8 [(2, .slice A72 (List.length (r68)) c73)] hE fun a hE => ?_
 refine ae ?_
 refine wpIn_ret ?_
 obtain rfl := si hf
 refine ret_ ?_
 refine rT 2 (.slice A72 (List.length (r68)) c73) hE ?_
 have hS := hS.p (.d 0 .n)
 exact ⟨_, rfl, D70, A72, c73, q74, rfl, hS, h75⟩
set_option maxRecDepth 100000 in
theorem mac_joined_byte.calls {K : Nat} {g w0 : World} {D0 : Snap} {x1 : (List (List Int))} {A2 : Option Addr} {c3 : Nat} {r : ((List Int))} (hf : mac_joined_byte.f K x1 = some r) (hS0 : St g w0 D0 []) (h4 : Sl (kdSlice (kdInt .u8)) D0 A2 c3 (x1)) :
  CallsIn (Fw none) 0 Tryd.prog 90 (List.toArray [.slice A2 (List.length (x1)) c3, .func (.func 91) #[] #[]]) w0 (fun e w' => ∃ v, e = .returned v ∧ ∃ (D1 : Snap) (A5 : Option Addr) (c5 : Nat) (q3 : Blk), v = .slice A5 (List.length (r)) c5 ∧ Stp g w0 D0 [] w' D1 [q3] ∧ OwnD (kdInt .u8) 5 D1 A5 c5 (r) q3) := by
 unfold mac_joined_byte.f at hf
 have hS := Stp.refl hS0
 clear hS0
 refine calls_body (n := 21) Tryd.func90 rfl Tryd.ntmps90 rfl fun a hE => ?_
 have hE : Env a 21 [] [(0, .slice A2 (List.length (x1)) c3), (1, .func (.func 91) #[] #[])] := hE
 refine sq (ra ?_)
 refine sN 1 1 [(4, .slice none 0 0)] hE fun a hE => ?_
 refine ae ?_
 refine sq (ra ?_)
 refine sN 1 1 [(5, .slice none 0 0)] hE fun a hE => ?_
 refine ae ?_
 refine sq (sq (ra ?_))
 refine sN 3 3 [(8, .slice A2 (List.length (x1)) c3), (9, .int .i64 (((List.length (x1) : Nat) : Int))), (10, .int .i64 ((0 : Int)))] hE fun a hE => ?_
 refine ae ?_
 obtain ⟨s1, hf, hs1⟩ := bs hf
 have hS := hS.nils
 refine block_loop (fun a w => ∃ (z1 : (List Int)), ∃ A1, ∃ c1, ∃ q1, ∃ D2, Env a 21 [] [(5, .slice A1 (List.length (z1)) c1)] ∧ Stp g w0 D0 [] w D2 [q1] ∧ Snap.le D0 D2 ∧ OwnD (kdInt .u8) 5 D2 A1 c1 (z1) q1 ∧ z1 = s1) (fun k a w => ∃ (y1 : (List Int) × Int), ∃ A3, ∃ c2, ∃ q2, ∃ D3, Env a 21 [] [(1, .func (.func 91) #[] #[]), (5, .slice A3 (List.length (y1.1)) c2), (8, .slice A2 (List.length (x1)) c3), (9, .int .i64 (((List.length (x1) : Nat) : Int))), (10, .int .i64 (y1.2))] ∧ Stp g w0 D0 [] w D3 [q2] ∧ Snap.le D0 D3 ∧ OwnD (kdInt .u8) 5 D3 A3 c2 (y1.1) q2 ∧ mac_joined_byte_l1.l K x1 k y1 = some s1) K ?_ ?_ ?_
 ·exact ⟨(([] : List Int), (0 : Int)), none, 0, none, D0, hE.wk, hS, lr, (OwnD.nil (kdInt .u8) 5 D0), hf⟩
 ·clear hE hS hf
  rintro a w ⟨z1, A1, c1, q1, D2, hE, hS, le5, h2, rfl⟩
  have hf := hs1
  clear hs1
  refine sq (ra ?_)
  refine sN 2 2 [(4, .slice A1 (List.length (z1)) c1)] hE fun a hE => ?_
  refine ae ?_
  refine wpIn_ret ?_
  obtain rfl := si hf
  refine ret_ ?_
  refine rT 4 (.slice A1 (List.length (z1)) c1) hE ?_
  exact ⟨_, rfl, D2, A1, c1, q1, rfl, hS, h2⟩
 clear hE hS hf
 rintro k a w ⟨y1, A3, c2, q2, D3, hE, hS, le1, h1, hf⟩
 obtain ⟨k, rfl, hf⟩ := mac_joined_byte_l1.some _ hf
 refine ⟨k, rfl, ?_⟩
 unfold mac_joined_byte_l1.b at hf
 refine sq (ra ?_)
 refine sN 1 1 [(11, .bool ((decide (y1.2 < ((List.length (x1) : Nat) : Int)))))] hE fun a hE => ?_
 refine ae ?_
 refine sq ?_
 refine cond_split hE (b := (decide (y1.2 < ((List.length (x1) : Nat) : Int)))) rfl (fun hb => ?_) (fun hb => ?_)
 ·replace hf := ct hb hf
  refine wpIn_skip ?_
  refine sq ?_
  refine wpIn_block ?_
  refine sq (ra ?_)
  obtain ⟨x2, h3, hf⟩ := bs hf
  refine at_op (op_tk hE (g_index (K := (kdSlice (kdInt .u8))) (e := 37) (by_ := 24) (zl := 1) rfl rfl rfl rfl hE rfl rfl rfl (by kernel_rfl) rfl (h4.mono le1) h3 (fun a b1 o1 hE h5 => ?_))) rfl
  obtain ⟨cs1, C1, T1, fr1, hr1, hb1, hc1⟩ := id h5
  obtain ⟨A4, c4, rfl, h6⟩ := hr1
  refine at_op (op_tk hE (tk_loadX (off0 := o1) (off := 0) (c := [.slice A4 (List.length (x2)) c4]) (.slice A4 (List.length (x2)) c4) rfl rfl rfl rfl hE rfl hS rfl hb1 hc1 (by kernel_rfl) (by kernel_rfl) (kD hS dn_nil) (fun a hE => ?_))) rfl
  refine sN 1 3 [(7, .slice A4 (List.length (x2)) c4)] hE fun a hE => ?_
  refine ae ?_
  refine ra ?_
  refine sN 3 3 [(14, .slice A3 (List.length (y1.1)) c2), (15, .func (.func 91) #[] #[]), (16, .slice A4 (List.length (x2)) c4)] hE fun a hE => ?_
  obtain ⟨r1, h7, hf⟩ := bs hf
  refine aC rfl rfl rfl rfl hE rfl rfl rfl rfl (mac_Of_1.calls h7 (hS.st.fore (L := [])) h6) fun a v w hR hE => ?_
  obtain ⟨D5, A7, c7, q5, rfl, hS1, h8⟩ := hR
  have le3 := hS1.dle
  have hS := hS.callR hS1 rfl (.c .n)
  obtain ⟨D4, q6, le4, hS, h12, h9⟩ := hS.lent h8
  have hS := hS.p (.d 1 (.d 0 .n))
  obtain ⟨l1, h10, hf⟩ := bs hf
  refine at_op (g_append (K := (kdInt .u8)) (e := 5) (bytes := 1) (l := y1.1) (m := r1) rfl rfl rfl rfl hE rfl hS rfl rfl (by kernel_rfl) rfl rfl (h1.mono (le2 le3 le4)) h9 h10 (fun a A6 c6 q4 w _ hE h11 hS => ?_)) rfl
  refine sN 1 6 [(5, .slice A6 (List.length (l1)) c6)] hE fun a hE => ?_
  refine ae ?_
  refine ra ?_
  refine sN 2 2 [(10, .int .i64 ((IntKind.wrap .i64 (y1.2 + (1 : Int)))))] hE fun a hE => ?_
  refine ae ?_
  have hS := hS.p (.d 0 .n)
  exact ⟨(l1, (IntKind.wrap .i64 (y1.2 + (1 : Int)))), A6, c6, q4, D4, hE.wk, hS, (le2 (le2 le1 le3) le4), h11, hf⟩
 replace hf := cf hb hf
 refine wpIn_exit ?_
 obtain rfl := si hf
 exact ⟨y1.1, A3, c2, q2, D3, hE.wk, hS, le1, h1, rfl⟩
set_option maxRecDepth 100000 in
theorem sha_Fill.calls {K : Nat} {g w0 : World} {D0 : Snap} {x1 : Int} {r : ((List Int))} (hf : sha_Fill.f K x1 = some r) (hS0 : St g w0 D0 []) :
  CallsIn (Fw none) 0 Tryd.prog 80 (List.toArray [.int .i64 (x1)]) w0 (fun e w' => ∃ v, e = .returned v ∧ ∃ (D1 : Snap) (A5 : Option Addr) (c5 : Nat) (q5 : Blk), v = .slice A5 (List.length (r)) c5 ∧ Stp g w0 D0 [] w' D1 [q5] ∧ OwnD (kdInt .u8) 5 D1 A5 c5 (r) q5) := by
 unfold sha_Fill.f at hf
 have hS := Stp.refl hS0
 clear hS0
 refine calls_body (n := 34) Tryd.func80 rfl Tryd.ntmps80 rfl fun a hE => ?_
 have hE : Env a 34 [] [(0, .int .i64 (x1))] := hE
 refine sq (ra ?_)
 refine sN 1 1 [(2, .slice none 0 0)] hE fun a hE => ?_
 refine ae ?_
 refine sq (sq (ra ?_))
 refine sN 2 2 [(7, .bool ((decide (x1 < (0 : Int)))))] hE fun a hE => ?_
 refine ae ?_
 refine cond_split hE (b := (decide (x1 < (0 : Int)))) rfl (fun hb => ?_) (fun hb => ?_)
 ·replace hf := ct hb hf
  refine sq (ra ?_)
  refine sN 1 1 [(2, .slice none 0 0)] hE fun a hE => ?_
  refine ae ?_
  refine wpIn_ret ?_
  have hS := hS.nils
  obtain rfl := si hf
  refine ret_ ?_
  refine rT 2 (.slice none 0 0) hE ?_
  exact ⟨_, rfl, D0, none, 0, none, rfl, hS, (OwnD.nil (kdInt .u8) 5 D0)⟩
 replace hf := cf hb hf
 refine wpIn_skip ?_
 refine sq (ra ?_)
 refine at_op (op_buildSlice (K := (kdInt .u8)) (e := 5) (cs := [.int .u8 ((128 : Int))] ++ []) ([(128 : Int)] : List Int) rfl rfl rfl rfl hE rfl hS rfl (by kernel_rfl) rfl rfl (by exact ⟨_, _, rfl, rfl, rfl⟩) (fun a A6 q6 w _ hE h3 hS => ?_)) rfl
 refine sN 1 2 [(3, .slice A6 (List.length (([(128 : Int)] : List Int))) 1)] hE fun a hE => ?_
 refine ae ?_
 refine sq ?_
 obtain ⟨s1, hf, hs1⟩ := bs hf
 refine block_loop (fun a w => ∃ (z2 : (List Int)), ∃ A4, ∃ c4, ∃ q1, ∃ D2, Env a 34 [] [(0, .int .i64 (x1)), (3, .slice A4 (List.length (z2)) c4)] ∧ Stp g w0 D0 [] w D2 [q1] ∧ Snap.le D0 D2 ∧ OwnD (kdInt .u8) 5 D2 A4 c4 (z2) q1 ∧ z2 = s1) (fun k a w => ∃ (y2 : (List Int)), ∃ A2, ∃ c2, ∃ q2, ∃ D3, Env a 34 [] [(0, .int .i64 (x1)), (3, .slice A2 (List.length (y2)) c2)] ∧ Stp g w0 D0 [] w D3 [q2] ∧ Snap.le D0 D3 ∧ OwnD (kdInt .u8) 5 D3 A2 c2 (y2) q2 ∧ sha_Fill_l1.l K x1 k y2 = some s1) K ?_ ?_ ?_
 ·exact ⟨([(128 : Int)] : List Int), A6, 1, q6, D0, hE.wk, hS, lr, h3, hf⟩
 ·clear hE hS hf
  rintro a w ⟨z2, A4, c4, q1, D2, hE, hS, le6, h4, rfl⟩
  have hf := hs1
  clear hs1
  refine sq (ra ?_)
  refine sN 4 4 [(4, .int .u64 ((IntKind.wrap .u64 ((IntKind.wrap .u64 x1) * (8 : Int)))))] hE fun a hE => ?_
  refine ae ?_
  refine sq (sq (ra ?_))
  refine sN 1 1 [(5, .int .i64 ((7 : Int)))] hE fun a hE => ?_
  refine ae ?_
  obtain ⟨s2, hf, hs2⟩ := bs hf
  refine block_loop (fun a w => ∃ (z1 : (List Int)), ∃ A1, ∃ c1, ∃ q3, ∃ D4, Env a 34 [] [(3, .slice A1 (List.length (z1)) c1)] ∧ Stp g w0 D0 [] w D4 [q3] ∧ Snap.le D2 D4 ∧ OwnD (kdInt .u8) 5 D4 A1 c1 (z1) q3 ∧ z1 = s2) (fun k a w => ∃ (y1 : (List Int) × Int), ∃ A3, ∃ c3, ∃ q4, ∃ D5, Env a 34 [] [(3, .slice A3 (List.length (y1.1)) c3), (4, .int .u64 ((IntKind.wrap .u64 ((IntKind.wrap .u64 x1) * (8 : Int))))), (5, .int .i64 (y1.2))] ∧ Stp g w0 D0 [] w D5 [q4] ∧ Snap.le D2 D5 ∧ OwnD (kdInt .u8) 5 D5 A3 c3 (y1.1) q4 ∧ sha_Fill_l2.l K x1 k y1 = some s2) K ?_ ?_ ?_
  ·exact ⟨(z2, (7 : Int)), A4, c4, q1, D2, hE.wk, hS, lr, h4, hf⟩
  ·clear hE hS hf
   rintro a w ⟨z1, A1, c1, q3, D4, hE, hS, le7, h5, rfl⟩
   have hf := hs2
   clear hs2
   refine sq (ra ?_)
   refine sN 2 2 [(2, .slice A1 (List.length (z1)) c1)] hE fun a hE => ?_
   refine ae ?_
   refine wpIn_ret ?_
   obtain rfl := si hf
   refine ret_ ?_
   refine rT 2 (.slice A1 (List.length (z1)) c1) hE ?_
   exact ⟨_, rfl, D4, A1, c1, q3, rfl, hS, h5⟩
  clear hE hS hf
  rintro k a w ⟨y1, A3, c3, q4, D5, hE, hS, le1, h1, hf⟩
  obtain ⟨k, rfl, hf⟩ := sha_Fill_l2.some _ hf
  refine ⟨k, rfl, ?_⟩
  unfold sha_Fill_l2.b at hf
  refine sq (sq (ra ?_))
  refine sN 2 2 [(22, .bool ((decide ((0 : Int) ≤ y1.2))))] hE fun a hE => ?_
  refine ae ?_
  refine cond_split hE (b := (decide ((0 : Int) ≤ y1.2))) rfl (fun hb => ?_) (fun hb => ?_)
  ·replace hf := ct hb hf
   refine wpIn_skip ?_
   refine sq ?_
   refine wpIn_block ?_
   refine ra ?_
   refine sN 4 4 [(25, .slice A3 (List.length (y1.1)) c3), (26, .int .u64 ((IntKind.wrap .u64 ((IntKind.wrap .u64 x1) * (8 : Int))))), (28, .int .i64 ((IntKind.wrap .i64 ((8 : Int) * y1.2))))] hE fun a hE => ?_
   obtain ⟨hq1, hf⟩ := chk_not hf
   refine at_op (op_tk hE (tk_bin (r := .int .u64 ((Int.fdiv (IntKind.wrap .u64 ((IntKind.wrap .u64 x1) * (8 : Int))) (2 ^ (min (Int.toNat (IntKind.wrap .i64 ((8 : Int) * y1.2))) 64))))) rfl rfl rfl rfl hE rfl rfl rfl (shr_run hq1) (fun a hE => ?_))) rfl
   refine sN 1 6 [(30, .int .u8 ((IntKind.wrap .u8 (Int.fdiv (IntKind.wrap .u64 ((IntKind.wrap .u64 x1) * (8 : Int))) (2 ^ (min (Int.toNat (IntKind.wrap .i64 ((8 : Int) * y1.2))) 64))))))] hE fun a hE => ?_
   refine at_op (op_buildSlice (K := (kdInt .u8)) (e := 5) (cs := [.int .u8 ((IntKind.wrap .u8 (Int.fdiv (IntKind.wrap .u64 ((IntKind.wrap .u64 x1) * (8 : Int))) (2 ^ (min (Int.toNat (IntKind.wrap .i64 ((8 : Int) * y1.2))) 64)))))] ++ []) ([(IntKind.wrap .u8 (Int.fdiv (IntKind.wrap .u64 ((IntKind.wrap .u64 x1) * (8 : Int))) (2 ^ (min (Int.toNat (IntKind.wrap .i64 ((8 : Int) * y1.2))) 64))))] : List Int) rfl rfl rfl rfl hE rfl hS rfl (by kernel_rfl) rfl rfl (by exact ⟨_, _, rfl, rfl, rfl⟩) (fun a A9 q9 w _ hE h6 hS => ?_)) rfl
   obtain ⟨D6, q10, le3, hS, h14, h7⟩ := hS.lent h6
   have hS := hS.p (.d 1 (.d 0 .n))
   obtain ⟨l1, h8, hf⟩ := bs hf
   refine at_op (g_append (K := (kdInt .u8)) (e := 5) (bytes := 1) (l := y1.1) (m := ([(IntKind.wrap .u8 (Int.fdiv (IntKind.wrap .u64 ((IntKind.wrap .u64 x1) * (8 : Int))) (2 ^ (min (Int.toNat (IntKind.wrap .i64 ((8 : Int) * y1.2))) 64))))] : List Int)) rfl rfl rfl rfl hE rfl hS rfl rfl (by kernel_rfl) rfl rfl (h1.mono le3) h7 h8 (fun a A7 c6 q7 w _ hE h9 hS => ?_)) rfl
   refine sN 1 9 [(3, .slice A7 (List.length (l1)) c6)] hE fun a hE => ?_
   refine ae ?_
   refine ra ?_
   refine sN 3 3 [(5, .int .i64 ((IntKind.wrap .i64 (y1.2 - (1 : Int)))))] hE fun a hE => ?_
   refine ae ?_
   have hS := hS.p (.d 0 .n)
   exact ⟨(l1, (IntKind.wrap .i64 (y1.2 - (1 : Int)))), A7, c6, q7, D6, hE.wk, hS, (le2 le1 le3), h9, hf⟩
  replace hf := cf hb hf
  refine wpIn_exit ?_
  obtain rfl := si hf
  exact ⟨y1.1, A3, c3, q4, D5, hE.wk, hS, le1, h1, rfl⟩
 clear hE hS hf
 rintro k a w ⟨y2, A2, c2, q2, D3, hE, hS, le4, h2, hf⟩
 obtain ⟨k, rfl, hf⟩ := sha_Fill_l1.some _ hf
 refine ⟨k, rfl, ?_⟩
 unfold sha_Fill_l1.b at hf
 refine sq (sq (ra ?_))
 refine sN 6 6 [(14, .bool ((!decide ((Int.tmod (IntKind.wrap .i64 (x1 + ((List.length (y2) : Nat) : Int))) 64) = (56 : Int)))))] hE fun a hE => ?_
 refine ae ?_
 refine cond_split hE (b := (!decide ((Int.tmod (IntKind.wrap .i64 (x1 + ((List.length (y2) : Nat) : Int))) 64) = (56 : Int)))) rfl (fun hb => ?_) (fun hb => ?_)
 ·replace hf := ct hb hf
  refine wpIn_skip ?_
  refine wpIn_block ?_
  refine ra ?_
  refine sN 1 1 [(15, .slice A2 (List.length (y2)) c2)] hE fun a hE => ?_
  refine at_op (op_buildSlice (K := (kdInt .u8)) (e := 5) (cs := [.int .u8 ((0 : Int))] ++ []) ([(0 : Int)] : List Int) rfl rfl rfl rfl hE rfl hS rfl (by kernel_rfl) rfl rfl (by exact ⟨_, _, rfl, rfl, rfl⟩) (fun a A10 q11 w _ hE h10 hS => ?_)) rfl
  obtain ⟨D7, q12, le5, hS, h15, h11⟩ := hS.lent h10
  have hS := hS.p (.d 1 (.d 0 .n))
  obtain ⟨l2, h12, hf⟩ := bs hf
  refine at_op (g_append (K := (kdInt .u8)) (e := 5) (bytes := 1) (l := y2) (m := ([(0 : Int)] : List Int)) rfl rfl rfl rfl hE rfl hS rfl rfl (by kernel_rfl) rfl rfl (h2.mono le5) h11 h12 (fun a A8 c7 q8 w _ hE h13 hS => ?_)) rfl
  refine sN 1 4 [(3, .slice A8 (List.length (l2)) c7)] hE fun a hE => ?_
  refine ae ?_
  have hS := hS.p (.d 0 .n)
  exact ⟨l2, A8, c7, q8, D7, hE.wk, hS, (le2 le4 le5), h13, hf⟩
 replace hf := cf hb hf
 refine wpIn_exit ?_
 obtain rfl := si hf
 exact ⟨y2, A2, c2, q2, D3, hE.wk, hS, le4, h2, rfl⟩
set_option maxRecDepth 100000 in
theorem sha_blocks.calls {K : Nat} {g w0 : World} {D0 : Snap} {x1 : (List Int)} {A2 : Option Addr} {c3 : Nat} {r : ((List Int))} (hf : sha_blocks.f K x1 = some r) (hS0 : St g w0 D0 []) (h4 : Sl (kdInt .u8) D0 A2 c3 (x1)) :
  CallsIn (Fw none) 0 Tryd.prog 79 (List.toArray [.slice A2 (List.length (x1)) c3]) w0 (fun e w' => ∃ v, e = .returned v ∧ ∃ (D1 : Snap) (b7 : Nat) (A9 : Option Addr) (c10 : Nat), v = .func (.func 97) #[] #[.pointer (some ⟨b7, 0, none⟩)] ∧ Stp g w0 D0 [] w' D1 [bx b7 37 ([.slice A9 (List.length (r)) c10])] ∧ Sl (kdInt .u8) D1 A9 c10 (r)) := by
 unfold sha_blocks.f at hf
 have hS := Stp.refl hS0
 clear hS0
 refine calls_body (n := 4) Tryd.func79 rfl Tryd.ntmps79 rfl fun a hE => ?_
 have hE : Env a 4 [] [(0, .slice A2 (List.length (x1)) c3)] := hE
 refine sq (ra ?_)
 refine at_op (op_box rfl rfl rfl rfl hE rfl hS rfl (fun a b12 w _ hE hS => ?_)) rfl
 refine sN 1 2 [(2, .nilFunc)] hE fun a hE => ?_
 refine ae ?_
 refine sq (ra ?_)
 refine sN 2 2 [(2, .func (.func 97) #[] #[.pointer (some ⟨b12, 0, none⟩)])] hE fun a hE => ?_
 refine ae ?_
 refine wpIn_ret ?_
 obtain rfl := si hf
 refine ret_ ?_
 refine rT 2 (.func (.func 97) #[] #[.pointer (some ⟨b12, 0, none⟩)]) hE ?_
 exact ⟨_, rfl, D0, b12, A2, c3, rfl, hS, h4⟩
set_option maxRecDepth 100000 in
theorem math_bits_RotateLeft32.calls {K : Nat} {g w0 : World} {D0 : Snap} {x1 : Int} {x2 : Int} {r : (Int)} (hf : math_bits_RotateLeft32.f K x1 x2 = some r) (hS0 : St g w0 D0 []) :
  CallsIn (Fw none) 0 Tryd.prog 111 (List.toArray [.int .u32 (x1), .int .i64 (x2)]) w0 (fun e w' => ∃ v, e = .returned v ∧ ∃ D1, v = .int .u32 (r) ∧ Stp g w0 D0 [] w' D1 []) := by
 unfold math_bits_RotateLeft32.f at hf
 have hS := Stp.refl hS0
 clear hS0
 refine calls_body (n := 17) Tryd.func111 rfl Tryd.ntmps111 rfl fun a hE => ?_
 have hE : Env a 17 [] [(0, .int .u32 (x1)), (1, .int .i64 (x2))] := hE
 refine sq (ra ?_)
 refine sN 1 1 [(4, .int .u32 ((0 : Int)))] hE fun a hE => ?_
 refine ae ?_
 refine sq (ra ?_)
 refine sN 4 4 [(5, .int .u64 ((band .u64 (IntKind.wrap .u64 x2) (31 : Int))))] hE fun a hE => ?_
 refine ae ?_
 refine sq (ra ?_)
 refine sN 2 2 [(9, .int .u32 (x1)), (10, .int .u64 ((band .u64 (IntKind.wrap .u64 x2) (31 : Int))))] hE fun a hE => ?_
 obtain ⟨hq5, hf⟩ := chk_not hf
 refine at_op (op_tk hE (tk_bin (r := .int .u32 ((IntKind.wrap .u32 (x1 * 2 ^ (min (Int.toNat (band .u64 (IntKind.wrap .u64 x2) (31 : Int))) 32))))) rfl rfl rfl rfl hE rfl rfl rfl (shl_run hq5) (fun a hE => ?_))) rfl
 refine sN 3 6 [(12, .int .u32 (x1)), (14, .int .u64 ((IntKind.wrap .u64 ((32 : Int) - (band .u64 (IntKind.wrap .u64 x2) (31 : Int))))))] hE fun a hE => ?_
 obtain ⟨hq6, hf⟩ := chk_not hf
 refine at_op (op_tk hE (tk_bin (r := .int .u32 ((Int.fdiv x1 (2 ^ (min (Int.toNat (IntKind.wrap .u64 ((32 : Int) - (band .u64 (IntKind.wrap .u64 x2) (31 : Int))))) 32))))) rfl rfl rfl rfl hE rfl rfl rfl (shr_run hq6) (fun a hE => ?_))) rfl
 refine sN 2 9 [(4, .int .u32 ((bor .u32 (IntKind.wrap .u32 (x1 * 2 ^ (min (Int.toNat (band .u64 (IntKind.wrap .u64 x2) (31 : Int))) 32))) (Int.fdiv x1 (2 ^ (min (Int.toNat (IntKind.wrap .u64 ((32 : Int) - (band .u64 (IntKind.wrap .u64 x2) (31 : Int))))) 32))))))] hE fun a hE => ?_
 refine ae ?_
 refine wpIn_ret ?_
 obtain rfl := si hf
 refine ret_ ?_
 refine rT 4 (.int .u32 ((bor .u32 (IntKind.wrap .u32 (x1 * 2 ^ (min (Int.toNat (band .u64 (IntKind.wrap .u64 x2) (31 : Int))) 32))) (Int.fdiv x1 (2 ^ (min (Int.toNat (IntKind.wrap .u64 ((32 : Int) - (band .u64 (IntKind.wrap .u64 x2) (31 : Int))))) 32)))))) hE ?_
 exact ⟨_, rfl, D0, rfl, hS⟩
set_option maxRecDepth 100000 in
theorem sha_moved.calls {K : Nat} {g w0 : World} {D0 : Snap} {x1 : Int} {x2 : Int} {x3 : Int} {x4 : Int} {r : (Int)} (hf : sha_moved.f K x1 x2 x3 x4 = some r) (hS0 : St g w0 D0 []) :
  CallsIn (Fw none) 0 Tryd.prog 110 (List.toArray [.int .u32 (x1), .int .i64 (x2), .int .i64 (x3), .int .i64 (x4)]) w0 (fun e w' => ∃ v, e = .returned v ∧ ∃ D1, v = .int .u32 (r) ∧ Stp g w0 D0 [] w' D1 []) := by
 unfold sha_moved.f at hf
 have hS := Stp.refl hS0
 clear hS0
 refine calls_body (n := 22) Tryd.func110 rfl Tryd.ntmps110 rfl fun a hE => ?_
 have hE : Env a 22 [] [(0, .int .u32 (x1)), (1, .int .i64 (x2)), (2, .int .i64 (x3)), (3, .int .i64 (x4))] := hE
 refine sq (ra ?_)
 refine sN 1 1 [(8, .int .u32 ((0 : Int)))] hE fun a hE => ?_
 refine ae ?_
 refine sq ?_
 refine region_draw (fun j => Keeps (mfOf [] j)) (by kernel_rfl) ?_
 have hS := hS.drew
 first | generalize w.drew = w at hS ⊢ | generalize w0.drew = w at hS ⊢
 refine wP 0 1 13 (.int .u32 (x1)) hE fun a hE => ?_
 refine wP 1 3 12 (.int .i64 (x2)) hE fun a hE => ?_
 refine wP 2 7 11 (.int .i64 ((IntKind.wrap .i64 (0 - x2)))) hE fun a hE => ?_
 refine wP 4 23 10 (.int .u32 (x1)) hE fun a hE => ?_
 refine wP 5 55 9 (.int .i64 (x3)) hE fun a hE => ?_
 refine wP 6 119 8 (.int .i64 ((IntKind.wrap .i64 (0 - x3)))) hE fun a hE => ?_
 refine wP 9 631 7 (.int .u32 (x1)) hE fun a hE => ?_
 refine wP 10 1655 6 (.int .i64 (x4)) hE fun a hE => ?_
 obtain ⟨hq38, hf⟩ := chk_not hf
 refine tW 11 3703 (fuel := 5) (by kernel_rfl) hE (fun M => tk_bin (r := .int .u32 ((Int.fdiv x1 (2 ^ (min (Int.toNat x4) 32))))) rfl rfl rfl rfl hE rfl rfl rfl (shr_run hq38) (fun a hE => ?_))
 obtain ⟨r39, h40, hf⟩ := bs hf
 refine oC 3 3711 4 rfl rfl rfl rfl hE rfl rfl rfl rfl (math_bits_RotateLeft32.calls h40 (hS.st.fore (L := [])) ) fun a v w hR hE => ?_
 obtain ⟨D41, rfl, hS1⟩ := hR
 refine ⟨(hS1.keeps.sub (M' := []) trivial).mono (fun _ h => h), ?_⟩
 have le43 := hS1.dle
 have hS := hS.callR hS1 rfl .n
 obtain ⟨r44, h45, hf⟩ := bs hf
 refine oC 7 3839 3 rfl rfl rfl rfl hE rfl rfl rfl rfl (math_bits_RotateLeft32.calls h45 (hS.st.fore (L := [])) ) fun a v w hR hE => ?_
 obtain ⟨D46, rfl, hS1⟩ := hR
 refine ⟨(hS1.keeps.sub (M' := []) trivial).mono (fun _ h => h), ?_⟩
 have le48 := hS1.dle
 have hS := hS.callR hS1 rfl .n
 refine wP 8 4095 2 (.int .u32 ((bxor .u32 r39 r44))) hE fun a hE => ?_
 refine wP 12 8191 1 (.int .u32 ((bxor .u32 (bxor .u32 r39 r44) (Int.fdiv x1 (2 ^ (min (Int.toNat x4) 32)))))) hE fun a hE => ?_
 refine wP 13 16383 0 (.int .u32 ((bxor .u32 (bxor .u32 r39 r44) (Int.fdiv x1 (2 ^ (min (Int.toNat x4) 32)))))) hE fun a hE => ?_
 refine doneG (by kernel_rfl) ?_
 refine wpIn_ret ?_
 obtain rfl := si hf
 refine ret_ ?_
 refine rT 8 (.int .u32 ((bxor .u32 (bxor .u32 r39 r44) (Int.fdiv x1 (2 ^ (min (Int.toNat x4) 32)))))) hE ?_
 exact ⟨_, rfl, D46, rfl, hS⟩
set_option maxRecDepth 100000 in
theorem sha_schedule.calls {K : Nat} {g w0 : World} {D0 : Snap} {x1 : (List Int)} {A2 : Option Addr} {c3 : Nat} {r : ((Vector Int 64))} (hf : sha_schedule.f K x1 = some r) (hS0 : St g w0 D0 []) (h4 : Sl (kdInt .u8) D0 A2 c3 (x1)) :
  CallsIn (Fw none) 0 Tryd.prog 98 (List.toArray [.slice A2 (List.length (x1)) c3]) w0 (fun e w' => ∃ v, e = .returned v ∧ ∃ D1, v = .agg (List.toArray (acells .u32 64 (r))) ∧ Stp g w0 D0 [] w' D1 []) := by
 unfold sha_schedule.f at hf
 have hS := Stp.refl hS0
 clear hS0
 refine calls_body (n := 70) Tryd.func98 rfl Tryd.ntmps98 rfl fun a hE => ?_
 have hE : Env a 70 [] [(0, .slice A2 (List.length (x1)) c3)] := hE
 refine sq (ra ?_)
 refine at_op (op_alloc (z := .agg (List.toArray (acells .u32 64 ((Vector.replicate 64 (0 : Int)))))) rfl rfl rfl rfl hE rfl hS (by kernel_rfl) (fun a b2 w _ hE hS => ?_)) rfl
 refine ae ?_
 refine sq (ra ?_)
 refine at_op (op_alloc (z := .agg (List.toArray (acells .u32 64 ((Vector.replicate 64 (0 : Int)))))) rfl rfl rfl rfl hE rfl hS (by kernel_rfl) (fun a b1 w _ hE hS => ?_)) rfl
 refine ae ?_
 refine sq (sq (ra ?_))
 refine sN 1 1 [(5, .int .i64 ((0 : Int)))] hE fun a hE => ?_
 refine ae ?_
 obtain ⟨s1, hf, hs1⟩ := bs hf
 have hS := hS.p (.d 1 (.d 0 .n))
 refine block_loop (fun a w => ∃ (z1 : (Vector Int 64)), ∃ D3, Env a 70 [] [(2, .pointer (some ⟨b2, 0, none⟩)), (3, .pointer (some ⟨b1, 0, none⟩))] ∧ Stp g w0 D0 [] w D3 [bx b2 136 (acells .u32 64 ((Vector.replicate 64 (0 : Int)))), bx b1 136 (acells .u32 64 (z1))] ∧ Snap.le D0 D3 ∧ z1 = s1) (fun k a w => ∃ (y1 : Int × (Vector Int 64)), ∃ D2, Env a 70 [] [(0, .slice A2 (List.length (x1)) c3), (2, .pointer (some ⟨b2, 0, none⟩)), (3, .pointer (some ⟨b1, 0, none⟩)), (5, .int .i64 (y1.1))] ∧ Stp g w0 D0 [] w D2 [bx b2 136 (acells .u32 64 ((Vector.replicate 64 (0 : Int)))), bx b1 136 (acells .u32 64 (y1.2))] ∧ Snap.le D0 D2 ∧ sha_schedule_l1.l K x1 k y1 = some s1) K ?_ ?_ ?_
 ·exact ⟨((0 : Int), (Vector.replicate 64 (0 : Int))), D0, hE.wk, hS, lr, hf⟩
 ·clear hE hS hf
  rintro a w ⟨z1, D3, hE, hS, le6, rfl⟩
  have hf := hs1
  clear hs1
  refine sq (ra ?_)
  refine sM 1 1 [1] [(69, .agg (List.toArray (acells .u32 64 (z1))))] hE hS fun a hE => ?_
  refine at_op (op_store (v := .agg (List.toArray (acells .u32 64 (z1)))) (acells .u32 64 (z1)) rfl rfl rfl rfl hE hS rfl rfl (by kernel_rfl) (by kernel_rfl) (by kernel_rfl) (by kernel_rfl) (by kernel_rfl) (fun a w _ hE hS => ?_)) rfl
  refine ae ?_
  refine wpIn_ret ?_
  obtain rfl := si hf
  refine ret_ ?_
  refine ret_gen ([.agg (List.toArray (acells .u32 64 (z1)))]) hE (by rw [show Tryd.f98.results.toList = [.cell 2 136] from rfl]; exact ⟨_, _, _, 0, _, _, rfl, rfl, hS.heapAt (j := 0) rfl, by kernel_rfl, rfl⟩) ?_
  have hS := hS.p .n
  exact ⟨_, rfl, D3, rfl, hS⟩
 clear hE hS hf
 rintro k a w ⟨y1, D2, hE, hS, le1, hf⟩
 obtain ⟨k, rfl, hf⟩ := sha_schedule_l1.some _ hf
 refine ⟨k, rfl, ?_⟩
 unfold sha_schedule_l1.b at hf
 refine sq (ra ?_)
 refine sN 1 1 [(6, .bool ((decide (y1.1 < (64 : Int)))))] hE fun a hE => ?_
 refine ae ?_
 refine sq ?_
 refine cond_split hE (b := (decide (y1.1 < (64 : Int)))) rfl (fun hb => ?_) (fun hb => ?_)
 ·replace hf := ct hb hf
  refine wpIn_skip ?_
  obtain ⟨j1, hj1, hf⟩ := jn_elim hf
  refine seq_join (fun a w => ∃ (y2 : (Vector Int 64)), ∃ D4, Env a 70 [] [(0, .slice A2 (List.length (x1)) c3), (2, .pointer (some ⟨b2, 0, none⟩)), (3, .pointer (some ⟨b1, 0, none⟩)), (5, .int .i64 (y1.1))] ∧ Stp g w0 D0 [] w D4 [bx b2 136 (acells .u32 64 ((Vector.replicate 64 (0 : Int)))), bx b1 136 (acells .u32 64 (y2))] ∧ Snap.le D2 D4 ∧ j1 y2 = some s1) ?_ ?_
  ·clear hj1
   refine wpIn_block ?_
   refine sq (ra ?_)
   refine sN 2 2 [(4, .int .i64 (y1.1))] hE fun a hE => ?_
   refine ae ?_
   refine sq (sq (ra ?_))
   refine sN 2 2 [(9, .bool ((decide (y1.1 < (16 : Int)))))] hE fun a hE => ?_
   refine ae ?_
   refine cond_split hE (b := (decide (y1.1 < (16 : Int)))) rfl (fun hb => ?_) (fun hb => ?_)
   ·replace hf := ct hb hf
    refine sq ?_
    refine region_draw (fun j => Keeps (mfOf [(35, [b1])] j)) (by kernel_rfl) ?_
    have hS := hS.drew
    first | generalize w.drew = w at hS ⊢ | generalize w0.drew = w at hS ⊢
    refine wP 0 1 35 (.int .i64 (y1.1)) hE fun a hE => ?_
    refine wP 1 3 34 (.slice A2 (List.length (x1)) c3) hE fun a hE => ?_
    refine wP 2 7 33 (.int .i64 (y1.1)) hE fun a hE => ?_
    refine wP 3 15 32 (.int .i64 ((IntKind.wrap .i64 ((4 : Int) * y1.1)))) hE fun a hE => ?_
    refine wP 8 271 31 (.slice A2 (List.length (x1)) c3) hE fun a hE => ?_
    refine wP 9 783 30 (.int .i64 (y1.1)) hE fun a hE => ?_
    refine wP 10 1807 29 (.int .i64 ((IntKind.wrap .i64 ((4 : Int) * y1.1)))) hE fun a hE => ?_
    refine wP 11 3855 28 (.int .i64 ((IntKind.wrap .i64 ((IntKind.wrap .i64 ((4 : Int) * y1.1)) + (1 : Int))))) hE fun a hE => ?_
    refine wP 17 134927 27 (.slice A2 (List.length (x1)) c3) hE fun a hE => ?_
    refine wP 18 397071 26 (.int .i64 (y1.1)) hE fun a hE => ?_
    refine wP 19 921359 25 (.int .i64 ((IntKind.wrap .i64 ((4 : Int) * y1.1)))) hE fun a hE => ?_
    refine wP 20 1969935 24 (.int .i64 ((IntKind.wrap .i64 ((IntKind.wrap .i64 ((4 : Int) * y1.1)) + (2 : Int))))) hE fun a hE => ?_
    refine wP 26 69078799 23 (.slice A2 (List.length (x1)) c3) hE fun a hE => ?_
    refine wP 27 203296527 22 (.int .i64 (y1.1)) hE fun a hE => ?_
    refine wP 28 471731983 21 (.int .i64 ((IntKind.wrap .i64 ((4 : Int) * y1.1)))) hE fun a hE => ?_
    refine wP 29 1008602895 20 (.int .i64 ((IntKind.wrap .i64 ((IntKind.wrap .i64 ((4 : Int) * y1.1)) + (3 : Int))))) hE fun a hE => ?_
    obtain ⟨x2, h1, hf⟩ := bs hf
    refine tW 4 1008602911 (fuel := 19) (by kernel_rfl) hE (fun M => g_index (K := (kdInt .u8)) (e := 5) (by_ := 1) (zl := 1) rfl rfl rfl rfl hE rfl rfl rfl (by kernel_rfl) rfl (h4.mono le1) h1 (fun a b3 o1 hE h2 => ?_))
    obtain ⟨cs1, C1, T1, fr1, hr1, hb1, hc1⟩ := id h2
    obtain rfl := hr1
    refine tT 5 1008602943 (fuel := 18) (by kernel_rfl) hE (tk_loadX (off0 := o1) (off := 0) (c := [.int .u8 (x2)]) (.int .u8 (x2)) rfl rfl rfl rfl hE rfl hS rfl hb1 hc1 (by kernel_rfl) (by kernel_rfl) (kD hS dn_nil) (fun a hE => ?_))
    refine tW 6 1008603007 (fuel := 17) (by kernel_rfl) hE (fun M => tk_pure (.int .u32 ((IntKind.wrap .u32 x2))) hE rfl rfl rfl rfl (fun _ _ _ e => by cases e; rfl) (by kernel_rfl) (fun a hE => ?_))
    refine wP 7 1008603135 16 (.int .u32 ((IntKind.wrap .u32 ((IntKind.wrap .u32 x2) * 2 ^ 24)))) hE fun a hE => ?_
    obtain ⟨x3, h3, hf⟩ := bs hf
    refine tW 12 1008607231 (fuel := 15) (by kernel_rfl) hE (fun M => g_index (K := (kdInt .u8)) (e := 5) (by_ := 1) (zl := 1) rfl rfl rfl rfl hE rfl rfl rfl (by kernel_rfl) rfl (h4.mono le1) h3 (fun a b4 o2 hE h5 => ?_))
    obtain ⟨cs2, C2, T2, fr2, hr2, hb2, hc2⟩ := id h5
    obtain rfl := hr2
    refine tT 13 1008615423 (fuel := 14) (by kernel_rfl) hE (tk_loadX (off0 := o2) (off := 0) (c := [.int .u8 (x3)]) (.int .u8 (x3)) rfl rfl rfl rfl hE rfl hS rfl hb2 hc2 (by kernel_rfl) (by kernel_rfl) (kD hS dn_nil) (fun a hE => ?_))
    refine tW 14 1008631807 (fuel := 13) (by kernel_rfl) hE (fun M => tk_pure (.int .u32 ((IntKind.wrap .u32 x3))) hE rfl rfl rfl rfl (fun _ _ _ e => by cases e; rfl) (by kernel_rfl) (fun a hE => ?_))
    refine wP 15 1008664575 12 (.int .u32 ((IntKind.wrap .u32 ((IntKind.wrap .u32 x3) * 2 ^ 16)))) hE fun a hE => ?_
    refine wP 16 1008730111 11 (.int .u32 ((bor .u32 (IntKind.wrap .u32 ((IntKind.wrap .u32 x2) * 2 ^ 24)) (IntKind.wrap .u32 ((IntKind.wrap .u32 x3) * 2 ^ 16))))) hE fun a hE => ?_
    obtain ⟨x4, h6, hf⟩ := bs hf
    refine tW 21 1010827263 (fuel := 10) (by kernel_rfl) hE (fun M => g_index (K := (kdInt .u8)) (e := 5) (by_ := 1) (zl := 1) rfl rfl rfl rfl hE rfl rfl rfl (by kernel_rfl) rfl (h4.mono le1) h6 (fun a b5 o3 hE h7 => ?_))
    obtain ⟨cs3, C3, T3, fr3, hr3, hb3, hc3⟩ := id h7
    obtain rfl := hr3
    refine tT 22 1015021567 (fuel := 9) (by kernel_rfl) hE (tk_loadX (off0 := o3) (off := 0) (c := [.int .u8 (x4)]) (.int .u8 (x4)) rfl rfl rfl rfl hE rfl hS rfl hb3 hc3 (by kernel_rfl) (by kernel_rfl) (kD hS dn_nil) (fun a hE => ?_))
    refine tW 23 1023410175 (fuel := 8) (by kernel_rfl) hE (fun M => tk_pure (.int .u32 ((IntKind.wrap .u32 x4))) hE rfl rfl rfl rfl (fun _ _ _ e => by cases e; rfl) (by kernel_rfl) (fun a hE => ?_))
    refine wP 24 1040187391 7 (.int .u32 ((IntKind.wrap .u32 ((IntKind.wrap .u32 x4) * 2 ^ 8)))) hE fun a hE => ?_
    refine wP 25 1073741823 6 (.int .u32 ((bor .u32 (bor .u32 (IntKind.wrap .u32 ((IntKind.wrap .u32 x2) * 2 ^ 24)) (IntKind.wrap .u32 ((IntKind.wrap .u32 x3) * 2 ^ 16))) (IntKind.wrap .u32 ((IntKind.wrap .u32 x4) * 2 ^ 8))))) hE fun a hE => ?_
    obtain ⟨x5, h8, hf⟩ := bs hf
    refine tW 30 2147483647 (fuel := 5) (by kernel_rfl) hE (fun M => g_index (K := (kdInt .u8)) (e := 5) (by_ := 1) (zl := 1) rfl rfl rfl rfl hE rfl rfl rfl (by kernel_rfl) rfl (h4.mono le1) h8 (fun a b6 o4 hE h9 => ?_))
    obtain ⟨cs4, C4, T4, fr4, hr4, hb4, hc4⟩ := id h9
    obtain rfl := hr4
    refine tT 31 4294967295 (fuel := 4) (by kernel_rfl) hE (tk_loadX (off0 := o4) (off := 0) (c := [.int .u8 (x5)]) (.int .u8 (x5)) rfl rfl rfl rfl hE rfl hS rfl hb4 hc4 (by kernel_rfl) (by kernel_rfl) (kD hS dn_nil) (fun a hE => ?_))
    refine tW 32 8589934591 (fuel := 3) (by kernel_rfl) hE (fun M => tk_pure (.int .u32 ((IntKind.wrap .u32 x5))) hE rfl rfl rfl rfl (fun _ _ _ e => by cases e; rfl) (by kernel_rfl) (fun a hE => ?_))
    refine wP 33 17179869183 2 (.int .u32 ((bor .u32 (bor .u32 (bor .u32 (IntKind.wrap .u32 ((IntKind.wrap .u32 x2) * 2 ^ 24)) (IntKind.wrap .u32 ((IntKind.wrap .u32 x3) * 2 ^ 16))) (IntKind.wrap .u32 ((IntKind.wrap .u32 x4) * 2 ^ 8))) (IntKind.wrap .u32 x5)))) hE fun a hE => ?_
    obtain ⟨hm5780, hf⟩ := chk_some hf
    refine tW 34 34359738367 (fuel := 1) (by kernel_rfl) hE (fun M => tk_indexPA (N := 64) (k := .u32) (m := y1.1) rfl rfl rfl rfl hE rfl rfl rfl (by kernel_rfl) hm5780 (fun a hE => ?_))
    have hS := hS.p (.d 1 (.d 0 .n))
    obtain ⟨v1, hv1, hf⟩ := bs hf
    replace hv1 := Option.some.inj hv1
    refine oG 35 68719476735 (fuel := 0) (by kernel_rfl) (op_storePA (N := 64) (k := .u32) (v := y1.2) (m := y1.1) (z := (bor .u32 (bor .u32 (bor .u32 (IntKind.wrap .u32 ((IntKind.wrap .u32 x2) * 2 ^ 24)) (IntKind.wrap .u32 ((IntKind.wrap .u32 x3) * 2 ^ 16))) (IntKind.wrap .u32 ((IntKind.wrap .u32 x4) * 2 ^ 8))) (IntKind.wrap .u32 x5))) rfl rfl rfl rfl hE hS rfl rfl (by kernel_rfl) hm5780 (fun a w hkp hE hS => ⟨hkp.mono (fun _ h => h), ?_⟩))
    clear hkp
    rw [hv1] at hS
    refine doneG (by kernel_rfl) ?_
    refine wpIn_exit ?_
    have hS := hS.p (.d 1 (.d 0 .n))
    exact ⟨v1, D2, hE.wk, hS, lr, hf⟩
   replace hf := cf hb hf
   refine wpIn_skip ?_
   refine region_draw (fun j => Keeps (mfOf [(23, [b1])] j)) (by kernel_rfl) ?_
   have hS := hS.drew
   first | generalize w.drew = w at hS ⊢ | generalize w0.drew = w at hS ⊢
   refine wP 0 1 23 (.int .i64 (y1.1)) hE fun a hE => ?_
   refine wP 1 3 22 (.int .i64 (y1.1)) hE fun a hE => ?_
   refine wP 2 7 21 (.int .i64 ((IntKind.wrap .i64 (y1.1 - (2 : Int))))) hE fun a hE => ?_
   refine wP 6 71 20 (.int .i64 (y1.1)) hE fun a hE => ?_
   refine wP 7 199 19 (.int .i64 ((IntKind.wrap .i64 (y1.1 - (7 : Int))))) hE fun a hE => ?_
   refine wP 11 2247 18 (.int .i64 (y1.1)) hE fun a hE => ?_
   refine wP 12 6343 17 (.int .i64 ((IntKind.wrap .i64 (y1.1 - (15 : Int))))) hE fun a hE => ?_
   refine wP 17 137415 16 (.int .i64 (y1.1)) hE fun a hE => ?_
   refine wP 18 399559 15 (.int .i64 ((IntKind.wrap .i64 (y1.1 - (16 : Int))))) hE fun a hE => ?_
   obtain ⟨hm5800, hf⟩ := chk_some hf
   refine tW 3 399567 (fuel := 14) (by kernel_rfl) hE (fun M => tk_indexPA (N := 64) (k := .u32) (m := (IntKind.wrap .i64 (y1.1 - (2 : Int)))) rfl rfl rfl rfl hE rfl rfl rfl (by kernel_rfl) hm5800 (fun a hE => ?_))
   refine tT 4 399583 (fuel := 13) (by kernel_rfl) hE (tk_loadPA 1 (N := 64) (k := .u32) (v := y1.2) (m := (IntKind.wrap .i64 (y1.1 - (2 : Int)))) rfl rfl rfl rfl hE rfl hS rfl rfl (by kernel_rfl) hm5800 (kL (j := 1) hS rfl List.not_mem_nil) (fun a hE => ?_))
   obtain ⟨hm5801, hf⟩ := chk_some hf
   refine tW 8 399839 (fuel := 12) (by kernel_rfl) hE (fun M => tk_indexPA (N := 64) (k := .u32) (m := (IntKind.wrap .i64 (y1.1 - (7 : Int)))) rfl rfl rfl rfl hE rfl rfl rfl (by kernel_rfl) hm5801 (fun a hE => ?_))
   refine tT 9 400351 (fuel := 11) (by kernel_rfl) hE (tk_loadPA 1 (N := 64) (k := .u32) (v := y1.2) (m := (IntKind.wrap .i64 (y1.1 - (7 : Int)))) rfl rfl rfl rfl hE rfl hS rfl rfl (by kernel_rfl) hm5801 (kL (j := 1) hS rfl List.not_mem_nil) (fun a hE => ?_))
   obtain ⟨hm5802, hf⟩ := chk_some hf
   refine tW 13 408543 (fuel := 10) (by kernel_rfl) hE (fun M => tk_indexPA (N := 64) (k := .u32) (m := (IntKind.wrap .i64 (y1.1 - (15 : Int)))) rfl rfl rfl rfl hE rfl rfl rfl (by kernel_rfl) hm5802 (fun a hE => ?_))
   refine tT 14 424927 (fuel := 9) (by kernel_rfl) hE (tk_loadPA 1 (N := 64) (k := .u32) (v := y1.2) (m := (IntKind.wrap .i64 (y1.1 - (15 : Int)))) rfl rfl rfl rfl hE rfl hS rfl rfl (by kernel_rfl) hm5802 (kL (j := 1) hS rfl List.not_mem_nil) (fun a hE => ?_))
   obtain ⟨hm5803, hf⟩ := chk_some hf
   refine tW 19 949215 (fuel := 8) (by kernel_rfl) hE (fun M => tk_indexPA (N := 64) (k := .u32) (m := (IntKind.wrap .i64 (y1.1 - (16 : Int)))) rfl rfl rfl rfl hE rfl rfl rfl (by kernel_rfl) hm5803 (fun a hE => ?_))
   refine tT 20 1997791 (fuel := 7) (by kernel_rfl) hE (tk_loadPA 1 (N := 64) (k := .u32) (v := y1.2) (m := (IntKind.wrap .i64 (y1.1 - (16 : Int)))) rfl rfl rfl rfl hE rfl hS rfl rfl (by kernel_rfl) hm5803 (kL (j := 1) hS rfl List.not_mem_nil) (fun a hE => ?_))
   obtain ⟨r1, h10, hf⟩ := bs hf
   refine oC 5 1997823 6 rfl rfl rfl rfl hE rfl rfl rfl rfl (sha_moved.calls h10 (hS.st.fore (L := [])) ) fun a v w hR hE => ?_
   obtain ⟨D6, rfl, hS1⟩ := hR
   refine ⟨(hS1.keeps.sub (M' := []) trivial).mono (fun _ h => h), ?_⟩
   have le3 := hS1.dle
   have hS := hS.callR hS1 rfl .n
   refine wP 10 1998847 5 (.int .u32 ((IntKind.wrap .u32 (r1 + (vget (y1.2) (Int.toNat ((IntKind.wrap .i64 (y1.1 - (7 : Int)))))))))) hE fun a hE => ?_
   obtain ⟨r2, h11, hf⟩ := bs hf
   refine oC 15 2031615 4 rfl rfl rfl rfl hE rfl rfl rfl rfl (sha_moved.calls h11 (hS.st.fore (L := [])) ) fun a v w hR hE => ?_
   obtain ⟨D5, rfl, hS1⟩ := hR
   refine ⟨(hS1.keeps.sub (M' := []) trivial).mono (fun _ h => h), ?_⟩
   have le4 := hS1.dle
   have hS := hS.callR hS1 rfl .n
   refine wP 16 2097151 3 (.int .u32 ((IntKind.wrap .u32 ((IntKind.wrap .u32 (r1 + (vget (y1.2) (Int.toNat ((IntKind.wrap .i64 (y1.1 - (7 : Int)))))))) + r2)))) hE fun a hE => ?_
   refine wP 21 4194303 2 (.int .u32 ((IntKind.wrap .u32 ((IntKind.wrap .u32 ((IntKind.wrap .u32 (r1 + (vget (y1.2) (Int.toNat ((IntKind.wrap .i64 (y1.1 - (7 : Int)))))))) + r2)) + (vget (y1.2) (Int.toNat ((IntKind.wrap .i64 (y1.1 - (16 : Int)))))))))) hE fun a hE => ?_
   obtain ⟨hm5814, hf⟩ := chk_some hf
   refine tW 22 8388607 (fuel := 1) (by kernel_rfl) hE (fun M => tk_indexPA (N := 64) (k := .u32) (m := y1.1) rfl rfl rfl rfl hE rfl rfl rfl (by kernel_rfl) hm5814 (fun a hE => ?_))
   have hS := hS.p (.d 1 (.d 0 .n))
   obtain ⟨v2, hv2, hf⟩ := bs hf
   replace hv2 := Option.some.inj hv2
   refine oG 23 16777215 (fuel := 0) (by kernel_rfl) (op_storePA (N := 64) (k := .u32) (v := y1.2) (m := y1.1) (z := (IntKind.wrap .u32 ((IntKind.wrap .u32 ((IntKind.wrap .u32 (r1 + (vget (y1.2) (Int.toNat ((IntKind.wrap .i64 (y1.1 - (7 : Int)))))))) + r2)) + (vget (y1.2) (Int.toNat ((IntKind.wrap .i64 (y1.1 - (16 : Int))))))))) rfl rfl rfl rfl hE hS rfl rfl (by kernel_rfl) hm5814 (fun a w hkp hE hS => ⟨hkp.mono (fun _ h => h), ?_⟩))
   clear hkp
   rw [hv2] at hS
   refine doneG (by kernel_rfl) ?_
   have hS := hS.p (.d 1 (.d 0 .n))
   exact ⟨v2, D5, hE.wk, hS, (le2 le3 le4), hf⟩
  clear hE hS
  rintro a w ⟨y2, D4, hE, hS, le5, hf⟩
  replace hf := hj1 _ hf
  clear hj1
  refine ra ?_
  refine sN 2 2 [(5, .int .i64 ((IntKind.wrap .i64 (y1.1 + (1 : Int)))))] hE fun a hE => ?_
  exact ae ⟨((IntKind.wrap .i64 (y1.1 + (1 : Int))), y2), D4, hE.wk, hS, (le2 le1 le5), hf⟩
 replace hf := cf hb hf
 refine wpIn_exit ?_
 obtain rfl := si hf
 exact ⟨y1.2, D2, hE.wk, hS, le1, rfl⟩
set_option maxRecDepth 100000 in
theorem sha_turned.calls {K : Nat} {g w0 : World} {D0 : Snap} {x1 : Int} {x2 : Int} {x3 : Int} {x4 : Int} {r : (Int)} (hf : sha_turned.f K x1 x2 x3 x4 = some r) (hS0 : St g w0 D0 []) :
  CallsIn (Fw none) 0 Tryd.prog 99 (List.toArray [.int .u32 (x1), .int .i64 (x2), .int .i64 (x3), .int .i64 (x4)]) w0 (fun e w' => ∃ v, e = .returned v ∧ ∃ D1, v = .int .u32 (r) ∧ Stp g w0 D0 [] w' D1 []) := by
 unfold sha_turned.f at hf
 have hS := Stp.refl hS0
 clear hS0
 refine calls_body (n := 23) Tryd.func99 rfl Tryd.ntmps99 rfl fun a hE => ?_
 have hE : Env a 23 [] [(0, .int .u32 (x1)), (1, .int .i64 (x2)), (2, .int .i64 (x3)), (3, .int .i64 (x4))] := hE
 refine sq (ra ?_)
 refine sN 1 1 [(8, .int .u32 ((0 : Int)))] hE fun a hE => ?_
 refine ae ?_
 refine sq (ra ?_)
 refine sN 3 3 [(9, .int .u32 (x1)), (11, .int .i64 ((IntKind.wrap .i64 (0 - x2))))] hE fun a hE => ?_
 obtain ⟨r20, h21, hf⟩ := bs hf
 refine aC rfl rfl rfl rfl hE rfl rfl rfl rfl (math_bits_RotateLeft32.calls h21 (hS.st.fore (L := [])) ) fun a v w hR hE => ?_
 obtain ⟨D22, rfl, hS1⟩ := hR
 have le24 := hS1.dle
 have hS := hS.callR hS1 rfl .n
 refine sN 3 7 [(13, .int .u32 (x1)), (15, .int .i64 ((IntKind.wrap .i64 (0 - x3))))] hE fun a hE => ?_
 obtain ⟨r25, h26, hf⟩ := bs hf
 refine aC rfl rfl rfl rfl hE rfl rfl rfl rfl (math_bits_RotateLeft32.calls h26 (hS.st.fore (L := [])) ) fun a v w hR hE => ?_
 obtain ⟨D27, rfl, hS1⟩ := hR
 have le29 := hS1.dle
 have hS := hS.callR hS1 rfl .n
 refine sN 4 12 [(17, .int .u32 ((bxor .u32 r20 r25))), (18, .int .u32 (x1)), (20, .int .i64 ((IntKind.wrap .i64 (0 - x4))))] hE fun a hE => ?_
 obtain ⟨r30, h31, hf⟩ := bs hf
 refine aC rfl rfl rfl rfl hE rfl rfl rfl rfl (math_bits_RotateLeft32.calls h31 (hS.st.fore (L := [])) ) fun a v w hR hE => ?_
 obtain ⟨D32, rfl, hS1⟩ := hR
 have le34 := hS1.dle
 have hS := hS.callR hS1 rfl .n
 refine sN 2 15 [(8, .int .u32 ((bxor .u32 (bxor .u32 r20 r25) r30)))] hE fun a hE => ?_
 refine ae ?_
 refine wpIn_ret ?_
 obtain rfl := si hf
 refine ret_ ?_
 refine rT 8 (.int .u32 ((bxor .u32 (bxor .u32 r20 r25) r30))) hE ?_
 exact ⟨_, rfl, D32, rfl, hS⟩
end Go.Proofs.YtjgaokcplofimaaDoor
