/-
  Proved, text by text: a call of a function of the cut comes to what its plain function computes.
  Conditions: those that each theorem names.
-/
import Derived.Test.YtomndohdnfebgaaGreatDoorProg
import Derived.Test.YtomndohdnfebgaaGreatDoorSxA
import Derived.Test.YtomndohdnfebgaaGreatDoorTfODef
set_option linter.unusedVariables false
set_option maxHeartbeats 4000000
namespace Go.Proofs.YtomndohdnfebgaaGreatDoor
open Go Go.Sep
set_option maxRecDepth 100000 in
theorem slices_Grow_byte_byte.calls {K : Nat} {g w0 : World} {D0 : Snap} {x1 : Int} {r : ((List Int))} (hf : slices_Grow_byte_byte.f K x1 = some r) (hS0 : St g w0 D0 []) :
  CallsIn (Fw none) 0 Tryz.prog 176 (List.toArray [.slice none 0 0, .int .i64 (x1)]) w0 (fun e w' => ∃ v, e = .returned v ∧ ∃ (D1 : Snap) (A22 : Option Addr) (c23 : Nat) (q24 : Blk), v = .slice A22 (List.length (r)) c23 ∧ Stp g w0 D0 [] w' D1 [q24] ∧ OwnD (kdInt .u8) 5 D1 A22 c23 (r) q24) := by
 unfold slices_Grow_byte_byte.f at hf
 have hS := Stp.refl hS0
 clear hS0
 refine calls_body (n := 27) Tryz.func176 rfl Tryz.ntmps176 rfl fun a hE => ?_
 have hE : Env a 27 [] [(0, .slice none 0 0), (1, .int .i64 (x1))] := hE
 refine sq (ra ?_)
 refine sN 1 1 [(4, .slice none 0 0)] hE fun a hE => ?_
 refine ae ?_
 refine sq (sq (ra ?_))
 refine sN 2 2 [(6, .bool ((decide (x1 < (0 : Int)))))] hE fun a hE => ?_
 refine ae ?_
 refine cond_split hE (b := (decide (x1 < (0 : Int)))) rfl (fun hb => ?_) (fun hb => ?_)
 ·replace hf := ct hb hf
  refine ra ?_
  cases hf
 replace hf := cf hb hf
 refine wpIn_skip ?_
 refine sq (sq (ra ?_))
 refine sN 2 2 [(8, .int .i64 (x1)), (9, .slice none 0 0)] hE fun a hE => ?_
 refine at_op (op_tk hE (tk_capNil rfl rfl rfl rfl hE rfl rfl (by kernel_rfl) (fun a hE => ?_))) rfl
 refine sN 5 8 [(1, .int .i64 ((IntKind.wrap .i64 (x1 - (IntKind.wrap .i64 (((0 : Nat) : Int) - ((0 : Nat) : Int)))))))] hE fun a hE => ?_
 refine ae ?_
 refine sq (ra ?_)
 refine sN 2 2 [(16, .bool ((decide ((0 : Int) < (IntKind.wrap .i64 (x1 - (IntKind.wrap .i64 (((0 : Nat) : Int) - ((0 : Nat) : Int)))))))))] hE fun a hE => ?_
 refine ae ?_
 refine cond_split hE (b := (decide ((0 : Int) < (IntKind.wrap .i64 (x1 - (IntKind.wrap .i64 (((0 : Nat) : Int) - ((0 : Nat) : Int)))))))) rfl (fun hb => ?_) (fun hb => ?_)
 ·replace hf := ct hb hf
  refine ra ?_
  refine sN 2 2 [(17, .slice none 0 0), (18, .slice none 0 0)] hE fun a hE => ?_
  refine at_op (op_tk hE (tk_capNil rfl rfl rfl rfl hE rfl rfl (by kernel_rfl) (fun a hE => ?_))) rfl
  refine at_op (op_tk hE (tk_sliceNil (e := 5) (sz := 1) (by_ := 1) (zl := 1) rfl rfl rfl rfl hE rfl rfl (by kernel_rfl) rfl ⟨_, rfl⟩ (fun a hE => ?_))) rfl
  refine sN 1 5 [(21, .int .i64 ((IntKind.wrap .i64 (x1 - (IntKind.wrap .i64 (((0 : Nat) : Int) - ((0 : Nat) : Int)))))))] hE fun a hE => ?_
  obtain ⟨l37, h38, hf⟩ := bs hf
  refine at_op (op_appendZ (K := (kdInt .u8)) (e := 5) (bytes := 1) (z := (0 : Int)) (cz := [.int .u8 ((0 : Int))]) rfl rfl rfl rfl hE rfl hS rfl rfl (by kernel_rfl) (by kernel_rfl) (by kernel_rfl) rfl rfl rfl h38 (fun a A39 c40 q41 w _ hE h42 hS => ?_)) rfl
  refine sN 2 8 [(24, .int .i64 (((0 : Nat) : Int)))] hE fun a hE => ?_
  obtain ⟨l44, h45, hf⟩ := bs hf
  refine at_op (op_tk hE (op_prefixO (K := (kdInt .u8)) (T := 5) (by_ := 1) (zl := 1) rfl rfl rfl rfl hE rfl rfl (by kernel_rfl) ⟨_, rfl⟩ h42 h45 (fun a hE h46 => ?_))) rfl
  refine sN 1 10 [(0, .slice A39 (List.length (l44)) c40)] hE fun a hE => ?_
  refine ae ?_
  refine sq (ra ?_)
  refine sN 2 2 [(4, .slice A39 (List.length (l44)) c40)] hE fun a hE => ?_
  refine ae ?_
  refine wpIn_ret ?_
  obtain rfl := si hf
  refine ret_ ?_
  refine rT 4 (.slice A39 (List.length (l44)) c40) hE ?_
  exact ⟨_, rfl, D0, A39, c40, q41, rfl, hS, h46⟩
 replace hf := cf hb hf
 refine wpIn_skip ?_
 refine sq (ra ?_)
 refine sN 2 2 [(4, .slice none 0 0)] hE fun a hE => ?_
 refine ae ?_
 refine wpIn_ret ?_
 have hS := hS.nils
 obtain rfl := si hf
 refine ret_ ?_
 refine rT 4 (.slice none 0 0) hE ?_
 exact ⟨_, rfl, D0, none, 0, none, rfl, hS, (OwnD.nil (kdInt .u8) 5 D0)⟩
set_option maxRecDepth 100000 in
theorem slices_Concat_byte_byte.calls {K : Nat} {g w0 : World} {D0 : Snap} {x1 : (List (List Int))} {A2 : Option Addr} {c3 : Nat} {r : ((List Int))} (hf : slices_Concat_byte_byte.f K x1 = some r) (hS0 : St g w0 D0 []) (h4 : Sl (kdSlice (kdInt .u8)) D0 A2 c3 (x1)) :
  CallsIn (Fw none) 0 Tryz.prog 133 (List.toArray [.slice A2 (List.length (x1)) c3]) w0 (fun e w' => ∃ v, e = .returned v ∧ ∃ (D1 : Snap) (A6 : Option Addr) (c6 : Nat) (q3 : Blk), v = .slice A6 (List.length (r)) c6 ∧ Stp g w0 D0 [] w' D1 [q3] ∧ OwnD (kdInt .u8) 5 D1 A6 c6 (r) q3) := by
 unfold slices_Concat_byte_byte.f at hf
 have hS := Stp.refl hS0
 clear hS0
 refine calls_body (n := 36) Tryz.func133 rfl Tryz.ntmps133 rfl fun a hE => ?_
 have hE : Env a 36 [] [(0, .slice A2 (List.length (x1)) c3)] := hE
 refine sq (ra ?_)
 refine sN 1 1 [(2, .slice none 0 0)] hE fun a hE => ?_
 refine ae ?_
 refine sq (ra ?_)
 refine sN 1 1 [(3, .int .i64 ((0 : Int)))] hE fun a hE => ?_
 refine ae ?_
 refine sq (sq (ra ?_))
 refine sN 3 3 [(9, .slice A2 (List.length (x1)) c3), (10, .int .i64 (((List.length (x1) : Nat) : Int))), (11, .int .i64 ((0 : Int)))] hE fun a hE => ?_
 refine ae ?_
 obtain ⟨s1, hf, hs1⟩ := bs hf
 refine block_loop (fun a w => ∃ (z2 : Int), ∃ D5, Env a 36 [] [(0, .slice A2 (List.length (x1)) c3), (3, .int .i64 (z2))] ∧ Stp g w0 D0 [] w D5 [] ∧ Snap.le D0 D5 ∧ z2 = s1) (fun k a w => ∃ (y1 : Int × Int), ∃ D3, Env a 36 [] [(0, .slice A2 (List.length (x1)) c3), (3, .int .i64 (y1.1)), (9, .slice A2 (List.length (x1)) c3), (10, .int .i64 (((List.length (x1) : Nat) : Int))), (11, .int .i64 (y1.2))] ∧ Stp g w0 D0 [] w D3 [] ∧ Snap.le D0 D3 ∧ slices_Concat_byte_byte_l1.l K x1 k y1 = some s1) K ?_ ?_ ?_
 ·exact ⟨((0 : Int), (0 : Int)), D0, hE.wk, hS, lr, hf⟩
 ·clear hE hS hf
  rintro a w ⟨z2, D5, hE, hS, le4, rfl⟩
  have hf := hs1
  clear hs1
  refine sq (ra ?_)
  refine sN 1 1 [(23, .int .i64 (z2))] hE fun a hE => ?_
  obtain ⟨r1, h2, hf⟩ := bs hf
  refine aC rfl rfl rfl rfl hE rfl rfl rfl rfl (slices_Grow_byte_byte.calls h2 (hS.st.fore (L := [])) ) fun a v w hR hE => ?_
  obtain ⟨D6, A7, c7, q4, rfl, hS1, h3⟩ := hR
  have le5 := hS1.dle
  have hS := hS.callR hS1 rfl (.c .n)
  refine sN 1 3 [(6, .slice A7 (List.length (r1)) c7)] hE fun a hE => ?_
  refine ae ?_
  refine sq (sq (ra ?_))
  refine sN 3 3 [(25, .slice A2 (List.length (x1)) c3), (26, .int .i64 (((List.length (x1) : Nat) : Int))), (27, .int .i64 ((0 : Int)))] hE fun a hE => ?_
  refine ae ?_
  obtain ⟨s2, hf, hs2⟩ := bs hf
  refine block_loop (fun a w => ∃ (z1 : (List Int)), ∃ A1, ∃ c1, ∃ q1, ∃ D4, Env a 36 [] [(6, .slice A1 (List.length (z1)) c1)] ∧ Stp g w0 D0 [] w D4 [q1] ∧ Snap.le D6 D4 ∧ OwnD (kdInt .u8) 5 D4 A1 c1 (z1) q1 ∧ z1 = s2) (fun k a w => ∃ (y2 : (List Int) × Int), ∃ A3, ∃ c2, ∃ q2, ∃ D2, Env a 36 [] [(6, .slice A3 (List.length (y2.1)) c2), (25, .slice A2 (List.length (x1)) c3), (26, .int .i64 (((List.length (x1) : Nat) : Int))), (27, .int .i64 (y2.2))] ∧ Stp g w0 D0 [] w D2 [q2] ∧ Snap.le D6 D2 ∧ OwnD (kdInt .u8) 5 D2 A3 c2 (y2.1) q2 ∧ slices_Concat_byte_byte_l2.l K x1 k y2 = some s2) K ?_ ?_ ?_
  ·exact ⟨(r1, (0 : Int)), A7, c7, q4, D6, hE.wk, hS, lr, h3, hf⟩
  ·clear hE hS hf
   rintro a w ⟨z1, A1, c1, q1, D4, hE, hS, le6, h5, rfl⟩
   have hf := hs2
   clear hs2
   refine sq (ra ?_)
   refine sN 2 2 [(2, .slice A1 (List.length (z1)) c1)] hE fun a hE => ?_
   refine ae ?_
   refine wpIn_ret ?_
   obtain rfl := si hf
   refine ret_ ?_
   refine rT 2 (.slice A1 (List.length (z1)) c1) hE ?_
   exact ⟨_, rfl, D4, A1, c1, q1, rfl, hS, h5⟩
  clear hE hS hf
  rintro k a w ⟨y2, A3, c2, q2, D2, hE, hS, le1, h1, hf⟩
  obtain ⟨k, rfl, hf⟩ := slices_Concat_byte_byte_l2.some _ hf
  refine ⟨k, rfl, ?_⟩
  unfold slices_Concat_byte_byte_l2.b at hf
  refine sq (ra ?_)
  refine sN 1 1 [(28, .bool ((decide (y2.2 < ((List.length (x1) : Nat) : Int)))))] hE fun a hE => ?_
  refine ae ?_
  refine sq ?_
  refine cond_split hE (b := (decide (y2.2 < ((List.length (x1) : Nat) : Int)))) rfl (fun hb => ?_) (fun hb => ?_)
  ·replace hf := ct hb hf
   refine wpIn_skip ?_
   refine sq ?_
   refine wpIn_block ?_
   refine sq (ra ?_)
   obtain ⟨x3, h6, hf⟩ := bs hf
   refine at_op (op_tk hE (g_index (K := (kdSlice (kdInt .u8))) (e := 41) (by_ := 24) (zl := 1) rfl rfl rfl rfl hE rfl rfl rfl (by kernel_rfl) rfl (h4.mono (le2 (le2 le4 le5) le1)) h6 (fun a b1 o1 hE h7 => ?_))) rfl
   obtain ⟨cs1, C1, T1, fr1, hr1, hb1, hc1⟩ := id h7
   obtain ⟨A4, c4, rfl, h8⟩ := hr1
   refine at_op (op_tk hE (tk_loadX (off0 := o1) (off := 0) (c := [.slice A4 (List.length (x3)) c4]) (.slice A4 (List.length (x3)) c4) rfl rfl rfl rfl hE rfl hS rfl hb1 hc1 (by kernel_rfl) (by kernel_rfl) (kD hS dn_nil) (fun a hE => ?_))) rfl
   refine sN 1 3 [(8, .slice A4 (List.length (x3)) c4)] hE fun a hE => ?_
   refine ae ?_
   refine ra ?_
   refine sN 2 2 [(31, .slice A3 (List.length (y2.1)) c2), (32, .slice A4 (List.length (x3)) c4)] hE fun a hE => ?_
   obtain ⟨l1, h9, hf⟩ := bs hf
   refine at_op (g_append (K := (kdInt .u8)) (e := 5) (bytes := 1) (l := y2.1) (m := x3) rfl rfl rfl rfl hE rfl hS rfl rfl (by kernel_rfl) rfl rfl h1 h8 h9 (fun a A8 c8 q5 w _ hE h10 hS => ?_)) rfl
   refine sN 1 4 [(6, .slice A8 (List.length (l1)) c8)] hE fun a hE => ?_
   refine ae ?_
   refine ra ?_
   refine sN 2 2 [(27, .int .i64 ((IntKind.wrap .i64 (y2.2 + (1 : Int)))))] hE fun a hE => ?_
   exact ae ⟨(l1, (IntKind.wrap .i64 (y2.2 + (1 : Int)))), A8, c8, q5, D2, hE.wk, hS, le1, h10, hf⟩
  replace hf := cf hb hf
  refine wpIn_exit ?_
  obtain rfl := si hf
  exact ⟨y2.1, A3, c2, q2, D2, hE.wk, hS, le1, h1, rfl⟩
 clear hE hS hf
 rintro k a w ⟨y1, D3, hE, hS, le3, hf⟩
 obtain ⟨k, rfl, hf⟩ := slices_Concat_byte_byte_l1.some _ hf
 refine ⟨k, rfl, ?_⟩
 unfold slices_Concat_byte_byte_l1.b at hf
 refine sq (ra ?_)
 refine sN 1 1 [(12, .bool ((decide (y1.2 < ((List.length (x1) : Nat) : Int)))))] hE fun a hE => ?_
 refine ae ?_
 refine sq ?_
 refine cond_split hE (b := (decide (y1.2 < ((List.length (x1) : Nat) : Int)))) rfl (fun hb => ?_) (fun hb => ?_)
 ·replace hf := ct hb hf
  refine wpIn_skip ?_
  refine sq ?_
  refine wpIn_block ?_
  refine sq (ra ?_)
  obtain ⟨x2, h11, hf⟩ := bs hf
  refine at_op (op_tk hE (g_index (K := (kdSlice (kdInt .u8))) (e := 41) (by_ := 24) (zl := 1) rfl rfl rfl rfl hE rfl rfl rfl (by kernel_rfl) rfl (h4.mono le3) h11 (fun a b2 o2 hE h12 => ?_))) rfl
  obtain ⟨cs2, C2, T2, fr2, hr2, hb2, hc2⟩ := id h12
  obtain ⟨A5, c5, rfl, h13⟩ := hr2
  refine at_op (op_tk hE (tk_loadX (off0 := o2) (off := 0) (c := [.slice A5 (List.length (x2)) c5]) (.slice A5 (List.length (x2)) c5) rfl rfl rfl rfl hE rfl hS rfl hb2 hc2 (by kernel_rfl) (by kernel_rfl) (kD hS dn_nil) (fun a hE => ?_))) rfl
  refine sN 1 3 [(5, .slice A5 (List.length (x2)) c5)] hE fun a hE => ?_
  refine ae ?_
  refine sq (ra ?_)
  refine sN 5 5 [(3, .int .i64 ((IntKind.wrap .i64 (y1.1 + ((List.length (x2) : Nat) : Int)))))] hE fun a hE => ?_
  refine ae ?_
  refine sq (ra ?_)
  refine sN 2 2 [(20, .bool ((decide ((IntKind.wrap .i64 (y1.1 + ((List.length (x2) : Nat) : Int))) < (0 : Int)))))] hE fun a hE => ?_
  refine ae ?_
  refine cond_split hE (b := (decide ((IntKind.wrap .i64 (y1.1 + ((List.length (x2) : Nat) : Int))) < (0 : Int)))) rfl (fun hb => ?_) (fun hb => ?_)
  ·replace hf := ct hb hf
   refine ra ?_
   cases hf
  replace hf := cf hb hf
  refine wpIn_skip ?_
  refine ra ?_
  refine sN 2 2 [(11, .int .i64 ((IntKind.wrap .i64 (y1.2 + (1 : Int)))))] hE fun a hE => ?_
  exact ae ⟨((IntKind.wrap .i64 (y1.1 + ((List.length (x2) : Nat) : Int))), (IntKind.wrap .i64 (y1.2 + (1 : Int)))), D3, hE.wk, hS, le3, hf⟩
 replace hf := cf hb hf
 refine wpIn_exit ?_
 obtain rfl := si hf
 exact ⟨y1.1, D3, hE.wk, hS, le3, rfl⟩
set_option maxRecDepth 100000 in
theorem sha_Fill.calls {K : Nat} {g w0 : World} {D0 : Snap} {x1 : Int} {r : ((List Int))} (hf : sha_Fill.f K x1 = some r) (hS0 : St g w0 D0 []) :
  CallsIn (Fw none) 0 Tryz.prog 143 (List.toArray [.int .i64 (x1)]) w0 (fun e w' => ∃ v, e = .returned v ∧ ∃ (D1 : Snap) (A5 : Option Addr) (c5 : Nat) (q5 : Blk), v = .slice A5 (List.length (r)) c5 ∧ Stp g w0 D0 [] w' D1 [q5] ∧ OwnD (kdInt .u8) 5 D1 A5 c5 (r) q5) := by
 unfold sha_Fill.f at hf
 have hS := Stp.refl hS0
 clear hS0
 refine calls_body (n := 34) Tryz.func143 rfl Tryz.ntmps143 rfl fun a hE => ?_
 have hE : Env a 34 [] [(0, .int .i64 (x1))] := hE
 refine sq (ra ?_)
 refine sN 1 1 [(2, .slice none 0 0)] hE fun a hE => ?_
 refine ae ?_
 refine sq (sq (ra ?_))
 refine sN 2 2 [(7, .bool ((decide (x1 < (0 : Int)))))] hE fun a hE => ?_
 refine ae ?_
 refine cond_split hE (b := (decide (x1 < (0 : Int)))) rfl (fun hb => ?_) (fun hb => ?_)
 ·replace hf := ct hb hf
  refine sq (ra ?_)
  refine sN 1 1 [(2, .slice none 0 0)] hE fun a hE => ?_
  refine ae ?_
  refine wpIn_ret ?_
  have hS := hS.nils
  obtain rfl := si hf
  refine ret_ ?_
  refine rT 2 (.slice none 0 0) hE ?_
  exact ⟨_, rfl, D0, none, 0, none, rfl, hS, (OwnD.nil (kdInt .u8) 5 D0)⟩
 replace hf := cf hb hf
 refine wpIn_skip ?_
 refine sq (ra ?_)
 refine at_op (op_buildSlice (K := (kdInt .u8)) (e := 5) (cs := [.int .u8 ((128 : Int))] ++ []) ([(128 : Int)] : List Int) rfl rfl rfl rfl hE rfl hS rfl (by kernel_rfl) rfl rfl (by exact ⟨_, _, rfl, rfl, rfl⟩) (fun a A6 q6 w _ hE h3 hS => ?_)) rfl
 refine sN 1 2 [(3, .slice A6 (List.length (([(128 : Int)] : List Int))) 1)] hE fun a hE => ?_
 refine ae ?_
 refine sq ?_
 obtain ⟨s1, hf, hs1⟩ := bs hf
 refine block_loop (fun a w => ∃ (z2 : (List Int)), ∃ A4, ∃ c4, ∃ q1, ∃ D2, Env a 34 [] [(0, .int .i64 (x1)), (3, .slice A4 (List.length (z2)) c4)] ∧ Stp g w0 D0 [] w D2 [q1] ∧ Snap.le D0 D2 ∧ OwnD (kdInt .u8) 5 D2 A4 c4 (z2) q1 ∧ z2 = s1) (fun k a w => ∃ (y2 : (List Int)), ∃ A2, ∃ c2, ∃ q2, ∃ D3, Env a 34 [] [(0, .int .i64 (x1)), (3, .slice A2 (List.length (y2)) c2)] ∧ Stp g w0 D0 [] w D3 [q2] ∧ Snap.le D0 D3 ∧ OwnD (kdInt .u8) 5 D3 A2 c2 (y2) q2 ∧ sha_Fill_l1.l K x1 k y2 = some s1) K ?_ ?_ ?_
 ·exact ⟨([(128 : Int)] : List Int), A6, 1, q6, D0, hE.wk, hS, lr, h3, hf⟩
 ·clear hE hS hf
  rintro a w ⟨z2, A4, c4, q1, D2, hE, hS, le6, h4, rfl⟩
  have hf := hs1
  clear hs1
  refine sq (ra ?_)
  refine sN 4 4 [(4, .int .u64 ((IntKind.wrap .u64 ((IntKind.wrap .u64 x1) * (8 : Int)))))] hE fun a hE => ?_
  refine ae ?_
  refine sq (sq (ra ?_))
  refine sN 1 1 [(5, .int .i64 ((7 : Int)))] hE fun a hE => ?_
  refine ae ?_
  obtain ⟨s2, hf, hs2⟩ := bs hf
  refine block_loop (fun a w => ∃ (z1 : (List Int)), ∃ A1, ∃ c1, ∃ q3, ∃ D4, Env a 34 [] [(3, .slice A1 (List.length (z1)) c1)] ∧ Stp g w0 D0 [] w D4 [q3] ∧ Snap.le D2 D4 ∧ OwnD (kdInt .u8) 5 D4 A1 c1 (z1) q3 ∧ z1 = s2) (fun k a w => ∃ (y1 : (List Int) × Int), ∃ A3, ∃ c3, ∃ q4, ∃ D5, Env a 34 [] [(3, .slice A3 (List.length (y1.1)) c3), (4, .int .u64 ((IntKind.wrap .u64 ((IntKind.wrap .u64 x1) * (8 : Int))))), (5, .int .i64 (y1.2))] ∧ Stp g w0 D0 [] w D5 [q4] ∧ Snap.le D2 D5 ∧ OwnD (kdInt .u8) 5 D5 A3 c3 (y1.1) q4 ∧ sha_Fill_l2.l K x1 k y1 = some s2) K ?_ ?_ ?_
  ·exact ⟨(z2, (7 : Int)), A4, c4, q1, D2, hE.wk, hS, lr, h4, hf⟩
  ·clear hE hS hf
   rintro a w ⟨z1, A1, c1, q3, D4, hE, hS, le7, h5, rfl⟩
   have hf := hs2
   clear hs2
   refine sq (ra ?_)
   refine sN 2 2 [(2, .slice A1 (List.length (z1)) c1)] hE fun a hE => ?_
   refine ae ?_
   refine wpIn_ret ?_
   obtain rfl := si hf
   refine ret_ ?_
   refine rT 2 (.slice A1 (List.length (z1)) c1) hE ?_
   exact ⟨_, rfl, D4, A1, c1, q3, rfl, hS, h5⟩
  clear hE hS hf
  rintro k a w ⟨y1, A3, c3, q4, D5, hE, hS, le1, h1, hf⟩
  obtain ⟨k, rfl, hf⟩ := sha_Fill_l2.some _ hf
  refine ⟨k, rfl, ?_⟩
  unfold sha_Fill_l2.b at hf
  refine sq (sq (ra ?_))
  refine sN 2 2 [(22, .bool ((decide ((0 : Int) ≤ y1.2))))] hE fun a hE => ?_
  refine ae ?_
  refine cond_split hE (b := (decide ((0 : Int) ≤ y1.2))) rfl (fun hb => ?_) (fun hb => ?_)
  ·replace hf := ct hb hf
   refine wpIn_skip ?_
   refine sq ?_
   refine wpIn_block ?_
   refine ra ?_
   refine sN 4 4 [(25, .slice A3 (List.length (y1.1)) c3), (26, .int .u64 ((IntKind.wrap .u64 ((IntKind.wrap .u64 x1) * (8 : Int))))), (28, .int .i64 ((IntKind.wrap .i64 ((8 : Int) * y1.2))))] hE fun a hE => ?_
   obtain ⟨hq1, hf⟩ := chk_not hf
   refine at_op (op_tk hE (tk_bin (r := .int .u64 ((Int.fdiv (IntKind.wrap .u64 ((IntKind.wrap .u64 x1) * (8 : Int))) (2 ^ (min (Int.toNat (IntKind.wrap .i64 ((8 : Int) * y1.2))) 64))))) rfl rfl rfl rfl hE rfl rfl rfl (shr_run hq1) (fun a hE => ?_))) rfl
   refine sN 1 6 [(30, .int .u8 ((IntKind.wrap .u8 (Int.fdiv (IntKind.wrap .u64 ((IntKind.wrap .u64 x1) * (8 : Int))) (2 ^ (min (Int.toNat (IntKind.wrap .i64 ((8 : Int) * y1.2))) 64))))))] hE fun a hE => ?_
   refine at_op (op_buildSlice (K := (kdInt .u8)) (e := 5) (cs := [.int .u8 ((IntKind.wrap .u8 (Int.fdiv (IntKind.wrap .u64 ((IntKind.wrap .u64 x1) * (8 : Int))) (2 ^ (min (Int.toNat (IntKind.wrap .i64 ((8 : Int) * y1.2))) 64)))))] ++ []) ([(IntKind.wrap .u8 (Int.fdiv (IntKind.wrap .u64 ((IntKind.wrap .u64 x1) * (8 : Int))) (2 ^ (min (Int.toNat (IntKind.wrap .i64 ((8 : Int) * y1.2))) 64))))] : List Int) rfl rfl rfl rfl hE rfl hS rfl (by kernel_rfl) rfl rfl (by exact ⟨_, _, rfl, rfl, rfl⟩) (fun a A9 q9 w _ hE h6 hS => ?_)) rfl
   obtain ⟨D6, q10, le3, hS, h14, h7⟩ := hS.lent h6
   have hS := hS.p (.d 1 (.d 0 .n))
   obtain ⟨l1, h8, hf⟩ := bs hf
   refine at_op (g_append (K := (kdInt .u8)) (e := 5) (bytes := 1) (l := y1.1) (m := ([(IntKind.wrap .u8 (Int.fdiv (IntKind.wrap .u64 ((IntKind.wrap .u64 x1) * (8 : Int))) (2 ^ (min (Int.toNat (IntKind.wrap .i64 ((8 : Int) * y1.2))) 64))))] : List Int)) rfl rfl rfl rfl hE rfl hS rfl rfl (by kernel_rfl) rfl rfl (h1.mono le3) h7 h8 (fun a A7 c6 q7 w _ hE h9 hS => ?_)) rfl
   refine sN 1 9 [(3, .slice A7 (List.length (l1)) c6)] hE fun a hE => ?_
   refine ae ?_
   refine ra ?_
   refine sN 3 3 [(5, .int .i64 ((IntKind.wrap .i64 (y1.2 - (1 : Int)))))] hE fun a hE => ?_
   refine ae ?_
   have hS := hS.p (.d 0 .n)
   exact ⟨(l1, (IntKind.wrap .i64 (y1.2 - (1 : Int)))), A7, c6, q7, D6, hE.wk, hS, (le2 le1 le3), h9, hf⟩
  replace hf := cf hb hf
  refine wpIn_exit ?_
  obtain rfl := si hf
  exact ⟨y1.1, A3, c3, q4, D5, hE.wk, hS, le1, h1, rfl⟩
 clear hE hS hf
 rintro k a w ⟨y2, A2, c2, q2, D3, hE, hS, le4, h2, hf⟩
 obtain ⟨k, rfl, hf⟩ := sha_Fill_l1.some _ hf
 refine ⟨k, rfl, ?_⟩
 unfold sha_Fill_l1.b at hf
 refine sq (sq (ra ?_))
 refine sN 6 6 [(14, .bool ((!decide ((Int.tmod (IntKind.wrap .i64 (x1 + ((List.length (y2) : Nat) : Int))) 64) = (56 : Int)))))] hE fun a hE => ?_
 refine ae ?_
 refine cond_split hE (b := (!decide ((Int.tmod (IntKind.wrap .i64 (x1 + ((List.length (y2) : Nat) : Int))) 64) = (56 : Int)))) rfl (fun hb => ?_) (fun hb => ?_)
 ·replace hf := ct hb hf
  refine wpIn_skip ?_
  refine wpIn_block ?_
  refine ra ?_
  refine sN 1 1 [(15, .slice A2 (List.length (y2)) c2)] hE fun a hE => ?_
  refine at_op (op_buildSlice (K := (kdInt .u8)) (e := 5) (cs := [.int .u8 ((0 : Int))] ++ []) ([(0 : Int)] : List Int) rfl rfl rfl rfl hE rfl hS rfl (by kernel_rfl) rfl rfl (by exact ⟨_, _, rfl, rfl, rfl⟩) (fun a A10 q11 w _ hE h10 hS => ?_)) rfl
  obtain ⟨D7, q12, le5, hS, h15, h11⟩ := hS.lent h10
  have hS := hS.p (.d 1 (.d 0 .n))
  obtain ⟨l2, h12, hf⟩ := bs hf
  refine at_op (g_append (K := (kdInt .u8)) (e := 5) (bytes := 1) (l := y2) (m := ([(0 : Int)] : List Int)) rfl rfl rfl rfl hE rfl hS rfl rfl (by kernel_rfl) rfl rfl (h2.mono le5) h11 h12 (fun a A8 c7 q8 w _ hE h13 hS => ?_)) rfl
  refine sN 1 4 [(3, .slice A8 (List.length (l2)) c7)] hE fun a hE => ?_
  refine ae ?_
  have hS := hS.p (.d 0 .n)
  exact ⟨l2, A8, c7, q8, D7, hE.wk, hS, (le2 le4 le5), h13, hf⟩
 replace hf := cf hb hf
 refine wpIn_exit ?_
 obtain rfl := si hf
 exact ⟨y2, A2, c2, q2, D3, hE.wk, hS, le4, h2, rfl⟩
set_option maxRecDepth 100000 in
theorem sha_blocks.calls {K : Nat} {g w0 : World} {D0 : Snap} {x1 : (List Int)} {A2 : Option Addr} {c3 : Nat} {r : ((List Int))} (hf : sha_blocks.f K x1 = some r) (hS0 : St g w0 D0 []) (h4 : Sl (kdInt .u8) D0 A2 c3 (x1)) :
  CallsIn (Fw none) 0 Tryz.prog 142 (List.toArray [.slice A2 (List.length (x1)) c3]) w0 (fun e w' => ∃ v, e = .returned v ∧ ∃ (D1 : Snap) (b7 : Nat) (A9 : Option Addr) (c10 : Nat), v = .func (.func 183) #[] #[.pointer (some ⟨b7, 0, none⟩)] ∧ Stp g w0 D0 [] w' D1 [bx b7 41 ([.slice A9 (List.length (r)) c10])] ∧ Sl (kdInt .u8) D1 A9 c10 (r)) := by
 unfold sha_blocks.f at hf
 have hS := Stp.refl hS0
 clear hS0
 refine calls_body (n := 4) Tryz.func142 rfl Tryz.ntmps142 rfl fun a hE => ?_
 have hE : Env a 4 [] [(0, .slice A2 (List.length (x1)) c3)] := hE
 refine sq (ra ?_)
 refine at_op (op_box rfl rfl rfl rfl hE rfl hS rfl (fun a b12 w _ hE hS => ?_)) rfl
 refine sN 1 2 [(2, .nilFunc)] hE fun a hE => ?_
 refine ae ?_
 refine sq (ra ?_)
 refine sN 2 2 [(2, .func (.func 183) #[] #[.pointer (some ⟨b12, 0, none⟩)])] hE fun a hE => ?_
 refine ae ?_
 refine wpIn_ret ?_
 obtain rfl := si hf
 refine ret_ ?_
 refine rT 2 (.func (.func 183) #[] #[.pointer (some ⟨b12, 0, none⟩)]) hE ?_
 exact ⟨_, rfl, D0, b12, A2, c3, rfl, hS, h4⟩
set_option maxRecDepth 100000 in
theorem math_bits_RotateLeft32.calls {K : Nat} {g w0 : World} {D0 : Snap} {x1 : Int} {x2 : Int} {r : (Int)} (hf : math_bits_RotateLeft32.f K x1 x2 = some r) (hS0 : St g w0 D0 []) :
  CallsIn (Fw none) 0 Tryz.prog 208 (List.toArray [.int .u32 (x1), .int .i64 (x2)]) w0 (fun e w' => ∃ v, e = .returned v ∧ ∃ D1, v = .int .u32 (r) ∧ Stp g w0 D0 [] w' D1 []) := by
 unfold math_bits_RotateLeft32.f at hf
 have hS := Stp.refl hS0
 clear hS0
 refine calls_body (n := 17) Tryz.func208 rfl Tryz.ntmps208 rfl fun a hE => ?_
 have hE : Env a 17 [] [(0, .int .u32 (x1)), (1, .int .i64 (x2))] := hE
 refine sq (ra ?_)
 refine sN 1 1 [(4, .int .u32 ((0 : Int)))] hE fun a hE => ?_
 refine ae ?_
 refine sq (ra ?_)
 refine sN 4 4 [(5, .int .u64 ((band .u64 (IntKind.wrap .u64 x2) (31 : Int))))] hE fun a hE => ?_
 refine ae ?_
 refine sq (ra ?_)
 refine sN 2 2 [(9, .int .u32 (x1)), (10, .int .u64 ((band .u64 (IntKind.wrap .u64 x2) (31 : Int))))] hE fun a hE => ?_
 obtain ⟨hq5, hf⟩ := chk_not hf
 refine at_op (op_tk hE (tk_bin (r := .int .u32 ((IntKind.wrap .u32 (x1 * 2 ^ (min (Int.toNat (band .u64 (IntKind.wrap .u64 x2) (31 : Int))) 32))))) rfl rfl rfl rfl hE rfl rfl rfl (shl_run hq5) (fun a hE => ?_))) rfl
 refine sN 3 6 [(12, .int .u32 (x1)), (14, .int .u64 ((IntKind.wrap .u64 ((32 : Int) - (band .u64 (IntKind.wrap .u64 x2) (31 : Int))))))] hE fun a hE => ?_
 obtain ⟨hq6, hf⟩ := chk_not hf
 refine at_op (op_tk hE (tk_bin (r := .int .u32 ((Int.fdiv x1 (2 ^ (min (Int.toNat (IntKind.wrap .u64 ((32 : Int) - (band .u64 (IntKind.wrap .u64 x2) (31 : Int))))) 32))))) rfl rfl rfl rfl hE rfl rfl rfl (shr_run hq6) (fun a hE => ?_))) rfl
 refine sN 2 9 [(4, .int .u32 ((bor .u32 (IntKind.wrap .u32 (x1 * 2 ^ (min (Int.toNat (band .u64 (IntKind.wrap .u64 x2) (31 : Int))) 32))) (Int.fdiv x1 (2 ^ (min (Int.toNat (IntKind.wrap .u64 ((32 : Int) - (band .u64 (IntKind.wrap .u64 x2) (31 : Int))))) 32))))))] hE fun a hE => ?_
 refine ae ?_
 refine wpIn_ret ?_
 obtain rfl := si hf
 refine ret_ ?_
 refine rT 4 (.int .u32 ((bor .u32 (IntKind.wrap .u32 (x1 * 2 ^ (min (Int.toNat (band .u64 (IntKind.wrap .u64 x2) (31 : Int))) 32))) (Int.fdiv x1 (2 ^ (min (Int.toNat (IntKind.wrap .u64 ((32 : Int) - (band .u64 (IntKind.wrap .u64 x2) (31 : Int))))) 32)))))) hE ?_
 exact ⟨_, rfl, D0, rfl, hS⟩
set_option maxRecDepth 100000 in
theorem sha_moved.calls {K : Nat} {g w0 : World} {D0 : Snap} {x1 : Int} {x2 : Int} {x3 : Int} {x4 : Int} {r : (Int)} (hf : sha_moved.f K x1 x2 x3 x4 = some r) (hS0 : St g w0 D0 []) :
  CallsIn (Fw none) 0 Tryz.prog 207 (List.toArray [.int .u32 (x1), .int .i64 (x2), .int .i64 (x3), .int .i64 (x4)]) w0 (fun e w' => ∃ v, e = .returned v ∧ ∃ D1, v = .int .u32 (r) ∧ Stp g w0 D0 [] w' D1 []) := by
 unfold sha_moved.f at hf
 have hS := Stp.refl hS0
 clear hS0
 refine calls_body (n := 22) Tryz.func207 rfl Tryz.ntmps207 rfl fun a hE => ?_
 have hE : Env a 22 [] [(0, .int .u32 (x1)), (1, .int .i64 (x2)), (2, .int .i64 (x3)), (3, .int .i64 (x4))] := hE
 refine sq (ra ?_)
 refine sN 1 1 [(8, .int .u32 ((0 : Int)))] hE fun a hE => ?_
 refine ae ?_
 refine sq ?_
 refine region_draw (fun j => Keeps (mfOf [] j)) (by kernel_rfl) ?_
 have hS := hS.drew
 first | generalize w.drew = w at hS ⊢ | generalize w0.drew = w at hS ⊢
 refine wP 0 1 13 (.int .u32 (x1)) hE fun a hE => ?_
 refine wP 1 3 12 (.int .i64 (x2)) hE fun a hE => ?_
 refine wP 2 7 11 (.int .i64 ((IntKind.wrap .i64 (0 - x2)))) hE fun a hE => ?_
 refine wP 4 23 10 (.int .u32 (x1)) hE fun a hE => ?_
 refine wP 5 55 9 (.int .i64 (x3)) hE fun a hE => ?_
 refine wP 6 119 8 (.int .i64 ((IntKind.wrap .i64 (0 - x3)))) hE fun a hE => ?_
 refine wP 9 631 7 (.int .u32 (x1)) hE fun a hE => ?_
 refine wP 10 1655 6 (.int .i64 (x4)) hE fun a hE => ?_
 obtain ⟨hq38, hf⟩ := chk_not hf
 refine tW 11 3703 (fuel := 5) (by kernel_rfl) hE (fun M => tk_bin (r := .int .u32 ((Int.fdiv x1 (2 ^ (min (Int.toNat x4) 32))))) rfl rfl rfl rfl hE rfl rfl rfl (shr_run hq38) (fun a hE => ?_))
 obtain ⟨r39, h40, hf⟩ := bs hf
 refine oC 3 3711 4 rfl rfl rfl rfl hE rfl rfl rfl rfl (math_bits_RotateLeft32.calls h40 (hS.st.fore (L := [])) ) fun a v w hR hE => ?_
 obtain ⟨D41, rfl, hS1⟩ := hR
 refine ⟨(hS1.keeps.sub (M' := []) trivial).mono (fun _ h => h), ?_⟩
 have le43 := hS1.dle
 have hS := hS.callR hS1 rfl .n
 obtain ⟨r44, h45, hf⟩ := bs hf
 refine oC 7 3839 3 rfl rfl rfl rfl hE rfl rfl rfl rfl (math_bits_RotateLeft32.calls h45 (hS.st.fore (L := [])) ) fun a v w hR hE => ?_
 obtain ⟨D46, rfl, hS1⟩ := hR
 refine ⟨(hS1.keeps.sub (M' := []) trivial).mono (fun _ h => h), ?_⟩
 have le48 := hS1.dle
 have hS := hS.callR hS1 rfl .n
 refine wP 8 4095 2 (.int .u32 ((bxor .u32 r39 r44))) hE fun a hE => ?_
 refine wP 12 8191 1 (.int .u32 ((bxor .u32 (bxor .u32 r39 r44) (Int.fdiv x1 (2 ^ (min (Int.toNat x4) 32)))))) hE fun a hE => ?_
 refine wP 13 16383 0 (.int .u32 ((bxor .u32 (bxor .u32 r39 r44) (Int.fdiv x1 (2 ^ (min (Int.toNat x4) 32)))))) hE fun a hE => ?_
 refine doneG (by kernel_rfl) ?_
 refine wpIn_ret ?_
 obtain rfl := si hf
 refine ret_ ?_
 refine rT 8 (.int .u32 ((bxor .u32 (bxor .u32 r39 r44) (Int.fdiv x1 (2 ^ (min (Int.toNat x4) 32)))))) hE ?_
 exact ⟨_, rfl, D46, rfl, hS⟩
set_option maxRecDepth 100000 in
theorem sha_schedule.calls {K : Nat} {g w0 : World} {D0 : Snap} {x1 : (List Int)} {A2 : Option Addr} {c3 : Nat} {r : ((Vector Int 64))} (hf : sha_schedule.f K x1 = some r) (hS0 : St g w0 D0 []) (h4 : Sl (kdInt .u8) D0 A2 c3 (x1)) :
  CallsIn (Fw none) 0 Tryz.prog 184 (List.toArray [.slice A2 (List.length (x1)) c3]) w0 (fun e w' => ∃ v, e = .returned v ∧ ∃ D1, v = .agg (List.toArray (acells .u32 64 (r))) ∧ Stp g w0 D0 [] w' D1 []) := by
 unfold sha_schedule.f at hf
 have hS := Stp.refl hS0
 clear hS0
 refine calls_body (n := 70) Tryz.func184 rfl Tryz.ntmps184 rfl fun a hE => ?_
 have hE : Env a 70 [] [(0, .slice A2 (List.length (x1)) c3)] := hE
 refine sq (ra ?_)
 refine at_op (op_alloc (z := .agg (List.toArray (acells .u32 64 ((Vector.replicate 64 (0 : Int)))))) rfl rfl rfl rfl hE rfl hS (by kernel_rfl) (fun a b2 w _ hE hS => ?_)) rfl
 refine ae ?_
 refine sq (ra ?_)
 refine at_op (op_alloc (z := .agg (List.toArray (acells .u32 64 ((Vector.replicate 64 (0 : Int)))))) rfl rfl rfl rfl hE rfl hS (by kernel_rfl) (fun a b1 w _ hE hS => ?_)) rfl
 refine ae ?_
 refine sq (sq (ra ?_))
 refine sN 1 1 [(5, .int .i64 ((0 : Int)))] hE fun a hE => ?_
 refine ae ?_
 obtain ⟨s1, hf, hs1⟩ := bs hf
 have hS := hS.p (.d 1 (.d 0 .n))
 refine block_loop (fun a w => ∃ (z1 : (Vector Int 64)), ∃ D3, Env a 70 [] [(2, .pointer (some ⟨b2, 0, none⟩)), (3, .pointer (some ⟨b1, 0, none⟩))] ∧ Stp g w0 D0 [] w D3 [bx b2 252 (acells .u32 64 ((Vector.replicate 64 (0 : Int)))), bx b1 252 (acells .u32 64 (z1))] ∧ Snap.le D0 D3 ∧ z1 = s1) (fun k a w => ∃ (y1 : Int × (Vector Int 64)), ∃ D2, Env a 70 [] [(0, .slice A2 (List.length (x1)) c3), (2, .pointer (some ⟨b2, 0, none⟩)), (3, .pointer (some ⟨b1, 0, none⟩)), (5, .int .i64 (y1.1))] ∧ Stp g w0 D0 [] w D2 [bx b2 252 (acells .u32 64 ((Vector.replicate 64 (0 : Int)))), bx b1 252 (acells .u32 64 (y1.2))] ∧ Snap.le D0 D2 ∧ sha_schedule_l1.l K x1 k y1 = some s1) K ?_ ?_ ?_
 ·exact ⟨((0 : Int), (Vector.replicate 64 (0 : Int))), D0, hE.wk, hS, lr, hf⟩
 ·clear hE hS hf
  rintro a w ⟨z1, D3, hE, hS, le6, rfl⟩
  have hf := hs1
  clear hs1
  refine sq (ra ?_)
  refine sM 1 1 [1] [(69, .agg (List.toArray (acells .u32 64 (z1))))] hE hS fun a hE => ?_
  refine at_op (op_store (v := .agg (List.toArray (acells .u32 64 (z1)))) (acells .u32 64 (z1)) rfl rfl rfl rfl hE hS rfl rfl (by kernel_rfl) (by kernel_rfl) (by kernel_rfl) (by kernel_rfl) (by kernel_rfl) (fun a w _ hE hS => ?_)) rfl
  refine ae ?_
  refine wpIn_ret ?_
  obtain rfl := si hf
  refine ret_ ?_
  refine ret_gen ([.agg (List.toArray (acells .u32 64 (z1)))]) hE (by rw [show Tryz.f184.results.toList = [.cell 2 252] from rfl]; exact ⟨_, _, _, 0, _, _, rfl, rfl, hS.heapAt (j := 0) rfl, by kernel_rfl, rfl⟩) ?_
  have hS := hS.p .n
  exact ⟨_, rfl, D3, rfl, hS⟩
 clear hE hS hf
 rintro k a w ⟨y1, D2, hE, hS, le1, hf⟩
 obtain ⟨k, rfl, hf⟩ := sha_schedule_l1.some _ hf
 refine ⟨k, rfl, ?_⟩
 unfold sha_schedule_l1.b at hf
 refine sq (ra ?_)
 refine sN 1 1 [(6, .bool ((decide (y1.1 < (64 : Int)))))] hE fun a hE => ?_
 refine ae ?_
 refine sq ?_
 refine cond_split hE (b := (decide (y1.1 < (64 : Int)))) rfl (fun hb => ?_) (fun hb => ?_)
 ·replace hf := ct hb hf
  refine wpIn_skip ?_
  obtain ⟨j1, hj1, hf⟩ := jn_elim hf
  refine seq_join (fun a w => ∃ (y2 : (Vector Int 64)), ∃ D4, Env a 70 [] [(0, .slice A2 (List.length (x1)) c3), (2, .pointer (some ⟨b2, 0, none⟩)), (3, .pointer (some ⟨b1, 0, none⟩)), (5, .int .i64 (y1.1))] ∧ Stp g w0 D0 [] w D4 [bx b2 252 (acells .u32 64 ((Vector.replicate 64 (0 : Int)))), bx b1 252 (acells .u32 64 (y2))] ∧ Snap.le D2 D4 ∧ j1 y2 = some s1) ?_ ?_
  ·clear hj1
   refine wpIn_block ?_
   refine sq (ra ?_)
   refine sN 2 2 [(4, .int .i64 (y1.1))] hE fun a hE => ?_
   refine ae ?_
   refine sq (sq (ra ?_))
   refine sN 2 2 [(9, .bool ((decide (y1.1 < (16 : Int)))))] hE fun a hE => ?_
   refine ae ?_
   refine cond_split hE (b := (decide (y1.1 < (16 : Int)))) rfl (fun hb => ?_) (fun hb => ?_)
   ·replace hf := ct hb hf
    refine sq ?_
    refine region_draw (fun j => Keeps (mfOf [(35, [b1])] j)) (by kernel_rfl) ?_
    have hS := hS.drew
    first | generalize w.drew = w at hS ⊢ | generalize w0.drew = w at hS ⊢
    refine wP 0 1 35 (.int .i64 (y1.1)) hE fun a hE => ?_
    refine wP 1 3 34 (.slice A2 (List.length (x1)) c3) hE fun a hE => ?_
    refine wP 2 7 33 (.int .i64 (y1.1)) hE fun a hE => ?_
    refine wP 3 15 32 (.int .i64 ((IntKind.wrap .i64 ((4 : Int) * y1.1)))) hE fun a hE => ?_
    refine wP 8 271 31 (.slice A2 (List.length (x1)) c3) hE fun a hE => ?_
    refine wP 9 783 30 (.int .i64 (y1.1)) hE fun a hE => ?_
    refine wP 10 1807 29 (.int .i64 ((IntKind.wrap .i64 ((4 : Int) * y1.1)))) hE fun a hE => ?_
    refine wP 11 3855 28 (.int .i64 ((IntKind.wrap .i64 ((IntKind.wrap .i64 ((4 : Int) * y1.1)) + (1 : Int))))) hE fun a hE => ?_
    refine wP 17 134927 27 (.slice A2 (List.length (x1)) c3) hE fun a hE => ?_
    refine wP 18 397071 26 (.int .i64 (y1.1)) hE fun a hE => ?_
    refine wP 19 921359 25 (.int .i64 ((IntKind.wrap .i64 ((4 : Int) * y1.1)))) hE fun a hE => ?_
    refine wP 20 1969935 24 (.int .i64 ((IntKind.wrap .i64 ((IntKind.wrap .i64 ((4 : Int) * y1.1)) + (2 : Int))))) hE fun a hE => ?_
    refine wP 26 69078799 23 (.slice A2 (List.length (x1)) c3) hE fun a hE => ?_
    refine wP 27 203296527 22 (.int .i64 (y1.1)) hE fun a hE => ?_
    refine wP 28 471731983 21 (.int .i64 ((IntKind.wrap .i64 ((4 : Int) * y1.1)))) hE fun a hE => ?_
    refine wP 29 1008602895 20 (.int .i64 ((IntKind.wrap .i64 ((IntKind.wrap .i64 ((4 : Int) * y1.1)) + (3 : Int))))) hE fun a hE => ?_
    obtain ⟨x2, h1, hf⟩ := bs hf
    refine tW 4 1008602911 (fuel := 19) (by kernel_rfl) hE (fun M => g_index (K := (kdInt .u8)) (e := 5) (by_ := 1) (zl := 1) rfl rfl rfl rfl hE rfl rfl rfl (by kernel_rfl) rfl (h4.mono le1) h1 (fun a b3 o1 hE h2 => ?_))
    obtain ⟨cs1, C1, T1, fr1, hr1, hb1, hc1⟩ := id h2
    obtain rfl := hr1
    refine tT 5 1008602943 (fuel := 18) (by kernel_rfl) hE (tk_loadX (off0 := o1) (off := 0) (c := [.int .u8 (x2)]) (.int .u8 (x2)) rfl rfl rfl rfl hE rfl hS rfl hb1 hc1 (by kernel_rfl) (by kernel_rfl) (kD hS dn_nil) (fun a hE => ?_))
    refine tW 6 1008603007 (fuel := 17) (by kernel_rfl) hE (fun M => tk_pure (.int .u32 ((IntKind.wrap .u32 x2))) hE rfl rfl rfl rfl (fun _ _ _ e => by cases e; rfl) (by kernel_rfl) (fun a hE => ?_))
    refine wP 7 1008603135 16 (.int .u32 ((IntKind.wrap .u32 ((IntKind.wrap .u32 x2) * 2 ^ 24)))) hE fun a hE => ?_
    obtain ⟨x3, h3, hf⟩ := bs hf
    refine tW 12 1008607231 (fuel := 15) (by kernel_rfl) hE (fun M => g_index (K := (kdInt .u8)) (e := 5) (by_ := 1) (zl := 1) rfl rfl rfl rfl hE rfl rfl rfl (by kernel_rfl) rfl (h4.mono le1) h3 (fun a b4 o2 hE h5 => ?_))
    obtain ⟨cs2, C2, T2, fr2, hr2, hb2, hc2⟩ := id h5
    obtain rfl := hr2
    refine tT 13 1008615423 (fuel := 14) (by kernel_rfl) hE (tk_loadX (off0 := o2) (off := 0) (c := [.int .u8 (x3)]) (.int .u8 (x3)) rfl rfl rfl rfl hE rfl hS rfl hb2 hc2 (by kernel_rfl) (by kernel_rfl) (kD hS dn_nil) (fun a hE => ?_))
    refine tW 14 1008631807 (fuel := 13) (by kernel_rfl) hE (fun M => tk_pure (.int .u32 ((IntKind.wrap .u32 x3))) hE rfl rfl rfl rfl (fun _ _ _ e => by cases e; rfl) (by kernel_rfl) (fun a hE => ?_))
    refine wP 15 1008664575 12 (.int .u32 ((IntKind.wrap .u32 ((IntKind.wrap .u32 x3) * 2 ^ 16)))) hE fun a hE => ?_
    refine wP 16 1008730111 11 (.int .u32 ((bor .u32 (IntKind.wrap .u32 ((IntKind.wrap .u32 x2) * 2 ^ 24)) (IntKind.wrap .u32 ((IntKind.wrap .u32 x3) * 2 ^ 16))))) hE fun a hE => ?_
    obtain ⟨x4, h6, hf⟩ := bs hf
    refine tW 21 1010827263 (fuel := 10) (by kernel_rfl) hE (fun M => g_index (K := (kdInt .u8)) (e := 5) (by_ := 1) (zl := 1) rfl rfl rfl rfl hE rfl rfl rfl (by kernel_rfl) rfl (h4.mono le1) h6 (fun a b5 o3 hE h7 => ?_))
    obtain ⟨cs3, C3, T3, fr3, hr3, hb3, hc3⟩ := id h7
    obtain rfl := hr3
    refine tT 22 1015021567 (fuel := 9) (by kernel_rfl) hE (tk_loadX (off0 := o3) (off := 0) (c := [.int .u8 (x4)]) (.int .u8 (x4)) rfl rfl rfl rfl hE rfl hS rfl hb3 hc3 (by kernel_rfl) (by kernel_rfl) (kD hS dn_nil) (fun a hE => ?_))
    refine tW 23 1023410175 (fuel := 8) (by kernel_rfl) hE (fun M => tk_pure (.int .u32 ((IntKind.wrap .u32 x4))) hE rfl rfl rfl rfl (fun _ _ _ e => by cases e; rfl) (by kernel_rfl) (fun a hE => ?_))
    refine wP 24 1040187391 7 (.int .u32 ((IntKind.wrap .u32 ((IntKind.wrap .u32 x4) * 2 ^ 8)))) hE fun a hE => ?_
    refine wP 25 1073741823 6 (.int .u32 ((bor .u32 (bor .u32 (IntKind.wrap .u32 ((IntKind.wrap .u32 x2) * 2 ^ 24)) (IntKind.wrap .u32 ((IntKind.wrap .u32 x3) * 2 ^ 16))) (IntKind.wrap .u32 ((IntKind.wrap .u32 x4) * 2 ^ 8))))) hE fun a hE => ?_
    obtain ⟨x5, h8, hf⟩ := bs hf
    refine tW 30 2147483647 (fuel := 5) (by kernel_rfl) hE (fun M => g_index (K := (kdInt .u8)) (e := 5) (by_ := 1) (zl := 1) rfl rfl rfl rfl hE rfl rfl rfl (by kernel_rfl) rfl (h4.mono le1) h8 (fun a b6 o4 hE h9 => ?_))
    obtain ⟨cs4, C4, T4, fr4, hr4, hb4, hc4⟩ := id h9
    obtain rfl := hr4
    refine tT 31 4294967295 (fuel := 4) (by kernel_rfl) hE (tk_loadX (off0 := o4) (off := 0) (c := [.int .u8 (x5)]) (.int .u8 (x5)) rfl rfl rfl rfl hE rfl hS rfl hb4 hc4 (by kernel_rfl) (by kernel_rfl) (kD hS dn_nil) (fun a hE => ?_))
    refine tW 32 8589934591 (fuel := 3) (by kernel_rfl) hE (fun M => tk_pure (.int .u32 ((IntKind.wrap .u32 x5))) hE rfl rfl rfl rfl (fun _ _ _ e => by cases e; rfl) (by kernel_rfl) (fun a hE => ?_))
    refine wP 33 17179869183 2 (.int .u32 ((bor .u32 (bor .u32 (bor .u32 (IntKind.wrap .u32 ((IntKind.wrap .u32 x2) * 2 ^ 24)) (IntKind.wrap .u32 ((IntKind.wrap .u32 x3) * 2 ^ 16))) (IntKind.wrap .u32 ((IntKind.wrap .u32 x4) * 2 ^ 8))) (IntKind.wrap .u32 x5)))) hE fun a hE => ?_
    obtain ⟨hm5780, hf⟩ := chk_some hf
    refine tW 34 34359738367 (fuel := 1) (by kernel_rfl) hE (fun M => tk_indexPA (N := 64) (k := .u32) (m := y1.1) rfl rfl rfl rfl hE rfl rfl rfl (by kernel_rfl) hm5780 (fun a hE => ?_))
    have hS := hS.p (.d 1 (.d 0 .n))
    obtain ⟨v1, hv1, hf⟩ := bs hf
    replace hv1 := Option.some.inj hv1
    refine oG 35 68719476735 (fuel := 0) (by kernel_rfl) (op_storePA (N := 64) (k := .u32) (v := y1.2) (m := y1.1) (z := (bor .u32 (bor .u32 (bor .u32 (IntKind.wrap .u32 ((IntKind.wrap .u32 x2) * 2 ^ 24)) (IntKind.wrap .u32 ((IntKind.wrap .u32 x3) * 2 ^ 16))) (IntKind.wrap .u32 ((IntKind.wrap .u32 x4) * 2 ^ 8))) (IntKind.wrap .u32 x5))) rfl rfl rfl rfl hE hS rfl rfl (by kernel_rfl) hm5780 (fun a w hkp hE hS => ⟨hkp.mono (fun _ h => h), ?_⟩))
    clear hkp
    rw [hv1] at hS
    refine doneG (by kernel_rfl) ?_
    refine wpIn_exit ?_
    have hS := hS.p (.d 1 (.d 0 .n))
    exact ⟨v1, D2, hE.wk, hS, lr, hf⟩
   replace hf := cf hb hf
   refine wpIn_skip ?_
   refine region_draw (fun j => Keeps (mfOf [(23, [b1])] j)) (by kernel_rfl) ?_
   have hS := hS.drew
   first | generalize w.drew = w at hS ⊢ | generalize w0.drew = w at hS ⊢
   refine wP 0 1 23 (.int .i64 (y1.1)) hE fun a hE => ?_
   refine wP 1 3 22 (.int .i64 (y1.1)) hE fun a hE => ?_
   refine wP 2 7 21 (.int .i64 ((IntKind.wrap .i64 (y1.1 - (2 : Int))))) hE fun a hE => ?_
   refine wP 6 71 20 (.int .i64 (y1.1)) hE fun a hE => ?_
   refine wP 7 199 19 (.int .i64 ((IntKind.wrap .i64 (y1.1 - (7 : Int))))) hE fun a hE => ?_
   refine wP 11 2247 18 (.int .i64 (y1.1)) hE fun a hE => ?_
   refine wP 12 6343 17 (.int .i64 ((IntKind.wrap .i64 (y1.1 - (15 : Int))))) hE fun a hE => ?_
   refine wP 17 137415 16 (.int .i64 (y1.1)) hE fun a hE => ?_
   refine wP 18 399559 15 (.int .i64 ((IntKind.wrap .i64 (y1.1 - (16 : Int))))) hE fun a hE => ?_
   obtain ⟨hm5800, hf⟩ := chk_some hf
   refine tW 3 399567 (fuel := 14) (by kernel_rfl) hE (fun M => tk_indexPA (N := 64) (k := .u32) (m := (IntKind.wrap .i64 (y1.1 - (2 : Int)))) rfl rfl rfl rfl hE rfl rfl rfl (by kernel_rfl) hm5800 (fun a hE => ?_))
   refine tT 4 399583 (fuel := 13) (by kernel_rfl) hE (tk_loadPA 1 (N := 64) (k := .u32) (v := y1.2) (m := (IntKind.wrap .i64 (y1.1 - (2 : Int)))) rfl rfl rfl rfl hE rfl hS rfl rfl (by kernel_rfl) hm5800 (kL (j := 1) hS rfl List.not_mem_nil) (fun a hE => ?_))
   obtain ⟨hm5801, hf⟩ := chk_some hf
   refine tW 8 399839 (fuel := 12) (by kernel_rfl) hE (fun M => tk_indexPA (N := 64) (k := .u32) (m := (IntKind.wrap .i64 (y1.1 - (7 : Int)))) rfl rfl rfl rfl hE rfl rfl rfl (by kernel_rfl) hm5801 (fun a hE => ?_))
   refine tT 9 400351 (fuel := 11) (by kernel_rfl) hE (tk_loadPA 1 (N := 64) (k := .u32) (v := y1.2) (m := (IntKind.wrap .i64 (y1.1 - (7 : Int)))) rfl rfl rfl rfl hE rfl hS rfl rfl (by kernel_rfl) hm5801 (kL (j := 1) hS rfl List.not_mem_nil) (fun a hE => ?_))
   obtain ⟨hm5802, hf⟩ := chk_some hf
   refine tW 13 408543 (fuel := 10) (by kernel_rfl) hE (fun M => tk_indexPA (N := 64) (k := .u32) (m := (IntKind.wrap .i64 (y1.1 - (15 : Int)))) rfl rfl rfl rfl hE rfl rfl rfl (by kernel_rfl) hm5802 (fun a hE => ?_))
   refine tT 14 424927 (fuel := 9) (by kernel_rfl) hE (tk_loadPA 1 (N := 64) (k := .u32) (v := y1.2) (m := (IntKind.wrap .i64 (y1.1 - (15 : Int)))) rfl rfl rfl rfl hE rfl hS rfl rfl (by kernel_rfl) hm5802 (kL (j := 1) hS rfl List.not_mem_nil) (fun a hE => ?_))
   obtain ⟨hm5803, hf⟩ := chk_some hf
   refine tW 19 949215 (fuel := 8) (by kernel_rfl) hE (fun M => tk_indexPA (N := 64) (k := .u32) (m := (IntKind.wrap .i64 (y1.1 - (16 : Int)))) rfl rfl rfl rfl hE rfl rfl rfl (by kernel_rfl) hm5803 (fun a hE => ?_))
   refine tT 20 1997791 (fuel := 7) (by kernel_rfl) hE (tk_loadPA 1 (N := 64) (k := .u32) (v := y1.2) (m := (IntKind.wrap .i64 (y1.1 - (16 : Int)))) rfl rfl rfl rfl hE rfl hS rfl rfl (by kernel_rfl) hm5803 (kL (j := 1) hS rfl List.not_mem_nil) (fun a hE => ?_))
   obtain ⟨r1, h10, hf⟩ := bs hf
   refine oC 5 1997823 6 rfl rfl rfl rfl hE rfl rfl rfl rfl (sha_moved.calls h10 (hS.st.fore (L := [])) ) fun a v w hR hE => ?_
   obtain ⟨D6, rfl, hS1⟩ := hR
   refine ⟨(hS1.keeps.sub (M' := []) trivial).mono (fun _ h => h), ?_⟩
   have le3 := hS1.dle
   have hS := hS.callR hS1 rfl .n
   refine wP 10 1998847 5 (.int .u32 ((IntKind.wrap .u32 (r1 + (vget (y1.2) (Int.toNat ((IntKind.wrap .i64 (y1.1 - (7 : Int)))))))))) hE fun a hE => ?_
   obtain ⟨r2, h11, hf⟩ := bs hf
   refine oC 15 2031615 4 rfl rfl rfl rfl hE rfl rfl rfl rfl (sha_moved.calls h11 (hS.st.fore (L := [])) ) fun a v w hR hE => ?_
   obtain ⟨D5, rfl, hS1⟩ := hR
   refine ⟨(hS1.keeps.sub (M' := []) trivial).mono (fun _ h => h), ?_⟩
   have le4 := hS1.dle
   have hS := hS.callR hS1 rfl .n
   refine wP 16 2097151 3 (.int .u32 ((IntKind.wrap .u32 ((IntKind.wrap .u32 (r1 + (vget (y1.2) (Int.toNat ((IntKind.wrap .i64 (y1.1 - (7 : Int)))))))) + r2)))) hE fun a hE => ?_
   refine wP 21 4194303 2 (.int .u32 ((IntKind.wrap .u32 ((IntKind.wrap .u32 ((IntKind.wrap .u32 (r1 + (vget (y1.2) (Int.toNat ((IntKind.wrap .i64 (y1.1 - (7 : Int)))))))) + r2)) + (vget (y1.2) (Int.toNat ((IntKind.wrap .i64 (y1.1 - (16 : Int)))))))))) hE fun a hE => ?_
   obtain ⟨hm5814, hf⟩ := chk_some hf
   refine tW 22 8388607 (fuel := 1) (by kernel_rfl) hE (fun M => tk_indexPA (N := 64) (k := .u32) (m := y1.1) rfl rfl rfl rfl hE rfl rfl rfl (by kernel_rfl) hm5814 (fun a hE => ?_))
   have hS := hS.p (.d 1 (.d 0 .n))
   obtain ⟨v2, hv2, hf⟩ := bs hf
   replace hv2 := Option.some.inj hv2
   refine oG 23 16777215 (fuel := 0) (by kernel_rfl) (op_storePA (N := 64) (k := .u32) (v := y1.2) (m := y1.1) (z := (IntKind.wrap .u32 ((IntKind.wrap .u32 ((IntKind.wrap .u32 (r1 + (vget (y1.2) (Int.toNat ((IntKind.wrap .i64 (y1.1 - (7 : Int)))))))) + r2)) + (vget (y1.2) (Int.toNat ((IntKind.wrap .i64 (y1.1 - (16 : Int))))))))) rfl rfl rfl rfl hE hS rfl rfl (by kernel_rfl) hm5814 (fun a w hkp hE hS => ⟨hkp.mono (fun _ h => h), ?_⟩))
   clear hkp
   rw [hv2] at hS
   refine doneG (by kernel_rfl) ?_
   have hS := hS.p (.d 1 (.d 0 .n))
   exact ⟨v2, D5, hE.wk, hS, (le2 le3 le4), hf⟩
  clear hE hS
  rintro a w ⟨y2, D4, hE, hS, le5, hf⟩
  replace hf := hj1 _ hf
  clear hj1
  refine ra ?_
  refine sN 2 2 [(5, .int .i64 ((IntKind.wrap .i64 (y1.1 + (1 : Int)))))] hE fun a hE => ?_
  exact ae ⟨((IntKind.wrap .i64 (y1.1 + (1 : Int))), y2), D4, hE.wk, hS, (le2 le1 le5), hf⟩
 replace hf := cf hb hf
 refine wpIn_exit ?_
 obtain rfl := si hf
 exact ⟨y1.2, D2, hE.wk, hS, le1, rfl⟩
set_option maxRecDepth 100000 in
theorem sha_turned.calls {K : Nat} {g w0 : World} {D0 : Snap} {x1 : Int} {x2 : Int} {x3 : Int} {x4 : Int} {r : (Int)} (hf : sha_turned.f K x1 x2 x3 x4 = some r) (hS0 : St g w0 D0 []) :
  CallsIn (Fw none) 0 Tryz.prog 185 (List.toArray [.int .u32 (x1), .int .i64 (x2), .int .i64 (x3), .int .i64 (x4)]) w0 (fun e w' => ∃ v, e = .returned v ∧ ∃ D1, v = .int .u32 (r) ∧ Stp g w0 D0 [] w' D1 []) := by
 unfold sha_turned.f at hf
 have hS := Stp.refl hS0
 clear hS0
 refine calls_body (n := 23) Tryz.func185 rfl Tryz.ntmps185 rfl fun a hE => ?_
 have hE : Env a 23 [] [(0, .int .u32 (x1)), (1, .int .i64 (x2)), (2, .int .i64 (x3)), (3, .int .i64 (x4))] := hE
 refine sq (ra ?_)
 refine sN 1 1 [(8, .int .u32 ((0 : Int)))] hE fun a hE => ?_
 refine ae ?_
 refine sq (ra ?_)
 refine sN 3 3 [(9, .int .u32 (x1)), (11, .int .i64 ((IntKind.wrap .i64 (0 - x2))))] hE fun a hE => ?_
 obtain ⟨r20, h21, hf⟩ := bs hf
 refine aC rfl rfl rfl rfl hE rfl rfl rfl rfl (math_bits_RotateLeft32.calls h21 (hS.st.fore (L := [])) ) fun a v w hR hE => ?_
 obtain ⟨D22, rfl, hS1⟩ := hR
 have le24 := hS1.dle
 have hS := hS.callR hS1 rfl .n
 refine sN 3 7 [(13, .int .u32 (x1)), (15, .int .i64 ((IntKind.wrap .i64 (0 - x3))))] hE fun a hE => ?_
 obtain ⟨r25, h26, hf⟩ := bs hf
 refine aC rfl rfl rfl rfl hE rfl rfl rfl rfl (math_bits_RotateLeft32.calls h26 (hS.st.fore (L := [])) ) fun a v w hR hE => ?_
 obtain ⟨D27, rfl, hS1⟩ := hR
 have le29 := hS1.dle
 have hS := hS.callR hS1 rfl .n
 refine sN 4 12 [(17, .int .u32 ((bxor .u32 r20 r25))), (18, .int .u32 (x1)), (20, .int .i64 ((IntKind.wrap .i64 (0 - x4))))] hE fun a hE => ?_
 obtain ⟨r30, h31, hf⟩ := bs hf
 refine aC rfl rfl rfl rfl hE rfl rfl rfl rfl (math_bits_RotateLeft32.calls h31 (hS.st.fore (L := [])) ) fun a v w hR hE => ?_
 obtain ⟨D32, rfl, hS1⟩ := hR
 have le34 := hS1.dle
 have hS := hS.callR hS1 rfl .n
 refine sN 2 15 [(8, .int .u32 ((bxor .u32 (bxor .u32 r20 r25) r30)))] hE fun a hE => ?_
 refine ae ?_
 refine wpIn_ret ?_
 obtain rfl := si hf
 refine ret_ ?_
 refine rT 8 (.int .u32 ((bxor .u32 (bxor .u32 r20 r25) r30))) hE ?_
 exact ⟨_, rfl, D32, rfl, hS⟩
set_option maxRecDepth 100000 in
theorem sha_Turn.calls {K : Nat} {g w0 : World} {D0 : Snap} {x1 : (Vector Int 8)} {x2 : (List Int)} {A3 : Option Addr} {c4 : Nat} {r : ((Vector Int 8))} (hf : sha_Turn.f K x1 x2 = some r) (hS0 : St g w0 D0 []) (h5 : Sl (kdInt .u8) D0 A3 c4 (x2)) (hG1 : Cell (kdArr .u32 64) D0 1 0 gl_K) :
  CallsIn (Fw none) 0 Tryz.prog 144 (List.toArray [.agg (List.toArray (acells .u32 8 (x1))), .slice A3 (List.length (x2)) c4]) w0 (fun e w' => ∃ v, e = .returned v ∧ ∃ D1, v = .agg (List.toArray (acells .u32 8 (r))) ∧ Stp g w0 D0 [] w' D1 []) := by
 unfold sha_Turn.f at hf
 have hS := Stp.refl hS0
 clear hS0
 refine calls_body (n := 94) Tryz.func144 rfl Tryz.ntmps144 rfl fun a hE => ?_
 have hE : Env a 94 [] [(0, .agg (List.toArray (acells .u32 8 (x1)))), (1, .slice A3 (List.length (x2)) c4)] := hE
 refine sq (ra ?_)
 refine at_op (op_box rfl rfl rfl rfl hE rfl hS rfl (fun a b1 w _ hE hS => ?_)) rfl
 refine at_op (op_alloc (z := .agg (List.toArray (acells .u32 8 ((Vector.replicate 8 (0 : Int)))))) rfl rfl rfl rfl hE rfl hS (by kernel_rfl) (fun a b2 w _ hE hS => ?_)) rfl
 refine ae ?_
 refine sq (sq (ra ?_))
 refine sN 3 3 [(13, .bool ((!decide (((List.length (x2) : Nat) : Int) = (64 : Int)))))] hE fun a hE => ?_
 refine ae ?_
 refine cond_split hE (b := (!decide (((List.length (x2) : Nat) : Int) = (64 : Int)))) rfl (fun hb => ?_) (fun hb => ?_)
 ·replace hf := ct hb hf
  refine sq (ra ?_)
  refine sM 1 1 [1] [(14, .agg (List.toArray (acells .u32 8 (x1))))] hE hS fun a hE => ?_
  refine at_op (op_store (v := .agg (List.toArray (acells .u32 8 (x1)))) (acells .u32 8 (x1)) rfl rfl rfl rfl hE hS rfl rfl (by kernel_rfl) (by kernel_rfl) (by kernel_rfl) (by kernel_rfl) (by kernel_rfl) (fun a w _ hE hS => ?_)) rfl
  refine ae ?_
  refine wpIn_ret ?_
  obtain rfl := si hf
  refine ret_ ?_
  refine ret_gen ([.agg (List.toArray (acells .u32 8 (x1)))]) hE (by rw [show Tryz.f144.results.toList = [.cell 4 207] from rfl]; exact ⟨_, _, _, 0, _, _, rfl, rfl, hS.heapAt (j := 0) rfl, by kernel_rfl, rfl⟩) ?_
  have hS := hS.p .n
  exact ⟨_, rfl, D0, rfl, hS⟩
 replace hf := cf hb hf
 refine wpIn_skip ?_
 refine sq (ra ?_)
 refine sM 1 1 [1] [(15, .agg (List.toArray (acells .u32 8 (x1))))] hE hS fun a hE => ?_
 refine at_op (op_alloc (z := .agg (List.toArray (acells .u32 8 ((Vector.replicate 8 (0 : Int)))))) rfl rfl rfl rfl hE rfl hS (by kernel_rfl) (fun a b3 w _ hE hS => ?_)) rfl
 refine at_op (op_store (v := .agg (List.toArray (acells .u32 8 (x1)))) (acells .u32 8 (x1)) rfl rfl rfl rfl hE hS rfl rfl (by kernel_rfl) (by kernel_rfl) (by kernel_rfl) (by kernel_rfl) (by kernel_rfl) (fun a w _ hE hS => ?_)) rfl
 refine ae ?_
 refine sq (sq (ra ?_))
 refine sN 1 1 [(16, .slice A3 (List.length (x2)) c4)] hE fun a hE => ?_
 obtain ⟨r3, h1, hf⟩ := bs hf
 refine aC rfl rfl rfl rfl hE rfl rfl rfl rfl (sha_schedule.calls h1 (hS.st.fore (L := [])) h5) fun a v w hR hE => ?_
 obtain ⟨D6, rfl, hS1⟩ := hR
 have le4 := hS1.dle
 have hS := hS.callR hS1 rfl .n
 refine sN 1 3 [(18, .int .i64 ((0 : Int)))] hE fun a hE => ?_
 refine ae ?_
 obtain ⟨s1, hf, hs1⟩ := bs hf
 have hS := hS.p (.d 2 (.d 1 (.d 0 .n)))
 refine block_loop (fun a w => ∃ (z1 : (Vector Int 8)), ∃ D2, Env a 94 [] [(2, .pointer (some ⟨b1, 0, none⟩)), (4, .pointer (some ⟨b2, 0, none⟩)), (5, .pointer (some ⟨b3, 0, none⟩))] ∧ Stp g w0 D0 [] w D2 [bx b1 207 (acells .u32 8 (x1)), bx b2 207 (acells .u32 8 ((Vector.replicate 8 (0 : Int)))), bx b3 207 (acells .u32 8 (z1))] ∧ Snap.le D6 D2 ∧ z1 = s1) (fun k a w => ∃ (y1 : Int × (Vector Int 8)), ∃ D4, Env a 94 [] [(2, .pointer (some ⟨b1, 0, none⟩)), (4, .pointer (some ⟨b2, 0, none⟩)), (5, .pointer (some ⟨b3, 0, none⟩)), (17, .agg (List.toArray (acells .u32 64 (r3)))), (18, .int .i64 (y1.1))] ∧ Stp g w0 D0 [] w D4 [bx b1 207 (acells .u32 8 (x1)), bx b2 207 (acells .u32 8 ((Vector.replicate 8 (0 : Int)))), bx b3 207 (acells .u32 8 (y1.2))] ∧ Snap.le D6 D4 ∧ sha_Turn_l1.l K r3 k y1 = some s1) K ?_ ?_ ?_
 ·exact ⟨((0 : Int), x1), D6, hE.wk, hS, lr, hf⟩
 ·clear hE hS hf
  rintro a w ⟨z1, D2, hE, hS, le7, rfl⟩
  have hf := hs1
  clear hs1
  refine sq (sq (ra ?_))
  refine sN 1 1 [(81, .int .i64 ((0 : Int)))] hE fun a hE => ?_
  refine ae ?_
  obtain ⟨s2, hf, hs2⟩ := bs hf
  refine block_loop (fun a w => ∃ (z2 : (Vector Int 8)), ∃ D5, Env a 94 [] [(2, .pointer (some ⟨b1, 0, none⟩)), (4, .pointer (some ⟨b2, 0, none⟩))] ∧ Stp g w0 D0 [] w D5 [bx b1 207 (acells .u32 8 (z2)), bx b2 207 (acells .u32 8 ((Vector.replicate 8 (0 : Int))))] ∧ Snap.le D2 D5 ∧ z2 = s2) (fun k a w => ∃ (y2 : Int × (Vector Int 8)), ∃ D3, Env a 94 [] [(2, .pointer (some ⟨b1, 0, none⟩)), (4, .pointer (some ⟨b2, 0, none⟩)), (5, .pointer (some ⟨b3, 0, none⟩)), (81, .int .i64 (y2.1))] ∧ Stp g w0 D0 [] w D3 [bx b1 207 (acells .u32 8 (y2.2)), bx b2 207 (acells .u32 8 ((Vector.replicate 8 (0 : Int)))), bx b3 207 (acells .u32 8 (z1))] ∧ Snap.le D2 D3 ∧ sha_Turn_l2.l K z1 k y2 = some s2) K ?_ ?_ ?_
  ·exact ⟨((0 : Int), x1), D2, hE.wk, hS, lr, hf⟩
  ·clear hE hS hf
   rintro a w ⟨z2, D5, hE, hS, le8, rfl⟩
   have hf := hs2
   clear hs2
   refine sq (ra ?_)
   refine sM 1 1 [0] [(93, .agg (List.toArray (acells .u32 8 (z2))))] hE hS fun a hE => ?_
   have hS := hS.p (.d 1 (.d 0 .n))
   refine at_op (op_store (v := .agg (List.toArray (acells .u32 8 (z2)))) (acells .u32 8 (z2)) rfl rfl rfl rfl hE hS rfl rfl (by kernel_rfl) (by kernel_rfl) (by kernel_rfl) (by kernel_rfl) (by kernel_rfl) (fun a w _ hE hS => ?_)) rfl
   refine ae ?_
   refine wpIn_ret ?_
   obtain rfl := si hf
   refine ret_ ?_
   refine ret_gen ([.agg (List.toArray (acells .u32 8 (z2)))]) hE (by rw [show Tryz.f144.results.toList = [.cell 4 207] from rfl]; exact ⟨_, _, _, 0, _, _, rfl, rfl, hS.heapAt (j := 0) rfl, by kernel_rfl, rfl⟩) ?_
   have hS := hS.p .n
   exact ⟨_, rfl, D5, rfl, hS⟩
  clear hE hS hf
  rintro k a w ⟨y2, D3, hE, hS, le3, hf⟩
  obtain ⟨k, rfl, hf⟩ := sha_Turn_l2.some _ hf
  refine ⟨k, rfl, ?_⟩
  unfold sha_Turn_l2.b at hf
  refine sq (ra ?_)
  refine sN 1 1 [(82, .bool ((decide (y2.1 < (8 : Int)))))] hE fun a hE => ?_
  refine ae ?_
  refine sq ?_
  refine cond_split hE (b := (decide (y2.1 < (8 : Int)))) rfl (fun hb => ?_) (fun hb => ?_)
  ·replace hf := ct hb hf
   refine wpIn_skip ?_
   refine sq ?_
   refine wpIn_block ?_
   refine sq (ra ?_)
   refine sN 2 2 [(10, .int .i64 (y2.1))] hE fun a hE => ?_
   refine ae ?_
   refine region_draw (fun j => Keeps (mfOf [(8, [b1])] j)) (by kernel_rfl) ?_
   have hS := hS.drew
   first | generalize w.drew = w at hS ⊢ | generalize w0.drew = w at hS ⊢
   refine wP 0 1 8 (.int .i64 (y2.1)) hE fun a hE => ?_
   refine wP 3 9 7 (.int .i64 (y2.1)) hE fun a hE => ?_
   obtain ⟨hm1473, hf⟩ := chk_some hf
   refine tW 1 11 (fuel := 6) (by kernel_rfl) hE (fun M => tk_indexPA (N := 8) (k := .u32) (m := y2.1) rfl rfl rfl rfl hE rfl rfl rfl (by kernel_rfl) hm1473 (fun a hE => ?_))
   refine tT 2 15 (fuel := 5) (by kernel_rfl) hE (tk_loadPA 0 (N := 8) (k := .u32) (v := y2.2) (m := y2.1) rfl rfl rfl rfl hE rfl hS rfl rfl (by kernel_rfl) hm1473 (kL (j := 0) hS rfl List.not_mem_nil) (fun a hE => ?_))
   obtain ⟨hm1474, hf⟩ := chk_some hf
   refine tW 4 31 (fuel := 4) (by kernel_rfl) hE (fun M => tk_indexPA (N := 8) (k := .u32) (m := y2.1) rfl rfl rfl rfl hE rfl rfl rfl (by kernel_rfl) hm1474 (fun a hE => ?_))
   refine tT 5 63 (fuel := 3) (by kernel_rfl) hE (tk_loadPA 2 (N := 8) (k := .u32) (v := z1) (m := y2.1) rfl rfl rfl rfl hE rfl hS rfl rfl (by kernel_rfl) hm1474 (kL (j := 2) hS rfl List.not_mem_nil) (fun a hE => ?_))
   refine wP 6 127 2 (.int .u32 ((IntKind.wrap .u32 ((vget (y2.2) (Int.toNat (y2.1))) + (vget (z1) (Int.toNat (y2.1))))))) hE fun a hE => ?_
   obtain ⟨hm1475, hf⟩ := chk_some hf
   refine tW 7 255 (fuel := 1) (by kernel_rfl) hE (fun M => tk_indexPA (N := 8) (k := .u32) (m := y2.1) rfl rfl rfl rfl hE rfl rfl rfl (by kernel_rfl) hm1475 (fun a hE => ?_))
   obtain ⟨v2, hv1, hf⟩ := bs hf
   replace hv1 := Option.some.inj hv1
   refine oG 8 511 (fuel := 0) (by kernel_rfl) (op_storePA (N := 8) (k := .u32) (v := y2.2) (m := y2.1) (z := (IntKind.wrap .u32 ((vget (y2.2) (Int.toNat (y2.1))) + (vget (z1) (Int.toNat (y2.1)))))) rfl rfl rfl rfl hE hS rfl rfl (by kernel_rfl) hm1475 (fun a w hkp hE hS => ⟨hkp.mono (fun _ h => h), ?_⟩))
   clear hkp
   rw [hv1] at hS
   refine doneG (by kernel_rfl) ?_
   refine ra ?_
   refine sN 2 2 [(81, .int .i64 ((IntKind.wrap .i64 (y2.1 + (1 : Int)))))] hE fun a hE => ?_
   exact ae ⟨((IntKind.wrap .i64 (y2.1 + (1 : Int))), v2), D3, hE.wk, hS, le3, hf⟩
  replace hf := cf hb hf
  refine wpIn_exit ?_
  obtain rfl := si hf
  have hS := hS.p (.d 0 (.d 1 .n))
  exact ⟨y2.2, D3, hE.wk, hS, le3, rfl⟩
 clear hE hS hf
 rintro k a w ⟨y1, D4, hE, hS, le1, hf⟩
 obtain ⟨k, rfl, hf⟩ := sha_Turn_l1.some _ hf
 refine ⟨k, rfl, ?_⟩
 unfold sha_Turn_l1.b at hf
 refine sq (ra ?_)
 refine sN 1 1 [(19, .bool ((decide (y1.1 < (64 : Int)))))] hE fun a hE => ?_
 refine ae ?_
 refine sq ?_
 refine cond_split hE (b := (decide (y1.1 < (64 : Int)))) rfl (fun hb => ?_) (fun hb => ?_)
 ·replace hf := ct hb hf
  refine wpIn_skip ?_
  refine sq ?_
  refine wpIn_block ?_
  refine sq (ra ?_)
  refine sN 1 1 [(20, .int .i64 (y1.1))] hE fun a hE => ?_
  obtain ⟨x3, h2, hf⟩ := bs hf
  refine at_op (op_tk hE (tk_indexA (N := 64) (k := .u32) (v := r3) rfl rfl rfl rfl hE rfl rfl rfl (by kernel_rfl) h2 (fun a hE => ?_))) rfl
  refine sN 2 4 [(6, .int .i64 (y1.1)), (7, .int .u32 (x3))] hE fun a hE => ?_
  refine ae ?_
  refine sq ?_
  refine region_draw (fun j => Keeps (mfOf [] j)) (by kernel_rfl) ?_
  have hS := hS.drew
  first | generalize w.drew = w at hS ⊢ | generalize w0.drew = w at hS ⊢
  refine wP 19 524288 25 (.int .i64 (y1.1)) hE fun a hE => ?_
  refine wP 23 8912896 24 (.int .u32 (x3)) hE fun a hE => ?_
  refine tW 0 8912897 (fuel := 23) (by kernel_rfl) hE (fun M => tk_indexPA (N := 8) (k := .u32) (m := (7 : Int)) rfl rfl rfl rfl hE rfl rfl rfl (by kernel_rfl) (by kernel_rfl) (fun a hE => ?_))
  refine tT 1 8912899 (fuel := 22) (by kernel_rfl) hE (tk_loadPA 2 (N := 8) (k := .u32) (v := y1.2) (m := (7 : Int)) rfl rfl rfl rfl hE rfl hS rfl rfl (by kernel_rfl) (by kernel_rfl) (kL (j := 2) hS rfl List.not_mem_nil) (fun a hE => ?_))
  refine tW 2 8912903 (fuel := 21) (by kernel_rfl) hE (fun M => tk_indexPA (N := 8) (k := .u32) (m := (4 : Int)) rfl rfl rfl rfl hE rfl rfl rfl (by kernel_rfl) (by kernel_rfl) (fun a hE => ?_))
  refine tT 3 8912911 (fuel := 20) (by kernel_rfl) hE (tk_loadPA 2 (N := 8) (k := .u32) (v := y1.2) (m := (4 : Int)) rfl rfl rfl rfl hE rfl hS rfl rfl (by kernel_rfl) (by kernel_rfl) (kL (j := 2) hS rfl List.not_mem_nil) (fun a hE => ?_))
  refine tW 6 8912975 (fuel := 19) (by kernel_rfl) hE (fun M => tk_indexPA (N := 8) (k := .u32) (m := (4 : Int)) rfl rfl rfl rfl hE rfl rfl rfl (by kernel_rfl) (by kernel_rfl) (fun a hE => ?_))
  refine tT 7 8913103 (fuel := 18) (by kernel_rfl) hE (tk_loadPA 2 (N := 8) (k := .u32) (v := y1.2) (m := (4 : Int)) rfl rfl rfl rfl hE rfl hS rfl rfl (by kernel_rfl) (by kernel_rfl) (kL (j := 2) hS rfl List.not_mem_nil) (fun a hE => ?_))
  refine tW 8 8913359 (fuel := 17) (by kernel_rfl) hE (fun M => tk_indexPA (N := 8) (k := .u32) (m := (5 : Int)) rfl rfl rfl rfl hE rfl rfl rfl (by kernel_rfl) (by kernel_rfl) (fun a hE => ?_))
  refine tT 9 8913871 (fuel := 16) (by kernel_rfl) hE (tk_loadPA 2 (N := 8) (k := .u32) (v := y1.2) (m := (5 : Int)) rfl rfl rfl rfl hE rfl hS rfl rfl (by kernel_rfl) (by kernel_rfl) (kL (j := 2) hS rfl List.not_mem_nil) (fun a hE => ?_))
  refine wP 10 8914895 15 (.int .u32 ((band .u32 (vget (y1.2) (Int.toNat ((4 : Int)))) (vget (y1.2) (Int.toNat ((5 : Int))))))) hE fun a hE => ?_
  refine tW 11 8916943 (fuel := 14) (by kernel_rfl) hE (fun M => tk_indexPA (N := 8) (k := .u32) (m := (4 : Int)) rfl rfl rfl rfl hE rfl rfl rfl (by kernel_rfl) (by kernel_rfl) (fun a hE => ?_))
  refine tT 12 8921039 (fuel := 13) (by kernel_rfl) hE (tk_loadPA 2 (N := 8) (k := .u32) (v := y1.2) (m := (4 : Int)) rfl rfl rfl rfl hE rfl hS rfl rfl (by kernel_rfl) (by kernel_rfl) (kL (j := 2) hS rfl List.not_mem_nil) (fun a hE => ?_))
  refine wP 13 8929231 12 (.int .u32 ((bnot .u32 (vget (y1.2) (Int.toNat ((4 : Int))))))) hE fun a hE => ?_
  refine tW 14 8945615 (fuel := 11) (by kernel_rfl) hE (fun M => tk_indexPA (N := 8) (k := .u32) (m := (6 : Int)) rfl rfl rfl rfl hE rfl rfl rfl (by kernel_rfl) (by kernel_rfl) (fun a hE => ?_))
  refine tT 15 8978383 (fuel := 10) (by kernel_rfl) hE (tk_loadPA 2 (N := 8) (k := .u32) (v := y1.2) (m := (6 : Int)) rfl rfl rfl rfl hE rfl hS rfl rfl (by kernel_rfl) (by kernel_rfl) (kL (j := 2) hS rfl List.not_mem_nil) (fun a hE => ?_))
  refine wP 16 9043919 9 (.int .u32 ((band .u32 (bnot .u32 (vget (y1.2) (Int.toNat ((4 : Int))))) (vget (y1.2) (Int.toNat ((6 : Int))))))) hE fun a hE => ?_
  refine wP 17 9174991 8 (.int .u32 ((bxor .u32 (band .u32 (vget (y1.2) (Int.toNat ((4 : Int)))) (vget (y1.2) (Int.toNat ((5 : Int))))) (band .u32 (bnot .u32 (vget (y1.2) (Int.toNat ((4 : Int))))) (vget (y1.2) (Int.toNat ((6 : Int)))))))) hE fun a hE => ?_
  obtain ⟨hm1311, hf⟩ := chk_some hf
  refine tW 20 10223567 (fuel := 7) (by kernel_rfl) hE (fun M => tk_indexPA (N := 64) (k := .u32) (m := y1.1) rfl rfl rfl rfl hE rfl rfl rfl (by kernel_rfl) hm1311 (fun a hE => ?_))
  obtain ⟨cs1, C1, T1, fr1, hr1, hb1, hc1⟩ := (Cell.elemA (N := 64) (m := y1.1) (hG1.mono (le2 le4 le1)) hm1311)
  obtain rfl := hr1
  refine tT 21 12320719 (fuel := 6) (by kernel_rfl) hE (tk_loadX (off0 := (0 + Int.toNat (y1.1))) (off := 0) (c := [.int .u32 ((vget (gl_K) (Int.toNat (y1.1))))]) (.int .u32 ((vget (gl_K) (Int.toNat (y1.1))))) rfl rfl rfl rfl hE rfl hS rfl hb1 hc1 (by kernel_rfl) (by kernel_rfl) (kD hS dn_nil) (fun a hE => ?_))
  obtain ⟨r1, h3, hf⟩ := bs hf
  refine oC 4 12320735 5 rfl rfl rfl rfl hE rfl rfl rfl rfl (sha_turned.calls h3 (hS.st.fore (L := [])) ) fun a v w hR hE => ?_
  obtain ⟨D8, rfl, hS1⟩ := hR
  refine ⟨(hS1.keeps.sub (M' := []) trivial).mono (fun _ h => h), ?_⟩
  have le5 := hS1.dle
  have hS := hS.callR hS1 rfl .n
  refine wP 5 12320767 4 (.int .u32 ((IntKind.wrap .u32 ((vget (y1.2) (Int.toNat ((7 : Int)))) + r1)))) hE fun a hE => ?_
  refine wP 18 12582911 3 (.int .u32 ((IntKind.wrap .u32 ((IntKind.wrap .u32 ((vget (y1.2) (Int.toNat ((7 : Int)))) + r1)) + (bxor .u32 (band .u32 (vget (y1.2) (Int.toNat ((4 : Int)))) (vget (y1.2) (Int.toNat ((5 : Int))))) (band .u32 (bnot .u32 (vget (y1.2) (Int.toNat ((4 : Int))))) (vget (y1.2) (Int.toNat ((6 : Int)))))))))) hE fun a hE => ?_
  refine wP 22 16777215 2 (.int .u32 ((IntKind.wrap .u32 ((IntKind.wrap .u32 ((IntKind.wrap .u32 ((vget (y1.2) (Int.toNat ((7 : Int)))) + r1)) + (bxor .u32 (band .u32 (vget (y1.2) (Int.toNat ((4 : Int)))) (vget (y1.2) (Int.toNat ((5 : Int))))) (band .u32 (bnot .u32 (vget (y1.2) (Int.toNat ((4 : Int))))) (vget (y1.2) (Int.toNat ((6 : Int)))))))) + (vget (gl_K) (Int.toNat (y1.1))))))) hE fun a hE => ?_
  refine wP 24 33554431 1 (.int .u32 ((IntKind.wrap .u32 ((IntKind.wrap .u32 ((IntKind.wrap .u32 ((IntKind.wrap .u32 ((vget (y1.2) (Int.toNat ((7 : Int)))) + r1)) + (bxor .u32 (band .u32 (vget (y1.2) (Int.toNat ((4 : Int)))) (vget (y1.2) (Int.toNat ((5 : Int))))) (band .u32 (bnot .u32 (vget (y1.2) (Int.toNat ((4 : Int))))) (vget (y1.2) (Int.toNat ((6 : Int)))))))) + (vget (gl_K) (Int.toNat (y1.1))))) + x3)))) hE fun a hE => ?_
  refine wP 25 67108863 0 (.int .u32 ((IntKind.wrap .u32 ((IntKind.wrap .u32 ((IntKind.wrap .u32 ((IntKind.wrap .u32 ((vget (y1.2) (Int.toNat ((7 : Int)))) + r1)) + (bxor .u32 (band .u32 (vget (y1.2) (Int.toNat ((4 : Int)))) (vget (y1.2) (Int.toNat ((5 : Int))))) (band .u32 (bnot .u32 (vget (y1.2) (Int.toNat ((4 : Int))))) (vget (y1.2) (Int.toNat ((6 : Int)))))))) + (vget (gl_K) (Int.toNat (y1.1))))) + x3)))) hE fun a hE => ?_
  refine doneG (by kernel_rfl) ?_
  refine sq ?_
  refine region_draw (fun j => Keeps (mfOf [] j)) (by kernel_rfl) ?_
  have hS := hS.drew
  first | generalize w.drew = w at hS ⊢ | generalize w0.drew = w at hS ⊢
  refine tW 0 1 (fuel := 21) (by kernel_rfl) hE (fun M => tk_indexPA (N := 8) (k := .u32) (m := (0 : Int)) rfl rfl rfl rfl hE rfl rfl rfl (by kernel_rfl) (by kernel_rfl) (fun a hE => ?_))
  refine tT 1 3 (fuel := 20) (by kernel_rfl) hE (tk_loadPA 2 (N := 8) (k := .u32) (v := y1.2) (m := (0 : Int)) rfl rfl rfl rfl hE rfl hS rfl rfl (by kernel_rfl) (by kernel_rfl) (kL (j := 2) hS rfl List.not_mem_nil) (fun a hE => ?_))
  refine tW 3 11 (fuel := 19) (by kernel_rfl) hE (fun M => tk_indexPA (N := 8) (k := .u32) (m := (0 : Int)) rfl rfl rfl rfl hE rfl rfl rfl (by kernel_rfl) (by kernel_rfl) (fun a hE => ?_))
  refine tT 4 27 (fuel := 18) (by kernel_rfl) hE (tk_loadPA 2 (N := 8) (k := .u32) (v := y1.2) (m := (0 : Int)) rfl rfl rfl rfl hE rfl hS rfl rfl (by kernel_rfl) (by kernel_rfl) (kL (j := 2) hS rfl List.not_mem_nil) (fun a hE => ?_))
  refine tW 5 59 (fuel := 17) (by kernel_rfl) hE (fun M => tk_indexPA (N := 8) (k := .u32) (m := (1 : Int)) rfl rfl rfl rfl hE rfl rfl rfl (by kernel_rfl) (by kernel_rfl) (fun a hE => ?_))
  refine tT 6 123 (fuel := 16) (by kernel_rfl) hE (tk_loadPA 2 (N := 8) (k := .u32) (v := y1.2) (m := (1 : Int)) rfl rfl rfl rfl hE rfl hS rfl rfl (by kernel_rfl) (by kernel_rfl) (kL (j := 2) hS rfl List.not_mem_nil) (fun a hE => ?_))
  refine wP 7 251 15 (.int .u32 ((band .u32 (vget (y1.2) (Int.toNat ((0 : Int)))) (vget (y1.2) (Int.toNat ((1 : Int))))))) hE fun a hE => ?_
  refine tW 8 507 (fuel := 14) (by kernel_rfl) hE (fun M => tk_indexPA (N := 8) (k := .u32) (m := (0 : Int)) rfl rfl rfl rfl hE rfl rfl rfl (by kernel_rfl) (by kernel_rfl) (fun a hE => ?_))
  refine tT 9 1019 (fuel := 13) (by kernel_rfl) hE (tk_loadPA 2 (N := 8) (k := .u32) (v := y1.2) (m := (0 : Int)) rfl rfl rfl rfl hE rfl hS rfl rfl (by kernel_rfl) (by kernel_rfl) (kL (j := 2) hS rfl List.not_mem_nil) (fun a hE => ?_))
  refine tW 10 2043 (fuel := 12) (by kernel_rfl) hE (fun M => tk_indexPA (N := 8) (k := .u32) (m := (2 : Int)) rfl rfl rfl rfl hE rfl rfl rfl (by kernel_rfl) (by kernel_rfl) (fun a hE => ?_))
  refine tT 11 4091 (fuel := 11) (by kernel_rfl) hE (tk_loadPA 2 (N := 8) (k := .u32) (v := y1.2) (m := (2 : Int)) rfl rfl rfl rfl hE rfl hS rfl rfl (by kernel_rfl) (by kernel_rfl) (kL (j := 2) hS rfl List.not_mem_nil) (fun a hE => ?_))
  refine wP 12 8187 10 (.int .u32 ((band .u32 (vget (y1.2) (Int.toNat ((0 : Int)))) (vget (y1.2) (Int.toNat ((2 : Int))))))) hE fun a hE => ?_
  refine wP 13 16379 9 (.int .u32 ((bxor .u32 (band .u32 (vget (y1.2) (Int.toNat ((0 : Int)))) (vget (y1.2) (Int.toNat ((1 : Int))))) (band .u32 (vget (y1.2) (Int.toNat ((0 : Int)))) (vget (y1.2) (Int.toNat ((2 : Int)))))))) hE fun a hE => ?_
  refine tW 14 32763 (fuel := 8) (by kernel_rfl) hE (fun M => tk_indexPA (N := 8) (k := .u32) (m := (1 : Int)) rfl rfl rfl rfl hE rfl rfl rfl (by kernel_rfl) (by kernel_rfl) (fun a hE => ?_))
  refine tT 15 65531 (fuel := 7) (by kernel_rfl) hE (tk_loadPA 2 (N := 8) (k := .u32) (v := y1.2) (m := (1 : Int)) rfl rfl rfl rfl hE rfl hS rfl rfl (by kernel_rfl) (by kernel_rfl) (kL (j := 2) hS rfl List.not_mem_nil) (fun a hE => ?_))
  refine tW 16 131067 (fuel := 6) (by kernel_rfl) hE (fun M => tk_indexPA (N := 8) (k := .u32) (m := (2 : Int)) rfl rfl rfl rfl hE rfl rfl rfl (by kernel_rfl) (by kernel_rfl) (fun a hE => ?_))
  refine tT 17 262139 (fuel := 5) (by kernel_rfl) hE (tk_loadPA 2 (N := 8) (k := .u32) (v := y1.2) (m := (2 : Int)) rfl rfl rfl rfl hE rfl hS rfl rfl (by kernel_rfl) (by kernel_rfl) (kL (j := 2) hS rfl List.not_mem_nil) (fun a hE => ?_))
  refine wP 18 524283 4 (.int .u32 ((band .u32 (vget (y1.2) (Int.toNat ((1 : Int)))) (vget (y1.2) (Int.toNat ((2 : Int))))))) hE fun a hE => ?_
  refine wP 19 1048571 3 (.int .u32 ((bxor .u32 (bxor .u32 (band .u32 (vget (y1.2) (Int.toNat ((0 : Int)))) (vget (y1.2) (Int.toNat ((1 : Int))))) (band .u32 (vget (y1.2) (Int.toNat ((0 : Int)))) (vget (y1.2) (Int.toNat ((2 : Int)))))) (band .u32 (vget (y1.2) (Int.toNat ((1 : Int)))) (vget (y1.2) (Int.toNat ((2 : Int)))))))) hE fun a hE => ?_
  obtain ⟨r2, h4, hf⟩ := bs hf
  refine oC 2 1048575 2 rfl rfl rfl rfl hE rfl rfl rfl rfl (sha_turned.calls h4 (hS.st.fore (L := [])) ) fun a v w hR hE => ?_
  obtain ⟨D7, rfl, hS1⟩ := hR
  refine ⟨(hS1.keeps.sub (M' := []) trivial).mono (fun _ h => h), ?_⟩
  have le6 := hS1.dle
  have hS := hS.callR hS1 rfl .n
  refine wP 20 2097151 1 (.int .u32 ((IntKind.wrap .u32 (r2 + (bxor .u32 (bxor .u32 (band .u32 (vget (y1.2) (Int.toNat ((0 : Int)))) (vget (y1.2) (Int.toNat ((1 : Int))))) (band .u32 (vget (y1.2) (Int.toNat ((0 : Int)))) (vget (y1.2) (Int.toNat ((2 : Int)))))) (band .u32 (vget (y1.2) (Int.toNat ((1 : Int)))) (vget (y1.2) (Int.toNat ((2 : Int)))))))))) hE fun a hE => ?_
  refine wP 21 4194303 0 (.int .u32 ((IntKind.wrap .u32 (r2 + (bxor .u32 (bxor .u32 (band .u32 (vget (y1.2) (Int.toNat ((0 : Int)))) (vget (y1.2) (Int.toNat ((1 : Int))))) (band .u32 (vget (y1.2) (Int.toNat ((0 : Int)))) (vget (y1.2) (Int.toNat ((2 : Int)))))) (band .u32 (vget (y1.2) (Int.toNat ((1 : Int)))) (vget (y1.2) (Int.toNat ((2 : Int)))))))))) hE fun a hE => ?_
  refine doneG (by kernel_rfl) ?_
  refine sq ?_
  refine region_draw (fun j => Keeps (mfOf [(2, [b3])] j)) (by kernel_rfl) ?_
  have hS := hS.drew
  first | generalize w.drew = w at hS ⊢ | generalize w0.drew = w at hS ⊢
  refine tW 0 1 (fuel := 2) (by kernel_rfl) hE (fun M => tk_slicePA (N := 8) (k := .u32) (zl := 1) (zh := 8) rfl rfl rfl rfl hE rfl rfl (by kernel_rfl) ⟨_, rfl⟩ rfl (by kernel_rfl) (fun a hE => ?_))
  refine tW 1 3 (fuel := 1) (by kernel_rfl) hE (fun M => tk_slicePA (N := 8) (k := .u32) (zl := 0) (zh := 7) rfl rfl rfl rfl hE rfl rfl (by kernel_rfl) rfl ⟨_, rfl⟩ (by kernel_rfl) (fun a hE => ?_))
  have hS := hS.p (.d 2 (.d 0 (.d 1 .n)))
  obtain ⟨v1, hv2, hf⟩ := bs hf
  replace hv2 := Option.some.inj hv2
  refine oG 2 7 (fuel := 0) (by kernel_rfl) (op_copyPA (e := 42) (N := 8) (k := .u32) (v := y1.2) (cc := 7) (p := 1) (q := 0) rfl rfl rfl rfl rfl hE rfl hS rfl rfl (by kernel_rfl) (by kernel_rfl) (by kernel_rfl) (by kernel_rfl) (fun a w hkp hE hS => ⟨hkp.mono (fun _ h => h), ?_⟩))
  clear hkp
  rw [hv2] at hS
  refine doneG (by kernel_rfl) ?_
  refine sq (ra ?_)
  refine at_op (op_tk hE (tk_indexPA (N := 8) (k := .u32) (m := (4 : Int)) rfl rfl rfl rfl hE rfl rfl rfl (by kernel_rfl) (by kernel_rfl) (fun a hE => ?_))) rfl
  refine at_op (op_tk hE (tk_loadPA 0 (N := 8) (k := .u32) (v := v1) (m := (4 : Int)) rfl rfl rfl rfl hE rfl hS rfl rfl (by kernel_rfl) (by kernel_rfl) (kL (j := 0) hS rfl List.not_mem_nil) (fun a hE => ?_))) rfl
  refine sN 2 4 [(74, .int .u32 ((IntKind.wrap .u32 ((vget (v1) (Int.toNat ((4 : Int)))) + (IntKind.wrap .u32 ((IntKind.wrap .u32 ((IntKind.wrap .u32 ((IntKind.wrap .u32 ((vget (y1.2) (Int.toNat ((7 : Int)))) + r1)) + (bxor .u32 (band .u32 (vget (y1.2) (Int.toNat ((4 : Int)))) (vget (y1.2) (Int.toNat ((5 : Int))))) (band .u32 (bnot .u32 (vget (y1.2) (Int.toNat ((4 : Int))))) (vget (y1.2) (Int.toNat ((6 : Int)))))))) + (vget (gl_K) (Int.toNat (y1.1))))) + x3))))))] hE fun a hE => ?_
  refine at_op (op_tk hE (tk_indexPA (N := 8) (k := .u32) (m := (4 : Int)) rfl rfl rfl rfl hE rfl rfl rfl (by kernel_rfl) (by kernel_rfl) (fun a hE => ?_))) rfl
  obtain ⟨v3, hv3, hf⟩ := bs hf
  replace hv3 := Option.some.inj hv3
  refine at_op (op_storePA (N := 8) (k := .u32) (v := v1) (m := (4 : Int)) (z := (IntKind.wrap .u32 ((vget (v1) (Int.toNat ((4 : Int)))) + (IntKind.wrap .u32 ((IntKind.wrap .u32 ((IntKind.wrap .u32 ((IntKind.wrap .u32 ((vget (y1.2) (Int.toNat ((7 : Int)))) + r1)) + (bxor .u32 (band .u32 (vget (y1.2) (Int.toNat ((4 : Int)))) (vget (y1.2) (Int.toNat ((5 : Int))))) (band .u32 (bnot .u32 (vget (y1.2) (Int.toNat ((4 : Int))))) (vget (y1.2) (Int.toNat ((6 : Int)))))))) + (vget (gl_K) (Int.toNat (y1.1))))) + x3))))) rfl rfl rfl rfl hE hS rfl rfl (by kernel_rfl) (by kernel_rfl) (fun a w _ hE hS => ?_)) rfl
  rw [hv3] at hS
  refine ae ?_
  refine ra ?_
  refine sN 3 3 [(78, .int .u32 ((IntKind.wrap .u32 ((IntKind.wrap .u32 ((IntKind.wrap .u32 ((IntKind.wrap .u32 ((IntKind.wrap .u32 ((vget (y1.2) (Int.toNat ((7 : Int)))) + r1)) + (bxor .u32 (band .u32 (vget (y1.2) (Int.toNat ((4 : Int)))) (vget (y1.2) (Int.toNat ((5 : Int))))) (band .u32 (bnot .u32 (vget (y1.2) (Int.toNat ((4 : Int))))) (vget (y1.2) (Int.toNat ((6 : Int)))))))) + (vget (gl_K) (Int.toNat (y1.1))))) + x3)) + (IntKind.wrap .u32 (r2 + (bxor .u32 (bxor .u32 (band .u32 (vget (y1.2) (Int.toNat ((0 : Int)))) (vget (y1.2) (Int.toNat ((1 : Int))))) (band .u32 (vget (y1.2) (Int.toNat ((0 : Int)))) (vget (y1.2) (Int.toNat ((2 : Int)))))) (band .u32 (vget (y1.2) (Int.toNat ((1 : Int)))) (vget (y1.2) (Int.toNat ((2 : Int))))))))))))] hE fun a hE => ?_
  refine at_op (op_tk hE (tk_indexPA (N := 8) (k := .u32) (m := (0 : Int)) rfl rfl rfl rfl hE rfl rfl rfl (by kernel_rfl) (by kernel_rfl) (fun a hE => ?_))) rfl
  obtain ⟨v4, hv4, hf⟩ := bs hf
  replace hv4 := Option.some.inj hv4
  refine at_op (op_storePA (N := 8) (k := .u32) (v := v3) (m := (0 : Int)) (z := (IntKind.wrap .u32 ((IntKind.wrap .u32 ((IntKind.wrap .u32 ((IntKind.wrap .u32 ((IntKind.wrap .u32 ((vget (y1.2) (Int.toNat ((7 : Int)))) + r1)) + (bxor .u32 (band .u32 (vget (y1.2) (Int.toNat ((4 : Int)))) (vget (y1.2) (Int.toNat ((5 : Int))))) (band .u32 (bnot .u32 (vget (y1.2) (Int.toNat ((4 : Int))))) (vget (y1.2) (Int.toNat ((6 : Int)))))))) + (vget (gl_K) (Int.toNat (y1.1))))) + x3)) + (IntKind.wrap .u32 (r2 + (bxor .u32 (bxor .u32 (band .u32 (vget (y1.2) (Int.toNat ((0 : Int)))) (vget (y1.2) (Int.toNat ((1 : Int))))) (band .u32 (vget (y1.2) (Int.toNat ((0 : Int)))) (vget (y1.2) (Int.toNat ((2 : Int)))))) (band .u32 (vget (y1.2) (Int.toNat ((1 : Int)))) (vget (y1.2) (Int.toNat ((2 : Int))))))))))) rfl rfl rfl rfl hE hS rfl rfl (by kernel_rfl) (by kernel_rfl) (fun a w _ hE hS => ?_)) rfl
  rw [hv4] at hS
  refine ae ?_
  refine ra ?_
  refine sN 2 2 [(18, .int .i64 ((IntKind.wrap .i64 (y1.1 + (1 : Int)))))] hE fun a hE => ?_
  refine ae ?_
  have hS := hS.p (.d 1 (.d 2 (.d 0 .n)))
  exact ⟨((IntKind.wrap .i64 (y1.1 + (1 : Int))), v4), D7, hE.wk, hS, (le2 (le2 le1 le5) le6), hf⟩
 replace hf := cf hb hf
 refine wpIn_exit ?_
 obtain rfl := si hf
 exact ⟨y1.2, D4, hE.wk, hS, le1, rfl⟩
set_option maxRecDepth 100000 in
theorem sha_Sum.calls {K : Nat} {g w0 : World} {D0 : Snap} {x1 : (List (List Int))} {A2 : Option Addr} {c3 : Nat} {r : ((Vector Int 32))} (hf : sha_Sum.f K x1 = some r) (hS0 : St g w0 D0 []) (h4 : Sl (kdSlice (kdInt .u8)) D0 A2 c3 (x1)) (hG0 : Cell (kdArr .u32 8) D0 0 0 gl_First) (hG1 : Cell (kdArr .u32 64) D0 1 0 gl_K) :
  CallsIn (Fw none) 0 Tryz.prog 83 (List.toArray [.slice A2 (List.length (x1)) c3]) w0 (fun e w' => ∃ v, e = .returned v ∧ ∃ D1, v = .agg (List.toArray (acells .u8 32 (r))) ∧ Stp g w0 D0 [] w' D1 []) := by
 unfold sha_Sum.f at hf
 have hS := Stp.refl hS0
 clear hS0
 refine calls_bodyM (n := 38) Tryz.func83 rfl Tryz.ntmps83 rfl fun a hE => ?_
 have hE : Env a 38 [] [(0, .slice A2 (List.length (x1)) c3)] := hE
 refine sq (ra ?_)
 refine at_op (op_alloc (z := .agg (List.toArray (acells .u8 32 ((Vector.replicate 32 (0 : Int)))))) rfl rfl rfl rfl hE rfl hS (by kernel_rfl) (fun a b1 w _ hE hS => ?_)) rfl
 refine ae ?_
 refine sq (ra ?_)
 refine sN 1 1 [(8, .slice A2 (List.length (x1)) c3)] hE fun a hE => ?_
 obtain ⟨r1, h2, hf⟩ := bs hf
 refine aC rfl rfl rfl rfl hE rfl rfl rfl rfl (slices_Concat_byte_byte.calls h2 (hS.st.fore (L := [])) h4) fun a v w hR hE => ?_
 obtain ⟨D8, A6, c6, q2, rfl, hS1, h3⟩ := hR
 have le3 := hS1.dle
 have hS := hS.callR hS1 rfl (.c .n)
 refine sN 1 3 [(3, .slice A6 (List.length (r1)) c6)] hE fun a hE => ?_
 refine ae ?_
 refine sq (ra ?_)
 obtain ⟨cs1, C1, T1, fr1, hr1, hb1, hc1⟩ := (hG0.mono le3)
 obtain rfl := hr1
 refine at_op (op_tk hE (tk_loadX (off0 := 0) (off := 0) (c := acells .u32 8 (gl_First)) (.agg (List.toArray (acells .u32 8 (gl_First)))) rfl rfl rfl rfl hE rfl hS rfl hb1 hc1 (by kernel_rfl) (by kernel_rfl) (kD hS dn_nil) (fun a hE => ?_))) rfl
 refine at_op (op_alloc (z := .agg (List.toArray (acells .u32 8 ((Vector.replicate 8 (0 : Int)))))) rfl rfl rfl rfl hE rfl hS (by kernel_rfl) (fun a b3 w _ hE hS => ?_)) rfl
 refine at_op (op_store (v := .agg (List.toArray (acells .u32 8 (gl_First)))) (acells .u32 8 (gl_First)) rfl rfl rfl rfl hE hS rfl rfl (by kernel_rfl) (by kernel_rfl) (by kernel_rfl) (by kernel_rfl) (by kernel_rfl) (fun a w _ hE hS => ?_)) rfl
 refine ae ?_
 refine sq (sq (ra ?_))
 refine sN 3 3 [(11, .slice A6 (List.length (r1)) c6), (13, .int .i64 (((List.length (r1) : Nat) : Int)))] hE fun a hE => ?_
 obtain ⟨r3, h5, hf⟩ := bs hf
 refine aC rfl rfl rfl rfl hE rfl rfl rfl rfl (sha_Fill.calls h5 (hS.st.fore (L := [])) ) fun a v w hR hE => ?_
 obtain ⟨D9, A8, c8, q3, rfl, hS1, h6⟩ := hR
 have le4 := hS1.dle
 have hS := hS.callR hS1 rfl (.c .n)
 obtain ⟨D10, q4, le5, hS, h18, h7⟩ := hS.lent h6
 have hS := hS.p (.d 2 (.d 0 (.d 1 (.d 3 .n))))
 obtain ⟨l4, h8, hf⟩ := bs hf
 refine at_op (g_append (K := (kdInt .u8)) (e := 5) (bytes := 1) (l := r1) (m := r3) rfl rfl rfl rfl hE rfl hS rfl rfl (by kernel_rfl) rfl rfl (h3.mono (le2 le4 le5)) h7 h8 (fun a A9 c9 q5 w _ hE h9 hS => ?_)) rfl
 obtain ⟨D11, q6, le8, hS, h19, h10⟩ := hS.lent h9
 obtain ⟨r4, h11, hf⟩ := bs hf
 refine aC rfl rfl rfl rfl hE rfl rfl rfl rfl (sha_blocks.calls h11 (hS.st.fore (L := [])) h10) fun a v w hR hE => ?_
 obtain ⟨D6, b2, A7, c7, rfl, hS1, h12⟩ := hR
 have le9 := hS1.dle
 have hS := hS.callR hS1 rfl (.c .n)
 refine ae ?_
 refine wpIn_block ?_
 have hEo1 := hE
 refine range_in2 (captured := #[.pointer (some ⟨b2, 0, none⟩)]) hE hS rfl (by kernel_rfl) (fun fn1 l1 d662 w q1 hq1 hS => ?_)
 refine calls_body (n := 13) Tryz.func183 rfl Tryz.ntmps183 rfl fun a hE => ?_
 have hE : Env a 13 [] [(0, .func (.yield l1) #[] #[]), (1, .pointer (some ⟨b2, 0, none⟩))] := hE
 obtain ⟨s1, hf, hs1⟩ := bs hf
 have hS := hS.p (.d 6 (.d 5 (.d 2 (.d 0 (.d 1 .n)))))
 refine block_loop (fun a w => ∃ (z1 : (Vector Int 8) × (List Int)), ∃ A3, ∃ c2, ∃ D2, Env a 13 [] [] ∧ Stp g w0 D0 [] w D2 [bx b1 37 (acells .u8 32 ((Vector.replicate 32 (0 : Int)))), bx b3 207 (acells .u32 8 (z1.1)), bx b2 41 ([.slice A3 (List.length (z1.2)) c2]), q1 .ready none, dk d662] ∧ Snap.le D6 D2 ∧ Sl (kdInt .u8) D2 A3 c2 (z1.2) ∧ z1 = s1) (fun k a w => ∃ (y2 : (Vector Int 8) × (List Int)), ∃ A1, ∃ c1, ∃ D3, Env a 13 [] [(0, .func (.yield l1) #[] #[]), (1, .pointer (some ⟨b2, 0, none⟩))] ∧ Stp g w0 D0 [] w D3 [bx b1 37 (acells .u8 32 ((Vector.replicate 32 (0 : Int)))), bx b3 207 (acells .u32 8 (y2.1)), bx b2 41 ([.slice A1 (List.length (y2.2)) c1]), q1 .ready none, dk d662] ∧ Snap.le D6 D3 ∧ Sl (kdInt .u8) D3 A1 c1 (y2.2) ∧ sha_Sum_l1.l K k y2 = some s1) K ?_ ?_ ?_
 ·exact ⟨(gl_First, r4), A7, c7, D6, hE.wk, hS, lr, h12, hf⟩
 ·clear hE hS hf
  rintro a w ⟨z1, A3, c2, D2, hE, hS, le10, h20, rfl⟩
  have hf := hs1
  clear hs1
  refine ret_genN ([]) hE (by rw [show Tryz.f183.results.toList = [] from rfl]; rfl) ?_
  have hS := hS.p (.d 3 (.d 0 (.d 1 (.d 2 (.d 4 .n)))))
  refine range_done2 hq1 hS hEo1 (fun w a hS hE => ?_)
  refine sq (ra ?_)
  refine at_op (op_alloc (z := .agg (List.toArray (acells .u8 32 ((Vector.replicate 32 (0 : Int)))))) rfl rfl rfl rfl hE rfl hS (by kernel_rfl) (fun a b4 w _ hE hS => ?_)) rfl
  refine ae ?_
  refine sq (sq (ra ?_))
  refine sN 1 1 [(21, .int .i64 ((0 : Int)))] hE fun a hE => ?_
  refine ae ?_
  obtain ⟨s2, hf, hs2⟩ := bs hf
  have hS := hS.p (.d 1 (.d 2 (.d 0 (.d 4 .n))))
  refine block_loop (fun a w => ∃ (z2 : (Vector Int 32)), ∃ D5, Env a 38 [markD d662] [(2, .pointer (some ⟨b1, 0, none⟩)), (6, .pointer (some ⟨b4, 0, none⟩))] ∧ Stp g w0 D0 [] w D5 [bx b1 37 (acells .u8 32 ((Vector.replicate 32 (0 : Int)))), bx b4 37 (acells .u8 32 (z2)), dk d662] ∧ Snap.le D2 D5 ∧ z2 = s2) (fun k a w => ∃ (y1 : Int × (Vector Int 32)), ∃ D4, Env a 38 [markD d662] [(2, .pointer (some ⟨b1, 0, none⟩)), (4, .pointer (some ⟨b3, 0, none⟩)), (6, .pointer (some ⟨b4, 0, none⟩)), (21, .int .i64 (y1.1))] ∧ Stp g w0 D0 [] w D4 [bx b1 37 (acells .u8 32 ((Vector.replicate 32 (0 : Int)))), bx b3 207 (acells .u32 8 (z1.1)), bx b4 37 (acells .u8 32 (y1.2)), dk d662] ∧ Snap.le D2 D4 ∧ sha_Sum_l2.l K z1 k y1 = some s2) K ?_ ?_ ?_
  ·exact ⟨((0 : Int), (Vector.replicate 32 (0 : Int))), D2, hE.wk, hS, lr, hf⟩
  ·clear hE hS hf
   rintro a w ⟨z2, D5, hE, hS, le11, rfl⟩
   have hf := hs2
   clear hs2
   refine sq (ra ?_)
   refine sM 1 1 [1] [(37, .agg (List.toArray (acells .u8 32 (z2))))] hE hS fun a hE => ?_
   refine at_op (op_store (v := .agg (List.toArray (acells .u8 32 (z2)))) (acells .u8 32 (z2)) rfl rfl rfl rfl hE hS rfl rfl (by kernel_rfl) (by kernel_rfl) (by kernel_rfl) (by kernel_rfl) (by kernel_rfl) (fun a w _ hE hS => ?_)) rfl
   refine ae ?_
   refine wpIn_ret ?_
   have hS := hS.p (.d 2 (.d 0 (.d 1 .n)))
   obtain rfl := si hf
   refine ret_ ?_
   refine ret_M1 ([.agg (List.toArray (acells .u8 32 (z2)))]) hE hS (fun w hS => ⟨by rw [show Tryz.f83.results.toList = [.cell 2 37] from rfl]; exact ⟨_, _, _, 0, _, _, rfl, rfl, hS.heapAt (j := 0) rfl, by kernel_rfl, rfl⟩, ?_⟩)
   have hS := hS.p .n
   exact ⟨_, rfl, D5, rfl, hS⟩
  clear hE hS hf
  rintro k a w ⟨y1, D4, hE, hS, le6, hf⟩
  obtain ⟨k, rfl, hf⟩ := sha_Sum_l2.some _ hf
  refine ⟨k, rfl, ?_⟩
  unfold sha_Sum_l2.b at hf
  refine sq (ra ?_)
  refine sN 1 1 [(22, .bool ((decide (y1.1 < (32 : Int)))))] hE fun a hE => ?_
  refine ae ?_
  refine sq ?_
  refine cond_split hE (b := (decide (y1.1 < (32 : Int)))) rfl (fun hb => ?_) (fun hb => ?_)
  ·replace hf := ct hb hf
   refine wpIn_skip ?_
   refine sq ?_
   refine wpIn_block ?_
   refine sq (ra ?_)
   refine sN 2 2 [(7, .int .i64 (y1.1))] hE fun a hE => ?_
   refine ae ?_
   refine ra ?_
   refine sN 3 3 [(24, .int .i64 (y1.1)), (26, .int .i64 ((IntKind.wrap .i64 (Int.tdiv y1.1 4))))] hE fun a hE => ?_
   obtain ⟨hm868, hf⟩ := chk_some hf
   refine at_op (op_tk hE (tk_indexPA (N := 8) (k := .u32) (m := (IntKind.wrap .i64 (Int.tdiv y1.1 4))) rfl rfl rfl rfl hE rfl rfl rfl (by kernel_rfl) hm868 (fun a hE => ?_))) rfl
   refine at_op (op_tk hE (tk_loadPA 1 (N := 8) (k := .u32) (v := z1.1) (m := (IntKind.wrap .i64 (Int.tdiv y1.1 4))) rfl rfl rfl rfl hE rfl hS rfl rfl (by kernel_rfl) hm868 (kL (j := 1) hS rfl List.not_mem_nil) (fun a hE => ?_))) rfl
   refine sN 4 9 [(32, .int .i64 ((IntKind.wrap .i64 ((24 : Int) - (IntKind.wrap .i64 ((8 : Int) * (Int.tmod y1.1 4)))))))] hE fun a hE => ?_
   obtain ⟨hq2, hf⟩ := chk_not hf
   refine at_op (op_tk hE (tk_bin (r := .int .u32 ((Int.fdiv (vget (z1.1) (Int.toNat ((IntKind.wrap .i64 (Int.tdiv y1.1 4))))) (2 ^ (min (Int.toNat (IntKind.wrap .i64 ((24 : Int) - (IntKind.wrap .i64 ((8 : Int) * (Int.tmod y1.1 4)))))) 32))))) rfl rfl rfl rfl hE rfl rfl rfl (shr_run hq2) (fun a hE => ?_))) rfl
   refine sN 1 11 [(34, .int .u8 ((IntKind.wrap .u8 (Int.fdiv (vget (z1.1) (Int.toNat ((IntKind.wrap .i64 (Int.tdiv y1.1 4))))) (2 ^ (min (Int.toNat (IntKind.wrap .i64 ((24 : Int) - (IntKind.wrap .i64 ((8 : Int) * (Int.tmod y1.1 4)))))) 32))))))] hE fun a hE => ?_
   obtain ⟨hm870, hf⟩ := chk_some hf
   refine at_op (op_tk hE (tk_indexPA (N := 32) (k := .u8) (m := y1.1) rfl rfl rfl rfl hE rfl rfl rfl (by kernel_rfl) hm870 (fun a hE => ?_))) rfl
   have hS := hS.p (.d 2 (.d 0 (.d 1 (.d 3 .n))))
   obtain ⟨v1, hv1, hf⟩ := bs hf
   replace hv1 := Option.some.inj hv1
   refine at_op (op_storePA (N := 32) (k := .u8) (v := y1.2) (m := y1.1) (z := (IntKind.wrap .u8 (Int.fdiv (vget (z1.1) (Int.toNat ((IntKind.wrap .i64 (Int.tdiv y1.1 4))))) (2 ^ (min (Int.toNat (IntKind.wrap .i64 ((24 : Int) - (IntKind.wrap .i64 ((8 : Int) * (Int.tmod y1.1 4)))))) 32))))) rfl rfl rfl rfl hE hS rfl rfl (by kernel_rfl) hm870 (fun a w _ hE hS => ?_)) rfl
   rw [hv1] at hS
   refine ae ?_
   refine ra ?_
   refine sN 2 2 [(21, .int .i64 ((IntKind.wrap .i64 (y1.1 + (1 : Int)))))] hE fun a hE => ?_
   refine ae ?_
   have hS := hS.p (.d 1 (.d 2 (.d 0 (.d 3 .n))))
   exact ⟨((IntKind.wrap .i64 (y1.1 + (1 : Int))), v1), D4, hE.wk, hS, le6, hf⟩
  replace hf := cf hb hf
  refine wpIn_exit ?_
  obtain rfl := si hf
  have hS := hS.p (.d 0 (.d 2 (.d 3 .n)))
  exact ⟨y1.2, D4, hE.wk, hS, le6, rfl⟩
 clear hE hS hf
 rintro k a w ⟨y2, A1, c1, D3, hE, hS, le1, h1, hf⟩
 obtain ⟨k, rfl, hf⟩ := sha_Sum_l1.some hf
 refine ⟨k, rfl, ?_⟩
 unfold sha_Sum_l1.b at hf
 refine sq (sq (ra ?_))
 refine sM 3 3 [2] [(5, .bool ((decide ((64 : Int) ≤ ((List.length (y2.2) : Nat) : Int)))))] hE hS fun a hE => ?_
 refine ae ?_
 refine cond_split hE (b := (decide ((64 : Int) ≤ ((List.length (y2.2) : Nat) : Int)))) rfl (fun hb => ?_) (fun hb => ?_)
 ·replace hf := ct hb hf
  refine wpIn_skip ?_
  refine sq ?_
  refine wpIn_block ?_
  refine sq (ra ?_)
  refine sM 2 2 [2] [(8, .func (.yield l1) #[] #[]), (9, .slice A1 (List.length (y2.2)) c1)] hE hS fun a hE => ?_
  obtain ⟨l2, h13, hf⟩ := bs hf
  refine at_op (op_tk hE (g_slice (K := (kdInt .u8)) (e := 5) (by_ := 1) (zl := 1) rfl rfl rfl rfl hE rfl rfl (by kernel_rfl) rfl ⟨_, rfl⟩ h1 h13 (fun a A4 c4 hE h14 => ?_))) rfl
  have hS := hS.p (.d 3 (.d 0 (.d 1 (.d 2 (.d 4 .n)))))
  refine at_op (op_yield2 (args := [.slice A4 (List.length (l2)) c4]) hq1 rfl rfl rfl rfl hE rfl rfl rfl hS hEo1 rfl (by kernel_rfl) (fun a hE => ?_)) rfl
  refine ra ?_
  refine sN 1 1 [(5, .slice A4 (List.length (l2)) c4)] hE fun a hE => ?_
  refine ae ?_
  refine begin_in2 hq1 hS (fun w hS => ?_)
  refine wpIn_block ?_
  refine ra ?_
  refine sM 2 2 [2] [(18, .agg (List.toArray (acells .u32 8 (y2.1)))), (19, .slice A4 (List.length (l2)) c4)] hE hS fun a hE => ?_
  obtain ⟨r2, h15, hf⟩ := bs hf
  refine aC rfl rfl rfl rfl hE rfl rfl rfl rfl (sha_Turn.calls h15 (hS.st.fore (L := [])) h14 (hG1.mono (le2 (le2 (le2 (le2 (le2 le3 le4) le5) le8) le9) le1))) fun a v w hR hE => ?_
  obtain ⟨D7, rfl, hS1⟩ := hR
  have le7 := hS1.dle
  have hS := hS.callR hS1 rfl .n
  have hS := hS.p (.d 2 (.d 0 (.d 1 (.d 3 (.d 4 .n)))))
  refine at_op (op_store (v := .agg (List.toArray (acells .u32 8 (r2)))) (acells .u32 8 (r2)) rfl rfl rfl rfl hE hS rfl rfl (by kernel_rfl) (by kernel_rfl) (by kernel_rfl) (by kernel_rfl) (by kernel_rfl) (fun a w _ hE hS => ?_)) rfl
  refine ae ?_
  have hS := hS.p (.d 1 (.d 0 (.d 2 (.d 3 (.d 4 .n)))))
  refine round_normal2 (a1 := a) hq1 hS (fun w a hS hE => ?_)
  refine sN 1 5 [(12, .bool false)] hE fun a hE => ?_
  refine ae ?_
  refine wpIn_cond_false (hE.eval rfl) ?_
  refine wpIn_skip ?_
  refine ra ?_
  refine sM 1 1 [3] [(6, .slice A1 (List.length (y2.2)) c1)] hE hS fun a hE => ?_
  obtain ⟨l3, h16, hf⟩ := bs hf
  refine at_op (op_tk hE (g_slice (K := (kdInt .u8)) (e := 5) (by_ := 1) (zl := 1) rfl rfl rfl rfl hE rfl rfl (by kernel_rfl) ⟨_, rfl⟩ rfl (h1.mono le7) h16 (fun a A5 c5 hE h17 => ?_))) rfl
  have hS := hS.p (.d 3 (.d 0 (.d 1 (.d 2 (.d 4 .n)))))
  refine at_op (op_store (v := .slice A5 (List.length (l3)) c5) ([.slice A5 (List.length (l3)) c5]) rfl rfl rfl rfl hE hS rfl rfl (by kernel_rfl) (by kernel_rfl) (by kernel_rfl) (by kernel_rfl) (by kernel_rfl) (fun a w _ hE hS => ?_)) rfl
  refine ae ?_
  have hS := hS.p (.d 3 (.d 2 (.d 0 (.d 1 (.d 4 .n)))))
  exact ⟨(r2, l3), A5, c5, D7, hE.wk, hS, (le2 le1 le7), h17, hf⟩
 replace hf := cf hb hf
 refine wpIn_exit ?_
 obtain rfl := si hf
 exact ⟨(y2.1, y2.2), A1, c1, D3, hE.wk, hS, le1, h1, rfl⟩
set_option maxRecDepth 100000 in
theorem slices_Reverse_byte_byte.calls {K : Nat} {g w0 : World} {D0 : Snap} {x1 : (List Int)} {A2 : Option Addr} {c3 : Nat} {q4 : Blk} {r : ((List Int))} (hf : slices_Reverse_byte_byte.f K x1 = some r) (hS0 : St g w0 D0 [q4]) (h5 : OwnD (kdInt .u8) 5 D0 A2 c3 (x1) q4) :
  CallsIn (Fw none) 0 Tryz.prog 134 (List.toArray [.slice A2 (List.length (x1)) c3]) w0 (fun e w' => ∃ v, e = .returned v ∧ ∃ (D1 : Snap) (q3 : Blk), v = .tuple #[] ∧ Stp g w0 D0 [q4] w' D1 [q3] ∧ OwnD (kdInt .u8) 5 D1 A2 c3 (r) q3) := by
 unfold slices_Reverse_byte_byte.f at hf
 have hS := Stp.refl hS0
 clear hS0
 refine calls_body (n := 28) Tryz.func134 rfl Tryz.ntmps134 rfl fun a hE => ?_
 have hE : Env a 28 [] [(0, .slice A2 (List.length (x1)) c3)] := hE
 refine sq (ra ?_)
 refine sN 5 5 [(2, .int .i64 ((0 : Int))), (3, .int .i64 ((IntKind.wrap .i64 (((List.length (x1) : Nat) : Int) - (1 : Int)))))] hE fun a hE => ?_
 refine ae ?_
 obtain ⟨s1, hf, hs1⟩ := bs hf
 refine block_loop (fun a w => ∃ (z1 : (List Int)), ∃ q2, ∃ D3, Env a 28 [] [] ∧ Stp g w0 D0 [q4] w D3 [q2] ∧ Snap.le D0 D3 ∧ OwnD (kdInt .u8) 5 D3 A2 c3 (z1) q2 ∧ z1 = s1) (fun k a w => ∃ (y1 : (List Int) × Int × Int), ∃ q1, ∃ D2, Env a 28 [] [(0, .slice A2 (List.length (y1.1)) c3), (2, .int .i64 (y1.2.1)), (3, .int .i64 (y1.2.2))] ∧ Stp g w0 D0 [q4] w D2 [q1] ∧ Snap.le D0 D2 ∧ OwnD (kdInt .u8) 5 D2 A2 c3 (y1.1) q1 ∧ slices_Reverse_byte_byte_l1.l K k y1 = some s1) K ?_ ?_ ?_
 ·exact ⟨(x1, (0 : Int), (IntKind.wrap .i64 (((List.length (x1) : Nat) : Int) - (1 : Int)))), q4, D0, hE.wk, hS, lr, h5, hf⟩
 ·clear hE hS hf
  rintro a w ⟨z1, q2, D3, hE, hS, le2, h8, rfl⟩
  have hf := hs1
  clear hs1
  obtain rfl := si hf
  refine ret_genN ([]) hE (by rw [show Tryz.f134.results.toList = [] from rfl]; exact rfl) ?_
  exact ⟨_, rfl, D3, q2, rfl, hS, h8⟩
 clear hE hS hf
 rintro k a w ⟨y1, q1, D2, hE, hS, le1, h1, hf⟩
 obtain ⟨k, rfl, hf⟩ := slices_Reverse_byte_byte_l1.some hf
 refine ⟨k, rfl, ?_⟩
 unfold slices_Reverse_byte_byte_l1.b at hf
 refine sq (sq (ra ?_))
 refine sN 3 3 [(9, .bool ((decide (y1.2.1 < y1.2.2))))] hE fun a hE => ?_
 refine ae ?_
 refine cond_split hE (b := (decide (y1.2.1 < y1.2.2))) rfl (fun hb => ?_) (fun hb => ?_)
 ·replace hf := ct hb hf
  refine wpIn_skip ?_
  refine sq ?_
  refine wpIn_block ?_
  refine region_draw (fun j => Keeps (mfOf [(13, ids [q1]), (15, ids [q1])] j)) (by kernel_rfl) ?_
  have hS := hS.drew
  first | generalize w.drew = w at hS ⊢ | generalize w0.drew = w at hS ⊢
  refine wP 0 1 15 (.slice A2 (List.length (y1.1)) c3) hE fun a hE => ?_
  refine wP 1 3 14 (.int .i64 (y1.2.1)) hE fun a hE => ?_
  refine wP 2 7 13 (.slice A2 (List.length (y1.1)) c3) hE fun a hE => ?_
  refine wP 3 15 12 (.int .i64 (y1.2.2)) hE fun a hE => ?_
  refine wP 4 31 11 (.slice A2 (List.length (y1.1)) c3) hE fun a hE => ?_
  refine wP 5 63 10 (.int .i64 (y1.2.2)) hE fun a hE => ?_
  refine wP 8 319 9 (.slice A2 (List.length (y1.1)) c3) hE fun a hE => ?_
  refine wP 9 831 8 (.int .i64 (y1.2.1)) hE fun a hE => ?_
  obtain ⟨x2, h2, hf⟩ := bs hf
  refine tW 6 895 (fuel := 7) (by kernel_rfl) hE (fun M => tk_indexO (K := (kdInt .u8)) (T := 5) (by_ := 1) (zl := 1) rfl rfl rfl rfl hE rfl rfl rfl (by kernel_rfl) h1 h2 (fun a b1 u2 hq hE => ?_))
  subst hq
  obtain ⟨cs1, C1, hr1, hb1, hc1⟩ := OwnD.cell h1 h2
  obtain rfl := hr1
  refine tT 7 1023 (fuel := 6) (by kernel_rfl) hE (tk_loadO 0 (off0 := Int.toNat (y1.2.2) * 1) (off := 0) (c := [.int .u8 (x2)]) (Cl := C1) (T := 5) (fr := (0, 0)) (.int .u8 (x2)) rfl rfl rfl rfl hE rfl hS rfl (by rw [hb1]; rfl) hc1 (by kernel_rfl) (kL (j := 0) hS rfl List.not_mem_nil) (fun a hE => ?_))
  obtain ⟨x3, h3, hf⟩ := bs hf
  refine tW 10 2047 (fuel := 5) (by kernel_rfl) hE (fun M => tk_indexO (K := (kdInt .u8)) (T := 5) (by_ := 1) (zl := 1) rfl rfl rfl rfl hE rfl rfl rfl (by kernel_rfl) h1 h3 (fun a b2 u3 hq hE => ?_))
  obtain ⟨rfl, rfl⟩ := some_pair hq
  obtain ⟨cs2, C2, hr2, hb2, hc2⟩ := OwnD.cell h1 h3
  obtain rfl := hr2
  refine tT 11 4095 (fuel := 4) (by kernel_rfl) hE (tk_loadO 0 (off0 := Int.toNat (y1.2.1) * 1) (off := 0) (c := [.int .u8 (x3)]) (Cl := C2) (T := 5) (fr := (0, 0)) (.int .u8 (x3)) rfl rfl rfl rfl hE rfl hS rfl (by rw [hb2]; rfl) hc2 (by kernel_rfl) (kL (j := 0) hS rfl List.not_mem_nil) (fun a hE => ?_))
  obtain ⟨x4, h4, hf⟩ := bs hf
  refine tW 12 8191 (fuel := 3) (by kernel_rfl) hE (fun M => tk_indexO (K := (kdInt .u8)) (T := 5) (by_ := 1) (zl := 1) rfl rfl rfl rfl hE rfl rfl rfl (by kernel_rfl) h1 h4 (fun a b3 u4 hq hE => ?_))
  obtain ⟨rfl, rfl⟩ := some_pair hq
  refine oG 13 16383 (fuel := 2) (by kernel_rfl) (op_storeO (K := (kdInt .u8)) (T := 5) (l := y1.1) (x2) rfl rfl rfl rfl hE hS h1 rfl rfl (inI_of h4) (rfl) (by kernel_rfl) (by kernel_rfl) (fun a u5 w hkp hE h6 hS => ⟨hkp.mono (fun _ h => h), ?_⟩))
  clear hkp
  have hE : Env a 28 [] [(0, .slice A2 (List.length ((List.set (y1.1) (Int.toNat (y1.2.1)) (x2)))) c3), (2, .int .i64 (y1.2.1)), (3, .int .i64 (y1.2.2)), (9, .bool ((decide (y1.2.1 < y1.2.2)))), (14, .slice A2 (List.length ((List.set (y1.1) (Int.toNat (y1.2.1)) (x2)))) c3), (15, .int .i64 (y1.2.1)), (16, .slice A2 (List.length ((List.set (y1.1) (Int.toNat (y1.2.1)) (x2)))) c3), (17, .int .i64 (y1.2.2)), (18, .slice A2 (List.length ((List.set (y1.1) (Int.toNat (y1.2.1)) (x2)))) c3), (19, .int .i64 (y1.2.2)), (20, .pointer (some ⟨b1, Int.toNat (y1.2.2) * 1, none⟩)), (21, .int .u8 (x2)), (22, .slice A2 (List.length ((List.set (y1.1) (Int.toNat (y1.2.1)) (x2)))) c3), (23, .int .i64 (y1.2.1)), (24, .pointer (some ⟨b1, Int.toNat (y1.2.1) * 1, none⟩)), (25, .int .u8 (x3)), (26, .pointer (some ⟨b1, Int.toNat (y1.2.1) * 1, none⟩))] := by have h := hE.weak (E' := [(0, .slice A2 (List.length (y1.1)) c3), (2, .int .i64 (y1.2.1)), (3, .int .i64 (y1.2.2)), (9, .bool ((decide (y1.2.1 < y1.2.2)))), (14, .slice A2 (List.length (y1.1)) c3), (15, .int .i64 (y1.2.1)), (16, .slice A2 (List.length (y1.1)) c3), (17, .int .i64 (y1.2.2)), (18, .slice A2 (List.length (y1.1)) c3), (19, .int .i64 (y1.2.2)), (20, .pointer (some ⟨b1, Int.toNat (y1.2.2) * 1, none⟩)), (21, .int .u8 (x2)), (22, .slice A2 (List.length (y1.1)) c3), (23, .int .i64 (y1.2.1)), (24, .pointer (some ⟨b1, Int.toNat (y1.2.1) * 1, none⟩)), (25, .int .u8 (x3)), (26, .pointer (some ⟨b1, Int.toNat (y1.2.1) * 1, none⟩))]) (by kernel_rfl); simpa only [List.length_set] using h
  obtain ⟨x5, h7, hf⟩ := bs hf
  refine tW 14 32767 (fuel := 1) (by kernel_rfl) hE (fun M => tk_indexO (K := (kdInt .u8)) (T := 5) (by_ := 1) (zl := 1) rfl rfl rfl rfl hE rfl rfl rfl (by kernel_rfl) h6 h7 (fun a b4 u6 hq hE => ?_))
  obtain ⟨rfl, rfl⟩ := some_pair hq
  refine oG 15 65535 (fuel := 0) (by kernel_rfl) (op_storeO (K := (kdInt .u8)) (T := 5) (l := (List.set (y1.1) (Int.toNat (y1.2.1)) (x2))) (x3) rfl rfl rfl rfl hE hS h6 rfl rfl (inI_of h7) (rfl) (by kernel_rfl) (by kernel_rfl) (fun a u1 w hkp hE h9 hS => ⟨hkp.mono (fun _ h => h), ?_⟩))
  clear hkp
  have hE : Env a 28 [] [(0, .slice A2 (List.length ((List.set ((List.set (y1.1) (Int.toNat (y1.2.1)) (x2))) (Int.toNat (y1.2.2)) (x3)))) c3), (2, .int .i64 (y1.2.1)), (3, .int .i64 (y1.2.2)), (9, .bool ((decide (y1.2.1 < y1.2.2)))), (14, .slice A2 (List.length ((List.set ((List.set (y1.1) (Int.toNat (y1.2.1)) (x2))) (Int.toNat (y1.2.2)) (x3)))) c3), (15, .int .i64 (y1.2.1)), (16, .slice A2 (List.length ((List.set ((List.set (y1.1) (Int.toNat (y1.2.1)) (x2))) (Int.toNat (y1.2.2)) (x3)))) c3), (17, .int .i64 (y1.2.2)), (18, .slice A2 (List.length ((List.set ((List.set (y1.1) (Int.toNat (y1.2.1)) (x2))) (Int.toNat (y1.2.2)) (x3)))) c3), (19, .int .i64 (y1.2.2)), (20, .pointer (some ⟨b1, Int.toNat (y1.2.2) * 1, none⟩)), (21, .int .u8 (x2)), (22, .slice A2 (List.length ((List.set ((List.set (y1.1) (Int.toNat (y1.2.1)) (x2))) (Int.toNat (y1.2.2)) (x3)))) c3), (23, .int .i64 (y1.2.1)), (24, .pointer (some ⟨b1, Int.toNat (y1.2.1) * 1, none⟩)), (25, .int .u8 (x3)), (26, .pointer (some ⟨b1, Int.toNat (y1.2.1) * 1, none⟩)), (27, .pointer (some ⟨b1, Int.toNat (y1.2.2) * 1, none⟩))] := by have h := hE.weak (E' := [(0, .slice A2 (List.length ((List.set (y1.1) (Int.toNat (y1.2.1)) (x2)))) c3), (2, .int .i64 (y1.2.1)), (3, .int .i64 (y1.2.2)), (9, .bool ((decide (y1.2.1 < y1.2.2)))), (14, .slice A2 (List.length ((List.set (y1.1) (Int.toNat (y1.2.1)) (x2)))) c3), (15, .int .i64 (y1.2.1)), (16, .slice A2 (List.length ((List.set (y1.1) (Int.toNat (y1.2.1)) (x2)))) c3), (17, .int .i64 (y1.2.2)), (18, .slice A2 (List.length ((List.set (y1.1) (Int.toNat (y1.2.1)) (x2)))) c3), (19, .int .i64 (y1.2.2)), (20, .pointer (some ⟨b1, Int.toNat (y1.2.2) * 1, none⟩)), (21, .int .u8 (x2)), (22, .slice A2 (List.length ((List.set (y1.1) (Int.toNat (y1.2.1)) (x2)))) c3), (23, .int .i64 (y1.2.1)), (24, .pointer (some ⟨b1, Int.toNat (y1.2.1) * 1, none⟩)), (25, .int .u8 (x3)), (26, .pointer (some ⟨b1, Int.toNat (y1.2.1) * 1, none⟩)), (27, .pointer (some ⟨b1, Int.toNat (y1.2.2) * 1, none⟩))]) (by kernel_rfl); simpa only [List.length_set] using h
  refine doneG (by kernel_rfl) ?_
  refine ra ?_
  refine sN 6 6 [(2, .int .i64 ((IntKind.wrap .i64 (y1.2.1 + (1 : Int))))), (3, .int .i64 ((IntKind.wrap .i64 (y1.2.2 - (1 : Int)))))] hE fun a hE => ?_
  exact ae ⟨((List.set ((List.set (y1.1) (Int.toNat (y1.2.1)) (x2))) (Int.toNat (y1.2.2)) (x3)), (IntKind.wrap .i64 (y1.2.1 + (1 : Int))), (IntKind.wrap .i64 (y1.2.2 - (1 : Int)))), (some (b1, u1)), D2, hE.wk, hS, le1, h9, hf⟩
 replace hf := cf hb hf
 refine wpIn_exit ?_
 obtain rfl := si hf
 exact ⟨y1.1, q1, D2, hE.wk, hS, le1, h1, rfl⟩
set_option maxRecDepth 100000 in
theorem slices_Clone_byte_byte.calls {K : Nat} {g w0 : World} {D0 : Snap} {x1 : (List Int)} {A2 : Option Addr} {c3 : Nat} {r : ((List Int))} (hf : slices_Clone_byte_byte.f K x1 = some r) (hS0 : St g w0 D0 []) (h4 : Sl (kdInt .u8) D0 A2 c3 (x1)) :
  CallsIn (Fw none) 0 Tryz.prog 111 (List.toArray [.slice A2 (List.length (x1)) c3]) w0 (fun e w' => ∃ v, e = .returned v ∧ ∃ (D1 : Snap) (A16 : Option Addr) (c17 : Nat) (q18 : Blk), v = .slice A16 (List.length (r)) c17 ∧ Stp g w0 D0 [] w' D1 [q18] ∧ OwnD (kdInt .u8) 5 D1 A16 c17 (r) q18) := by
 unfold slices_Clone_byte_byte.f at hf
 have hS := Stp.refl hS0
 clear hS0
 refine calls_body (n := 8) Tryz.func111 rfl Tryz.ntmps111 rfl fun a hE => ?_
 have hE : Env a 8 [] [(0, .slice A2 (List.length (x1)) c3)] := hE
 refine sq (ra ?_)
 refine sN 1 1 [(2, .slice none 0 0)] hE fun a hE => ?_
 refine ae ?_
 refine sq (sq (ra ?_))
 refine sN 1 1 [(3, .slice A2 (List.length (x1)) c3)] hE fun a hE => ?_
 refine at_op (op_tk hE (tk_bin (r := .bool ((Option.isNone A2))) rfl rfl rfl rfl hE rfl rfl rfl (eqnil_run (by kernel_rfl) _ _ _) (fun a hE => ?_))) rfl
 refine ae ?_
 refine cond_split hE (b := (Option.isNone A2)) rfl (fun hb => ?_) (fun hb => ?_)
 ·have hx := Sl.of_none h4 hb rfl
  rw [hx] at hf
  replace hf : (some ([] : List Int)) = some r := hf
  refine sq (ra ?_)
  refine sN 1 1 [(2, .slice none 0 0)] hE fun a hE => ?_
  refine ae ?_
  refine wpIn_ret ?_
  have hS := hS.nils
  obtain rfl := si hf
  refine ret_ ?_
  refine rT 2 (.slice none 0 0) hE ?_
  exact ⟨_, rfl, D0, none, 0, none, rfl, hS, (OwnD.nil (kdInt .u8) 5 D0)⟩
 refine wpIn_skip ?_
 refine sq (ra ?_)
 refine at_op (op_buildSlice (K := (kdInt .u8)) (e := 5) (cs := []) ([] : List Int) rfl rfl rfl rfl hE rfl hS rfl (by kernel_rfl) rfl rfl (by exact rfl) (fun a A22 q23 w _ hE h24 hS => ?_)) rfl
 refine sN 1 2 [(6, .slice A2 (List.length (x1)) c3)] hE fun a hE => ?_
 obtain ⟨l26, h27, hf⟩ := bs hf
 refine at_op (g_append (K := (kdInt .u8)) (e := 5) (bytes := 1) (l := ([] : List Int)) (m := x1) rfl rfl rfl rfl hE rfl hS rfl rfl (by kernel_rfl) rfl rfl h24 h4 h27 (fun a A28 c29 q30 w _ hE h31 hS => ?_)) rfl
 refine sN 1 4 [(2, .slice A28 (List.length (l26)) c29)] hE fun a hE => ?_
 refine ae ?_
 refine wpIn_ret ?_
 obtain rfl := si hf
 refine ret_ ?_
 refine rT 2 (.slice A28 (List.length (l26)) c29) hE ?_
 exact ⟨_, rfl, D0, A28, c29, q30, rfl, hS, h31⟩
set_option maxRecDepth 100000 in
theorem slices_Clone_api_Sig_api_Sig.calls {K : Nat} {g w0 : World} {D0 : Snap} {x1 : (List T_api_Sig)} {A2 : Option Addr} {c3 : Nat} {r : ((List T_api_Sig))} (hf : slices_Clone_api_Sig_api_Sig.f K x1 = some r) (hS0 : St g w0 D0 []) (h4 : Sl kd_T_api_Sig D0 A2 c3 (x1)) :
  CallsIn (Fw none) 0 Tryz.prog 157 (List.toArray [.slice A2 (List.length (x1)) c3]) w0 (fun e w' => ∃ v, e = .returned v ∧ ∃ (D1 : Snap) (A16 : Option Addr) (c17 : Nat) (q18 : Blk), v = .slice A16 (List.length (r)) c17 ∧ Stp g w0 D0 [] w' D1 [q18] ∧ OwnD kd_T_api_Sig 107 D1 A16 c17 (r) q18) := by
 unfold slices_Clone_api_Sig_api_Sig.f at hf
 have hS := Stp.refl hS0
 clear hS0
 refine calls_body (n := 8) Tryz.func157 rfl Tryz.ntmps157 rfl fun a hE => ?_
 have hE : Env a 8 [] [(0, .slice A2 (List.length (x1)) c3)] := hE
 refine sq (ra ?_)
 refine sN 1 1 [(2, .slice none 0 0)] hE fun a hE => ?_
 refine ae ?_
 refine sq (sq (ra ?_))
 refine sN 1 1 [(3, .slice A2 (List.length (x1)) c3)] hE fun a hE => ?_
 refine at_op (op_tk hE (tk_bin (r := .bool ((Option.isNone A2))) rfl rfl rfl rfl hE rfl rfl rfl (eqnil_run (by kernel_rfl) _ _ _) (fun a hE => ?_))) rfl
 refine ae ?_
 refine cond_split hE (b := (Option.isNone A2)) rfl (fun hb => ?_) (fun hb => ?_)
 ·have hx := Sl.of_none h4 hb rfl
  rw [hx] at hf
  replace hf : (some ([] : List T_api_Sig)) = some r := hf
  refine sq (ra ?_)
  refine sN 1 1 [(2, .slice none 0 0)] hE fun a hE => ?_
  refine ae ?_
  refine wpIn_ret ?_
  have hS := hS.nils
  obtain rfl := si hf
  refine ret_ ?_
  refine rT 2 (.slice none 0 0) hE ?_
  exact ⟨_, rfl, D0, none, 0, none, rfl, hS, (OwnD.nil kd_T_api_Sig 107 D0)⟩
 refine wpIn_skip ?_
 refine sq (ra ?_)
 refine at_op (op_buildSlice (K := kd_T_api_Sig) (e := 107) (cs := []) ([] : List T_api_Sig) rfl rfl rfl rfl hE rfl hS rfl (by kernel_rfl) rfl rfl (by exact rfl) (fun a A22 q23 w _ hE h24 hS => ?_)) rfl
 refine sN 1 2 [(6, .slice A2 (List.length (x1)) c3)] hE fun a hE => ?_
 obtain ⟨l26, h27, hf⟩ := bs hf
 refine at_op (g_append (K := kd_T_api_Sig) (e := 107) (bytes := 40) (l := ([] : List T_api_Sig)) (m := x1) rfl rfl rfl rfl hE rfl hS rfl rfl (by kernel_rfl) rfl rfl h24 h4 h27 (fun a A28 c29 q30 w _ hE h31 hS => ?_)) rfl
 refine sN 1 4 [(2, .slice A28 (List.length (l26)) c29)] hE fun a hE => ?_
 refine ae ?_
 refine wpIn_ret ?_
 obtain rfl := si hf
 refine ret_ ?_
 refine rT 2 (.slice A28 (List.length (l26)) c29) hE ?_
 exact ⟨_, rfl, D0, A28, c29, q30, rfl, hS, h31⟩
set_option maxRecDepth 100000 in
theorem slices_Clone_api_Step_api_Step.calls {K : Nat} {g w0 : World} {D0 : Snap} {x1 : (List T_api_Step)} {A2 : Option Addr} {c3 : Nat} {r : ((List T_api_Step))} (hf : slices_Clone_api_Step_api_Step.f K x1 = some r) (hS0 : St g w0 D0 []) (h4 : Sl kd_T_api_Step D0 A2 c3 (x1)) :
  CallsIn (Fw none) 0 Tryz.prog 62 (List.toArray [.slice A2 (List.length (x1)) c3]) w0 (fun e w' => ∃ v, e = .returned v ∧ ∃ (D1 : Snap) (A16 : Option Addr) (c17 : Nat) (q18 : Blk), v = .slice A16 (List.length (r)) c17 ∧ Stp g w0 D0 [] w' D1 [q18] ∧ OwnD kd_T_api_Step 90 D1 A16 c17 (r) q18) := by
 unfold slices_Clone_api_Step_api_Step.f at hf
 have hS := Stp.refl hS0
 clear hS0
 refine calls_body (n := 8) Tryz.func62 rfl Tryz.ntmps62 rfl fun a hE => ?_
 have hE : Env a 8 [] [(0, .slice A2 (List.length (x1)) c3)] := hE
 refine sq (ra ?_)
 refine sN 1 1 [(2, .slice none 0 0)] hE fun a hE => ?_
 refine ae ?_
 refine sq (sq (ra ?_))
 refine sN 1 1 [(3, .slice A2 (List.length (x1)) c3)] hE fun a hE => ?_
 refine at_op (op_tk hE (tk_bin (r := .bool ((Option.isNone A2))) rfl rfl rfl rfl hE rfl rfl rfl (eqnil_run (by kernel_rfl) _ _ _) (fun a hE => ?_))) rfl
 refine ae ?_
 refine cond_split hE (b := (Option.isNone A2)) rfl (fun hb => ?_) (fun hb => ?_)
 ·have hx := Sl.of_none h4 hb rfl
  rw [hx] at hf
  replace hf : (some ([] : List T_api_Step)) = some r := hf
  refine sq (ra ?_)
  refine sN 1 1 [(2, .slice none 0 0)] hE fun a hE => ?_
  refine ae ?_
  refine wpIn_ret ?_
  have hS := hS.nils
  obtain rfl := si hf
  refine ret_ ?_
  refine rT 2 (.slice none 0 0) hE ?_
  exact ⟨_, rfl, D0, none, 0, none, rfl, hS, (OwnD.nil kd_T_api_Step 90 D0)⟩
 refine wpIn_skip ?_
 refine sq (ra ?_)
 refine at_op (op_buildSlice (K := kd_T_api_Step) (e := 90) (cs := []) ([] : List T_api_Step) rfl rfl rfl rfl hE rfl hS rfl (by kernel_rfl) rfl rfl (by exact rfl) (fun a A22 q23 w _ hE h24 hS => ?_)) rfl
 refine sN 1 2 [(6, .slice A2 (List.length (x1)) c3)] hE fun a hE => ?_
 obtain ⟨l26, h27, hf⟩ := bs hf
 refine at_op (g_append (K := kd_T_api_Step) (e := 90) (bytes := 16) (l := ([] : List T_api_Step)) (m := x1) rfl rfl rfl rfl hE rfl hS rfl rfl (by kernel_rfl) rfl rfl h24 h4 h27 (fun a A28 c29 q30 w _ hE h31 hS => ?_)) rfl
 refine sN 1 4 [(2, .slice A28 (List.length (l26)) c29)] hE fun a hE => ?_
 refine ae ?_
 refine wpIn_ret ?_
 obtain rfl := si hf
 refine ret_ ?_
 refine rT 2 (.slice A28 (List.length (l26)) c29) hE ?_
 exact ⟨_, rfl, D0, A28, c29, q30, rfl, hS, h31⟩
set_option maxRecDepth 100000 in
theorem slices_Clone_api_Saga_api_Saga.calls {K : Nat} {g w0 : World} {D0 : Snap} {x1 : (List T_api_Saga)} {A2 : Option Addr} {c3 : Nat} {r : ((List T_api_Saga))} (hf : slices_Clone_api_Saga_api_Saga.f K x1 = some r) (hS0 : St g w0 D0 []) (h4 : Sl kd_T_api_Saga D0 A2 c3 (x1)) :
  CallsIn (Fw none) 0 Tryz.prog 206 (List.toArray [.slice A2 (List.length (x1)) c3]) w0 (fun e w' => ∃ v, e = .returned v ∧ ∃ (D1 : Snap) (A16 : Option Addr) (c17 : Nat) (q18 : Blk), v = .slice A16 (List.length (r)) c17 ∧ Stp g w0 D0 [] w' D1 [q18] ∧ OwnD kd_T_api_Saga 152 D1 A16 c17 (r) q18) := by
 unfold slices_Clone_api_Saga_api_Saga.f at hf
 have hS := Stp.refl hS0
 clear hS0
 refine calls_body (n := 8) Tryz.func206 rfl Tryz.ntmps206 rfl fun a hE => ?_
 have hE : Env a 8 [] [(0, .slice A2 (List.length (x1)) c3)] := hE
 refine sq (ra ?_)
 refine sN 1 1 [(2, .slice none 0 0)] hE fun a hE => ?_
 refine ae ?_
 refine sq (sq (ra ?_))
 refine sN 1 1 [(3, .slice A2 (List.length (x1)) c3)] hE fun a hE => ?_
 refine at_op (op_tk hE (tk_bin (r := .bool ((Option.isNone A2))) rfl rfl rfl rfl hE rfl rfl rfl (eqnil_run (by kernel_rfl) _ _ _) (fun a hE => ?_))) rfl
 refine ae ?_
 refine cond_split hE (b := (Option.isNone A2)) rfl (fun hb => ?_) (fun hb => ?_)
 ·have hx := Sl.of_none h4 hb rfl
  rw [hx] at hf
  replace hf : (some ([] : List T_api_Saga)) = some r := hf
  refine sq (ra ?_)
  refine sN 1 1 [(2, .slice none 0 0)] hE fun a hE => ?_
  refine ae ?_
  refine wpIn_ret ?_
  have hS := hS.nils
  obtain rfl := si hf
  refine ret_ ?_
  refine rT 2 (.slice none 0 0) hE ?_
  exact ⟨_, rfl, D0, none, 0, none, rfl, hS, (OwnD.nil kd_T_api_Saga 152 D0)⟩
 refine wpIn_skip ?_
 refine sq (ra ?_)
 refine at_op (op_buildSlice (K := kd_T_api_Saga) (e := 152) (cs := []) ([] : List T_api_Saga) rfl rfl rfl rfl hE rfl hS rfl (by kernel_rfl) rfl rfl (by exact rfl) (fun a A22 q23 w _ hE h24 hS => ?_)) rfl
 refine sN 1 2 [(6, .slice A2 (List.length (x1)) c3)] hE fun a hE => ?_
 obtain ⟨l26, h27, hf⟩ := bs hf
 refine at_op (g_append (K := kd_T_api_Saga) (e := 152) (bytes := 88) (l := ([] : List T_api_Saga)) (m := x1) rfl rfl rfl rfl hE rfl hS rfl rfl (by kernel_rfl) rfl rfl h24 h4 h27 (fun a A28 c29 q30 w _ hE h31 hS => ?_)) rfl
 refine sN 1 4 [(2, .slice A28 (List.length (l26)) c29)] hE fun a hE => ?_
 refine ae ?_
 refine wpIn_ret ?_
 obtain rfl := si hf
 refine ret_ ?_
 refine rT 2 (.slice A28 (List.length (l26)) c29) hE ?_
 exact ⟨_, rfl, D0, A28, c29, q30, rfl, hS, h31⟩
set_option maxRecDepth 100000 in
theorem saga_back.calls {K : Nat} {g w0 : World} {D0 : Snap} {x1 : (List T_api_Step)} {A2 : Option Addr} {c3 : Nat} {r : ((List T_api_Step))} (hf : saga_back.f K x1 = some r) (hS0 : St g w0 D0 []) (h4 : Sl kd_T_api_Step D0 A2 c3 (x1)) :
  CallsIn (Fw none) 0 Tryz.prog 211 (List.toArray [.slice A2 (List.length (x1)) c3]) w0 (fun e w' => ∃ v, e = .returned v ∧ ∃ (D1 : Snap) (b7 : Nat) (A9 : Option Addr) (c10 : Nat), v = .func (.func 212) #[] #[.pointer (some ⟨b7, 0, none⟩)] ∧ Stp g w0 D0 [] w' D1 [bx b7 50 ([.slice A9 (List.length (r)) c10])] ∧ Sl kd_T_api_Step D1 A9 c10 (r)) := by
 unfold saga_back.f at hf
 have hS := Stp.refl hS0
 clear hS0
 refine calls_body (n := 4) Tryz.func211 rfl Tryz.ntmps211 rfl fun a hE => ?_
 have hE : Env a 4 [] [(0, .slice A2 (List.length (x1)) c3)] := hE
 refine sq (ra ?_)
 refine at_op (op_box rfl rfl rfl rfl hE rfl hS rfl (fun a b12 w _ hE hS => ?_)) rfl
 refine sN 1 2 [(2, .nilFunc)] hE fun a hE => ?_
 refine ae ?_
 refine sq (ra ?_)
 refine sN 2 2 [(2, .func (.func 212) #[] #[.pointer (some ⟨b12, 0, none⟩)])] hE fun a hE => ?_
 refine ae ?_
 refine wpIn_ret ?_
 obtain rfl := si hf
 refine ret_ ?_
 refine rT 2 (.func (.func 212) #[] #[.pointer (some ⟨b12, 0, none⟩)]) hE ?_
 exact ⟨_, rfl, D0, b12, A2, c3, rfl, hS, h4⟩
set_option maxRecDepth 100000 in
theorem saga_target.calls {K : Nat} {g w0 : World} {D0 : Snap} {x1 : T_api_Saga} {A2 : Option Addr} {c3 : Nat} {r : (Int)} (hf : saga_target.f K x1 = some r) (hS0 : St g w0 D0 []) (h4 : Sl kd_T_api_Step D0 A2 c3 (x1.fSteps)) :
  CallsIn (Fw none) 0 Tryz.prog 209 (List.toArray [.agg (List.toArray (c_T_api_Saga (x1) A2 c3))]) w0 (fun e w' => ∃ v, e = .returned v ∧ ∃ D1, v = .int .i64 (r) ∧ Stp g w0 D0 [] w' D1 []) := by
 unfold saga_target.f at hf
 have hS := Stp.refl hS0
 clear hS0
 refine calls_bodyM (n := 30) Tryz.func209 rfl Tryz.ntmps209 rfl fun a hE => ?_
 have hE : Env a 30 [] [(0, .agg (List.toArray (c_T_api_Saga (x1) A2 c3)))] := hE
 refine sq (ra ?_)
 refine at_op (op_box rfl rfl rfl rfl hE rfl hS rfl (fun a b4 w _ hE hS => ?_)) rfl
 refine at_op (op_alloc (z := .int .i64 ((0 : Int))) rfl rfl rfl rfl hE rfl hS (by kernel_rfl) (fun a b2 w _ hE hS => ?_)) rfl
 refine ae ?_
 refine sq (ra ?_)
 refine sM 8 8 [1, 1, 1] [(13, .int .i64 ((bandNot .i64 (bor .i64 x1.fDone x1.fSome) x1.fUndone)))] hE hS fun a hE => ?_
 refine at_op (op_alloc (z := .int .i64 ((0 : Int))) rfl rfl rfl rfl hE rfl hS (by kernel_rfl) (fun a b3 w _ hE hS => ?_)) rfl
 refine at_op (op_store (v := .int .i64 ((bandNot .i64 (bor .i64 x1.fDone x1.fSome) x1.fUndone))) ([.int .i64 ((bandNot .i64 (bor .i64 x1.fDone x1.fSome) x1.fUndone))]) rfl rfl rfl rfl hE hS rfl rfl (by kernel_rfl) (by kernel_rfl) (by kernel_rfl) (by kernel_rfl) (by kernel_rfl) (fun a w _ hE hS => ?_)) rfl
 refine ae ?_
 refine sq (sq (ra ?_))
 refine sM 2 2 [2] [(15, .slice A2 (List.length (x1.fSteps)) c3)] hE hS fun a hE => ?_
 obtain ⟨r1, h1, hf⟩ := bs hf
 refine aC rfl rfl rfl rfl hE rfl rfl rfl rfl (saga_back.calls h1 (hS.st.fore (L := [])) h4) fun a v w hR hE => ?_
 obtain ⟨D4, b1, A1, c1, rfl, hS1, h2⟩ := hR
 have le4 := hS1.dle
 have hS := hS.callR hS1 rfl (.c .n)
 refine ae ?_
 refine wpIn_block ?_
 have hEo1 := hE
 refine range_in2 (captured := #[.pointer (some ⟨b1, 0, none⟩)]) hE hS rfl (by kernel_rfl) (fun fn1 l1 d664 w q1 hq1 hS => ?_)
 refine calls_body (n := 19) Tryz.func212 rfl Tryz.ntmps212 rfl fun a hE => ?_
 have hE : Env a 19 [] [(0, .func (.yield l1) #[] #[]), (1, .pointer (some ⟨b1, 0, none⟩))] := hE
 refine sq (ra ?_)
 refine sM 4 4 [2] [(3, .int .i64 ((IntKind.wrap .i64 (((List.length (r1) : Nat) : Int) - (1 : Int)))))] hE hS fun a hE => ?_
 refine ae ?_
 obtain ⟨s1, hf, hs1⟩ := bs hf
 have hS := hS.p (.d 5 (.d 4 (.d 3 (.d 2 (.d 0 (.d 1 .n))))))
 refine block_loopR (fun a w => ∃ (z2 : Unit), ∃ D5, Env a 19 [] [] ∧ Stp g w0 D0 [] w D5 [bx b4 152 (c_T_api_Saga (x1) A2 c3), bx b2 3 ([.int .i64 ((0 : Int))]), bx b3 3 ([.int .i64 ((bandNot .i64 (bor .i64 x1.fDone x1.fSome) x1.fUndone))]), bx b1 50 ([.slice A1 (List.length (r1)) c1]), q1 .ready none, dk d664] ∧ Snap.le D4 D5 ∧ (Sum.inr z2) = s1) (fun a w => ∃ (z1 : Int), ∃ D6, Env a 19 [] [] ∧ Stp g w0 D0 [] w D6 [bx b4 152 (c_T_api_Saga (x1) A2 c3), bx b2 3 ([.int .i64 (z1)]), bx b3 3 ([.int .i64 ((bandNot .i64 (bor .i64 x1.fDone x1.fSome) x1.fUndone))]), bx b1 50 ([.slice A1 (List.length (r1)) c1]), q1 .done (some .ret), dk d664] ∧ Snap.le D4 D6 ∧ (Sum.inl z1) = s1) (fun k a w => ∃ (y1 : Int), ∃ D2, Env a 19 [] [(0, .func (.yield l1) #[] #[]), (1, .pointer (some ⟨b1, 0, none⟩)), (3, .int .i64 (y1))] ∧ Stp g w0 D0 [] w D2 [bx b4 152 (c_T_api_Saga (x1) A2 c3), bx b2 3 ([.int .i64 ((0 : Int))]), bx b3 3 ([.int .i64 ((bandNot .i64 (bor .i64 x1.fDone x1.fSome) x1.fUndone))]), bx b1 50 ([.slice A1 (List.length (r1)) c1]), q1 .ready none, dk d664] ∧ Snap.le D4 D2 ∧ saga_target_l1.l K x1 r1 k y1 = some s1) K ?_ ?_ ?_ ?_
 ·exact ⟨(IntKind.wrap .i64 (((List.length (r1) : Nat) : Int) - (1 : Int))), D4, hE.wk, hS, lr, hf⟩
 ·clear hE hS hf
  rintro a w ⟨z2, D5, hE, hS, le5, rfl⟩
  have hf := hs1
  clear hs1
  refine ret_genN ([]) hE (by rw [show Tryz.f212.results.toList = [] from rfl]; rfl) ?_
  have hS := hS.p (.d 4 (.d 0 (.d 1 (.d 2 (.d 3 (.d 5 .n))))))
  refine range_done2 hq1 hS hEo1 (fun w a hS hE => ?_)
  refine sq (ra ?_)
  have hS := hS.p (.d 1 (.d 0 (.d 2 (.d 3 (.d 4 .n)))))
  refine at_op (op_store (v := .int .i64 ((-1 : Int))) ([.int .i64 ((-1 : Int))]) rfl rfl rfl rfl hE hS rfl rfl (by kernel_rfl) (by kernel_rfl) (by kernel_rfl) (by kernel_rfl) (by kernel_rfl) (fun a w _ hE hS => ?_)) rfl
  refine ae ?_
  refine wpIn_ret ?_
  have hS := hS.p (.d 4 (.d 0 (.d 1 (.d 2 (.d 3 .n)))))
  obtain rfl := si hf
  refine ret_ ?_
  refine ret_M1 ([.int .i64 ((-1 : Int))]) hE hS (fun w hS => ⟨by rw [show Tryz.f209.results.toList = [.cell 2 3] from rfl]; exact ⟨_, _, _, 0, _, _, rfl, rfl, hS.heapAt (j := 0) rfl, by kernel_rfl, rfl⟩, ?_⟩)
  have hS := hS.p .n
  exact ⟨_, rfl, D5, rfl, hS⟩
 ·clear hE hS hf
  rintro a w ⟨z1, D6, hE, hS, le6, rfl⟩
  have hf := hs1
  clear hs1
  refine ret_ ?_
  refine ret_gen ([]) hE (by rw [show Tryz.f212.results.toList = [] from rfl]; rfl) ?_
  have hS := hS.p (.d 4 (.d 0 (.d 1 (.d 2 (.d 3 (.d 5 .n))))))
  refine range_ret2 hq1 hS hEo1 (fun w a hS hE => ?_)
  have hS := hS.p (.d 4 (.d 0 (.d 1 (.d 2 (.d 3 .n)))))
  obtain rfl := si hf
  refine ret_ ?_
  refine ret_M1 ([.int .i64 (z1)]) hE hS (fun w hS => ⟨by rw [show Tryz.f209.results.toList = [.cell 2 3] from rfl]; exact ⟨_, _, _, 0, _, _, rfl, rfl, hS.heapAt (j := 1) rfl, by kernel_rfl, rfl⟩, ?_⟩)
  have hS := hS.p .n
  exact ⟨_, rfl, D6, rfl, hS⟩
 clear hE hS hf
 rintro k a w ⟨y1, D2, hE, hS, le1, hf⟩
 obtain ⟨k, rfl, hf⟩ := saga_target_l1.some _ _ hf
 refine ⟨k, rfl, ?_⟩
 unfold saga_target_l1.b at hf
 refine sq (sq (ra ?_))
 refine sN 2 2 [(8, .bool ((decide ((0 : Int) ≤ y1))))] hE fun a hE => ?_
 refine ae ?_
 refine cond_split hE (b := (decide ((0 : Int) ≤ y1))) rfl (fun hb => ?_) (fun hb => ?_)
 ·replace hf := ct hb hf
  refine wpIn_skip ?_
  refine sq ?_
  refine wpIn_block ?_
  refine sq (ra ?_)
  refine sM 4 4 [3] [(11, .func (.yield l1) #[] #[]), (12, .int .i64 (y1)), (13, .slice A1 (List.length (r1)) c1), (14, .int .i64 (y1))] hE hS fun a hE => ?_
  obtain ⟨x2, h3, hf⟩ := bs hf
  refine at_op (op_tk hE (g_index (K := kd_T_api_Step) (e := 90) (by_ := 16) (zl := 2) rfl rfl rfl rfl hE rfl rfl rfl (by kernel_rfl) rfl (h2.mono le1) h3 (fun a b6 o1 hE h5 => ?_))) rfl
  obtain ⟨cs1, C1, T1, fr1, hr1, hb1, hc1⟩ := id h5
  obtain ⟨rfl⟩ := kd_T_api_Step_el hr1
  refine at_op (op_tk hE (tk_loadX (off0 := o1) (off := 0) (c := c_T_api_Step (x2)) (.agg (List.toArray (c_T_api_Step (x2)))) rfl rfl rfl rfl hE rfl hS rfl hb1 hc1 (by kernel_rfl) (by kernel_rfl) (kD hS dn_nil) (fun a hE => ?_))) rfl
  have hS := hS.p (.d 4 (.d 0 (.d 1 (.d 2 (.d 3 (.d 5 .n))))))
  refine at_op (op_yield2 (args := [.int .i64 (y1), .agg (List.toArray (c_T_api_Step (x2)))]) hq1 rfl rfl rfl rfl hE rfl rfl rfl hS hEo1 rfl (by kernel_rfl) (fun a hE => ?_)) rfl
  refine sq (ra ?_)
  refine sN 1 1 [(4, .int .i64 (y1))] hE fun a hE => ?_
  refine ae ?_
  refine ra ?_
  refine at_op (op_alloc (z := .agg (List.toArray (c_T_api_Step ((T_api_Step.mk ((0 : Int)) ((0 : Int))))))) rfl rfl rfl rfl hE rfl hS (by kernel_rfl) (fun a b5 w _ hE hS => ?_)) rfl
  refine at_op (op_store (v := .agg (List.toArray (c_T_api_Step (x2)))) (c_T_api_Step (x2)) rfl rfl rfl rfl hE hS rfl rfl (by kernel_rfl) (by kernel_rfl) (by kernel_rfl) (by kernel_rfl) (by kernel_rfl) (fun a w _ hE hS => ?_)) rfl
  refine ae ?_
  have hS := hS.p (.d 1 (.d 0 (.d 2 (.d 3 (.d 4 (.d 5 (.d 6 .n)))))))
  refine begin_in2 hq1 hS (fun w hS => ?_)
  refine wpIn_block ?_
  obtain ⟨j1, hj1, hf⟩ := jn_elim hf
  refine seq_join (fun a w => ∃ (y2 : Bool), ∃ D3, Env a 30 [] [(2, .pointer (some ⟨b2, 0, none⟩)), (3, .pointer (some ⟨b3, 0, none⟩)), (4, .int .i64 (y1)), (5, .pointer (some ⟨b5, 0, none⟩)), (16, .func (.func 212) #[] #[.pointer (some ⟨b1, 0, none⟩)]), (17, .int .i64 (y1)), (18, .agg (List.toArray (c_T_api_Step (x2)))), (28, .bool (y2))] ∧ Stp g w0 D0 [] w D3 [bx b4 152 (c_T_api_Saga (x1) A2 c3), bx b2 3 ([.int .i64 ((0 : Int))]), bx b3 3 ([.int .i64 ((bandNot .i64 (bor .i64 x1.fDone x1.fSome) x1.fUndone))]), bx b1 50 ([.slice A1 (List.length (r1)) c1]), bx b5 90 (c_T_api_Step (x2)), q1 .busy none, dk d664] ∧ Snap.le D2 D3 ∧ j1 y2 = some s1) ?_ ?_
  ·clear hj1
   refine ra ?_
   refine sM 4 4 [1] [(22, .bool ((decide (x2.fKind = (1 : Int)))))] hE hS fun a hE => ?_
   refine bo ((decide (x2.fKind = (1 : Int)))) (fun hb => ?_) fun hb => ?_
   ·replace hf := cf hb hf
    have hE := hE.know (t := 22) rfl hb
    refine sN 6 10 [(28, .bool false)] hE fun a hE => ?_
    refine ae ?_
    have hS := hS.p (.d 2 (.d 3 (.d 4 (.d 5 (.d 1 (.d 0 (.d 6 .n)))))))
    exact ⟨false, D2, hE.wk, hS, lr, hf⟩
   replace hf := ct hb hf
   have hE := hE.know (t := 22) rfl hb
   refine sM 2 6 [4] [(23, .int .i64 ((bandNot .i64 (bor .i64 x1.fDone x1.fSome) x1.fUndone))), (24, .int .i64 (y1))] hE hS fun a hE => ?_
   obtain ⟨hq2, hf⟩ := chk_not hf
   refine at_op (op_tk hE (tk_bin (r := .int .i64 ((Int.fdiv (bandNot .i64 (bor .i64 x1.fDone x1.fSome) x1.fUndone) (2 ^ (min (Int.toNat y1) 64))))) rfl rfl rfl rfl hE rfl rfl rfl (shr_run hq2) (fun a hE => ?_))) rfl
   refine sN 3 10 [(28, .bool ((decide ((band .i64 (Int.fdiv (bandNot .i64 (bor .i64 x1.fDone x1.fSome) x1.fUndone) (2 ^ (min (Int.toNat y1) 64))) (1 : Int)) = (1 : Int)))))] hE fun a hE => ?_
   refine ae ?_
   have hS := hS.p (.d 2 (.d 3 (.d 4 (.d 5 (.d 1 (.d 0 (.d 6 .n)))))))
   exact ⟨(decide ((band .i64 (Int.fdiv (bandNot .i64 (bor .i64 x1.fDone x1.fSome) x1.fUndone) (2 ^ (min (Int.toNat y1) 64))) (1 : Int)) = (1 : Int))), D2, hE.wk, hS, lr, hf⟩
  clear hE hS
  rintro a w ⟨y2, D3, hE, hS, le3, hf⟩
  replace hf := hj1 _ hf
  clear hj1
  refine cond_split hE (b := y2) rfl (fun hb => ?_) (fun hb => ?_)
  ·replace hf := ct hb hf
   refine sq (ra ?_)
   refine sN 1 1 [(29, .int .i64 (y1))] hE fun a hE => ?_
   have hS := hS.p (.d 1 (.d 0 (.d 2 (.d 3 (.d 4 (.d 5 (.d 6 .n)))))))
   refine at_op (op_store (v := .int .i64 (y1)) ([.int .i64 (y1)]) rfl rfl rfl rfl hE hS rfl rfl (by kernel_rfl) (by kernel_rfl) (by kernel_rfl) (by kernel_rfl) (by kernel_rfl) (fun a w _ hE hS => ?_)) rfl
   refine ae ?_
   refine wpIn_ret ?_
   refine ret_ ?_
   have hS := hS.p (.d 5 (.d 0 (.d 1 (.d 2 (.d 3 (.d 4 (.d 6 .n)))))))
   refine round_ret2 (a1 := a) hq1 hS (fun w a hS hE => ?_)
   refine sN 1 8 [(18, .bool true)] hE fun a hE => ?_
   refine ae ?_
   refine wpIn_cond_true (hE.eval rfl) ?_
   refine wpIn_ret ?_
   obtain rfl := si hf
   have hS := hS.p (.d 2 (.d 1 (.d 3 (.d 4 (.d 0 (.d 6 .n))))))
   exact ⟨y1, D3, hE.wk, hS, (le2 le1 le3), rfl⟩
  replace hf := cf hb hf
  refine wpIn_skip ?_
  have hS := hS.p (.d 5 (.d 0 (.d 1 (.d 2 (.d 3 (.d 4 (.d 6 .n)))))))
  refine round_normal2 (a1 := a) hq1 hS (fun w a hS hE => ?_)
  refine sN 1 8 [(18, .bool false)] hE fun a hE => ?_
  refine ae ?_
  refine wpIn_cond_false (hE.eval rfl) ?_
  refine wpIn_skip ?_
  refine ra ?_
  refine sN 3 3 [(3, .int .i64 ((IntKind.wrap .i64 (y1 - (1 : Int)))))] hE fun a hE => ?_
  refine ae ?_
  have hS := hS.p (.d 1 (.d 2 (.d 3 (.d 4 (.d 0 (.d 6 .n))))))
  exact ⟨(IntKind.wrap .i64 (y1 - (1 : Int))), D3, hE.wk, hS, (le2 le1 le3), hf⟩
 replace hf := cf hb hf
 refine wpIn_exit ?_
 obtain rfl := si hf
 exact ⟨(), D2, hE.wk, hS, le1, rfl⟩
end Go.Proofs.YtomndohdnfebgaaGreatDoor
