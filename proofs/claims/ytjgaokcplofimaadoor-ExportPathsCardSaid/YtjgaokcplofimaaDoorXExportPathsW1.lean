/-
  Proved, text by text: a call of a function of the cut comes to what its plain function computes.
  Conditions: those that each theorem names.
-/
import Derived.Test.YtjgaokcplofimaaDoorProg
import Derived.Test.YtjgaokcplofimaaDoorSepN
import Derived.Test.YtjgaokcplofimaaDoorXExportPathsW0
set_option linter.unusedVariables false
set_option maxHeartbeats 4000000
namespace Go.Proofs.YtjgaokcplofimaaDoor
open Go Go.Sep
set_option maxRecDepth 100000 in
theorem sha_Turn.calls {K : Nat} {g w0 : World} {D0 : Snap} {x1 : (Vector Int 8)} {x2 : (List Int)} {A3 : Option Addr} {c4 : Nat} {r : ((Vector Int 8))} (hf : sha_Turn.f K x1 x2 = some r) (hS0 : St g w0 D0 []) (h5 : Sl (kdInt .u8) D0 A3 c4 (x2)) (hG1 : Cell (kdArr .u32 64) D0 1 0 gl_K) :
  CallsIn (Fw none) 0 Tryd.prog 81 (List.toArray [.agg (List.toArray (acells .u32 8 (x1))), .slice A3 (List.length (x2)) c4]) w0 (fun e w' => ∃ v, e = .returned v ∧ ∃ D1, v = .agg (List.toArray (acells .u32 8 (r))) ∧ Stp g w0 D0 [] w' D1 []) := by
 unfold sha_Turn.f at hf
 have hS := Stp.refl hS0
 clear hS0
 refine calls_body (n := 94) Tryd.func81 rfl Tryd.ntmps81 rfl fun a hE => ?_
 have hE : Env a 94 [] [(0, .agg (List.toArray (acells .u32 8 (x1)))), (1, .slice A3 (List.length (x2)) c4)] := hE
 refine sq (ra ?_)
 refine at_op (op_box rfl rfl rfl rfl hE rfl hS rfl (fun a b1 w _ hE hS => ?_)) rfl
 refine at_op (op_alloc (z := .agg (List.toArray (acells .u32 8 ((Vector.replicate 8 (0 : Int)))))) rfl rfl rfl rfl hE rfl hS (by kernel_rfl) (fun a b2 w _ hE hS => ?_)) rfl
 refine ae ?_
 refine sq (sq (ra ?_))
 refine sN 3 3 [(13, .bool ((!decide (((List.length (x2) : Nat) : Int) = (64 : Int)))))] hE fun a hE => ?_
 refine ae ?_
 refine cond_split hE (b := (!decide (((List.length (x2) : Nat) : Int) = (64 : Int)))) rfl (fun hb => ?_) (fun hb => ?_)
 ·replace hf := ct hb hf
  refine sq (ra ?_)
  refine sM 1 1 [1] [(14, .agg (List.toArray (acells .u32 8 (x1))))] hE hS fun a hE => ?_
  refine at_op (op_store (v := .agg (List.toArray (acells .u32 8 (x1)))) (acells .u32 8 (x1)) rfl rfl rfl rfl hE hS rfl rfl (by kernel_rfl) (by kernel_rfl) (by kernel_rfl) (by kernel_rfl) (by kernel_rfl) (fun a w _ hE hS => ?_)) rfl
  refine ae ?_
  refine wpIn_ret ?_
  obtain rfl := si hf
  refine ret_ ?_
  refine ret_gen ([.agg (List.toArray (acells .u32 8 (x1)))]) hE (by rw [show Tryd.f81.results.toList = [.cell 4 112] from rfl]; exact ⟨_, _, _, 0, _, _, rfl, rfl, hS.heapAt (j := 0) rfl, by kernel_rfl, rfl⟩) ?_
  have hS := hS.p .n
  exact ⟨_, rfl, D0, rfl, hS⟩
 replace hf := cf hb hf
 refine wpIn_skip ?_
 refine sq (ra ?_)
 refine sM 1 1 [1] [(15, .agg (List.toArray (acells .u32 8 (x1))))] hE hS fun a hE => ?_
 refine at_op (op_alloc (z := .agg (List.toArray (acells .u32 8 ((Vector.replicate 8 (0 : Int)))))) rfl rfl rfl rfl hE rfl hS (by kernel_rfl) (fun a b3 w _ hE hS => ?_)) rfl
 refine at_op (op_store (v := .agg (List.toArray (acells .u32 8 (x1)))) (acells .u32 8 (x1)) rfl rfl rfl rfl hE hS rfl rfl (by kernel_rfl) (by kernel_rfl) (by kernel_rfl) (by kernel_rfl) (by kernel_rfl) (fun a w _ hE hS => ?_)) rfl
 refine ae ?_
 refine sq (sq (ra ?_))
 refine sN 1 1 [(16, .slice A3 (List.length (x2)) c4)] hE fun a hE => ?_
 obtain ⟨r3, h1, hf⟩ := bs hf
 refine aC rfl rfl rfl rfl hE rfl rfl rfl rfl (sha_schedule.calls h1 (hS.st.fore (L := [])) h5) fun a v w hR hE => ?_
 obtain ⟨D6, rfl, hS1⟩ := hR
 have le4 := hS1.dle
 have hS := hS.callR hS1 rfl .n
 refine sN 1 3 [(18, .int .i64 ((0 : Int)))] hE fun a hE => ?_
 refine ae ?_
 obtain ⟨s1, hf, hs1⟩ := bs hf
 have hS := hS.p (.d 2 (.d 1 (.d 0 .n)))
 refine block_loop (fun a w => ∃ (z1 : (Vector Int 8)), ∃ D2, Env a 94 [] [(2, .pointer (some ⟨b1, 0, none⟩)), (4, .pointer (some ⟨b2, 0, none⟩)), (5, .pointer (some ⟨b3, 0, none⟩))] ∧ Stp g w0 D0 [] w D2 [bx b1 112 (acells .u32 8 (x1)), bx b2 112 (acells .u32 8 ((Vector.replicate 8 (0 : Int)))), bx b3 112 (acells .u32 8 (z1))] ∧ Snap.le D6 D2 ∧ z1 = s1) (fun k a w => ∃ (y1 : Int × (Vector Int 8)), ∃ D4, Env a 94 [] [(2, .pointer (some ⟨b1, 0, none⟩)), (4, .pointer (some ⟨b2, 0, none⟩)), (5, .pointer (some ⟨b3, 0, none⟩)), (17, .agg (List.toArray (acells .u32 64 (r3)))), (18, .int .i64 (y1.1))] ∧ Stp g w0 D0 [] w D4 [bx b1 112 (acells .u32 8 (x1)), bx b2 112 (acells .u32 8 ((Vector.replicate 8 (0 : Int)))), bx b3 112 (acells .u32 8 (y1.2))] ∧ Snap.le D6 D4 ∧ sha_Turn_l1.l K r3 k y1 = some s1) K ?_ ?_ ?_
 ·exact ⟨((0 : Int), x1), D6, hE.wk, hS, lr, hf⟩
 ·clear hE hS hf
  rintro a w ⟨z1, D2, hE, hS, le7, rfl⟩
  have hf := hs1
  clear hs1
  refine sq (sq (ra ?_))
  refine sN 1 1 [(81, .int .i64 ((0 : Int)))] hE fun a hE => ?_
  refine ae ?_
  obtain ⟨s2, hf, hs2⟩ := bs hf
  refine block_loop (fun a w => ∃ (z2 : (Vector Int 8)), ∃ D5, Env a 94 [] [(2, .pointer (some ⟨b1, 0, none⟩)), (4, .pointer (some ⟨b2, 0, none⟩))] ∧ Stp g w0 D0 [] w D5 [bx b1 112 (acells .u32 8 (z2)), bx b2 112 (acells .u32 8 ((Vector.replicate 8 (0 : Int))))] ∧ Snap.le D2 D5 ∧ z2 = s2) (fun k a w => ∃ (y2 : Int × (Vector Int 8)), ∃ D3, Env a 94 [] [(2, .pointer (some ⟨b1, 0, none⟩)), (4, .pointer (some ⟨b2, 0, none⟩)), (5, .pointer (some ⟨b3, 0, none⟩)), (81, .int .i64 (y2.1))] ∧ Stp g w0 D0 [] w D3 [bx b1 112 (acells .u32 8 (y2.2)), bx b2 112 (acells .u32 8 ((Vector.replicate 8 (0 : Int)))), bx b3 112 (acells .u32 8 (z1))] ∧ Snap.le D2 D3 ∧ sha_Turn_l2.l K z1 k y2 = some s2) K ?_ ?_ ?_
  ·exact ⟨((0 : Int), x1), D2, hE.wk, hS, lr, hf⟩
  ·clear hE hS hf
   rintro a w ⟨z2, D5, hE, hS, le8, rfl⟩
   have hf := hs2
   clear hs2
   refine sq (ra ?_)
   refine sM 1 1 [0] [(93, .agg (List.toArray (acells .u32 8 (z2))))] hE hS fun a hE => ?_
   have hS := hS.p (.d 1 (.d 0 .n))
   refine at_op (op_store (v := .agg (List.toArray (acells .u32 8 (z2)))) (acells .u32 8 (z2)) rfl rfl rfl rfl hE hS rfl rfl (by kernel_rfl) (by kernel_rfl) (by kernel_rfl) (by kernel_rfl) (by kernel_rfl) (fun a w _ hE hS => ?_)) rfl
   refine ae ?_
   refine wpIn_ret ?_
   obtain rfl := si hf
   refine ret_ ?_
   refine ret_gen ([.agg (List.toArray (acells .u32 8 (z2)))]) hE (by rw [show Tryd.f81.results.toList = [.cell 4 112] from rfl]; exact ⟨_, _, _, 0, _, _, rfl, rfl, hS.heapAt (j := 0) rfl, by kernel_rfl, rfl⟩) ?_
   have hS := hS.p .n
   exact ⟨_, rfl, D5, rfl, hS⟩
  clear hE hS hf
  rintro k a w ⟨y2, D3, hE, hS, le3, hf⟩
  obtain ⟨k, rfl, hf⟩ := sha_Turn_l2.some _ hf
  refine ⟨k, rfl, ?_⟩
  unfold sha_Turn_l2.b at hf
  refine sq (ra ?_)
  refine sN 1 1 [(82, .bool ((decide (y2.1 < (8 : Int)))))] hE fun a hE => ?_
  refine ae ?_
  refine sq ?_
  refine cond_split hE (b := (decide (y2.1 < (8 : Int)))) rfl (fun hb => ?_) (fun hb => ?_)
  ·replace hf := ct hb hf
   refine wpIn_skip ?_
   refine sq ?_
   refine wpIn_block ?_
   refine sq (ra ?_)
   refine sN 2 2 [(10, .int .i64 (y2.1))] hE fun a hE => ?_
   refine ae ?_
   refine region_draw (fun j => Keeps (mfOf [(8, [b1])] j)) (by kernel_rfl) ?_
   have hS := hS.drew
   first | generalize w.drew = w at hS ⊢ | generalize w0.drew = w at hS ⊢
   refine wP 0 1 8 (.int .i64 (y2.1)) hE fun a hE => ?_
   refine wP 3 9 7 (.int .i64 (y2.1)) hE fun a hE => ?_
   obtain ⟨hm1473, hf⟩ := chk_some hf
   refine tW 1 11 (fuel := 6) (by kernel_rfl) hE (fun M => tk_indexPA (N := 8) (k := .u32) (m := y2.1) rfl rfl rfl rfl hE rfl rfl rfl (by kernel_rfl) hm1473 (fun a hE => ?_))
   refine tT 2 15 (fuel := 5) (by kernel_rfl) hE (tk_loadPA 0 (N := 8) (k := .u32) (v := y2.2) (m := y2.1) rfl rfl rfl rfl hE rfl hS rfl rfl (by kernel_rfl) hm1473 (kL (j := 0) hS rfl List.not_mem_nil) (fun a hE => ?_))
   obtain ⟨hm1474, hf⟩ := chk_some hf
   refine tW 4 31 (fuel := 4) (by kernel_rfl) hE (fun M => tk_indexPA (N := 8) (k := .u32) (m := y2.1) rfl rfl rfl rfl hE rfl rfl rfl (by kernel_rfl) hm1474 (fun a hE => ?_))
   refine tT 5 63 (fuel := 3) (by kernel_rfl) hE (tk_loadPA 2 (N := 8) (k := .u32) (v := z1) (m := y2.1) rfl rfl rfl rfl hE rfl hS rfl rfl (by kernel_rfl) hm1474 (kL (j := 2) hS rfl List.not_mem_nil) (fun a hE => ?_))
   refine wP 6 127 2 (.int .u32 ((IntKind.wrap .u32 ((vget (y2.2) (Int.toNat (y2.1))) + (vget (z1) (Int.toNat (y2.1))))))) hE fun a hE => ?_
   obtain ⟨hm1475, hf⟩ := chk_some hf
   refine tW 7 255 (fuel := 1) (by kernel_rfl) hE (fun M => tk_indexPA (N := 8) (k := .u32) (m := y2.1) rfl rfl rfl rfl hE rfl rfl rfl (by kernel_rfl) hm1475 (fun a hE => ?_))
   obtain ⟨v2, hv1, hf⟩ := bs hf
   replace hv1 := Option.some.inj hv1
   refine oG 8 511 (fuel := 0) (by kernel_rfl) (op_storePA (N := 8) (k := .u32) (v := y2.2) (m := y2.1) (z := (IntKind.wrap .u32 ((vget (y2.2) (Int.toNat (y2.1))) + (vget (z1) (Int.toNat (y2.1)))))) rfl rfl rfl rfl hE hS rfl rfl (by kernel_rfl) hm1475 (fun a w hkp hE hS => ⟨hkp.mono (fun _ h => h), ?_⟩))
   clear hkp
   rw [hv1] at hS
   refine doneG (by kernel_rfl) ?_
   refine ra ?_
   refine sN 2 2 [(81, .int .i64 ((IntKind.wrap .i64 (y2.1 + (1 : Int)))))] hE fun a hE => ?_
   exact ae ⟨((IntKind.wrap .i64 (y2.1 + (1 : Int))), v2), D3, hE.wk, hS, le3, hf⟩
  replace hf := cf hb hf
  refine wpIn_exit ?_
  obtain rfl := si hf
  have hS := hS.p (.d 0 (.d 1 .n))
  exact ⟨y2.2, D3, hE.wk, hS, le3, rfl⟩
 clear hE hS hf
 rintro k a w ⟨y1, D4, hE, hS, le1, hf⟩
 obtain ⟨k, rfl, hf⟩ := sha_Turn_l1.some _ hf
 refine ⟨k, rfl, ?_⟩
 unfold sha_Turn_l1.b at hf
 refine sq (ra ?_)
 refine sN 1 1 [(19, .bool ((decide (y1.1 < (64 : Int)))))] hE fun a hE => ?_
 refine ae ?_
 refine sq ?_
 refine cond_split hE (b := (decide (y1.1 < (64 : Int)))) rfl (fun hb => ?_) (fun hb => ?_)
 ·replace hf := ct hb hf
  refine wpIn_skip ?_
  refine sq ?_
  refine wpIn_block ?_
  refine sq (ra ?_)
  refine sN 1 1 [(20, .int .i64 (y1.1))] hE fun a hE => ?_
  obtain ⟨x3, h2, hf⟩ := bs hf
  refine at_op (op_tk hE (tk_indexA (N := 64) (k := .u32) (v := r3) rfl rfl rfl rfl hE rfl rfl rfl (by kernel_rfl) h2 (fun a hE => ?_))) rfl
  refine sN 2 4 [(6, .int .i64 (y1.1)), (7, .int .u32 (x3))] hE fun a hE => ?_
  refine ae ?_
  refine sq ?_
  refine region_draw (fun j => Keeps (mfOf [] j)) (by kernel_rfl) ?_
  have hS := hS.drew
  first | generalize w.drew = w at hS ⊢ | generalize w0.drew = w at hS ⊢
  refine wP 19 524288 25 (.int .i64 (y1.1)) hE fun a hE => ?_
  refine wP 23 8912896 24 (.int .u32 (x3)) hE fun a hE => ?_
  refine tW 0 8912897 (fuel := 23) (by kernel_rfl) hE (fun M => tk_indexPA (N := 8) (k := .u32) (m := (7 : Int)) rfl rfl rfl rfl hE rfl rfl rfl (by kernel_rfl) (by kernel_rfl) (fun a hE => ?_))
  refine tT 1 8912899 (fuel := 22) (by kernel_rfl) hE (tk_loadPA 2 (N := 8) (k := .u32) (v := y1.2) (m := (7 : Int)) rfl rfl rfl rfl hE rfl hS rfl rfl (by kernel_rfl) (by kernel_rfl) (kL (j := 2) hS rfl List.not_mem_nil) (fun a hE => ?_))
  refine tW 2 8912903 (fuel := 21) (by kernel_rfl) hE (fun M => tk_indexPA (N := 8) (k := .u32) (m := (4 : Int)) rfl rfl rfl rfl hE rfl rfl rfl (by kernel_rfl) (by kernel_rfl) (fun a hE => ?_))
  refine tT 3 8912911 (fuel := 20) (by kernel_rfl) hE (tk_loadPA 2 (N := 8) (k := .u32) (v := y1.2) (m := (4 : Int)) rfl rfl rfl rfl hE rfl hS rfl rfl (by kernel_rfl) (by kernel_rfl) (kL (j := 2) hS rfl List.not_mem_nil) (fun a hE => ?_))
  refine tW 6 8912975 (fuel := 19) (by kernel_rfl) hE (fun M => tk_indexPA (N := 8) (k := .u32) (m := (4 : Int)) rfl rfl rfl rfl hE rfl rfl rfl (by kernel_rfl) (by kernel_rfl) (fun a hE => ?_))
  refine tT 7 8913103 (fuel := 18) (by kernel_rfl) hE (tk_loadPA 2 (N := 8) (k := .u32) (v := y1.2) (m := (4 : Int)) rfl rfl rfl rfl hE rfl hS rfl rfl (by kernel_rfl) (by kernel_rfl) (kL (j := 2) hS rfl List.not_mem_nil) (fun a hE => ?_))
  refine tW 8 8913359 (fuel := 17) (by kernel_rfl) hE (fun M => tk_indexPA (N := 8) (k := .u32) (m := (5 : Int)) rfl rfl rfl rfl hE rfl rfl rfl (by kernel_rfl) (by kernel_rfl) (fun a hE => ?_))
  refine tT 9 8913871 (fuel := 16) (by kernel_rfl) hE (tk_loadPA 2 (N := 8) (k := .u32) (v := y1.2) (m := (5 : Int)) rfl rfl rfl rfl hE rfl hS rfl rfl (by kernel_rfl) (by kernel_rfl) (kL (j := 2) hS rfl List.not_mem_nil) (fun a hE => ?_))
  refine wP 10 8914895 15 (.int .u32 ((band .u32 (vget (y1.2) (Int.toNat ((4 : Int)))) (vget (y1.2) (Int.toNat ((5 : Int))))))) hE fun a hE => ?_
  refine tW 11 8916943 (fuel := 14) (by kernel_rfl) hE (fun M => tk_indexPA (N := 8) (k := .u32) (m := (4 : Int)) rfl rfl rfl rfl hE rfl rfl rfl (by kernel_rfl) (by kernel_rfl) (fun a hE => ?_))
  refine tT 12 8921039 (fuel := 13) (by kernel_rfl) hE (tk_loadPA 2 (N := 8) (k := .u32) (v := y1.2) (m := (4 : Int)) rfl rfl rfl rfl hE rfl hS rfl rfl (by kernel_rfl) (by kernel_rfl) (kL (j := 2) hS rfl List.not_mem_nil) (fun a hE => ?_))
  refine wP 13 8929231 12 (.int .u32 ((bnot .u32 (vget (y1.2) (Int.toNat ((4 : Int))))))) hE fun a hE => ?_
  refine tW 14 8945615 (fuel := 11) (by kernel_rfl) hE (fun M => tk_indexPA (N := 8) (k := .u32) (m := (6 : Int)) rfl rfl rfl rfl hE rfl rfl rfl (by kernel_rfl) (by kernel_rfl) (fun a hE => ?_))
  refine tT 15 8978383 (fuel := 10) (by kernel_rfl) hE (tk_loadPA 2 (N := 8) (k := .u32) (v := y1.2) (m := (6 : Int)) rfl rfl rfl rfl hE rfl hS rfl rfl (by kernel_rfl) (by kernel_rfl) (kL (j := 2) hS rfl List.not_mem_nil) (fun a hE => ?_))
  refine wP 16 9043919 9 (.int .u32 ((band .u32 (bnot .u32 (vget (y1.2) (Int.toNat ((4 : Int))))) (vget (y1.2) (Int.toNat ((6 : Int))))))) hE fun a hE => ?_
  refine wP 17 9174991 8 (.int .u32 ((bxor .u32 (band .u32 (vget (y1.2) (Int.toNat ((4 : Int)))) (vget (y1.2) (Int.toNat ((5 : Int))))) (band .u32 (bnot .u32 (vget (y1.2) (Int.toNat ((4 : Int))))) (vget (y1.2) (Int.toNat ((6 : Int)))))))) hE fun a hE => ?_
  obtain ⟨hm1311, hf⟩ := chk_some hf
  refine tW 20 10223567 (fuel := 7) (by kernel_rfl) hE (fun M => tk_indexPA (N := 64) (k := .u32) (m := y1.1) rfl rfl rfl rfl hE rfl rfl rfl (by kernel_rfl) hm1311 (fun a hE => ?_))
  obtain ⟨cs1, C1, T1, fr1, hr1, hb1, hc1⟩ := (Cell.elemA (N := 64) (m := y1.1) (hG1.mono (le2 le4 le1)) hm1311)
  obtain rfl := hr1
  refine tT 21 12320719 (fuel := 6) (by kernel_rfl) hE (tk_loadX (off0 := (0 + Int.toNat (y1.1))) (off := 0) (c := [.int .u32 ((vget (gl_K) (Int.toNat (y1.1))))]) (.int .u32 ((vget (gl_K) (Int.toNat (y1.1))))) rfl rfl rfl rfl hE rfl hS rfl hb1 hc1 (by kernel_rfl) (by kernel_rfl) (kD hS dn_nil) (fun a hE => ?_))
  obtain ⟨r1, h3, hf⟩ := bs hf
  refine oC 4 12320735 5 rfl rfl rfl rfl hE rfl rfl rfl rfl (sha_turned.calls h3 (hS.st.fore (L := [])) ) fun a v w hR hE => ?_
  obtain ⟨D8, rfl, hS1⟩ := hR
  refine ⟨(hS1.keeps.sub (M' := []) trivial).mono (fun _ h => h), ?_⟩
  have le5 := hS1.dle
  have hS := hS.callR hS1 rfl .n
  refine wP 5 12320767 4 (.int .u32 ((IntKind.wrap .u32 ((vget (y1.2) (Int.toNat ((7 : Int)))) + r1)))) hE fun a hE => ?_
  refine wP 18 12582911 3 (.int .u32 ((IntKind.wrap .u32 ((IntKind.wrap .u32 ((vget (y1.2) (Int.toNat ((7 : Int)))) + r1)) + (bxor .u32 (band .u32 (vget (y1.2) (Int.toNat ((4 : Int)))) (vget (y1.2) (Int.toNat ((5 : Int))))) (band .u32 (bnot .u32 (vget (y1.2) (Int.toNat ((4 : Int))))) (vget (y1.2) (Int.toNat ((6 : Int)))))))))) hE fun a hE => ?_
  refine wP 22 16777215 2 (.int .u32 ((IntKind.wrap .u32 ((IntKind.wrap .u32 ((IntKind.wrap .u32 ((vget (y1.2) (Int.toNat ((7 : Int)))) + r1)) + (bxor .u32 (band .u32 (vget (y1.2) (Int.toNat ((4 : Int)))) (vget (y1.2) (Int.toNat ((5 : Int))))) (band .u32 (bnot .u32 (vget (y1.2) (Int.toNat ((4 : Int))))) (vget (y1.2) (Int.toNat ((6 : Int)))))))) + (vget (gl_K) (Int.toNat (y1.1))))))) hE fun a hE => ?_
  refine wP 24 33554431 1 (.int .u32 ((IntKind.wrap .u32 ((IntKind.wrap .u32 ((IntKind.wrap .u32 ((IntKind.wrap .u32 ((vget (y1.2) (Int.toNat ((7 : Int)))) + r1)) + (bxor .u32 (band .u32 (vget (y1.2) (Int.toNat ((4 : Int)))) (vget (y1.2) (Int.toNat ((5 : Int))))) (band .u32 (bnot .u32 (vget (y1.2) (Int.toNat ((4 : Int))))) (vget (y1.2) (Int.toNat ((6 : Int)))))))) + (vget (gl_K) (Int.toNat (y1.1))))) + x3)))) hE fun a hE => ?_
  refine wP 25 67108863 0 (.int .u32 ((IntKind.wrap .u32 ((IntKind.wrap .u32 ((IntKind.wrap .u32 ((IntKind.wrap .u32 ((vget (y1.2) (Int.toNat ((7 : Int)))) + r1)) + (bxor .u32 (band .u32 (vget (y1.2) (Int.toNat ((4 : Int)))) (vget (y1.2) (Int.toNat ((5 : Int))))) (band .u32 (bnot .u32 (vget (y1.2) (Int.toNat ((4 : Int))))) (vget (y1.2) (Int.toNat ((6 : Int)))))))) + (vget (gl_K) (Int.toNat (y1.1))))) + x3)))) hE fun a hE => ?_
  refine doneG (by kernel_rfl) ?_
  refine sq ?_
  refine region_draw (fun j => Keeps (mfOf [] j)) (by kernel_rfl) ?_
  have hS := hS.drew
  first | generalize w.drew = w at hS ⊢ | generalize w0.drew = w at hS ⊢
  refine tW 0 1 (fuel := 21) (by kernel_rfl) hE (fun M => tk_indexPA (N := 8) (k := .u32) (m := (0 : Int)) rfl rfl rfl rfl hE rfl rfl rfl (by kernel_rfl) (by kernel_rfl) (fun a hE => ?_))
  refine tT 1 3 (fuel := 20) (by kernel_rfl) hE (tk_loadPA 2 (N := 8) (k := .u32) (v := y1.2) (m := (0 : Int)) rfl rfl rfl rfl hE rfl hS rfl rfl (by kernel_rfl) (by kernel_rfl) (kL (j := 2) hS rfl List.not_mem_nil) (fun a hE => ?_))
  refine tW 3 11 (fuel := 19) (by kernel_rfl) hE (fun M => tk_indexPA (N := 8) (k := .u32) (m := (0 : Int)) rfl rfl rfl rfl hE rfl rfl rfl (by kernel_rfl) (by kernel_rfl) (fun a hE => ?_))
  refine tT 4 27 (fuel := 18) (by kernel_rfl) hE (tk_loadPA 2 (N := 8) (k := .u32) (v := y1.2) (m := (0 : Int)) rfl rfl rfl rfl hE rfl hS rfl rfl (by kernel_rfl) (by kernel_rfl) (kL (j := 2) hS rfl List.not_mem_nil) (fun a hE => ?_))
  refine tW 5 59 (fuel := 17) (by kernel_rfl) hE (fun M => tk_indexPA (N := 8) (k := .u32) (m := (1 : Int)) rfl rfl rfl rfl hE rfl rfl rfl (by kernel_rfl) (by kernel_rfl) (fun a hE => ?_))
  refine tT 6 123 (fuel := 16) (by kernel_rfl) hE (tk_loadPA 2 (N := 8) (k := .u32) (v := y1.2) (m := (1 : Int)) rfl rfl rfl rfl hE rfl hS rfl rfl (by kernel_rfl) (by kernel_rfl) (kL (j := 2) hS rfl List.not_mem_nil) (fun a hE => ?_))
  refine wP 7 251 15 (.int .u32 ((band .u32 (vget (y1.2) (Int.toNat ((0 : Int)))) (vget (y1.2) (Int.toNat ((1 : Int))))))) hE fun a hE => ?_
  refine tW 8 507 (fuel := 14) (by kernel_rfl) hE (fun M => tk_indexPA (N := 8) (k := .u32) (m := (0 : Int)) rfl rfl rfl rfl hE rfl rfl rfl (by kernel_rfl) (by kernel_rfl) (fun a hE => ?_))
  refine tT 9 1019 (fuel := 13) (by kernel_rfl) hE (tk_loadPA 2 (N := 8) (k := .u32) (v := y1.2) (m := (0 : Int)) rfl rfl rfl rfl hE rfl hS rfl rfl (by kernel_rfl) (by kernel_rfl) (kL (j := 2) hS rfl List.not_mem_nil) (fun a hE => ?_))
  refine tW 10 2043 (fuel := 12) (by kernel_rfl) hE (fun M => tk_indexPA (N := 8) (k := .u32) (m := (2 : Int)) rfl rfl rfl rfl hE rfl rfl rfl (by kernel_rfl) (by kernel_rfl) (fun a hE => ?_))
  refine tT 11 4091 (fuel := 11) (by kernel_rfl) hE (tk_loadPA 2 (N := 8) (k := .u32) (v := y1.2) (m := (2 : Int)) rfl rfl rfl rfl hE rfl hS rfl rfl (by kernel_rfl) (by kernel_rfl) (kL (j := 2) hS rfl List.not_mem_nil) (fun a hE => ?_))
  refine wP 12 8187 10 (.int .u32 ((band .u32 (vget (y1.2) (Int.toNat ((0 : Int)))) (vget (y1.2) (Int.toNat ((2 : Int))))))) hE fun a hE => ?_
  refine wP 13 16379 9 (.int .u32 ((bxor .u32 (band .u32 (vget (y1.2) (Int.toNat ((0 : Int)))) (vget (y1.2) (Int.toNat ((1 : Int))))) (band .u32 (vget (y1.2) (Int.toNat ((0 : Int)))) (vget (y1.2) (Int.toNat ((2 : Int)))))))) hE fun a hE => ?_
  refine tW 14 32763 (fuel := 8) (by kernel_rfl) hE (fun M => tk_indexPA (N := 8) (k := .u32) (m := (1 : Int)) rfl rfl rfl rfl hE rfl rfl rfl (by kernel_rfl) (by kernel_rfl) (fun a hE => ?_))
  refine tT 15 65531 (fuel := 7) (by kernel_rfl) hE (tk_loadPA 2 (N := 8) (k := .u32) (v := y1.2) (m := (1 : Int)) rfl rfl rfl rfl hE rfl hS rfl rfl (by kernel_rfl) (by kernel_rfl) (kL (j := 2) hS rfl List.not_mem_nil) (fun a hE => ?_))
  refine tW 16 131067 (fuel := 6) (by kernel_rfl) hE (fun M => tk_indexPA (N := 8) (k := .u32) (m := (2 : Int)) rfl rfl rfl rfl hE rfl rfl rfl (by kernel_rfl) (by kernel_rfl) (fun a hE => ?_))
  refine tT 17 262139 (fuel := 5) (by kernel_rfl) hE (tk_loadPA 2 (N := 8) (k := .u32) (v := y1.2) (m := (2 : Int)) rfl rfl rfl rfl hE rfl hS rfl rfl (by kernel_rfl) (by kernel_rfl) (kL (j := 2) hS rfl List.not_mem_nil) (fun a hE => ?_))
  refine wP 18 524283 4 (.int .u32 ((band .u32 (vget (y1.2) (Int.toNat ((1 : Int)))) (vget (y1.2) (Int.toNat ((2 : Int))))))) hE fun a hE => ?_
  refine wP 19 1048571 3 (.int .u32 ((bxor .u32 (bxor .u32 (band .u32 (vget (y1.2) (Int.toNat ((0 : Int)))) (vget (y1.2) (Int.toNat ((1 : Int))))) (band .u32 (vget (y1.2) (Int.toNat ((0 : Int)))) (vget (y1.2) (Int.toNat ((2 : Int)))))) (band .u32 (vget (y1.2) (Int.toNat ((1 : Int)))) (vget (y1.2) (Int.toNat ((2 : Int)))))))) hE fun a hE => ?_
  obtain ⟨r2, h4, hf⟩ := bs hf
  refine oC 2 1048575 2 rfl rfl rfl rfl hE rfl rfl rfl rfl (sha_turned.calls h4 (hS.st.fore (L := [])) ) fun a v w hR hE => ?_
  obtain ⟨D7, rfl, hS1⟩ := hR
  refine ⟨(hS1.keeps.sub (M' := []) trivial).mono (fun _ h => h), ?_⟩
  have le6 := hS1.dle
  have hS := hS.callR hS1 rfl .n
  refine wP 20 2097151 1 (.int .u32 ((IntKind.wrap .u32 (r2 + (bxor .u32 (bxor .u32 (band .u32 (vget (y1.2) (Int.toNat ((0 : Int)))) (vget (y1.2) (Int.toNat ((1 : Int))))) (band .u32 (vget (y1.2) (Int.toNat ((0 : Int)))) (vget (y1.2) (Int.toNat ((2 : Int)))))) (band .u32 (vget (y1.2) (Int.toNat ((1 : Int)))) (vget (y1.2) (Int.toNat ((2 : Int)))))))))) hE fun a hE => ?_
  refine wP 21 4194303 0 (.int .u32 ((IntKind.wrap .u32 (r2 + (bxor .u32 (bxor .u32 (band .u32 (vget (y1.2) (Int.toNat ((0 : Int)))) (vget (y1.2) (Int.toNat ((1 : Int))))) (band .u32 (vget (y1.2) (Int.toNat ((0 : Int)))) (vget (y1.2) (Int.toNat ((2 : Int)))))) (band .u32 (vget (y1.2) (Int.toNat ((1 : Int)))) (vget (y1.2) (Int.toNat ((2 : Int)))))))))) hE fun a hE => ?_
  refine doneG (by kernel_rfl) ?_
  refine sq ?_
  refine region_draw (fun j => Keeps (mfOf [(2, [b3])] j)) (by kernel_rfl) ?_
  have hS := hS.drew
  first | generalize w.drew = w at hS ⊢ | generalize w0.drew = w at hS ⊢
  refine tW 0 1 (fuel := 2) (by kernel_rfl) hE (fun M => tk_slicePA (N := 8) (k := .u32) (zl := 1) (zh := 8) rfl rfl rfl rfl hE rfl rfl (by kernel_rfl) ⟨_, rfl⟩ rfl (by kernel_rfl) (fun a hE => ?_))
  refine tW 1 3 (fuel := 1) (by kernel_rfl) hE (fun M => tk_slicePA (N := 8) (k := .u32) (zl := 0) (zh := 7) rfl rfl rfl rfl hE rfl rfl (by kernel_rfl) rfl ⟨_, rfl⟩ (by kernel_rfl) (fun a hE => ?_))
  have hS := hS.p (.d 2 (.d 0 (.d 1 .n)))
  obtain ⟨v1, hv2, hf⟩ := bs hf
  replace hv2 := Option.some.inj hv2
  refine oG 2 7 (fuel := 0) (by kernel_rfl) (op_copyPA (e := 35) (N := 8) (k := .u32) (v := y1.2) (cc := 7) (p := 1) (q := 0) rfl rfl rfl rfl rfl hE rfl hS rfl rfl (by kernel_rfl) (by kernel_rfl) (by kernel_rfl) (by kernel_rfl) (fun a w hkp hE hS => ⟨hkp.mono (fun _ h => h), ?_⟩))
  clear hkp
  rw [hv2] at hS
  refine doneG (by kernel_rfl) ?_
  refine sq (ra ?_)
  refine at_op (op_tk hE (tk_indexPA (N := 8) (k := .u32) (m := (4 : Int)) rfl rfl rfl rfl hE rfl rfl rfl (by kernel_rfl) (by kernel_rfl) (fun a hE => ?_))) rfl
  refine at_op (op_tk hE (tk_loadPA 0 (N := 8) (k := .u32) (v := v1) (m := (4 : Int)) rfl rfl rfl rfl hE rfl hS rfl rfl (by kernel_rfl) (by kernel_rfl) (kL (j := 0) hS rfl List.not_mem_nil) (fun a hE => ?_))) rfl
  refine sN 2 4 [(74, .int .u32 ((IntKind.wrap .u32 ((vget (v1) (Int.toNat ((4 : Int)))) + (IntKind.wrap .u32 ((IntKind.wrap .u32 ((IntKind.wrap .u32 ((IntKind.wrap .u32 ((vget (y1.2) (Int.toNat ((7 : Int)))) + r1)) + (bxor .u32 (band .u32 (vget (y1.2) (Int.toNat ((4 : Int)))) (vget (y1.2) (Int.toNat ((5 : Int))))) (band .u32 (bnot .u32 (vget (y1.2) (Int.toNat ((4 : Int))))) (vget (y1.2) (Int.toNat ((6 : Int)))))))) + (vget (gl_K) (Int.toNat (y1.1))))) + x3))))))] hE fun a hE => ?_
  refine at_op (op_tk hE (tk_indexPA (N := 8) (k := .u32) (m := (4 : Int)) rfl rfl rfl rfl hE rfl rfl rfl (by kernel_rfl) (by kernel_rfl) (fun a hE => ?_))) rfl
  obtain ⟨v3, hv3, hf⟩ := bs hf
  replace hv3 := Option.some.inj hv3
  refine at_op (op_storePA (N := 8) (k := .u32) (v := v1) (m := (4 : Int)) (z := (IntKind.wrap .u32 ((vget (v1) (Int.toNat ((4 : Int)))) + (IntKind.wrap .u32 ((IntKind.wrap .u32 ((IntKind.wrap .u32 ((IntKind.wrap .u32 ((vget (y1.2) (Int.toNat ((7 : Int)))) + r1)) + (bxor .u32 (band .u32 (vget (y1.2) (Int.toNat ((4 : Int)))) (vget (y1.2) (Int.toNat ((5 : Int))))) (band .u32 (bnot .u32 (vget (y1.2) (Int.toNat ((4 : Int))))) (vget (y1.2) (Int.toNat ((6 : Int)))))))) + (vget (gl_K) (Int.toNat (y1.1))))) + x3))))) rfl rfl rfl rfl hE hS rfl rfl (by kernel_rfl) (by kernel_rfl) (fun a w _ hE hS => ?_)) rfl
  rw [hv3] at hS
  refine ae ?_
  refine ra ?_
  refine sN 3 3 [(78, .int .u32 ((IntKind.wrap .u32 ((IntKind.wrap .u32 ((IntKind.wrap .u32 ((IntKind.wrap .u32 ((IntKind.wrap .u32 ((vget (y1.2) (Int.toNat ((7 : Int)))) + r1)) + (bxor .u32 (band .u32 (vget (y1.2) (Int.toNat ((4 : Int)))) (vget (y1.2) (Int.toNat ((5 : Int))))) (band .u32 (bnot .u32 (vget (y1.2) (Int.toNat ((4 : Int))))) (vget (y1.2) (Int.toNat ((6 : Int)))))))) + (vget (gl_K) (Int.toNat (y1.1))))) + x3)) + (IntKind.wrap .u32 (r2 + (bxor .u32 (bxor .u32 (band .u32 (vget (y1.2) (Int.toNat ((0 : Int)))) (vget (y1.2) (Int.toNat ((1 : Int))))) (band .u32 (vget (y1.2) (Int.toNat ((0 : Int)))) (vget (y1.2) (Int.toNat ((2 : Int)))))) (band .u32 (vget (y1.2) (Int.toNat ((1 : Int)))) (vget (y1.2) (Int.toNat ((2 : Int))))))))))))] hE fun a hE => ?_
  refine at_op (op_tk hE (tk_indexPA (N := 8) (k := .u32) (m := (0 : Int)) rfl rfl rfl rfl hE rfl rfl rfl (by kernel_rfl) (by kernel_rfl) (fun a hE => ?_))) rfl
  obtain ⟨v4, hv4, hf⟩ := bs hf
  replace hv4 := Option.some.inj hv4
  refine at_op (op_storePA (N := 8) (k := .u32) (v := v3) (m := (0 : Int)) (z := (IntKind.wrap .u32 ((IntKind.wrap .u32 ((IntKind.wrap .u32 ((IntKind.wrap .u32 ((IntKind.wrap .u32 ((vget (y1.2) (Int.toNat ((7 : Int)))) + r1)) + (bxor .u32 (band .u32 (vget (y1.2) (Int.toNat ((4 : Int)))) (vget (y1.2) (Int.toNat ((5 : Int))))) (band .u32 (bnot .u32 (vget (y1.2) (Int.toNat ((4 : Int))))) (vget (y1.2) (Int.toNat ((6 : Int)))))))) + (vget (gl_K) (Int.toNat (y1.1))))) + x3)) + (IntKind.wrap .u32 (r2 + (bxor .u32 (bxor .u32 (band .u32 (vget (y1.2) (Int.toNat ((0 : Int)))) (vget (y1.2) (Int.toNat ((1 : Int))))) (band .u32 (vget (y1.2) (Int.toNat ((0 : Int)))) (vget (y1.2) (Int.toNat ((2 : Int)))))) (band .u32 (vget (y1.2) (Int.toNat ((1 : Int)))) (vget (y1.2) (Int.toNat ((2 : Int))))))))))) rfl rfl rfl rfl hE hS rfl rfl (by kernel_rfl) (by kernel_rfl) (fun a w _ hE hS => ?_)) rfl
  rw [hv4] at hS
  refine ae ?_
  refine ra ?_
  refine sN 2 2 [(18, .int .i64 ((IntKind.wrap .i64 (y1.1 + (1 : Int)))))] hE fun a hE => ?_
  refine ae ?_
  have hS := hS.p (.d 1 (.d 2 (.d 0 .n)))
  exact ⟨((IntKind.wrap .i64 (y1.1 + (1 : Int))), v4), D7, hE.wk, hS, (le2 (le2 le1 le5) le6), hf⟩
 replace hf := cf hb hf
 refine wpIn_exit ?_
 obtain rfl := si hf
 exact ⟨y1.2, D4, hE.wk, hS, le1, rfl⟩
set_option maxRecDepth 100000 in
theorem sha_Sum.calls {K : Nat} {g w0 : World} {D0 : Snap} {x1 : (List (List Int))} {A2 : Option Addr} {c3 : Nat} {r : ((Vector Int 32))} (hf : sha_Sum.f K x1 = some r) (hS0 : St g w0 D0 []) (h4 : Sl (kdSlice (kdInt .u8)) D0 A2 c3 (x1)) (hG0 : Cell (kdArr .u32 8) D0 0 0 gl_First) (hG1 : Cell (kdArr .u32 64) D0 1 0 gl_K) :
  CallsIn (Fw none) 0 Tryd.prog 50 (List.toArray [.slice A2 (List.length (x1)) c3]) w0 (fun e w' => ∃ v, e = .returned v ∧ ∃ D1, v = .agg (List.toArray (acells .u8 32 (r))) ∧ Stp g w0 D0 [] w' D1 []) := by
 unfold sha_Sum.f at hf
 have hS := Stp.refl hS0
 clear hS0
 refine calls_bodyM (n := 38) Tryd.func50 rfl Tryd.ntmps50 rfl fun a hE => ?_
 have hE : Env a 38 [] [(0, .slice A2 (List.length (x1)) c3)] := hE
 refine sq (ra ?_)
 refine at_op (op_alloc (z := .agg (List.toArray (acells .u8 32 ((Vector.replicate 32 (0 : Int)))))) rfl rfl rfl rfl hE rfl hS (by kernel_rfl) (fun a b1 w _ hE hS => ?_)) rfl
 refine ae ?_
 refine sq (ra ?_)
 refine sN 1 1 [(8, .slice A2 (List.length (x1)) c3)] hE fun a hE => ?_
 obtain ⟨r1, h2, hf⟩ := bs hf
 refine aC rfl rfl rfl rfl hE rfl rfl rfl rfl (slices_Concat_byte_byte.calls h2 (hS.st.fore (L := [])) h4) fun a v w hR hE => ?_
 obtain ⟨D8, A6, c6, q2, rfl, hS1, h3⟩ := hR
 have le3 := hS1.dle
 have hS := hS.callR hS1 rfl (.c .n)
 refine sN 1 3 [(3, .slice A6 (List.length (r1)) c6)] hE fun a hE => ?_
 refine ae ?_
 refine sq (ra ?_)
 obtain ⟨cs1, C1, T1, fr1, hr1, hb1, hc1⟩ := (hG0.mono le3)
 obtain rfl := hr1
 refine at_op (op_tk hE (tk_loadX (off0 := 0) (off := 0) (c := acells .u32 8 (gl_First)) (.agg (List.toArray (acells .u32 8 (gl_First)))) rfl rfl rfl rfl hE rfl hS rfl hb1 hc1 (by kernel_rfl) (by kernel_rfl) (kD hS dn_nil) (fun a hE => ?_))) rfl
 refine at_op (op_alloc (z := .agg (List.toArray (acells .u32 8 ((Vector.replicate 8 (0 : Int)))))) rfl rfl rfl rfl hE rfl hS (by kernel_rfl) (fun a b3 w _ hE hS => ?_)) rfl
 refine at_op (op_store (v := .agg (List.toArray (acells .u32 8 (gl_First)))) (acells .u32 8 (gl_First)) rfl rfl rfl rfl hE hS rfl rfl (by kernel_rfl) (by kernel_rfl) (by kernel_rfl) (by kernel_rfl) (by kernel_rfl) (fun a w _ hE hS => ?_)) rfl
 refine ae ?_
 refine sq (sq (ra ?_))
 refine sN 3 3 [(11, .slice A6 (List.length (r1)) c6), (13, .int .i64 (((List.length (r1) : Nat) : Int)))] hE fun a hE => ?_
 obtain ⟨r3, h5, hf⟩ := bs hf
 refine aC rfl rfl rfl rfl hE rfl rfl rfl rfl (sha_Fill.calls h5 (hS.st.fore (L := [])) ) fun a v w hR hE => ?_
 obtain ⟨D9, A8, c8, q3, rfl, hS1, h6⟩ := hR
 have le4 := hS1.dle
 have hS := hS.callR hS1 rfl (.c .n)
 obtain ⟨D10, q4, le5, hS, h18, h7⟩ := hS.lent h6
 have hS := hS.p (.d 2 (.d 0 (.d 1 (.d 3 .n))))
 obtain ⟨l4, h8, hf⟩ := bs hf
 refine at_op (g_append (K := (kdInt .u8)) (e := 5) (bytes := 1) (l := r1) (m := r3) rfl rfl rfl rfl hE rfl hS rfl rfl (by kernel_rfl) rfl rfl (h3.mono (le2 le4 le5)) h7 h8 (fun a A9 c9 q5 w _ hE h9 hS => ?_)) rfl
 obtain ⟨D11, q6, le8, hS, h19, h10⟩ := hS.lent h9
 obtain ⟨r4, h11, hf⟩ := bs hf
 refine aC rfl rfl rfl rfl hE rfl rfl rfl rfl (sha_blocks.calls h11 (hS.st.fore (L := [])) h10) fun a v w hR hE => ?_
 obtain ⟨D6, b2, A7, c7, rfl, hS1, h12⟩ := hR
 have le9 := hS1.dle
 have hS := hS.callR hS1 rfl (.c .n)
 refine ae ?_
 refine wpIn_block ?_
 have hEo1 := hE
 refine range_in2 (captured := #[.pointer (some ⟨b2, 0, none⟩)]) hE hS rfl (by kernel_rfl) (fun fn1 l1 d662 w q1 hq1 hS => ?_)
 refine calls_body (n := 13) Tryd.func97 rfl Tryd.ntmps97 rfl fun a hE => ?_
 have hE : Env a 13 [] [(0, .func (.yield l1) #[] #[]), (1, .pointer (some ⟨b2, 0, none⟩))] := hE
 obtain ⟨s1, hf, hs1⟩ := bs hf
 have hS := hS.p (.d 6 (.d 5 (.d 2 (.d 0 (.d 1 .n)))))
 refine block_loop (fun a w => ∃ (z1 : (Vector Int 8) × (List Int)), ∃ A3, ∃ c2, ∃ D2, Env a 13 [] [] ∧ Stp g w0 D0 [] w D2 [bx b1 24 (acells .u8 32 ((Vector.replicate 32 (0 : Int)))), bx b3 112 (acells .u32 8 (z1.1)), bx b2 37 ([.slice A3 (List.length (z1.2)) c2]), q1 .ready none, dk d662] ∧ Snap.le D6 D2 ∧ Sl (kdInt .u8) D2 A3 c2 (z1.2) ∧ z1 = s1) (fun k a w => ∃ (y2 : (Vector Int 8) × (List Int)), ∃ A1, ∃ c1, ∃ D3, Env a 13 [] [(0, .func (.yield l1) #[] #[]), (1, .pointer (some ⟨b2, 0, none⟩))] ∧ Stp g w0 D0 [] w D3 [bx b1 24 (acells .u8 32 ((Vector.replicate 32 (0 : Int)))), bx b3 112 (acells .u32 8 (y2.1)), bx b2 37 ([.slice A1 (List.length (y2.2)) c1]), q1 .ready none, dk d662] ∧ Snap.le D6 D3 ∧ Sl (kdInt .u8) D3 A1 c1 (y2.2) ∧ sha_Sum_l1.l K k y2 = some s1) K ?_ ?_ ?_
 ·exact ⟨(gl_First, r4), A7, c7, D6, hE.wk, hS, lr, h12, hf⟩
 ·clear hE hS hf
  rintro a w ⟨z1, A3, c2, D2, hE, hS, le10, h20, rfl⟩
  have hf := hs1
  clear hs1
  refine ret_genN ([]) hE (by rw [show Tryd.f97.results.toList = [] from rfl]; rfl) ?_
  have hS := hS.p (.d 3 (.d 0 (.d 1 (.d 2 (.d 4 .n)))))
  refine range_done2 hq1 hS hEo1 (fun w a hS hE => ?_)
  refine sq (ra ?_)
  refine at_op (op_alloc (z := .agg (List.toArray (acells .u8 32 ((Vector.replicate 32 (0 : Int)))))) rfl rfl rfl rfl hE rfl hS (by kernel_rfl) (fun a b4 w _ hE hS => ?_)) rfl
  refine ae ?_
  refine sq (sq (ra ?_))
  refine sN 1 1 [(21, .int .i64 ((0 : Int)))] hE fun a hE => ?_
  refine ae ?_
  obtain ⟨s2, hf, hs2⟩ := bs hf
  have hS := hS.p (.d 1 (.d 2 (.d 0 (.d 4 .n))))
  refine block_loop (fun a w => ∃ (z2 : (Vector Int 32)), ∃ D5, Env a 38 [markD d662] [(2, .pointer (some ⟨b1, 0, none⟩)), (6, .pointer (some ⟨b4, 0, none⟩))] ∧ Stp g w0 D0 [] w D5 [bx b1 24 (acells .u8 32 ((Vector.replicate 32 (0 : Int)))), bx b4 24 (acells .u8 32 (z2)), dk d662] ∧ Snap.le D2 D5 ∧ z2 = s2) (fun k a w => ∃ (y1 : Int × (Vector Int 32)), ∃ D4, Env a 38 [markD d662] [(2, .pointer (some ⟨b1, 0, none⟩)), (4, .pointer (some ⟨b3, 0, none⟩)), (6, .pointer (some ⟨b4, 0, none⟩)), (21, .int .i64 (y1.1))] ∧ Stp g w0 D0 [] w D4 [bx b1 24 (acells .u8 32 ((Vector.replicate 32 (0 : Int)))), bx b3 112 (acells .u32 8 (z1.1)), bx b4 24 (acells .u8 32 (y1.2)), dk d662] ∧ Snap.le D2 D4 ∧ sha_Sum_l2.l K z1 k y1 = some s2) K ?_ ?_ ?_
  ·exact ⟨((0 : Int), (Vector.replicate 32 (0 : Int))), D2, hE.wk, hS, lr, hf⟩
  ·clear hE hS hf
   rintro a w ⟨z2, D5, hE, hS, le11, rfl⟩
   have hf := hs2
   clear hs2
   refine sq (ra ?_)
   refine sM 1 1 [1] [(37, .agg (List.toArray (acells .u8 32 (z2))))] hE hS fun a hE => ?_
   refine at_op (op_store (v := .agg (List.toArray (acells .u8 32 (z2)))) (acells .u8 32 (z2)) rfl rfl rfl rfl hE hS rfl rfl (by kernel_rfl) (by kernel_rfl) (by kernel_rfl) (by kernel_rfl) (by kernel_rfl) (fun a w _ hE hS => ?_)) rfl
   refine ae ?_
   refine wpIn_ret ?_
   have hS := hS.p (.d 2 (.d 0 (.d 1 .n)))
   obtain rfl := si hf
   refine ret_ ?_
   refine ret_M1 ([.agg (List.toArray (acells .u8 32 (z2)))]) hE hS (fun w hS => ⟨by rw [show Tryd.f50.results.toList = [.cell 2 24] from rfl]; exact ⟨_, _, _, 0, _, _, rfl, rfl, hS.heapAt (j := 0) rfl, by kernel_rfl, rfl⟩, ?_⟩)
   have hS := hS.p .n
   exact ⟨_, rfl, D5, rfl, hS⟩
  clear hE hS hf
  rintro k a w ⟨y1, D4, hE, hS, le6, hf⟩
  obtain ⟨k, rfl, hf⟩ := sha_Sum_l2.some _ hf
  refine ⟨k, rfl, ?_⟩
  unfold sha_Sum_l2.b at hf
  refine sq (ra ?_)
  refine sN 1 1 [(22, .bool ((decide (y1.1 < (32 : Int)))))] hE fun a hE => ?_
  refine ae ?_
  refine sq ?_
  refine cond_split hE (b := (decide (y1.1 < (32 : Int)))) rfl (fun hb => ?_) (fun hb => ?_)
  ·replace hf := ct hb hf
   refine wpIn_skip ?_
   refine sq ?_
   refine wpIn_block ?_
   refine sq (ra ?_)
   refine sN 2 2 [(7, .int .i64 (y1.1))] hE fun a hE => ?_
   refine ae ?_
   refine ra ?_
   refine sN 3 3 [(24, .int .i64 (y1.1)), (26, .int .i64 ((IntKind.wrap .i64 (Int.tdiv y1.1 4))))] hE fun a hE => ?_
   obtain ⟨hm868, hf⟩ := chk_some hf
   refine at_op (op_tk hE (tk_indexPA (N := 8) (k := .u32) (m := (IntKind.wrap .i64 (Int.tdiv y1.1 4))) rfl rfl rfl rfl hE rfl rfl rfl (by kernel_rfl) hm868 (fun a hE => ?_))) rfl
   refine at_op (op_tk hE (tk_loadPA 1 (N := 8) (k := .u32) (v := z1.1) (m := (IntKind.wrap .i64 (Int.tdiv y1.1 4))) rfl rfl rfl rfl hE rfl hS rfl rfl (by kernel_rfl) hm868 (kL (j := 1) hS rfl List.not_mem_nil) (fun a hE => ?_))) rfl
   refine sN 4 9 [(32, .int .i64 ((IntKind.wrap .i64 ((24 : Int) - (IntKind.wrap .i64 ((8 : Int) * (Int.tmod y1.1 4)))))))] hE fun a hE => ?_
   obtain ⟨hq2, hf⟩ := chk_not hf
   refine at_op (op_tk hE (tk_bin (r := .int .u32 ((Int.fdiv (vget (z1.1) (Int.toNat ((IntKind.wrap .i64 (Int.tdiv y1.1 4))))) (2 ^ (min (Int.toNat (IntKind.wrap .i64 ((24 : Int) - (IntKind.wrap .i64 ((8 : Int) * (Int.tmod y1.1 4)))))) 32))))) rfl rfl rfl rfl hE rfl rfl rfl (shr_run hq2) (fun a hE => ?_))) rfl
   refine sN 1 11 [(34, .int .u8 ((IntKind.wrap .u8 (Int.fdiv (vget (z1.1) (Int.toNat ((IntKind.wrap .i64 (Int.tdiv y1.1 4))))) (2 ^ (min (Int.toNat (IntKind.wrap .i64 ((24 : Int) - (IntKind.wrap .i64 ((8 : Int) * (Int.tmod y1.1 4)))))) 32))))))] hE fun a hE => ?_
   obtain ⟨hm870, hf⟩ := chk_some hf
   refine at_op (op_tk hE (tk_indexPA (N := 32) (k := .u8) (m := y1.1) rfl rfl rfl rfl hE rfl rfl rfl (by kernel_rfl) hm870 (fun a hE => ?_))) rfl
   have hS := hS.p (.d 2 (.d 0 (.d 1 (.d 3 .n))))
   obtain ⟨v1, hv1, hf⟩ := bs hf
   replace hv1 := Option.some.inj hv1
   refine at_op (op_storePA (N := 32) (k := .u8) (v := y1.2) (m := y1.1) (z := (IntKind.wrap .u8 (Int.fdiv (vget (z1.1) (Int.toNat ((IntKind.wrap .i64 (Int.tdiv y1.1 4))))) (2 ^ (min (Int.toNat (IntKind.wrap .i64 ((24 : Int) - (IntKind.wrap .i64 ((8 : Int) * (Int.tmod y1.1 4)))))) 32))))) rfl rfl rfl rfl hE hS rfl rfl (by kernel_rfl) hm870 (fun a w _ hE hS => ?_)) rfl
   rw [hv1] at hS
   refine ae ?_
   refine ra ?_
   refine sN 2 2 [(21, .int .i64 ((IntKind.wrap .i64 (y1.1 + (1 : Int)))))] hE fun a hE => ?_
   refine ae ?_
   have hS := hS.p (.d 1 (.d 2 (.d 0 (.d 3 .n))))
   exact ⟨((IntKind.wrap .i64 (y1.1 + (1 : Int))), v1), D4, hE.wk, hS, le6, hf⟩
  replace hf := cf hb hf
  refine wpIn_exit ?_
  obtain rfl := si hf
  have hS := hS.p (.d 0 (.d 2 (.d 3 .n)))
  exact ⟨y1.2, D4, hE.wk, hS, le6, rfl⟩
 clear hE hS hf
 rintro k a w ⟨y2, A1, c1, D3, hE, hS, le1, h1, hf⟩
 obtain ⟨k, rfl, hf⟩ := sha_Sum_l1.some hf
 refine ⟨k, rfl, ?_⟩
 unfold sha_Sum_l1.b at hf
 refine sq (sq (ra ?_))
 refine sM 3 3 [2] [(5, .bool ((decide ((64 : Int) ≤ ((List.length (y2.2) : Nat) : Int)))))] hE hS fun a hE => ?_
 refine ae ?_
 refine cond_split hE (b := (decide ((64 : Int) ≤ ((List.length (y2.2) : Nat) : Int)))) rfl (fun hb => ?_) (fun hb => ?_)
 ·replace hf := ct hb hf
  refine wpIn_skip ?_
  refine sq ?_
  refine wpIn_block ?_
  refine sq (ra ?_)
  refine sM 2 2 [2] [(8, .func (.yield l1) #[] #[]), (9, .slice A1 (List.length (y2.2)) c1)] hE hS fun a hE => ?_
  obtain ⟨l2, h13, hf⟩ := bs hf
  refine at_op (op_tk hE (g_slice (K := (kdInt .u8)) (e := 5) (by_ := 1) (zl := 1) rfl rfl rfl rfl hE rfl rfl (by kernel_rfl) rfl ⟨_, rfl⟩ h1 h13 (fun a A4 c4 hE h14 => ?_))) rfl
  have hS := hS.p (.d 3 (.d 0 (.d 1 (.d 2 (.d 4 .n)))))
  refine at_op (op_yield2 (args := [.slice A4 (List.length (l2)) c4]) hq1 rfl rfl rfl rfl hE rfl rfl rfl hS hEo1 rfl (by kernel_rfl) (fun a hE => ?_)) rfl
  refine ra ?_
  refine sN 1 1 [(5, .slice A4 (List.length (l2)) c4)] hE fun a hE => ?_
  refine ae ?_
  refine begin_in2 hq1 hS (fun w hS => ?_)
  refine wpIn_block ?_
  refine ra ?_
  refine sM 2 2 [2] [(18, .agg (List.toArray (acells .u32 8 (y2.1)))), (19, .slice A4 (List.length (l2)) c4)] hE hS fun a hE => ?_
  obtain ⟨r2, h15, hf⟩ := bs hf
  refine aC rfl rfl rfl rfl hE rfl rfl rfl rfl (sha_Turn.calls h15 (hS.st.fore (L := [])) h14 (hG1.mono (le2 (le2 (le2 (le2 (le2 le3 le4) le5) le8) le9) le1))) fun a v w hR hE => ?_
  obtain ⟨D7, rfl, hS1⟩ := hR
  have le7 := hS1.dle
  have hS := hS.callR hS1 rfl .n
  have hS := hS.p (.d 2 (.d 0 (.d 1 (.d 3 (.d 4 .n)))))
  refine at_op (op_store (v := .agg (List.toArray (acells .u32 8 (r2)))) (acells .u32 8 (r2)) rfl rfl rfl rfl hE hS rfl rfl (by kernel_rfl) (by kernel_rfl) (by kernel_rfl) (by kernel_rfl) (by kernel_rfl) (fun a w _ hE hS => ?_)) rfl
  refine ae ?_
  have hS := hS.p (.d 1 (.d 0 (.d 2 (.d 3 (.d 4 .n)))))
  refine round_normal2 (a1 := a) hq1 hS (fun w a hS hE => ?_)
  refine sN 1 5 [(12, .bool false)] hE fun a hE => ?_
  refine ae ?_
  refine wpIn_cond_false (hE.eval rfl) ?_
  refine wpIn_skip ?_
  refine ra ?_
  refine sM 1 1 [3] [(6, .slice A1 (List.length (y2.2)) c1)] hE hS fun a hE => ?_
  obtain ⟨l3, h16, hf⟩ := bs hf
  refine at_op (op_tk hE (g_slice (K := (kdInt .u8)) (e := 5) (by_ := 1) (zl := 1) rfl rfl rfl rfl hE rfl rfl (by kernel_rfl) ⟨_, rfl⟩ rfl (h1.mono le7) h16 (fun a A5 c5 hE h17 => ?_))) rfl
  have hS := hS.p (.d 3 (.d 0 (.d 1 (.d 2 (.d 4 .n)))))
  refine at_op (op_store (v := .slice A5 (List.length (l3)) c5) ([.slice A5 (List.length (l3)) c5]) rfl rfl rfl rfl hE hS rfl rfl (by kernel_rfl) (by kernel_rfl) (by kernel_rfl) (by kernel_rfl) (by kernel_rfl) (fun a w _ hE hS => ?_)) rfl
  refine ae ?_
  have hS := hS.p (.d 3 (.d 2 (.d 0 (.d 1 (.d 4 .n)))))
  exact ⟨(r2, l3), A5, c5, D7, hE.wk, hS, (le2 le1 le7), h17, hf⟩
 replace hf := cf hb hf
 refine wpIn_exit ?_
 obtain rfl := si hf
 exact ⟨(y2.1, y2.2), A1, c1, D3, hE.wk, hS, le1, h1, rfl⟩
set_option maxRecDepth 100000 in
theorem mac_Of.calls {K : Nat} {g w0 : World} {D0 : Snap} {x1 : Int} {x2 : (List (List Int))} {A3 : Option Addr} {c4 : Nat} {r : ((Vector Int 32))} (hf : mac_Of.f K x1 x2 = some r) (hS0 : St g w0 D0 []) (h5 : Sl (kdSlice (kdInt .u8)) D0 A3 c4 (x2)) (hG0 : Cell (kdArr .u32 8) D0 0 0 gl_First) (hG1 : Cell (kdArr .u32 64) D0 1 0 gl_K) :
  CallsIn (Fw none) 0 Tryd.prog 68 (List.toArray [.int .i64 (x1), .slice A3 (List.length (x2)) c4]) w0 (fun e w' => ∃ v, e = .returned v ∧ ∃ D1, v = .agg (List.toArray (acells .u8 32 (r))) ∧ Stp g w0 D0 [] w' D1 []) := by
 unfold mac_Of.f at hf
 have hS := Stp.refl hS0
 clear hS0
 refine calls_body (n := 12) Tryd.func68 rfl Tryd.ntmps68 rfl fun a hE => ?_
 have hE : Env a 12 [] [(0, .int .i64 (x1)), (1, .slice A3 (List.length (x2)) c4)] := hE
 refine sq (ra ?_)
 refine at_op (op_alloc (z := .agg (List.toArray (acells .u8 32 ((Vector.replicate 32 (0 : Int)))))) rfl rfl rfl rfl hE rfl hS (by kernel_rfl) (fun a b46 w _ hE hS => ?_)) rfl
 refine ae ?_
 refine sq (ra ?_)
 refine sN 2 2 [(6, .int .u8 ((IntKind.wrap .u8 x1)))] hE fun a hE => ?_
 refine at_op (op_buildSlice (K := (kdInt .u8)) (e := 5) (cs := [.int .u8 ((IntKind.wrap .u8 x1))] ++ []) ([(IntKind.wrap .u8 x1)] : List Int) rfl rfl rfl rfl hE rfl hS rfl (by kernel_rfl) rfl rfl (by exact ⟨_, _, rfl, rfl, rfl⟩) (fun a A48 q49 w _ hE h50 hS => ?_)) rfl
 refine sN 1 4 [(8, .slice A3 (List.length (x2)) c4)] hE fun a hE => ?_
 obtain ⟨r52, h53, hf⟩ := bs hf
 refine aC rfl rfl rfl rfl hE rfl rfl rfl rfl (mac_joined_byte.calls h53 (hS.st.fore (L := [])) h5) fun a v w hR hE => ?_
 obtain ⟨D54, A56, c57, q58, rfl, hS1, h59⟩ := hR
 have le61 := hS1.dle
 have hS := hS.callR hS1 rfl (.c .n)
 have hS := hS.p (.d 1 (.d 0 (.d 2 .n)))
 obtain ⟨D62, q65, le63, hS, h66, h64⟩ := hS.lent (h50.mono le61)
 have hS := hS.p (.d 1 (.d 0 (.d 2 .n)))
 obtain ⟨D67, q70, le68, hS, h71, h69⟩ := hS.lent (h59.mono le63)
 refine at_op (op_buildSlice (K := (kdSlice (kdInt .u8))) (e := 37) (cs := [.slice A48 (List.length (([(IntKind.wrap .u8 x1)] : List Int))) 1] ++ ([.slice A56 (List.length (r52)) c57] ++ [])) ([([(IntKind.wrap .u8 x1)] : List Int), r52] : List (List Int)) rfl rfl rfl rfl hE rfl hS rfl (by kernel_rfl) rfl rfl (by exact ⟨_, _, rfl, (kslice (h64.mono le68)), ⟨_, _, rfl, (kslice h69), rfl⟩⟩) (fun a A72 q73 w _ hE h74 hS => ?_)) rfl
 obtain ⟨D76, q79, le77, hS, h80, h78⟩ := hS.lent h74
 obtain ⟨r81, h82, hf⟩ := bs hf
 refine aC rfl rfl rfl rfl hE rfl rfl rfl rfl (sha_Sum.calls h82 (hS.st.fore (L := [])) h78 (hG0.mono (le2 (le2 (le2 le61 le63) le68) le77)) (hG1.mono (le2 (le2 (le2 le61 le63) le68) le77))) fun a v w hR hE => ?_
 obtain ⟨D83, rfl, hS1⟩ := hR
 have le85 := hS1.dle
 have hS := hS.callR hS1 rfl .n
 have hS := hS.p (.d 3 (.d 0 (.d 1 (.d 2 .n))))
 refine at_op (op_store (v := .agg (List.toArray (acells .u8 32 (r81)))) (acells .u8 32 (r81)) rfl rfl rfl rfl hE hS rfl rfl (by kernel_rfl) (by kernel_rfl) (by kernel_rfl) (by kernel_rfl) (by kernel_rfl) (fun a w _ hE hS => ?_)) rfl
 refine ae ?_
 refine wpIn_ret ?_
 obtain rfl := si hf
 refine ret_ ?_
 refine ret_gen ([.agg (List.toArray (acells .u8 32 (r81)))]) hE (by rw [show Tryd.f68.results.toList = [.cell 4 24] from rfl]; exact ⟨_, _, _, 0, _, _, rfl, rfl, hS.heapAt (j := 0) rfl, by kernel_rfl, rfl⟩) ?_
 have hS := hS.p .n
 exact ⟨_, rfl, D83, rfl, hS⟩
set_option maxRecDepth 100000 in
theorem rec_Com.calls {K : Nat} {g w0 : World} {D0 : Snap} {x1 : T_api_Rec} {A2 : Option Addr} {c3 : Nat} {A5 : Option Addr} {c6 : Nat} {r : ((Vector Int 32))} (hf : rec_Com.f K x1 = some r) (hS0 : St g w0 D0 []) (h4 : Sl kd_T_api_Step D0 A2 c3 (x1.fSteps)) (h7 : Sl (kdInt .u8) D0 A5 c6 (x1.fData)) (hG0 : Cell (kdArr .u32 8) D0 0 0 gl_First) (hG1 : Cell (kdArr .u32 64) D0 1 0 gl_K) :
  CallsIn (Fw none) 0 Tryd.prog 38 (List.toArray [.agg (List.toArray (c_T_api_Rec (x1) A2 c3 A5 c6))]) w0 (fun e w' => ∃ v, e = .returned v ∧ ∃ D1, v = .agg (List.toArray (acells .u8 32 (r))) ∧ Stp g w0 D0 [] w' D1 []) := by
 unfold rec_Com.f at hf
 have hS := Stp.refl hS0
 clear hS0
 refine calls_body (n := 24) Tryd.func38 rfl Tryd.ntmps38 rfl fun a hE => ?_
 have hE : Env a 24 [] [(0, .agg (List.toArray (c_T_api_Rec (x1) A2 c3 A5 c6)))] := hE
 refine sq (ra ?_)
 refine at_op (op_box rfl rfl rfl rfl hE rfl hS rfl (fun a b1 w _ hE hS => ?_)) rfl
 refine at_op (op_alloc (z := .agg (List.toArray (acells .u8 32 ((Vector.replicate 32 (0 : Int)))))) rfl rfl rfl rfl hE rfl hS (by kernel_rfl) (fun a b2 w _ hE hS => ?_)) rfl
 refine ae ?_
 refine sq ?_
 refine wpIn_block ?_
 obtain ⟨j1, hj1, hf⟩ := jn_elim hf
 refine seq_join (fun a w => ∃ (y1 : Bool), ∃ D2, Env a 24 [] [(1, .pointer (some ⟨b1, 0, none⟩)), (2, .pointer (some ⟨b2, 0, none⟩)), (3, .bool (y1))] ∧ Stp g w0 D0 [] w D2 [bx b1 39 (c_T_api_Rec (x1) A2 c3 A5 c6), bx b2 24 (acells .u8 32 ((Vector.replicate 32 (0 : Int))))] ∧ Snap.le D0 D2 ∧ j1 y1 = some r) ?_ ?_
 ·clear hj1
  refine ra ?_
  refine sM 1 1 [1] [(4, .agg (List.toArray (c_T_api_Rec (x1) A2 c3 A5 c6)))] hE hS fun a hE => ?_
  obtain ⟨r2, h1, hf⟩ := bs hf
  refine aC rfl rfl rfl rfl hE rfl rfl rfl rfl (rec_Right.calls h1 (hS.st.fore (L := [])) h4 h7) fun a v w hR hE => ?_
  obtain ⟨D3, rfl, hS1⟩ := hR
  have le4 := hS1.dle
  have hS := hS.callR hS1 rfl .n
  refine sN 2 4 [(7, .bool ((!r2)))] hE fun a hE => ?_
  refine bo ((!r2)) (fun hb => ?_) fun hb => ?_
  ·replace hf := cf hb hf
   have hE := hE.know (t := 7) rfl hb
   refine sM 5 9 [1] [(3, .bool ((!decide (x1.fKind = (1 : Int)))))] hE hS fun a hE => ?_
   refine ae ?_
   have hS := hS.p (.d 1 (.d 0 .n))
   exact ⟨(!decide (x1.fKind = (1 : Int))), D3, hE.wk, hS, le4, hf⟩
  replace hf := ct hb hf
  have hE := hE.know (t := 7) rfl hb
  refine sN 5 9 [(3, .bool true)] hE fun a hE => ?_
  refine ae ?_
  have hS := hS.p (.d 1 (.d 0 .n))
  exact ⟨true, D3, hE.wk, hS, le4, hf⟩
 clear hE hS
 rintro a w ⟨y1, D2, hE, hS, le1, hf⟩
 replace hf := hj1 _ hf
 clear hj1
 refine cond_split hE (b := y1) rfl (fun hb => ?_) (fun hb => ?_)
 ·replace hf := ct hb hf
  refine sq (ra ?_)
  refine at_op (op_tk hE (tk_build (acells .u8 32 ((vofL 32 [(0 : Int), (0 : Int), (0 : Int), (0 : Int), (0 : Int), (0 : Int), (0 : Int), (0 : Int), (0 : Int), (0 : Int), (0 : Int), (0 : Int), (0 : Int), (0 : Int), (0 : Int), (0 : Int), (0 : Int), (0 : Int), (0 : Int), (0 : Int), (0 : Int), (0 : Int), (0 : Int), (0 : Int), (0 : Int), (0 : Int), (0 : Int), (0 : Int), (0 : Int), (0 : Int), (0 : Int), (0 : Int)]))) rfl rfl rfl rfl hE rfl rfl (by kernel_rfl) (fun a hE => ?_))) rfl
  have hS := hS.p (.d 1 (.d 0 .n))
  refine at_op (op_store (v := .agg (List.toArray (acells .u8 32 ((vofL 32 [(0 : Int), (0 : Int), (0 : Int), (0 : Int), (0 : Int), (0 : Int), (0 : Int), (0 : Int), (0 : Int), (0 : Int), (0 : Int), (0 : Int), (0 : Int), (0 : Int), (0 : Int), (0 : Int), (0 : Int), (0 : Int), (0 : Int), (0 : Int), (0 : Int), (0 : Int), (0 : Int), (0 : Int), (0 : Int), (0 : Int), (0 : Int), (0 : Int), (0 : Int), (0 : Int), (0 : Int), (0 : Int)]))))) (acells .u8 32 ((vofL 32 [(0 : Int), (0 : Int), (0 : Int), (0 : Int), (0 : Int), (0 : Int), (0 : Int), (0 : Int), (0 : Int), (0 : Int), (0 : Int), (0 : Int), (0 : Int), (0 : Int), (0 : Int), (0 : Int), (0 : Int), (0 : Int), (0 : Int), (0 : Int), (0 : Int), (0 : Int), (0 : Int), (0 : Int), (0 : Int), (0 : Int), (0 : Int), (0 : Int), (0 : Int), (0 : Int), (0 : Int), (0 : Int)]))) rfl rfl rfl rfl hE hS rfl rfl (by kernel_rfl) (by kernel_rfl) (by kernel_rfl) (by kernel_rfl) (by kernel_rfl) (fun a w _ hE hS => ?_)) rfl
  refine ae ?_
  refine wpIn_ret ?_
  obtain rfl := si hf
  refine ret_ ?_
  refine ret_gen ([.agg (List.toArray (acells .u8 32 ((vofL 32 [(0 : Int), (0 : Int), (0 : Int), (0 : Int), (0 : Int), (0 : Int), (0 : Int), (0 : Int), (0 : Int), (0 : Int), (0 : Int), (0 : Int), (0 : Int), (0 : Int), (0 : Int), (0 : Int), (0 : Int), (0 : Int), (0 : Int), (0 : Int), (0 : Int), (0 : Int), (0 : Int), (0 : Int), (0 : Int), (0 : Int), (0 : Int), (0 : Int), (0 : Int), (0 : Int), (0 : Int), (0 : Int)]))))]) hE (by rw [show Tryd.f38.results.toList = [.cell 2 24] from rfl]; exact ⟨_, _, _, 0, _, _, rfl, rfl, hS.heapAt (j := 0) rfl, by kernel_rfl, rfl⟩) ?_
  have hS := hS.p .n
  exact ⟨_, rfl, D2, rfl, hS⟩
 replace hf := cf hb hf
 refine sq (ra ?_)
 refine sM 3 3 [0] [(13, .bool (x1.fGone))] hE hS fun a hE => ?_
 refine ae ?_
 refine cond_split hE (b := x1.fGone) rfl (fun hb => ?_) (fun hb => ?_)
 ·replace hf := ct hb hf
  refine sq (ra ?_)
  refine sM 2 2 [0] [(17, .agg (List.toArray (acells .u8 32 (x1.fCom))))] hE hS fun a hE => ?_
  have hS := hS.p (.d 1 (.d 0 .n))
  refine at_op (op_store (v := .agg (List.toArray (acells .u8 32 (x1.fCom)))) (acells .u8 32 (x1.fCom)) rfl rfl rfl rfl hE hS rfl rfl (by kernel_rfl) (by kernel_rfl) (by kernel_rfl) (by kernel_rfl) (by kernel_rfl) (fun a w _ hE hS => ?_)) rfl
  refine ae ?_
  refine wpIn_ret ?_
  obtain rfl := si hf
  refine ret_ ?_
  refine ret_gen ([.agg (List.toArray (acells .u8 32 (x1.fCom)))]) hE (by rw [show Tryd.f38.results.toList = [.cell 2 24] from rfl]; exact ⟨_, _, _, 0, _, _, rfl, rfl, hS.heapAt (j := 0) rfl, by kernel_rfl, rfl⟩) ?_
  have hS := hS.p .n
  exact ⟨_, rfl, D2, rfl, hS⟩
 replace hf := cf hb hf
 refine wpIn_skip ?_
 refine sq ?_
 refine region_draw (fun j => Keeps (mfOf [(6, [b2])] j)) (by kernel_rfl) ?_
 have hS := hS.drew
 first | generalize w.drew = w at hS ⊢ | generalize w0.drew = w at hS ⊢
 refine wF 0 1 6 44 24 44 hE fun a hE => ?_
 obtain ⟨D4, le3, e1, hS⟩ := hS.freezeB
 have hc1 : Cell kd_T_api_Rec D4 b1 0 (x1) := ⟨c_T_api_Rec (x1) A2 c3 A5 c6, _, _, _, (kd_T_api_Rec_mk (D := D4) (x := x1) rfl rfl rfl rfl rfl rfl rfl rfl rfl rfl rfl (kslice (h4.mono (le2 le1 le3))) (kslice (h7.mono (le2 le1 le3))) rfl rfl rfl), e1, fun j u hu => by show (List.toArray (c_T_api_Rec (x1) A2 c3 A5 c6))[0 + j]? = some u; simpa using hu⟩
 obtain ⟨l1, h2, hf⟩ := bs hf
 refine tW 1 3 (fuel := 5) (by kernel_rfl) hE (fun M => tk_sliceArrAt (kk := .u8) (e := 5) (v := x1.fSalt) (off := 44) (cs := c_T_api_Rec (x1) A2 c3 A5 c6) rfl rfl rfl rfl hE rfl rfl (by kernel_rfl) rfl rfl e1 (by kernel_rfl) rfl h2 (fun a A3 c2 hE h3 => ?_))
 refine tW 2 7 (fuel := 4) (by kernel_rfl) hE (fun M => g_fieldAddr (fo := 43) (ft := 37) (0 + 43) rfl rfl rfl rfl hE rfl rfl (by kernel_rfl) rfl (fun a hE => ?_))
 obtain ⟨cs1, C1, T1, fr1, hr1, hb1, hc2⟩ := id hc1
 obtain ⟨A4, c4, A1, c1, rfl, h10, h5⟩ := kd_T_api_Rec_el hr1
 refine tT 3 15 (fuel := 3) (by kernel_rfl) hE (tk_loadX (off0 := 0) (off := 43) (c := c_T_api_Rec (x1) A4 c4 A1 c1) (.slice A1 (List.length (x1.fData)) c1) rfl rfl rfl rfl hE rfl hS rfl hb1 hc2 (by kernel_rfl) (by kernel_rfl) (kD hS dn_nil) (fun a hE => ?_))
 refine oG 4 31 (fuel := 2) (by kernel_rfl) (op_buildSlice (K := (kdSlice (kdInt .u8))) (e := 37) (cs := [.slice A3 (List.length (l1)) c2] ++ ([.slice A1 (List.length (x1.fData)) c1] ++ [])) ([l1, x1.fData] : List (List Int)) rfl rfl rfl rfl hE rfl hS rfl (by kernel_rfl) rfl rfl (by exact ⟨_, _, rfl, (kslice h3), ⟨_, _, rfl, (kslice h5), rfl⟩⟩) (fun a A6 q1 w hkp hE h6 hS => ⟨hkp.mono (fun _ h => absurd h List.not_mem_nil), ?_⟩))
 clear hkp
 obtain ⟨D6, q2, le5, hS, h11, h8⟩ := hS.lent h6
 obtain ⟨r1, h9, hf⟩ := bs hf
 refine oC 5 63 1 rfl rfl rfl rfl hE rfl rfl rfl rfl (mac_Of.calls h9 (hS.st.fore (L := [])) h8 (hG0.mono (le2 (le2 le1 le3) le5)) (hG1.mono (le2 (le2 le1 le3) le5))) fun a v w hR hE => ?_
 obtain ⟨D5, rfl, hS1⟩ := hR
 refine ⟨(hS1.keeps.sub (M' := []) trivial).mono (fun _ h => h), ?_⟩
 have le6 := hS1.dle
 have hS := hS.callR hS1 rfl .n
 have hS := hS.p (.d 1 (.d 0 .n))
 refine oG 6 127 (fuel := 0) (by kernel_rfl) (op_store (v := .agg (List.toArray (acells .u8 32 (r1)))) (acells .u8 32 (r1)) rfl rfl rfl rfl hE hS rfl rfl (by kernel_rfl) (by kernel_rfl) (by kernel_rfl) (by kernel_rfl) (by kernel_rfl) (fun a w hkp hE hS => ⟨hkp.mono (fun _ h => h), ?_⟩))
 clear hkp
 refine doneG (by kernel_rfl) ?_
 refine wpIn_ret ?_
 obtain rfl := si hf
 refine ret_ ?_
 refine ret_gen ([.agg (List.toArray (acells .u8 32 (r1)))]) hE (by rw [show Tryd.f38.results.toList = [.cell 2 24] from rfl]; exact ⟨_, _, _, 0, _, _, rfl, rfl, hS.heapAt (j := 0) rfl, by kernel_rfl, rfl⟩) ?_
 have hS := hS.p .n
 exact ⟨_, rfl, D5, rfl, hS⟩
set_option maxRecDepth 100000 in
theorem rec_Sealed_1.calls {K : Nat} {g w0 : World} {D0 : Snap} {x3 : T_api_Rec} {b1 : Nat} {A4 : Option Addr} {c5 : Nat} {A7 : Option Addr} {c8 : Nat} {r : ((List Int))} (hf : rec_Sealed_1.f K x3 = some r) (hS0 : St g w0 D0 [bx b1 39 (c_T_api_Rec (x3) A4 c5 A7 c8)]) (h6 : Sl kd_T_api_Step D0 A4 c5 (x3.fSteps)) (h9 : Sl (kdInt .u8) D0 A7 c8 (x3.fData)) (hG0 : Cell (kdArr .u32 8) D0 0 0 gl_First) (hG1 : Cell (kdArr .u32 64) D0 1 0 gl_K) :
  CallsIn (Fw none) 0 Tryd.prog 56 (List.toArray [.pointer (some ⟨b1, 0, none⟩)]) w0 (fun e w' => ∃ v, e = .returned v ∧ ∃ (D1 : Snap) (A25 : Option Addr) (c26 : Nat) (q27 : Blk), v = .slice A25 (List.length (r)) c26 ∧ Stp g w0 D0 [bx b1 39 (c_T_api_Rec (x3) A4 c5 A7 c8)] w' D1 [bx b1 39 (c_T_api_Rec (x3) A4 c5 A7 c8), q27] ∧ OwnD (kdInt .u8) 5 D1 A25 c26 (r) q27) := by
 unfold rec_Sealed_1.f at hf
 have hS := Stp.refl hS0
 clear hS0
 refine calls_body (n := 5) Tryd.func56 rfl Tryd.ntmps56 rfl fun a hE => ?_
 have hE : Env a 5 [] [(0, .pointer (some ⟨b1, 0, none⟩))] := hE
 refine sq (ra ?_)
 refine sN 1 1 [(1, .slice none 0 0)] hE fun a hE => ?_
 refine ae ?_
 refine sq (ra ?_)
 refine sM 1 1 [0] [(2, .agg (List.toArray (c_T_api_Rec (x3) A4 c5 A7 c8)))] hE hS fun a hE => ?_
 obtain ⟨r30, h31, hf⟩ := bs hf
 refine aC rfl rfl rfl rfl hE rfl rfl rfl rfl (rec_Com.calls h31 (hS.st.fore (L := [])) h6 h9 hG0 hG1) fun a v w hR hE => ?_
 obtain ⟨D32, rfl, hS1⟩ := hR
 have le34 := hS1.dle
 have hS := hS.callR hS1 rfl .n
 obtain ⟨r35, h36, hf⟩ := bs hf
 refine aC rfl rfl rfl rfl hE rfl rfl rfl rfl (wire_Hash.calls h36 (hS.st.fore (L := [])) ) fun a v w hR hE => ?_
 obtain ⟨D37, A39, c40, q41, rfl, hS1, h42⟩ := hR
 have le44 := hS1.dle
 have hS := hS.callR hS1 rfl (.c .n)
 refine sN 1 4 [(1, .slice A39 (List.length (r35)) c40)] hE fun a hE => ?_
 refine ae ?_
 refine wpIn_ret ?_
 obtain rfl := si hf
 refine ret_ ?_
 refine rT 1 (.slice A39 (List.length (r35)) c40) hE ?_
 have hS := hS.p (.d 1 (.d 0 .n))
 exact ⟨_, rfl, D37, A39, c40, q41, rfl, hS, h42⟩
set_option maxRecDepth 100000 in
theorem rec_put.calls {K : Nat} {g w0 : World} {D0 : Snap} {x3 : T_api_Rec} {x10 : T_api_Rec} {b1 : Nat} {A4 : Option Addr} {c5 : Nat} {A7 : Option Addr} {c8 : Nat} {A11 : Option Addr} {c12 : Nat} {A14 : Option Addr} {c15 : Nat} {r : ((List Int))} (hf : rec_put.f K x3 x10 = some r) (hS0 : St g w0 D0 [bx b1 39 (c_T_api_Rec (x10) A11 c12 A14 c15)]) (h6 : Sl kd_T_api_Step D0 A4 c5 (x3.fSteps)) (h9 : Sl (kdInt .u8) D0 A7 c8 (x3.fData)) (h13 : Sl kd_T_api_Step D0 A11 c12 (x10.fSteps)) (h16 : Sl (kdInt .u8) D0 A14 c15 (x10.fData)) (hG0 : Cell (kdArr .u32 8) D0 0 0 gl_First) (hG1 : Cell (kdArr .u32 64) D0 1 0 gl_K) :
  CallsIn (Fw none) 0 Tryd.prog 55 (List.toArray [.agg (List.toArray (c_T_api_Rec (x3) A4 c5 A7 c8)), .func (.func 56) #[] #[.pointer (some ⟨b1, 0, none⟩)]]) w0 (fun e w' => ∃ v, e = .returned v ∧ ∃ (D1 : Snap) (A5 : Option Addr) (c4 : Nat) (q2 : Blk), v = .slice A5 (List.length (r)) c4 ∧ Stp g w0 D0 [bx b1 39 (c_T_api_Rec (x10) A11 c12 A14 c15)] w' D1 [bx b1 39 (c_T_api_Rec (x10) A11 c12 A14 c15), q2] ∧ OwnD (kdInt .u8) 5 D1 A5 c4 (r) q2) := by
 unfold rec_put.f at hf
 have hS := Stp.refl hS0
 clear hS0
 refine calls_body (n := 29) Tryd.func55 rfl Tryd.ntmps55 rfl fun a hE => ?_
 have hE : Env a 29 [] [(0, .agg (List.toArray (c_T_api_Rec (x3) A4 c5 A7 c8))), (1, .func (.func 56) #[] #[.pointer (some ⟨b1, 0, none⟩)])] := hE
 refine sq (ra ?_)
 refine at_op (op_box rfl rfl rfl rfl hE rfl hS rfl (fun a b2 w _ hE hS => ?_)) rfl
 refine sN 1 2 [(4, .slice none 0 0)] hE fun a hE => ?_
 refine ae ?_
 refine sq (sq (ra ?_))
 refine sM 1 1 [0] [(6, .agg (List.toArray (c_T_api_Rec (x3) A4 c5 A7 c8)))] hE hS fun a hE => ?_
 obtain ⟨r2, h3, hf⟩ := bs hf
 refine aC rfl rfl rfl rfl hE rfl rfl rfl rfl (rec_Right.calls h3 (hS.st.fore (L := [])) h6 h9) fun a v w hR hE => ?_
 obtain ⟨D3, rfl, hS1⟩ := hR
 have le4 := hS1.dle
 have hS := hS.callR hS1 rfl .n
 refine sN 1 3 [(8, .bool ((!r2)))] hE fun a hE => ?_
 refine ae ?_
 refine cond_split hE (b := (!r2)) rfl (fun hb => ?_) (fun hb => ?_)
 ·replace hf := ct hb hf
  refine sq (ra ?_)
  refine sN 1 1 [(4, .slice none 0 0)] hE fun a hE => ?_
  refine ae ?_
  refine wpIn_ret ?_
  have hS := hS.nils
  obtain rfl := si hf
  refine ret_ ?_
  refine rT 4 (.slice none 0 0) hE ?_
  have hS := hS.p (.d 2 (.d 0 .n))
  exact ⟨_, rfl, D3, none, 0, none, rfl, hS, (OwnD.nil (kdInt .u8) 5 D3)⟩
 replace hf := cf hb hf
 refine wpIn_skip ?_
 obtain ⟨j1, hj1, hf⟩ := jn_elim hf
 refine seq_join (fun a w => ∃ (y1 : (List Int)), ∃ A1, ∃ c1, ∃ q1, ∃ D2, Env a 29 [] [(1, .func (.func 56) #[] #[.pointer (some ⟨b1, 0, none⟩)]), (2, .pointer (some ⟨b2, 0, none⟩)), (5, .slice A1 (List.length (y1)) c1)] ∧ Stp g w0 D0 [bx b1 39 (c_T_api_Rec (x10) A11 c12 A14 c15)] w D2 [bx b1 39 (c_T_api_Rec (x10) A11 c12 A14 c15), bx b2 39 (c_T_api_Rec (x3) A4 c5 A7 c8), q1] ∧ Snap.le D3 D2 ∧ OwnD (kdInt .u8) 5 D2 A1 c1 (y1) q1 ∧ j1 y1 = some r) ?_ ?_
 ·clear hj1
  refine region_draw (fun j => Keeps (mfOf [] j)) (by kernel_rfl) ?_
  have hS := hS.drew
  first | generalize w.drew = w at hS ⊢ | generalize w0.drew = w at hS ⊢
  refine wF 0 1 12 0 3 0 hE fun a hE => ?_
  refine tL 1 3 11 0 (.int .i64 (x3.fKind)) hE hS fun a hE => ?_
  refine wF 4 19 10 0 3 0 hE fun a hE => ?_
  refine tL 5 51 9 0 (.int .i64 (x3.fKind)) hE hS fun a hE => ?_
  refine tL 8 307 8 0 (.agg (List.toArray (c_T_api_Rec (x3) A4 c5 A7 c8))) hE hS fun a hE => ?_
  obtain ⟨r1, h4, hf⟩ := bs hf
  refine oC 2 311 7 rfl rfl rfl rfl hE rfl rfl rfl rfl (wire_Num.calls h4 (hS.st.fore (L := [])) ) fun a v w hR hE => ?_
  obtain ⟨D11, A2, c2, q10, rfl, hS1, h1⟩ := hR
  refine ⟨(hS1.keeps.sub (M' := []) trivial).mono (fun _ h => h), ?_⟩
  have le3 := hS1.dle
  have hS := hS.callR hS1 rfl (.c .n)
  obtain ⟨r16, h5, hf⟩ := bs hf
  refine oC 3 319 6 rfl rfl rfl rfl hE rfl rfl rfl rfl (rec_forms.calls h5 (hS.st.fore (L := [])) ) fun a v w hR hE => ?_
  obtain ⟨D12, rfl, hS1⟩ := hR
  refine ⟨(hS1.keeps.sub (M' := []) trivial).mono (fun _ h => h), ?_⟩
  have le1 := hS1.dle
  have hS := hS.callR hS1 rfl .n
  cases hb : decide (x3.fKind = (0 : Int))
  ·replace hf := cf hb hf
   cases hb : decide (x3.fKind = (1 : Int))
   ·replace hf := cf hb hf
    cases hb : decide (x3.fKind = (2 : Int))
    ·replace hf := cf hb hf
     cases hb : decide (x3.fKind = (3 : Int))
     ·replace hf := cf hb hf
      cases hb : decide (x3.fKind = (4 : Int))
      ·replace hf := cf hb hf
       cases hb : decide (x3.fKind = (5 : Int))
       ·replace hf := cf hb hf
        cases hb : decide (x3.fKind = (6 : Int))
        ·replace hf := cf hb hf
         cases hf
        replace hf := ct hb hf
        have hk2163 := of_decide_eq_true hb
        refine tW 6 383 (fuel := 5) (by kernel_rfl) hE (fun M => tk_indexV (N := 7) (e := 123) (sz := 1) (cs := ([.nilFunc]) ++ (([.func (.func 102) #[] #[]]) ++ (([.func (.func 103) #[] #[]]) ++ (([.func (.func 104) #[] #[]]) ++ (([.func (.func 103) #[] #[]]) ++ (([.func (.func 106) #[] #[]]) ++ (([.func (.func 107) #[] #[]])))))))) 6 (.agg (List.toArray ([.func (.func 107) #[] #[]]))) rfl rfl rfl rfl hE rfl rfl rfl hk2163 (by kernel_rfl) (by kernel_rfl) (by kernel_rfl) (fun a hE => ?_))
        refine tW 7 511 (fuel := 4) (by kernel_rfl) hE (fun M => g_field (cs := [.func (.func 107) #[] #[]]) (fo := 0) (ft := 63) (.func (.func 107) #[] #[]) rfl rfl rfl rfl hE rfl rfl (by kernel_rfl) (by kernel_rfl) (fun a hE => ?_))
        obtain ⟨r3, h7, hf⟩ := bs hf
        refine oC 9 1023 3 rfl rfl rfl rfl hE rfl rfl rfl rfl (rec_forms_3.calls h7 (hS.st.fore (L := [])) (h6.mono (le2 (le2 le4 le3) le1)) (h9.mono (le2 (le2 le4 le3) le1))) fun a v w hR hE => ?_
        obtain ⟨D13, A15, c14, q11, rfl, hS1, h8⟩ := hR
        refine ⟨(hS1.keeps.sub (M' := []) trivial).mono (fun _ h => h), ?_⟩
        have le6 := hS1.dle
        have hS := hS.callR hS1 rfl (.c .n)
        have hS := hS.p (.d 1 (.d 0 (.d 2 (.d 3 .n))))
        obtain ⟨D14, q12, le7, hS, h63, h10⟩ := hS.lent (h1.mono (le2 le1 le6))
        have hS := hS.p (.d 1 (.d 0 (.d 2 (.d 3 .n))))
        obtain ⟨D15, q13, le8, hS, h64, h11⟩ := hS.lent (h8.mono le7)
        refine oG 10 2047 (fuel := 2) (by kernel_rfl) (op_buildSlice (K := (kdSlice (kdInt .u8))) (e := 37) (cs := [.slice A2 (List.length (r1)) c2] ++ ([.slice A15 (List.length (r3)) c14] ++ [])) ([r1, r3] : List (List Int)) rfl rfl rfl rfl hE rfl hS rfl (by kernel_rfl) rfl rfl (by exact ⟨_, _, rfl, (kslice (h10.mono le8)), ⟨_, _, rfl, (kslice h11), rfl⟩⟩) (fun a A21 q14 w hkp hE h12 hS => ⟨hkp.mono (fun _ h => absurd h List.not_mem_nil), ?_⟩))
        clear hkp
        obtain ⟨D16, q15, le24, hS, h65, h14⟩ := hS.lent h12
        obtain ⟨r4, h15, hf⟩ := bs hf
        refine oC 11 4095 1 rfl rfl rfl rfl hE rfl rfl rfl rfl (wire_All.calls h15 (hS.st.fore (L := [])) h14) fun a v w hR hE => ?_
        obtain ⟨D4, A6, c6, q3, rfl, hS1, h17⟩ := hR
        refine ⟨(hS1.keeps.sub (M' := []) trivial).mono (fun _ h => h), ?_⟩
        have le25 := hS1.dle
        have hS := hS.callR hS1 rfl (.c .n)
        refine wP 12 8191 0 (.slice A6 (List.length (r4)) c6) hE fun a hE => ?_
        refine doneG (by kernel_rfl) ?_
        have hS := hS.p (.d 5 (.d 4 (.d 0 .n)))
        exact ⟨r4, A6, c6, q3, D4, hE.wk, hS, (le2 (le2 (le2 (le2 (le2 (le2 le3 le1) le6) le7) le8) le24) le25), h17, hf⟩
       replace hf := ct hb hf
       have hk2123 := of_decide_eq_true hb
       refine tW 6 383 (fuel := 5) (by kernel_rfl) hE (fun M => tk_indexV (N := 7) (e := 123) (sz := 1) (cs := ([.nilFunc]) ++ (([.func (.func 102) #[] #[]]) ++ (([.func (.func 103) #[] #[]]) ++ (([.func (.func 104) #[] #[]]) ++ (([.func (.func 103) #[] #[]]) ++ (([.func (.func 106) #[] #[]]) ++ (([.func (.func 107) #[] #[]])))))))) 5 (.agg (List.toArray ([.func (.func 106) #[] #[]]))) rfl rfl rfl rfl hE rfl rfl rfl hk2123 (by kernel_rfl) (by kernel_rfl) (by kernel_rfl) (fun a hE => ?_))
       refine tW 7 511 (fuel := 4) (by kernel_rfl) hE (fun M => g_field (cs := [.func (.func 106) #[] #[]]) (fo := 0) (ft := 63) (.func (.func 106) #[] #[]) rfl rfl rfl rfl hE rfl rfl (by kernel_rfl) (by kernel_rfl) (fun a hE => ?_))
       obtain ⟨r5, h18, hf⟩ := bs hf
       refine oC 9 1023 3 rfl rfl rfl rfl hE rfl rfl rfl rfl (rec_forms_2.calls h18 (hS.st.fore (L := [])) (h6.mono (le2 (le2 le4 le3) le1)) (h9.mono (le2 (le2 le4 le3) le1))) fun a v w hR hE => ?_
       obtain ⟨D17, A16, c16, q16, rfl, hS1, h19⟩ := hR
       refine ⟨(hS1.keeps.sub (M' := []) trivial).mono (fun _ h => h), ?_⟩
       have le9 := hS1.dle
       have hS := hS.callR hS1 rfl (.c .n)
       have hS := hS.p (.d 1 (.d 0 (.d 2 (.d 3 .n))))
       obtain ⟨D18, q17, le10, hS, h66, h20⟩ := hS.lent (h1.mono (le2 le1 le9))
       have hS := hS.p (.d 1 (.d 0 (.d 2 (.d 3 .n))))
       obtain ⟨D19, q18, le11, hS, h67, h21⟩ := hS.lent (h19.mono le10)
       refine oG 10 2047 (fuel := 2) (by kernel_rfl) (op_buildSlice (K := (kdSlice (kdInt .u8))) (e := 37) (cs := [.slice A2 (List.length (r1)) c2] ++ ([.slice A16 (List.length (r5)) c16] ++ [])) ([r1, r5] : List (List Int)) rfl rfl rfl rfl hE rfl hS rfl (by kernel_rfl) rfl rfl (by exact ⟨_, _, rfl, (kslice (h20.mono le11)), ⟨_, _, rfl, (kslice h21), rfl⟩⟩) (fun a A22 q19 w hkp hE h22 hS => ⟨hkp.mono (fun _ h => absurd h List.not_mem_nil), ?_⟩))
       clear hkp
       obtain ⟨D20, q20, le26, hS, h68, h23⟩ := hS.lent h22
       obtain ⟨r6, h24, hf⟩ := bs hf
       refine oC 11 4095 1 rfl rfl rfl rfl hE rfl rfl rfl rfl (wire_All.calls h24 (hS.st.fore (L := [])) h23) fun a v w hR hE => ?_
       obtain ⟨D5, A8, c7, q4, rfl, hS1, h25⟩ := hR
       refine ⟨(hS1.keeps.sub (M' := []) trivial).mono (fun _ h => h), ?_⟩
       have le27 := hS1.dle
       have hS := hS.callR hS1 rfl (.c .n)
       refine wP 12 8191 0 (.slice A8 (List.length (r6)) c7) hE fun a hE => ?_
       refine doneG (by kernel_rfl) ?_
       have hS := hS.p (.d 5 (.d 4 (.d 0 .n)))
       exact ⟨r6, A8, c7, q4, D5, hE.wk, hS, (le2 (le2 (le2 (le2 (le2 (le2 le3 le1) le9) le10) le11) le26) le27), h25, hf⟩
      replace hf := ct hb hf
      have hk2083 := of_decide_eq_true hb
      refine tW 6 383 (fuel := 5) (by kernel_rfl) hE (fun M => tk_indexV (N := 7) (e := 123) (sz := 1) (cs := ([.nilFunc]) ++ (([.func (.func 102) #[] #[]]) ++ (([.func (.func 103) #[] #[]]) ++ (([.func (.func 104) #[] #[]]) ++ (([.func (.func 103) #[] #[]]) ++ (([.func (.func 106) #[] #[]]) ++ (([.func (.func 107) #[] #[]])))))))) 4 (.agg (List.toArray ([.func (.func 103) #[] #[]]))) rfl rfl rfl rfl hE rfl rfl rfl hk2083 (by kernel_rfl) (by kernel_rfl) (by kernel_rfl) (fun a hE => ?_))
      refine tW 7 511 (fuel := 4) (by kernel_rfl) hE (fun M => g_field (cs := [.func (.func 103) #[] #[]]) (fo := 0) (ft := 63) (.func (.func 103) #[] #[]) rfl rfl rfl rfl hE rfl rfl (by kernel_rfl) (by kernel_rfl) (fun a hE => ?_))
      obtain ⟨r7, h26, hf⟩ := bs hf
      refine oC 9 1023 3 rfl rfl rfl rfl hE rfl rfl rfl rfl (rec_call.calls h26 (hS.st.fore (L := [])) (h6.mono (le2 (le2 le4 le3) le1)) (h9.mono (le2 (le2 le4 le3) le1))) fun a v w hR hE => ?_
      obtain ⟨D21, A17, c17, q21, rfl, hS1, h27⟩ := hR
      refine ⟨(hS1.keeps.sub (M' := []) trivial).mono (fun _ h => h), ?_⟩
      have le12 := hS1.dle
      have hS := hS.callR hS1 rfl (.c .n)
      have hS := hS.p (.d 1 (.d 0 (.d 2 (.d 3 .n))))
      obtain ⟨D22, q22, le13, hS, h69, h28⟩ := hS.lent (h1.mono (le2 le1 le12))
      have hS := hS.p (.d 1 (.d 0 (.d 2 (.d 3 .n))))
      obtain ⟨D23, q23, le14, hS, h70, h29⟩ := hS.lent (h27.mono le13)
      refine oG 10 2047 (fuel := 2) (by kernel_rfl) (op_buildSlice (K := (kdSlice (kdInt .u8))) (e := 37) (cs := [.slice A2 (List.length (r1)) c2] ++ ([.slice A17 (List.length (r7)) c17] ++ [])) ([r1, r7] : List (List Int)) rfl rfl rfl rfl hE rfl hS rfl (by kernel_rfl) rfl rfl (by exact ⟨_, _, rfl, (kslice (h28.mono le14)), ⟨_, _, rfl, (kslice h29), rfl⟩⟩) (fun a A23 q24 w hkp hE h30 hS => ⟨hkp.mono (fun _ h => absurd h List.not_mem_nil), ?_⟩))
      clear hkp
      obtain ⟨D24, q25, le28, hS, h71, h31⟩ := hS.lent h30
      obtain ⟨r8, h32, hf⟩ := bs hf
      refine oC 11 4095 1 rfl rfl rfl rfl hE rfl rfl rfl rfl (wire_All.calls h32 (hS.st.fore (L := [])) h31) fun a v w hR hE => ?_
      obtain ⟨D6, A9, c9, q5, rfl, hS1, h33⟩ := hR
      refine ⟨(hS1.keeps.sub (M' := []) trivial).mono (fun _ h => h), ?_⟩
      have le29 := hS1.dle
      have hS := hS.callR hS1 rfl (.c .n)
      refine wP 12 8191 0 (.slice A9 (List.length (r8)) c9) hE fun a hE => ?_
      refine doneG (by kernel_rfl) ?_
      have hS := hS.p (.d 5 (.d 4 (.d 0 .n)))
      exact ⟨r8, A9, c9, q5, D6, hE.wk, hS, (le2 (le2 (le2 (le2 (le2 (le2 le3 le1) le12) le13) le14) le28) le29), h33, hf⟩
     replace hf := ct hb hf
     have hk2043 := of_decide_eq_true hb
     refine tW 6 383 (fuel := 5) (by kernel_rfl) hE (fun M => tk_indexV (N := 7) (e := 123) (sz := 1) (cs := ([.nilFunc]) ++ (([.func (.func 102) #[] #[]]) ++ (([.func (.func 103) #[] #[]]) ++ (([.func (.func 104) #[] #[]]) ++ (([.func (.func 103) #[] #[]]) ++ (([.func (.func 106) #[] #[]]) ++ (([.func (.func 107) #[] #[]])))))))) 3 (.agg (List.toArray ([.func (.func 104) #[] #[]]))) rfl rfl rfl rfl hE rfl rfl rfl hk2043 (by kernel_rfl) (by kernel_rfl) (by kernel_rfl) (fun a hE => ?_))
     refine tW 7 511 (fuel := 4) (by kernel_rfl) hE (fun M => g_field (cs := [.func (.func 104) #[] #[]]) (fo := 0) (ft := 63) (.func (.func 104) #[] #[]) rfl rfl rfl rfl hE rfl rfl (by kernel_rfl) (by kernel_rfl) (fun a hE => ?_))
     obtain ⟨r9, h34, hf⟩ := bs hf
     refine oC 9 1023 3 rfl rfl rfl rfl hE rfl rfl rfl rfl (rec_forms_1.calls h34 (hS.st.fore (L := [])) (h6.mono (le2 (le2 le4 le3) le1)) (h9.mono (le2 (le2 le4 le3) le1))) fun a v w hR hE => ?_
     obtain ⟨D25, A18, c18, q26, rfl, hS1, h35⟩ := hR
     refine ⟨(hS1.keeps.sub (M' := []) trivial).mono (fun _ h => h), ?_⟩
     have le15 := hS1.dle
     have hS := hS.callR hS1 rfl (.c .n)
     have hS := hS.p (.d 1 (.d 0 (.d 2 (.d 3 .n))))
     obtain ⟨D26, q27, le16, hS, h72, h36⟩ := hS.lent (h1.mono (le2 le1 le15))
     have hS := hS.p (.d 1 (.d 0 (.d 2 (.d 3 .n))))
     obtain ⟨D27, q28, le17, hS, h73, h37⟩ := hS.lent (h35.mono le16)
     refine oG 10 2047 (fuel := 2) (by kernel_rfl) (op_buildSlice (K := (kdSlice (kdInt .u8))) (e := 37) (cs := [.slice A2 (List.length (r1)) c2] ++ ([.slice A18 (List.length (r9)) c18] ++ [])) ([r1, r9] : List (List Int)) rfl rfl rfl rfl hE rfl hS rfl (by kernel_rfl) rfl rfl (by exact ⟨_, _, rfl, (kslice (h36.mono le17)), ⟨_, _, rfl, (kslice h37), rfl⟩⟩) (fun a A24 q29 w hkp hE h38 hS => ⟨hkp.mono (fun _ h => absurd h List.not_mem_nil), ?_⟩))
     clear hkp
     obtain ⟨D28, q30, le30, hS, h74, h39⟩ := hS.lent h38
     obtain ⟨r10, h40, hf⟩ := bs hf
     refine oC 11 4095 1 rfl rfl rfl rfl hE rfl rfl rfl rfl (wire_All.calls h40 (hS.st.fore (L := [])) h39) fun a v w hR hE => ?_
     obtain ⟨D7, A10, c10, q6, rfl, hS1, h41⟩ := hR
     refine ⟨(hS1.keeps.sub (M' := []) trivial).mono (fun _ h => h), ?_⟩
     have le31 := hS1.dle
     have hS := hS.callR hS1 rfl (.c .n)
     refine wP 12 8191 0 (.slice A10 (List.length (r10)) c10) hE fun a hE => ?_
     refine doneG (by kernel_rfl) ?_
     have hS := hS.p (.d 5 (.d 4 (.d 0 .n)))
     exact ⟨r10, A10, c10, q6, D7, hE.wk, hS, (le2 (le2 (le2 (le2 (le2 (le2 le3 le1) le15) le16) le17) le30) le31), h41, hf⟩
    replace hf := ct hb hf
    have hk2003 := of_decide_eq_true hb
    refine tW 6 383 (fuel := 5) (by kernel_rfl) hE (fun M => tk_indexV (N := 7) (e := 123) (sz := 1) (cs := ([.nilFunc]) ++ (([.func (.func 102) #[] #[]]) ++ (([.func (.func 103) #[] #[]]) ++ (([.func (.func 104) #[] #[]]) ++ (([.func (.func 103) #[] #[]]) ++ (([.func (.func 106) #[] #[]]) ++ (([.func (.func 107) #[] #[]])))))))) 2 (.agg (List.toArray ([.func (.func 103) #[] #[]]))) rfl rfl rfl rfl hE rfl rfl rfl hk2003 (by kernel_rfl) (by kernel_rfl) (by kernel_rfl) (fun a hE => ?_))
    refine tW 7 511 (fuel := 4) (by kernel_rfl) hE (fun M => g_field (cs := [.func (.func 103) #[] #[]]) (fo := 0) (ft := 63) (.func (.func 103) #[] #[]) rfl rfl rfl rfl hE rfl rfl (by kernel_rfl) (by kernel_rfl) (fun a hE => ?_))
    obtain ⟨r11, h42, hf⟩ := bs hf
    refine oC 9 1023 3 rfl rfl rfl rfl hE rfl rfl rfl rfl (rec_call.calls h42 (hS.st.fore (L := [])) (h6.mono (le2 (le2 le4 le3) le1)) (h9.mono (le2 (le2 le4 le3) le1))) fun a v w hR hE => ?_
    obtain ⟨D29, A19, c19, q31, rfl, hS1, h43⟩ := hR
    refine ⟨(hS1.keeps.sub (M' := []) trivial).mono (fun _ h => h), ?_⟩
    have le18 := hS1.dle
    have hS := hS.callR hS1 rfl (.c .n)
    have hS := hS.p (.d 1 (.d 0 (.d 2 (.d 3 .n))))
    obtain ⟨D30, q32, le19, hS, h75, h44⟩ := hS.lent (h1.mono (le2 le1 le18))
    have hS := hS.p (.d 1 (.d 0 (.d 2 (.d 3 .n))))
    obtain ⟨D31, q33, le20, hS, h76, h45⟩ := hS.lent (h43.mono le19)
    refine oG 10 2047 (fuel := 2) (by kernel_rfl) (op_buildSlice (K := (kdSlice (kdInt .u8))) (e := 37) (cs := [.slice A2 (List.length (r1)) c2] ++ ([.slice A19 (List.length (r11)) c19] ++ [])) ([r1, r11] : List (List Int)) rfl rfl rfl rfl hE rfl hS rfl (by kernel_rfl) rfl rfl (by exact ⟨_, _, rfl, (kslice (h44.mono le20)), ⟨_, _, rfl, (kslice h45), rfl⟩⟩) (fun a A25 q34 w hkp hE h46 hS => ⟨hkp.mono (fun _ h => absurd h List.not_mem_nil), ?_⟩))
    clear hkp
    obtain ⟨D32, q35, le32, hS, h77, h47⟩ := hS.lent h46
    obtain ⟨r12, h48, hf⟩ := bs hf
    refine oC 11 4095 1 rfl rfl rfl rfl hE rfl rfl rfl rfl (wire_All.calls h48 (hS.st.fore (L := [])) h47) fun a v w hR hE => ?_
    obtain ⟨D8, A12, c11, q7, rfl, hS1, h49⟩ := hR
    refine ⟨(hS1.keeps.sub (M' := []) trivial).mono (fun _ h => h), ?_⟩
    have le33 := hS1.dle
    have hS := hS.callR hS1 rfl (.c .n)
    refine wP 12 8191 0 (.slice A12 (List.length (r12)) c11) hE fun a hE => ?_
    refine doneG (by kernel_rfl) ?_
    have hS := hS.p (.d 5 (.d 4 (.d 0 .n)))
    exact ⟨r12, A12, c11, q7, D8, hE.wk, hS, (le2 (le2 (le2 (le2 (le2 (le2 le3 le1) le18) le19) le20) le32) le33), h49, hf⟩
   replace hf := ct hb hf
   have hk1963 := of_decide_eq_true hb
   refine tW 6 383 (fuel := 5) (by kernel_rfl) hE (fun M => tk_indexV (N := 7) (e := 123) (sz := 1) (cs := ([.nilFunc]) ++ (([.func (.func 102) #[] #[]]) ++ (([.func (.func 103) #[] #[]]) ++ (([.func (.func 104) #[] #[]]) ++ (([.func (.func 103) #[] #[]]) ++ (([.func (.func 106) #[] #[]]) ++ (([.func (.func 107) #[] #[]])))))))) 1 (.agg (List.toArray ([.func (.func 102) #[] #[]]))) rfl rfl rfl rfl hE rfl rfl rfl hk1963 (by kernel_rfl) (by kernel_rfl) (by kernel_rfl) (fun a hE => ?_))
   refine tW 7 511 (fuel := 4) (by kernel_rfl) hE (fun M => g_field (cs := [.func (.func 102) #[] #[]]) (fo := 0) (ft := 63) (.func (.func 102) #[] #[]) rfl rfl rfl rfl hE rfl rfl (by kernel_rfl) (by kernel_rfl) (fun a hE => ?_))
   obtain ⟨r13, h50, hf⟩ := bs hf
   refine oC 9 1023 3 rfl rfl rfl rfl hE rfl rfl rfl rfl (rec_begin.calls h50 (hS.st.fore (L := [])) (h6.mono (le2 (le2 le4 le3) le1)) (h9.mono (le2 (le2 le4 le3) le1))) fun a v w hR hE => ?_
   obtain ⟨D33, A20, c20, q36, rfl, hS1, h51⟩ := hR
   refine ⟨(hS1.keeps.sub (M' := []) trivial).mono (fun _ h => h), ?_⟩
   have le21 := hS1.dle
   have hS := hS.callR hS1 rfl (.c .n)
   have hS := hS.p (.d 1 (.d 0 (.d 2 (.d 3 .n))))
   obtain ⟨D34, q37, le22, hS, h78, h52⟩ := hS.lent (h1.mono (le2 le1 le21))
   have hS := hS.p (.d 1 (.d 0 (.d 2 (.d 3 .n))))
   obtain ⟨D35, q38, le23, hS, h79, h53⟩ := hS.lent (h51.mono le22)
   refine oG 10 2047 (fuel := 2) (by kernel_rfl) (op_buildSlice (K := (kdSlice (kdInt .u8))) (e := 37) (cs := [.slice A2 (List.length (r1)) c2] ++ ([.slice A20 (List.length (r13)) c20] ++ [])) ([r1, r13] : List (List Int)) rfl rfl rfl rfl hE rfl hS rfl (by kernel_rfl) rfl rfl (by exact ⟨_, _, rfl, (kslice (h52.mono le23)), ⟨_, _, rfl, (kslice h53), rfl⟩⟩) (fun a A26 q39 w hkp hE h54 hS => ⟨hkp.mono (fun _ h => absurd h List.not_mem_nil), ?_⟩))
   clear hkp
   obtain ⟨D36, q40, le34, hS, h80, h55⟩ := hS.lent h54
   obtain ⟨r14, h56, hf⟩ := bs hf
   refine oC 11 4095 1 rfl rfl rfl rfl hE rfl rfl rfl rfl (wire_All.calls h56 (hS.st.fore (L := [])) h55) fun a v w hR hE => ?_
   obtain ⟨D9, A13, c13, q8, rfl, hS1, h57⟩ := hR
   refine ⟨(hS1.keeps.sub (M' := []) trivial).mono (fun _ h => h), ?_⟩
   have le35 := hS1.dle
   have hS := hS.callR hS1 rfl (.c .n)
   refine wP 12 8191 0 (.slice A13 (List.length (r14)) c13) hE fun a hE => ?_
   refine doneG (by kernel_rfl) ?_
   have hS := hS.p (.d 5 (.d 4 (.d 0 .n)))
   exact ⟨r14, A13, c13, q8, D9, hE.wk, hS, (le2 (le2 (le2 (le2 (le2 (le2 le3 le1) le21) le22) le23) le34) le35), h57, hf⟩
  replace hf := ct hb hf
  have hk1962 := of_decide_eq_true hb
  refine tW 6 383 (fuel := 5) (by kernel_rfl) hE (fun M => tk_indexV (N := 7) (e := 123) (sz := 1) (cs := ([.nilFunc]) ++ (([.func (.func 102) #[] #[]]) ++ (([.func (.func 103) #[] #[]]) ++ (([.func (.func 104) #[] #[]]) ++ (([.func (.func 103) #[] #[]]) ++ (([.func (.func 106) #[] #[]]) ++ (([.func (.func 107) #[] #[]])))))))) 0 (.agg (List.toArray ([.nilFunc]))) rfl rfl rfl rfl hE rfl rfl rfl hk1962 (by kernel_rfl) (by kernel_rfl) (by kernel_rfl) (fun a hE => ?_))
  refine tW 7 511 (fuel := 4) (by kernel_rfl) hE (fun M => g_field (cs := [.nilFunc]) (fo := 0) (ft := 63) (.nilFunc) rfl rfl rfl rfl hE rfl rfl (by kernel_rfl) (by kernel_rfl) (fun a hE => ?_))
  cases hf
 clear hE hS
 rintro a w ⟨y1, A1, c1, q1, D2, hE, hS, le5, h2, hf⟩
 replace hf := hj1 _ hf
 clear hj1
 refine sq (sq (ra ?_))
 refine sM 3 3 [1] [(23, .bool ((decide (x3.fKind = (1 : Int)))))] hE hS fun a hE => ?_
 refine ae ?_
 refine cond_split hE (b := (decide (x3.fKind = (1 : Int)))) rfl (fun hb => ?_) (fun hb => ?_)
 ·replace hf := ct hb hf
  refine ra ?_
  refine sN 2 2 [(24, .slice A1 (List.length (y1)) c1), (25, .func (.func 56) #[] #[.pointer (some ⟨b1, 0, none⟩)])] hE fun a hE => ?_
  obtain ⟨r15, h58, hf⟩ := bs hf
  refine aC rfl rfl rfl rfl hE rfl rfl rfl rfl (rec_Sealed_1.calls h58 (hS.st.fore (L := [bx b1 39 (c_T_api_Rec (x10) A11 c12 A14 c15)])) (h13.mono (le2 le4 le5)) (h16.mono (le2 le4 le5)) (hG0.mono (le2 le4 le5)) (hG1.mono (le2 le4 le5))) fun a v w hR hE => ?_
  obtain ⟨D37, A27, c21, q41, rfl, hS1, h59⟩ := hR
  have le36 := hS1.dle
  have hS := hS.callR hS1 rfl (.c (.c .n))
  have hS := hS.p (.d 1 (.d 0 (.d 2 (.d 3 .n))))
  obtain ⟨D10, q42, le37, hS, h81, h60⟩ := hS.lent h59
  have hS := hS.p (.d 3 (.d 0 (.d 1 (.d 2 .n))))
  obtain ⟨l1, h61, hf⟩ := bs hf
  refine at_op (g_append (K := (kdInt .u8)) (e := 5) (bytes := 1) (l := y1) (m := r15) rfl rfl rfl rfl hE rfl hS rfl rfl (by kernel_rfl) rfl rfl (h2.mono (le2 le36 le37)) h60 h61 (fun a A3 c3 q9 w _ hE h62 hS => ?_)) rfl
  refine sN 1 5 [(5, .slice A3 (List.length (l1)) c3)] hE fun a hE => ?_
  refine ae ?_
  refine sq (ra ?_)
  refine sN 2 2 [(4, .slice A3 (List.length (l1)) c3)] hE fun a hE => ?_
  refine ae ?_
  refine wpIn_ret ?_
  obtain rfl := si hf
  refine ret_ ?_
  refine rT 4 (.slice A3 (List.length (l1)) c3) hE ?_
  have hS := hS.p (.d 2 (.d 0 .n))
  exact ⟨_, rfl, D10, A3, c3, q9, rfl, hS, h62⟩
 replace hf := cf hb hf
 refine wpIn_skip ?_
 refine sq (ra ?_)
 refine sN 2 2 [(4, .slice A1 (List.length (y1)) c1)] hE fun a hE => ?_
 refine ae ?_
 refine wpIn_ret ?_
 obtain rfl := si hf
 refine ret_ ?_
 refine rT 4 (.slice A1 (List.length (y1)) c1) hE ?_
 have hS := hS.p (.d 0 (.d 2 .n))
 exact ⟨_, rfl, D2, A1, c1, q1, rfl, hS, h2⟩
set_option maxRecDepth 100000 in
theorem rec_Sealed.calls {K : Nat} {g w0 : World} {D0 : Snap} {x1 : T_api_Rec} {A2 : Option Addr} {c3 : Nat} {A5 : Option Addr} {c6 : Nat} {r : ((List Int))} (hf : rec_Sealed.f K x1 = some r) (hS0 : St g w0 D0 []) (h4 : Sl kd_T_api_Step D0 A2 c3 (x1.fSteps)) (h7 : Sl (kdInt .u8) D0 A5 c6 (x1.fData)) (hG0 : Cell (kdArr .u32 8) D0 0 0 gl_First) (hG1 : Cell (kdArr .u32 64) D0 1 0 gl_K) :
  CallsIn (Fw none) 0 Tryd.prog 25 (List.toArray [.agg (List.toArray (c_T_api_Rec (x1) A2 c3 A5 c6))]) w0 (fun e w' => ∃ v, e = .returned v ∧ ∃ (D1 : Snap) (A20 : Option Addr) (c21 : Nat) (q22 : Blk), v = .slice A20 (List.length (r)) c21 ∧ Stp g w0 D0 [] w' D1 [q22] ∧ OwnD (kdInt .u8) 5 D1 A20 c21 (r) q22) := by
 unfold rec_Sealed.f at hf
 have hS := Stp.refl hS0
 clear hS0
 refine calls_body (n := 6) Tryd.func25 rfl Tryd.ntmps25 rfl fun a hE => ?_
 have hE : Env a 6 [] [(0, .agg (List.toArray (c_T_api_Rec (x1) A2 c3 A5 c6)))] := hE
 refine sq (ra ?_)
 refine at_op (op_box rfl rfl rfl rfl hE rfl hS rfl (fun a b25 w _ hE hS => ?_)) rfl
 refine sN 1 2 [(2, .slice none 0 0)] hE fun a hE => ?_
 refine ae ?_
 refine sq (ra ?_)
 refine sM 2 2 [0] [(3, .agg (List.toArray (c_T_api_Rec (x1) A2 c3 A5 c6))), (4, .func (.func 56) #[] #[.pointer (some ⟨b25, 0, none⟩)])] hE hS fun a hE => ?_
 obtain ⟨r27, h28, hf⟩ := bs hf
 refine aC rfl rfl rfl rfl hE rfl rfl rfl rfl (rec_put.calls h28 (hS.st.fore (L := [bx b25 39 (c_T_api_Rec (x1) A2 c3 A5 c6)])) h4 h7 h4 h7 hG0 hG1) fun a v w hR hE => ?_
 obtain ⟨D29, A31, c32, q33, rfl, hS1, h34⟩ := hR
 have le36 := hS1.dle
 have hS := hS.callR hS1 rfl (.c (.c .n))
 refine sN 1 4 [(2, .slice A31 (List.length (r27)) c32)] hE fun a hE => ?_
 refine ae ?_
 refine wpIn_ret ?_
 obtain rfl := si hf
 refine ret_ ?_
 refine rT 2 (.slice A31 (List.length (r27)) c32) hE ?_
 have hS := hS.p (.d 1 .n)
 exact ⟨_, rfl, D29, A31, c32, q33, rfl, hS, h34⟩
set_option maxRecDepth 100000 in
theorem tree_Leaf.calls {K : Nat} {g w0 : World} {D0 : Snap} {x1 : (List Int)} {A2 : Option Addr} {c3 : Nat} {r : ((Vector Int 32))} (hf : tree_Leaf.f K x1 = some r) (hS0 : St g w0 D0 []) (h4 : Sl (kdInt .u8) D0 A2 c3 (x1)) (hG0 : Cell (kdArr .u32 8) D0 0 0 gl_First) (hG1 : Cell (kdArr .u32 64) D0 1 0 gl_K) :
  CallsIn (Fw none) 0 Tryd.prog 24 (List.toArray [.slice A2 (List.length (x1)) c3]) w0 (fun e w' => ∃ v, e = .returned v ∧ ∃ D1, v = .agg (List.toArray (acells .u8 32 (r))) ∧ Stp g w0 D0 [] w' D1 []) := by
 unfold tree_Leaf.f at hf
 have hS := Stp.refl hS0
 clear hS0
 refine calls_body (n := 7) Tryd.func24 rfl Tryd.ntmps24 rfl fun a hE => ?_
 have hE : Env a 7 [] [(0, .slice A2 (List.length (x1)) c3)] := hE
 refine sq (ra ?_)
 refine at_op (op_alloc (z := .agg (List.toArray (acells .u8 32 ((Vector.replicate 32 (0 : Int)))))) rfl rfl rfl rfl hE rfl hS (by kernel_rfl) (fun a b30 w _ hE hS => ?_)) rfl
 refine ae ?_
 refine sq (ra ?_)
 refine at_op (op_buildSlice (K := (kdInt .u8)) (e := 5) (cs := [.int .u8 ((0 : Int))] ++ []) ([(0 : Int)] : List Int) rfl rfl rfl rfl hE rfl hS rfl (by kernel_rfl) rfl rfl (by exact ⟨_, _, rfl, rfl, rfl⟩) (fun a A32 q33 w _ hE h34 hS => ?_)) rfl
 refine sN 1 2 [(4, .slice A2 (List.length (x1)) c3)] hE fun a hE => ?_
 obtain ⟨D36, q39, le37, hS, h40, h38⟩ := hS.lent h34
 refine at_op (op_buildSlice (K := (kdSlice (kdInt .u8))) (e := 37) (cs := [.slice A32 (List.length (([(0 : Int)] : List Int))) 1] ++ ([.slice A2 (List.length (x1)) c3] ++ [])) ([([(0 : Int)] : List Int), x1] : List (List Int)) rfl rfl rfl rfl hE rfl hS rfl (by kernel_rfl) rfl rfl (by exact ⟨_, _, rfl, (kslice h38), ⟨_, _, rfl, (kslice (h4.mono le37)), rfl⟩⟩) (fun a A41 q42 w _ hE h43 hS => ?_)) rfl
 obtain ⟨D45, q48, le46, hS, h49, h47⟩ := hS.lent h43
 obtain ⟨r50, h51, hf⟩ := bs hf
 refine aC rfl rfl rfl rfl hE rfl rfl rfl rfl (sha_Sum.calls h51 (hS.st.fore (L := [])) h47 (hG0.mono (le2 le37 le46)) (hG1.mono (le2 le37 le46))) fun a v w hR hE => ?_
 obtain ⟨D52, rfl, hS1⟩ := hR
 have le54 := hS1.dle
 have hS := hS.callR hS1 rfl .n
 have hS := hS.p (.d 2 (.d 0 (.d 1 .n)))
 refine at_op (op_store (v := .agg (List.toArray (acells .u8 32 (r50)))) (acells .u8 32 (r50)) rfl rfl rfl rfl hE hS rfl rfl (by kernel_rfl) (by kernel_rfl) (by kernel_rfl) (by kernel_rfl) (by kernel_rfl) (fun a w _ hE hS => ?_)) rfl
 refine ae ?_
 refine wpIn_ret ?_
 obtain rfl := si hf
 refine ret_ ?_
 refine ret_gen ([.agg (List.toArray (acells .u8 32 (r50)))]) hE (by rw [show Tryd.f24.results.toList = [.cell 2 24] from rfl]; exact ⟨_, _, _, 0, _, _, rfl, rfl, hS.heapAt (j := 0) rfl, by kernel_rfl, rfl⟩) ?_
 have hS := hS.p .n
 exact ⟨_, rfl, D52, rfl, hS⟩
set_option maxRecDepth 100000 in
theorem export_Hashes.calls {K : Nat} {g w0 : World} {D0 : Snap} {x1 : (List T_api_Rec)} {A2 : Option Addr} {c3 : Nat} {r : ((List (Vector Int 32)))} (hf : export_Hashes.f K x1 = some r) (hS0 : St g w0 D0 []) (h4 : Sl kd_T_api_Rec D0 A2 c3 (x1)) (hG0 : Cell (kdArr .u32 8) D0 0 0 gl_First) (hG1 : Cell (kdArr .u32 64) D0 1 0 gl_K) :
  CallsIn (Fw none) 0 Tryd.prog 21 (List.toArray [.slice A2 (List.length (x1)) c3]) w0 (fun e w' => ∃ v, e = .returned v ∧ ∃ (D1 : Snap) (A6 : Option Addr) (c6 : Nat), v = .slice A6 (List.length (r)) c6 ∧ Stp g w0 D0 [] w' D1 [] ∧ Sl (kdArr .u8 32) D1 A6 c6 (r)) := by
 unfold export_Hashes.f at hf
 have hS := Stp.refl hS0
 clear hS0
 refine calls_body (n := 23) Tryd.func21 rfl Tryd.ntmps21 rfl fun a hE => ?_
 have hE : Env a 23 [] [(0, .slice A2 (List.length (x1)) c3)] := hE
 refine sq (ra ?_)
 refine sN 1 1 [(2, .slice none 0 0)] hE fun a hE => ?_
 refine ae ?_
 refine sq (sq (ra ?_))
 refine sN 1 1 [(6, .slice A2 (List.length (x1)) c3)] hE fun a hE => ?_
 obtain ⟨r2, h2, hf⟩ := bs hf
 refine aC rfl rfl rfl rfl hE rfl rfl rfl rfl (export_right.calls h2 (hS.st.fore (L := [])) h4) fun a v w hR hE => ?_
 obtain ⟨D2, rfl, hS1⟩ := hR
 have le3 := hS1.dle
 have hS := hS.callR hS1 rfl .n
 refine sN 1 3 [(8, .bool ((!r2)))] hE fun a hE => ?_
 refine ae ?_
 refine cond_split hE (b := (!r2)) rfl (fun hb => ?_) (fun hb => ?_)
 ·replace hf := ct hb hf
  refine sq (ra ?_)
  refine sN 1 1 [(2, .slice none 0 0)] hE fun a hE => ?_
  refine ae ?_
  refine wpIn_ret ?_
  obtain rfl := si hf
  refine ret_ ?_
  refine rT 2 (.slice none (List.length (([] : List (Vector Int 32)))) 0) hE ?_
  exact ⟨_, rfl, D2, none, 0, rfl, hS, (Sl.nil (kdArr .u8 32) D2)⟩
 replace hf := cf hb hf
 refine wpIn_skip ?_
 refine sq (ra ?_)
 refine sN 1 1 [(3, .slice none 0 0)] hE fun a hE => ?_
 refine ae ?_
 refine sq (sq (ra ?_))
 refine sN 3 3 [(9, .slice A2 (List.length (x1)) c3), (10, .int .i64 (((List.length (x1) : Nat) : Int))), (11, .int .i64 ((0 : Int)))] hE fun a hE => ?_
 refine ae ?_
 obtain ⟨s1, hf, hs1⟩ := bs hf
 have hS := hS.nils
 refine block_loop (fun a w => ∃ (z1 : (List (Vector Int 32))), ∃ A1, ∃ c1, ∃ q2, ∃ D4, Env a 23 [] [(3, .slice A1 (List.length (z1)) c1)] ∧ Stp g w0 D0 [] w D4 [q2] ∧ Snap.le D2 D4 ∧ OwnD (kdArr .u8 32) 24 D4 A1 c1 (z1) q2 ∧ z1 = s1) (fun k a w => ∃ (y1 : (List (Vector Int 32)) × Int), ∃ A3, ∃ c2, ∃ q1, ∃ D3, Env a 23 [] [(3, .slice A3 (List.length (y1.1)) c2), (9, .slice A2 (List.length (x1)) c3), (10, .int .i64 (((List.length (x1) : Nat) : Int))), (11, .int .i64 (y1.2))] ∧ Stp g w0 D0 [] w D3 [q1] ∧ Snap.le D2 D3 ∧ OwnD (kdArr .u8 32) 24 D3 A3 c2 (y1.1) q1 ∧ export_Hashes_l1.l K x1 k y1 = some s1) K ?_ ?_ ?_
 ·exact ⟨(([] : List (Vector Int 32)), (0 : Int)), none, 0, none, D2, hE.wk, hS, lr, (OwnD.nil (kdArr .u8 32) 24 D2), hf⟩
 ·clear hE hS hf
  rintro a w ⟨z1, A1, c1, q2, D4, hE, hS, le8, h3, rfl⟩
  have hf := hs1
  clear hs1
  refine sq (ra ?_)
  refine sN 2 2 [(2, .slice A1 (List.length (z1)) c1)] hE fun a hE => ?_
  refine ae ?_
  refine wpIn_ret ?_
  obtain ⟨D5, q4, le9, hS, h18, h5⟩ := hS.lent h3
  obtain rfl := si hf
  refine ret_ ?_
  refine rT 2 (.slice A1 (List.length (z1)) c1) hE ?_
  have hS := hS.p .n
  exact ⟨_, rfl, D5, A1, c1, rfl, hS, h5⟩
 clear hE hS hf
 rintro k a w ⟨y1, A3, c2, q1, D3, hE, hS, le1, h1, hf⟩
 obtain ⟨k, rfl, hf⟩ := export_Hashes_l1.some _ hf
 refine ⟨k, rfl, ?_⟩
 unfold export_Hashes_l1.b at hf
 refine sq (ra ?_)
 refine sN 1 1 [(12, .bool ((decide (y1.2 < ((List.length (x1) : Nat) : Int)))))] hE fun a hE => ?_
 refine ae ?_
 refine sq ?_
 refine cond_split hE (b := (decide (y1.2 < ((List.length (x1) : Nat) : Int)))) rfl (fun hb => ?_) (fun hb => ?_)
 ·replace hf := ct hb hf
  refine wpIn_skip ?_
  refine sq ?_
  refine wpIn_block ?_
  refine sq (ra ?_)
  obtain ⟨x2, h6, hf⟩ := bs hf
  refine at_op (op_tk hE (g_index (K := kd_T_api_Rec) (e := 39) (by_ := 224) (zl := 109) rfl rfl rfl rfl hE rfl rfl rfl (by kernel_rfl) rfl (h4.mono (le2 le3 le1)) h6 (fun a b1 o1 hE h7 => ?_))) rfl
  obtain ⟨cs1, C1, T1, fr1, hr1, hb1, hc1⟩ := id h7
  obtain ⟨A4, c4, A5, c5, rfl, h8, h9⟩ := kd_T_api_Rec_el hr1
  refine at_op (op_tk hE (tk_loadX (off0 := o1) (off := 0) (c := c_T_api_Rec (x2) A4 c4 A5 c5) (.agg (List.toArray (c_T_api_Rec (x2) A4 c4 A5 c5))) rfl rfl rfl rfl hE rfl hS rfl hb1 hc1 (by kernel_rfl) (by kernel_rfl) (kD hS dn_nil) (fun a hE => ?_))) rfl
  refine at_op (op_alloc (z := .agg (List.toArray (c_T_api_Rec (z_T_api_Rec) none 0 none 0))) rfl rfl rfl rfl hE rfl hS (by kernel_rfl) (fun a b2 w _ hE hS => ?_)) rfl
  refine at_op (op_store (v := .agg (List.toArray (c_T_api_Rec (x2) A4 c4 A5 c5))) (c_T_api_Rec (x2) A4 c4 A5 c5) rfl rfl rfl rfl hE hS rfl rfl (by kernel_rfl) (by kernel_rfl) (by kernel_rfl) (by kernel_rfl) (by kernel_rfl) (fun a w _ hE hS => ?_)) rfl
  refine ae ?_
  refine ra ?_
  refine sM 2 2 [0] [(15, .slice A3 (List.length (y1.1)) c2), (16, .agg (List.toArray (c_T_api_Rec (x2) A4 c4 A5 c5)))] hE hS fun a hE => ?_
  obtain ⟨r3, h10, hf⟩ := bs hf
  refine aC rfl rfl rfl rfl hE rfl rfl rfl rfl (rec_Sealed.calls h10 (hS.st.fore (L := [])) h8 h9 (hG0.mono (le2 le3 le1)) (hG1.mono (le2 le3 le1))) fun a v w hR hE => ?_
  obtain ⟨D7, A8, c8, q5, rfl, hS1, h11⟩ := hR
  have le4 := hS1.dle
  have hS := hS.callR hS1 rfl (.c .n)
  obtain ⟨D8, q6, le5, hS, h19, h12⟩ := hS.lent h11
  obtain ⟨r1, h13, hf⟩ := bs hf
  refine aC rfl rfl rfl rfl hE rfl rfl rfl rfl (tree_Leaf.calls h13 (hS.st.fore (L := [])) h12 (hG0.mono (le2 (le2 (le2 le3 le1) le4) le5)) (hG1.mono (le2 (le2 (le2 le3 le1) le4) le5))) fun a v w hR hE => ?_
  obtain ⟨D9, rfl, hS1⟩ := hR
  have le6 := hS1.dle
  have hS := hS.callR hS1 rfl .n
  refine at_op (op_buildSlice (K := (kdArr .u8 32)) (e := 24) (cs := acells .u8 32 (r1) ++ []) ([r1] : List (Vector Int 32)) rfl rfl rfl rfl hE rfl hS rfl (by kernel_rfl) rfl rfl (by exact ⟨_, _, rfl, rfl, rfl⟩) (fun a A9 q7 w _ hE h14 hS => ?_)) rfl
  obtain ⟨D6, q8, le7, hS, h20, h15⟩ := hS.lent h14
  have hS := hS.p (.d 3 (.d 0 (.d 1 (.d 2 .n))))
  obtain ⟨l1, h16, hf⟩ := bs hf
  refine at_op (g_append (K := (kdArr .u8 32)) (e := 24) (bytes := 32) (l := y1.1) (m := ([r1] : List (Vector Int 32))) rfl rfl rfl rfl hE rfl hS rfl rfl (by kernel_rfl) rfl rfl (h1.mono (le2 (le2 (le2 le4 le5) le6) le7)) h15 h16 (fun a A7 c7 q3 w _ hE h17 hS => ?_)) rfl
  refine sN 1 7 [(3, .slice A7 (List.length (l1)) c7)] hE fun a hE => ?_
  refine ae ?_
  refine ra ?_
  refine sN 2 2 [(11, .int .i64 ((IntKind.wrap .i64 (y1.2 + (1 : Int)))))] hE fun a hE => ?_
  refine ae ?_
  have hS := hS.p (.d 0 .n)
  exact ⟨(l1, (IntKind.wrap .i64 (y1.2 + (1 : Int)))), A7, c7, q3, D6, hE.wk, hS, (le2 (le2 (le2 (le2 le1 le4) le5) le6) le7), h17, hf⟩
 replace hf := cf hb hf
 refine wpIn_exit ?_
 obtain rfl := si hf
 exact ⟨y1.1, A3, c2, q1, D3, hE.wk, hS, le1, h1, rfl⟩
set_option maxRecDepth 100000 in
theorem slices_Clone_api_Sig_api_Sig.calls {K : Nat} {g w0 : World} {D0 : Snap} {x1 : (List T_api_Sig)} {A2 : Option Addr} {c3 : Nat} {r : ((List T_api_Sig))} (hf : slices_Clone_api_Sig_api_Sig.f K x1 = some r) (hS0 : St g w0 D0 []) (h4 : Sl kd_T_api_Sig D0 A2 c3 (x1)) :
  CallsIn (Fw none) 0 Tryd.prog 61 (List.toArray [.slice A2 (List.length (x1)) c3]) w0 (fun e w' => ∃ v, e = .returned v ∧ ∃ (D1 : Snap) (A16 : Option Addr) (c17 : Nat) (q18 : Blk), v = .slice A16 (List.length (r)) c17 ∧ Stp g w0 D0 [] w' D1 [q18] ∧ OwnD kd_T_api_Sig 84 D1 A16 c17 (r) q18) := by
 unfold slices_Clone_api_Sig_api_Sig.f at hf
 have hS := Stp.refl hS0
 clear hS0
 refine calls_body (n := 8) Tryd.func61 rfl Tryd.ntmps61 rfl fun a hE => ?_
 have hE : Env a 8 [] [(0, .slice A2 (List.length (x1)) c3)] := hE
 refine sq (ra ?_)
 refine sN 1 1 [(2, .slice none 0 0)] hE fun a hE => ?_
 refine ae ?_
 refine sq (sq (ra ?_))
 refine sN 1 1 [(3, .slice A2 (List.length (x1)) c3)] hE fun a hE => ?_
 refine at_op (op_tk hE (tk_bin (r := .bool ((Option.isNone A2))) rfl rfl rfl rfl hE rfl rfl rfl (eqnil_run (by kernel_rfl) _ _ _) (fun a hE => ?_))) rfl
 refine ae ?_
 refine cond_split hE (b := (Option.isNone A2)) rfl (fun hb => ?_) (fun hb => ?_)
 ·have hx := Sl.of_none h4 hb rfl
  rw [hx] at hf
  replace hf : (some ([] : List T_api_Sig)) = some r := hf
  refine sq (ra ?_)
  refine sN 1 1 [(2, .slice none 0 0)] hE fun a hE => ?_
  refine ae ?_
  refine wpIn_ret ?_
  have hS := hS.nils
  obtain rfl := si hf
  refine ret_ ?_
  refine rT 2 (.slice none 0 0) hE ?_
  exact ⟨_, rfl, D0, none, 0, none, rfl, hS, (OwnD.nil kd_T_api_Sig 84 D0)⟩
 refine wpIn_skip ?_
 refine sq (ra ?_)
 refine at_op (op_buildSlice (K := kd_T_api_Sig) (e := 84) (cs := []) ([] : List T_api_Sig) rfl rfl rfl rfl hE rfl hS rfl (by kernel_rfl) rfl rfl (by exact rfl) (fun a A22 q23 w _ hE h24 hS => ?_)) rfl
 refine sN 1 2 [(6, .slice A2 (List.length (x1)) c3)] hE fun a hE => ?_
 obtain ⟨l26, h27, hf⟩ := bs hf
 refine at_op (g_append (K := kd_T_api_Sig) (e := 84) (bytes := 40) (l := ([] : List T_api_Sig)) (m := x1) rfl rfl rfl rfl hE rfl hS rfl rfl (by kernel_rfl) rfl rfl h24 h4 h27 (fun a A28 c29 q30 w _ hE h31 hS => ?_)) rfl
 refine sN 1 4 [(2, .slice A28 (List.length (l26)) c29)] hE fun a hE => ?_
 refine ae ?_
 refine wpIn_ret ?_
 obtain rfl := si hf
 refine ret_ ?_
 refine rT 2 (.slice A28 (List.length (l26)) c29) hE ?_
 exact ⟨_, rfl, D0, A28, c29, q30, rfl, hS, h31⟩
set_option maxRecDepth 100000 in
theorem export_Range_1.calls {K : Nat} {g w0 : World} {D0 : Snap} {x5 : Int} {x6 : Int} {x7 : Int} {b1 : Nat} {b2 : Nat} {r : (Bool)} (hf : export_Range_1.f K x5 x6 x7 = some r) (hS0 : St g w0 D0 [bx b1 3 ([.int .i64 (x6)]), bx b2 3 ([.int .i64 (x7)])]) :
  CallsIn (Fw none) 0 Tryd.prog 32 (List.toArray [.int .i64 (x5), .pointer (some ⟨b1, 0, none⟩), .pointer (some ⟨b2, 0, none⟩)]) w0 (fun e w' => ∃ v, e = .returned v ∧ ∃ D1, v = .bool (r) ∧ Stp g w0 D0 [bx b1 3 ([.int .i64 (x6)]), bx b2 3 ([.int .i64 (x7)])] w' D1 [bx b1 3 ([.int .i64 (x6)]), bx b2 3 ([.int .i64 (x7)])]) := by
 unfold export_Range_1.f at hf
 have hS := Stp.refl hS0
 clear hS0
 refine calls_body (n := 13) Tryd.func32 rfl Tryd.ntmps32 rfl fun a hE => ?_
 have hE : Env a 13 [] [(0, .int .i64 (x5)), (1, .pointer (some ⟨b1, 0, none⟩)), (2, .pointer (some ⟨b2, 0, none⟩))] := hE
 refine sq (ra ?_)
 refine sN 1 1 [(4, .bool false)] hE fun a hE => ?_
 refine ae ?_
 refine sq (ra ?_)
 refine sM 4 4 [0] [(8, .bool ((decide (x6 ≤ x5))))] hE hS fun a hE => ?_
 refine bo ((decide (x6 ≤ x5))) (fun hb => ?_) fun hb => ?_
 ·replace hf := cf hb hf
  have hE := hE.know (t := 8) rfl hb
  refine sN 5 9 [(4, .bool false)] hE fun a hE => ?_
  refine ae ?_
  refine wpIn_ret ?_
  obtain rfl := si hf
  refine ret_ ?_
  refine rT 4 (.bool false) hE ?_
  exact ⟨_, rfl, D0, rfl, hS⟩
 replace hf := ct hb hf
 have hE := hE.know (t := 8) rfl hb
 refine sM 5 9 [1] [(4, .bool ((decide (x5 < x7))))] hE hS fun a hE => ?_
 refine ae ?_
 refine wpIn_ret ?_
 obtain rfl := si hf
 refine ret_ ?_
 refine rT 4 (.bool ((decide (x5 < x7)))) hE ?_
 exact ⟨_, rfl, D0, rfl, hS⟩
set_option maxRecDepth 100000 in
theorem slices_Clone_api_Step_api_Step.calls {K : Nat} {g w0 : World} {D0 : Snap} {x1 : (List T_api_Step)} {A2 : Option Addr} {c3 : Nat} {r : ((List T_api_Step))} (hf : slices_Clone_api_Step_api_Step.f K x1 = some r) (hS0 : St g w0 D0 []) (h4 : Sl kd_T_api_Step D0 A2 c3 (x1)) :
  CallsIn (Fw none) 0 Tryd.prog 37 (List.toArray [.slice A2 (List.length (x1)) c3]) w0 (fun e w' => ∃ v, e = .returned v ∧ ∃ (D1 : Snap) (A16 : Option Addr) (c17 : Nat) (q18 : Blk), v = .slice A16 (List.length (r)) c17 ∧ Stp g w0 D0 [] w' D1 [q18] ∧ OwnD kd_T_api_Step 44 D1 A16 c17 (r) q18) := by
 unfold slices_Clone_api_Step_api_Step.f at hf
 have hS := Stp.refl hS0
 clear hS0
 refine calls_body (n := 8) Tryd.func37 rfl Tryd.ntmps37 rfl fun a hE => ?_
 have hE : Env a 8 [] [(0, .slice A2 (List.length (x1)) c3)] := hE
 refine sq (ra ?_)
 refine sN 1 1 [(2, .slice none 0 0)] hE fun a hE => ?_
 refine ae ?_
 refine sq (sq (ra ?_))
 refine sN 1 1 [(3, .slice A2 (List.length (x1)) c3)] hE fun a hE => ?_
 refine at_op (op_tk hE (tk_bin (r := .bool ((Option.isNone A2))) rfl rfl rfl rfl hE rfl rfl rfl (eqnil_run (by kernel_rfl) _ _ _) (fun a hE => ?_))) rfl
 refine ae ?_
 refine cond_split hE (b := (Option.isNone A2)) rfl (fun hb => ?_) (fun hb => ?_)
 ·have hx := Sl.of_none h4 hb rfl
  rw [hx] at hf
  replace hf : (some ([] : List T_api_Step)) = some r := hf
  refine sq (ra ?_)
  refine sN 1 1 [(2, .slice none 0 0)] hE fun a hE => ?_
  refine ae ?_
  refine wpIn_ret ?_
  have hS := hS.nils
  obtain rfl := si hf
  refine ret_ ?_
  refine rT 2 (.slice none 0 0) hE ?_
  exact ⟨_, rfl, D0, none, 0, none, rfl, hS, (OwnD.nil kd_T_api_Step 44 D0)⟩
 refine wpIn_skip ?_
 refine sq (ra ?_)
 refine at_op (op_buildSlice (K := kd_T_api_Step) (e := 44) (cs := []) ([] : List T_api_Step) rfl rfl rfl rfl hE rfl hS rfl (by kernel_rfl) rfl rfl (by exact rfl) (fun a A22 q23 w _ hE h24 hS => ?_)) rfl
 refine sN 1 2 [(6, .slice A2 (List.length (x1)) c3)] hE fun a hE => ?_
 obtain ⟨l26, h27, hf⟩ := bs hf
 refine at_op (g_append (K := kd_T_api_Step) (e := 44) (bytes := 16) (l := ([] : List T_api_Step)) (m := x1) rfl rfl rfl rfl hE rfl hS rfl rfl (by kernel_rfl) rfl rfl h24 h4 h27 (fun a A28 c29 q30 w _ hE h31 hS => ?_)) rfl
 refine sN 1 4 [(2, .slice A28 (List.length (l26)) c29)] hE fun a hE => ?_
 refine ae ?_
 refine wpIn_ret ?_
 obtain rfl := si hf
 refine ret_ ?_
 refine rT 2 (.slice A28 (List.length (l26)) c29) hE ?_
 exact ⟨_, rfl, D0, A28, c29, q30, rfl, hS, h31⟩
set_option maxRecDepth 100000 in
theorem rec_Redact.calls {K : Nat} {g w0 : World} {D0 : Snap} {x1 : T_api_Rec} {A2 : Option Addr} {c3 : Nat} {A5 : Option Addr} {c6 : Nat} {r : (T_api_Rec)} (hf : rec_Redact.f K x1 = some r) (hS0 : St g w0 D0 []) (h4 : Sl kd_T_api_Step D0 A2 c3 (x1.fSteps)) (h7 : Sl (kdInt .u8) D0 A5 c6 (x1.fData)) (hG0 : Cell (kdArr .u32 8) D0 0 0 gl_First) (hG1 : Cell (kdArr .u32 64) D0 1 0 gl_K) :
  CallsIn (Fw none) 0 Tryd.prog 17 (List.toArray [.agg (List.toArray (c_T_api_Rec (x1) A2 c3 A5 c6))]) w0 (fun e w' => ∃ v, e = .returned v ∧ ∃ (D1 : Snap) (A90 : Option Addr) (c91 : Nat) (A93 : Option Addr) (c94 : Nat), v = .agg (List.toArray (c_T_api_Rec ((T_api_Rec.mk (r.fKind) (r.fSaga) (r.fSeq) (r.fStep) (r.fTry) (r.fBack) (r.fGood) (r.fEnd) (r.fPart) (r.fEpoch) (r.fTag) (r.fSteps) (r.fData) (r.fSalt) (r.fGone) (r.fCom))) A90 c91 A93 c94)) ∧ Stp g w0 D0 [] w' D1 [] ∧ Sl kd_T_api_Step D1 A90 c91 (r.fSteps) ∧ Sl (kdInt .u8) D1 A93 c94 (r.fData)) := by
 unfold rec_Redact.f at hf
 have hS := Stp.refl hS0
 clear hS0
 refine calls_body (n := 20) Tryd.func17 rfl Tryd.ntmps17 rfl fun a hE => ?_
 have hE : Env a 20 [] [(0, .agg (List.toArray (c_T_api_Rec (x1) A2 c3 A5 c6)))] := hE
 refine sq (ra ?_)
 refine at_op (op_box rfl rfl rfl rfl hE rfl hS rfl (fun a b96 w _ hE hS => ?_)) rfl
 refine at_op (op_alloc (z := .agg (List.toArray (c_T_api_Rec (z_T_api_Rec) none 0 none 0))) rfl rfl rfl rfl hE rfl hS (by kernel_rfl) (fun a b98 w _ hE hS => ?_)) rfl
 refine ae ?_
 refine sq ?_
 obtain ⟨j1, hj1, hf⟩ := jn_elim hf
 refine seq_join (fun a w => ∃ (y1 : Bool), ∃ D2, Env a 20 [] [(1, .pointer (some ⟨b96, 0, none⟩)), (2, .pointer (some ⟨b98, 0, none⟩)), (10, .bool (y1))] ∧ Stp g w0 D0 [] w D2 [bx b96 39 (c_T_api_Rec (x1) A2 c3 A5 c6), bx b98 39 (c_T_api_Rec (z_T_api_Rec) none 0 none 0)] ∧ Snap.le D0 D2 ∧ j1 y1 = some r) ?_ ?_
 ·clear hj1
  refine ra ?_
  refine sM 1 1 [1] [(3, .agg (List.toArray (c_T_api_Rec (x1) A2 c3 A5 c6)))] hE hS fun a hE => ?_
  obtain ⟨r1, h1, hf⟩ := bs hf
  refine aC rfl rfl rfl rfl hE rfl rfl rfl rfl (rec_Right.calls h1 (hS.st.fore (L := [])) h4 h7) fun a v w hR hE => ?_
  obtain ⟨D4, rfl, hS1⟩ := hR
  have le4 := hS1.dle
  have hS := hS.callR hS1 rfl .n
  refine sN 2 4 [(6, .bool ((!r1)))] hE fun a hE => ?_
  refine bo ((!r1)) (fun hb => ?_) fun hb => ?_
  ·replace hf := cf hb hf
   have hE := hE.know (t := 6) rfl hb
   refine sM 4 8 [1] [(10, .bool ((!decide (x1.fKind = (1 : Int)))))] hE hS fun a hE => ?_
   refine ae ?_
   have hS := hS.p (.d 1 (.d 0 .n))
   exact ⟨(!decide (x1.fKind = (1 : Int))), D4, hE.wk, hS, le4, hf⟩
  replace hf := ct hb hf
  have hE := hE.know (t := 6) rfl hb
  refine sN 4 8 [(10, .bool true)] hE fun a hE => ?_
  refine ae ?_
  have hS := hS.p (.d 1 (.d 0 .n))
  exact ⟨true, D4, hE.wk, hS, le4, hf⟩
 clear hE hS
 rintro a w ⟨y1, D2, hE, hS, le1, hf⟩
 replace hf := hj1 _ hf
 clear hj1
 refine cond_split hE (b := y1) rfl (fun hb => ?_) (fun hb => ?_)
 ·replace hf := ct hb hf
  refine sq (ra ?_)
  refine sM 1 1 [0] [(11, .agg (List.toArray (c_T_api_Rec (x1) A2 c3 A5 c6)))] hE hS fun a hE => ?_
  have hS := hS.p (.d 1 (.d 0 .n))
  refine at_op (op_store (v := .agg (List.toArray (c_T_api_Rec (x1) A2 c3 A5 c6))) (c_T_api_Rec (x1) A2 c3 A5 c6) rfl rfl rfl rfl hE hS rfl rfl (by kernel_rfl) (by kernel_rfl) (by kernel_rfl) (by kernel_rfl) (by kernel_rfl) (fun a w _ hE hS => ?_)) rfl
  refine ae ?_
  refine wpIn_ret ?_
  obtain rfl := si hf
  refine ret_ ?_
  refine ret_gen ([.agg (List.toArray (c_T_api_Rec (x1) A2 c3 A5 c6))]) hE (by rw [show Tryd.f17.results.toList = [.cell 2 39] from rfl]; exact ⟨_, _, _, 0, _, _, rfl, rfl, hS.heapAt (j := 0) rfl, by kernel_rfl, rfl⟩) ?_
  have hS := hS.p .n
  exact ⟨_, rfl, D2, A2, c3, A5, c6, rfl, hS, (h4.mono le1), (h7.mono le1)⟩
 replace hf := cf hb hf
 refine wpIn_skip ?_
 refine sq ?_
 refine region_draw (fun j => Keeps (mfOf [(8, [b98])] j)) (by kernel_rfl) ?_
 have hS := hS.drew
 first | generalize w.drew = w at hS ⊢ | generalize w0.drew = w at hS ⊢
 refine wF 0 1 8 1 3 1 hE fun a hE => ?_
 refine tL 1 3 7 0 (.int .i64 (x1.fSaga)) hE hS fun a hE => ?_
 refine wF 2 7 6 42 36 42 hE fun a hE => ?_
 refine tL 3 15 5 0 (.slice A2 (List.length (x1.fSteps)) c3) hE hS fun a hE => ?_
 refine tL 5 47 4 0 (.agg (List.toArray (c_T_api_Rec (x1) A2 c3 A5 c6))) hE hS fun a hE => ?_
 obtain ⟨r2, h2, hf⟩ := bs hf
 refine oC 4 63 3 rfl rfl rfl rfl hE rfl rfl rfl rfl (slices_Clone_api_Step_api_Step.calls h2 (hS.st.fore (L := [])) (h4.mono le1)) fun a v w hR hE => ?_
 obtain ⟨D5, A1, c1, q1, rfl, hS1, h3⟩ := hR
 refine ⟨(hS1.keeps.sub (M' := []) trivial).mono (fun _ h => h), ?_⟩
 have le3 := hS1.dle
 have hS := hS.callR hS1 rfl (.c .n)
 obtain ⟨r3, h5, hf⟩ := bs hf
 refine oC 6 127 2 rfl rfl rfl rfl hE rfl rfl rfl rfl (rec_Com.calls h5 (hS.st.fore (L := [])) (h4.mono (le2 le1 le3)) (h7.mono (le2 le1 le3)) (hG0.mono (le2 le1 le3)) (hG1.mono (le2 le1 le3))) fun a v w hR hE => ?_
 obtain ⟨D6, rfl, hS1⟩ := hR
 refine ⟨(hS1.keeps.sub (M' := []) trivial).mono (fun _ h => h), ?_⟩
 have le5 := hS1.dle
 have hS := hS.callR hS1 rfl .n
 obtain ⟨D3, q2, le6, hS, h10, h6⟩ := hS.lent (h3.mono le5)
 refine tW 7 255 (fuel := 1) (by kernel_rfl) hE (fun M => tk_build (c_T_api_Rec ({ z_T_api_Rec with fKind := (1 : Int), fSaga := x1.fSaga, fSteps := r2, fGone := true, fCom := r3 }) A1 c1 none 0) rfl rfl rfl rfl hE rfl rfl (by kernel_rfl) (fun a hE => ?_))
 have hS := hS.p (.d 2 (.d 0 (.d 1 .n)))
 obtain ⟨v1, hv1, hf⟩ := bs hf
 replace hv1 := Option.some.inj hv1
 refine oG 8 511 (fuel := 0) (by kernel_rfl) (op_store (v := .agg (List.toArray (c_T_api_Rec ({ z_T_api_Rec with fKind := (1 : Int), fSaga := x1.fSaga, fSteps := r2, fGone := true, fCom := r3 }) A1 c1 none 0))) (c_T_api_Rec (v1) A1 c1 none 0) rfl rfl rfl rfl hE hS rfl rfl (by kernel_rfl) (by kernel_rfl) (by kernel_rfl) (by kernel_rfl) (by rw [← hv1]; kernel_rfl) (fun a w hkp hE hS => ⟨hkp.mono (fun _ h => h), ?_⟩))
 clear hkp
 have h8 : Sl kd_T_api_Step D3 A1 c1 (v1.fSteps) := by rw [← hv1]; exact h6
 have h9 : Sl (kdInt .u8) D3 none 0 (v1.fData) := by rw [← hv1]; exact (Sl.nil (kdInt .u8) D3)
 refine doneG (by kernel_rfl) ?_
 refine wpIn_ret ?_
 obtain rfl := si hf
 refine ret_ ?_
 refine ret_gen ([.agg (List.toArray (c_T_api_Rec (v1) A1 c1 none 0))]) hE (by rw [show Tryd.f17.results.toList = [.cell 2 39] from rfl]; exact ⟨_, _, _, 0, _, _, rfl, rfl, hS.heapAt (j := 0) rfl, by kernel_rfl, rfl⟩) ?_
 have hS := hS.p .n
 exact ⟨_, rfl, D3, A1, c1, none, 0, rfl, hS, h8, h9⟩
set_option maxRecDepth 100000 in
theorem export_masked.calls {K : Nat} {g w0 : World} {D0 : Snap} {x1 : T_api_Rec} {x8 : Int} {x9 : Int} {A2 : Option Addr} {c3 : Nat} {A5 : Option Addr} {c6 : Nat} {r : (T_api_Rec)} (hf : export_masked.f K x1 x8 x9 = some r) (hS0 : St g w0 D0 []) (h4 : Sl kd_T_api_Step D0 A2 c3 (x1.fSteps)) (h7 : Sl (kdInt .u8) D0 A5 c6 (x1.fData)) (hG0 : Cell (kdArr .u32 8) D0 0 0 gl_First) (hG1 : Cell (kdArr .u32 64) D0 1 0 gl_K) :
  CallsIn (Fw none) 0 Tryd.prog 62 (List.toArray [.agg (List.toArray (c_T_api_Rec (x1) A2 c3 A5 c6)), .int .i64 (x8), .int .u32 (x9)]) w0 (fun e w' => ∃ v, e = .returned v ∧ ∃ (D1 : Snap) (A78 : Option Addr) (c79 : Nat) (A81 : Option Addr) (c82 : Nat), v = .agg (List.toArray (c_T_api_Rec ((T_api_Rec.mk (r.fKind) (r.fSaga) (r.fSeq) (r.fStep) (r.fTry) (r.fBack) (r.fGood) (r.fEnd) (r.fPart) (r.fEpoch) (r.fTag) (r.fSteps) (r.fData) (r.fSalt) (r.fGone) (r.fCom))) A78 c79 A81 c82)) ∧ Stp g w0 D0 [] w' D1 [] ∧ Sl kd_T_api_Step D1 A78 c79 (r.fSteps) ∧ Sl (kdInt .u8) D1 A81 c82 (r.fData)) := by
 unfold export_masked.f at hf
 have hS := Stp.refl hS0
 clear hS0
 refine calls_body (n := 24) Tryd.func62 rfl Tryd.ntmps62 rfl fun a hE => ?_
 have hE : Env a 24 [] [(0, .agg (List.toArray (c_T_api_Rec (x1) A2 c3 A5 c6))), (1, .int .i64 (x8)), (2, .int .u32 (x9))] := hE
 refine sq (ra ?_)
 refine at_op (op_box rfl rfl rfl rfl hE rfl hS rfl (fun a b84 w _ hE hS => ?_)) rfl
 refine at_op (op_alloc (z := .agg (List.toArray (c_T_api_Rec (z_T_api_Rec) none 0 none 0))) rfl rfl rfl rfl hE rfl hS (by kernel_rfl) (fun a b86 w _ hE hS => ?_)) rfl
 refine ae ?_
 refine sq (sq (ra ?_))
 refine sN 3 3 [(7, .int .u32 (x9)), (9, .int .i64 ((Int.tmod x8 32)))] hE fun a hE => ?_
 obtain ⟨hq1, hf⟩ := chk_not hf
 refine at_op (op_tk hE (tk_bin (r := .int .u32 ((Int.fdiv x9 (2 ^ (min (Int.toNat (Int.tmod x8 32)) 32))))) rfl rfl rfl rfl hE rfl rfl rfl (shr_run hq1) (fun a hE => ?_))) rfl
 refine sN 2 6 [(12, .bool ((decide ((band .u32 (Int.fdiv x9 (2 ^ (min (Int.toNat (Int.tmod x8 32)) 32))) (1 : Int)) = (1 : Int)))))] hE fun a hE => ?_
 refine ae ?_
 refine cond_split hE (b := (decide ((band .u32 (Int.fdiv x9 (2 ^ (min (Int.toNat (Int.tmod x8 32)) 32))) (1 : Int)) = (1 : Int)))) rfl (fun hb => ?_) (fun hb => ?_)
 ·replace hf := ct hb hf
  refine sq (ra ?_)
  refine sM 1 1 [1] [(13, .agg (List.toArray (c_T_api_Rec (x1) A2 c3 A5 c6)))] hE hS fun a hE => ?_
  obtain ⟨r3, h1, hf⟩ := bs hf
  refine aC rfl rfl rfl rfl hE rfl rfl rfl rfl (rec_Redact.calls h1 (hS.st.fore (L := [])) h4 h7 hG0 hG1) fun a v w hR hE => ?_
  obtain ⟨D2, A4, c4, A6, c5, rfl, hS1, h2, h3⟩ := hR
  have le5 := hS1.dle
  have hS := hS.callR hS1 rfl .n
  refine at_op (op_store (v := .agg (List.toArray (c_T_api_Rec (r3) A4 c4 A6 c5))) (c_T_api_Rec (r3) A4 c4 A6 c5) rfl rfl rfl rfl hE hS rfl rfl (by kernel_rfl) (by kernel_rfl) (by kernel_rfl) (by kernel_rfl) (by kernel_rfl) (fun a w _ hE hS => ?_)) rfl
  refine ae ?_
  refine wpIn_ret ?_
  obtain rfl := si hf
  refine ret_ ?_
  refine ret_gen ([.agg (List.toArray (c_T_api_Rec (r3) A4 c4 A6 c5))]) hE (by rw [show Tryd.f62.results.toList = [.cell 6 39] from rfl]; exact ⟨_, _, _, 0, _, _, rfl, rfl, hS.heapAt (j := 0) rfl, by kernel_rfl, rfl⟩) ?_
  have hS := hS.p .n
  exact ⟨_, rfl, D2, A4, c4, A6, c5, rfl, hS, h2, h3⟩
 replace hf := cf hb hf
 refine wpIn_skip ?_
 refine sq ?_
 refine region_draw (fun j => Keeps (mfOf [(7, [b84]), (9, [b84])] j)) (by kernel_rfl) ?_
 have hS := hS.drew
 first | generalize w.drew = w at hS ⊢ | generalize w0.drew = w at hS ⊢
 refine wF 0 1 9 42 36 42 hE fun a hE => ?_
 refine tL 1 3 8 1 (.slice A2 (List.length (x1.fSteps)) c3) hE hS fun a hE => ?_
 refine wF 3 11 7 43 37 43 hE fun a hE => ?_
 refine tL 4 27 6 1 (.slice A5 (List.length (x1.fData)) c6) hE hS fun a hE => ?_
 obtain ⟨r1, h5, hf⟩ := bs hf
 refine oC 2 31 5 rfl rfl rfl rfl hE rfl rfl rfl rfl (slices_Clone_api_Step_api_Step.calls h5 (hS.st.fore (L := [])) h4) fun a v w hR hE => ?_
 obtain ⟨D4, A1, c1, q1, rfl, hS1, h6⟩ := hR
 refine ⟨(hS1.keeps.sub (M' := []) trivial).mono (fun _ h => h), ?_⟩
 have le1 := hS1.dle
 have hS := hS.callR hS1 rfl (.c .n)
 refine wF 6 95 4 42 36 42 hE fun a hE => ?_
 obtain ⟨r2, h8, hf⟩ := bs hf
 refine oC 5 127 3 rfl rfl rfl rfl hE rfl rfl rfl rfl (slices_Clone_byte_byte.calls h8 (hS.st.fore (L := [])) (h7.mono le1)) fun a v w hR hE => ?_
 obtain ⟨D5, A3, c2, q2, rfl, hS1, h9⟩ := hR
 refine ⟨(hS1.keeps.sub (M' := []) trivial).mono (fun _ h => h), ?_⟩
 have le2 := hS1.dle
 have hS := hS.callR hS1 rfl (.c .n)
 have hS := hS.p (.d 3 (.d 0 (.d 1 (.d 2 .n))))
 refine oG 7 255 (fuel := 2) (by kernel_rfl) (op_store (v := .slice A1 (List.length (r1)) c1) (c_T_api_Rec ({ x1 with fSteps := r1 }) A1 c1 A5 c6) rfl rfl rfl rfl hE hS rfl rfl (by kernel_rfl) (by kernel_rfl) (by kernel_rfl) (by kernel_rfl) (by kernel_rfl) (fun a w hkp hE hS => ⟨hkp.mono (fun _ h => h), ?_⟩))
 clear hkp
 refine wF 8 511 1 43 37 43 hE fun a hE => ?_
 refine oG 9 1023 (fuel := 0) (by kernel_rfl) (op_store (v := .slice A3 (List.length (r2)) c2) (c_T_api_Rec ({ x1 with fSteps := r1, fData := r2 }) A1 c1 A3 c2) rfl rfl rfl rfl hE hS rfl rfl (by kernel_rfl) (by kernel_rfl) (by kernel_rfl) (by kernel_rfl) (by kernel_rfl) (fun a w hkp hE hS => ⟨hkp.mono (fun _ h => h), ?_⟩))
 clear hkp
 refine doneG (by kernel_rfl) ?_
 refine sq (ra ?_)
 refine sM 1 1 [0] [(23, .agg (List.toArray (c_T_api_Rec ({ x1 with fSteps := r1, fData := r2 }) A1 c1 A3 c2)))] hE hS fun a hE => ?_
 have hS := hS.p (.d 3 (.d 0 (.d 1 (.d 2 .n))))
 refine at_op (op_store (v := .agg (List.toArray (c_T_api_Rec ({ x1 with fSteps := r1, fData := r2 }) A1 c1 A3 c2))) (c_T_api_Rec ({ x1 with fSteps := r1, fData := r2 }) A1 c1 A3 c2) rfl rfl rfl rfl hE hS rfl rfl (by kernel_rfl) (by kernel_rfl) (by kernel_rfl) (by kernel_rfl) (by kernel_rfl) (fun a w _ hE hS => ?_)) rfl
 refine ae ?_
 refine wpIn_ret ?_
 have hS := hS.p (.d 3 (.d 0 (.d 1 (.d 2 .n))))
 obtain ⟨D6, q3, le3, hS, h12, h10⟩ := hS.lent (h6.mono le2)
 have hS := hS.p (.d 3 (.d 0 (.d 1 (.d 2 .n))))
 obtain ⟨D3, q4, le4, hS, h13, h11⟩ := hS.lent (h9.mono le3)
 obtain rfl := si hf
 refine ret_ ?_
 refine ret_gen ([.agg (List.toArray (c_T_api_Rec ({ x1 with fSteps := r1, fData := r2 }) A1 c1 A3 c2))]) hE (by rw [show Tryd.f62.results.toList = [.cell 6 39] from rfl]; exact ⟨_, _, _, 0, _, _, rfl, rfl, hS.heapAt (j := 2) rfl, by kernel_rfl, rfl⟩) ?_
 have hS := hS.p .n
 exact ⟨_, rfl, D3, A1, c1, A3, c2, rfl, hS, (h10.mono le4), h11⟩
set_option maxRecDepth 100000 in
theorem tree_Split.calls {K : Nat} {g w0 : World} {D0 : Snap} {x1 : Int} {r : (Int)} (hf : tree_Split.f K x1 = some r) (hS0 : St g w0 D0 []) :
  CallsIn (Fw none) 0 Tryd.prog 51 (List.toArray [.int .i64 (x1)]) w0 (fun e w' => ∃ v, e = .returned v ∧ ∃ D1, v = .int .i64 (r) ∧ Stp g w0 D0 [] w' D1 []) := by
 unfold tree_Split.f at hf
 have hS := Stp.refl hS0
 clear hS0
 refine calls_body (n := 14) Tryd.func51 rfl Tryd.ntmps51 rfl fun a hE => ?_
 have hE : Env a 14 [] [(0, .int .i64 (x1))] := hE
 refine sq (ra ?_)
 refine sN 1 1 [(2, .int .i64 ((0 : Int)))] hE fun a hE => ?_
 refine ae ?_
 refine sq (sq (ra ?_))
 refine sN 2 2 [(5, .bool ((decide (x1 < (2 : Int)))))] hE fun a hE => ?_
 refine ae ?_
 refine cond_split hE (b := (decide (x1 < (2 : Int)))) rfl (fun hb => ?_) (fun hb => ?_)
 ·replace hf := ct hb hf
  refine sq (ra ?_)
  refine sN 1 1 [(2, .int .i64 ((0 : Int)))] hE fun a hE => ?_
  refine ae ?_
  refine wpIn_ret ?_
  obtain rfl := si hf
  refine ret_ ?_
  refine rT 2 (.int .i64 ((0 : Int))) hE ?_
  exact ⟨_, rfl, D0, rfl, hS⟩
 replace hf := cf hb hf
 refine wpIn_skip ?_
 refine sq (ra ?_)
 refine sN 1 1 [(3, .int .i64 ((1 : Int)))] hE fun a hE => ?_
 refine ae ?_
 refine sq ?_
 obtain ⟨s80, hf, hs81⟩ := bs hf
 refine block_loop (fun a w => ∃ (z77 : Int), ∃ D78, Env a 14 [] [(3, .int .i64 (z77))] ∧ Stp g w0 D0 [] w D78 [] ∧ Snap.le D0 D78 ∧ z77 = s80) (fun k a w => ∃ (y71 : Int), ∃ D72, Env a 14 [] [(0, .int .i64 (x1)), (3, .int .i64 (y71))] ∧ Stp g w0 D0 [] w D72 [] ∧ Snap.le D0 D72 ∧ tree_Split_l1.l K x1 k y71 = some s80) K ?_ ?_ ?_
 ·exact ⟨(1 : Int), D0, hE.wk, hS, lr, hf⟩
 ·clear hE hS hf
  rintro a w ⟨z77, D78, hE, hS, le79, rfl⟩
  have hf := hs81
  clear hs81
  refine sq (ra ?_)
  refine sN 2 2 [(2, .int .i64 (z77))] hE fun a hE => ?_
  refine ae ?_
  refine wpIn_ret ?_
  obtain rfl := si hf
  refine ret_ ?_
  refine rT 2 (.int .i64 (z77)) hE ?_
  exact ⟨_, rfl, D78, rfl, hS⟩
 clear hE hS hf
 rintro k a w ⟨y71, D72, hE, hS, le73, hf⟩
 obtain ⟨k, rfl, hf⟩ := tree_Split_l1.some _ hf
 refine ⟨k, rfl, ?_⟩
 unfold tree_Split_l1.b at hf
 refine sq (sq (ra ?_))
 refine sN 5 5 [(10, .bool ((decide (y71 < (IntKind.wrap .i64 (x1 - y71))))))] hE fun a hE => ?_
 refine ae ?_
 refine cond_split hE (b := (decide (y71 < (IntKind.wrap .i64 (x1 - y71))))) rfl (fun hb => ?_) (fun hb => ?_)
 ·replace hf := ct hb hf
  refine wpIn_skip ?_
  refine wpIn_block ?_
  refine ra ?_
  refine sN 3 3 [(3, .int .i64 ((IntKind.wrap .i64 (y71 * (2 : Int)))))] hE fun a hE => ?_
  exact ae ⟨(IntKind.wrap .i64 (y71 * (2 : Int))), D72, hE.wk, hS, le73, hf⟩
 replace hf := cf hb hf
 refine wpIn_exit ?_
 obtain rfl := si hf
 exact ⟨y71, D72, hE.wk, hS, le73, rfl⟩
set_option maxRecDepth 100000 in
theorem tree_Node.calls {K : Nat} {g w0 : World} {D0 : Snap} {x1 : (Vector Int 32)} {x2 : (Vector Int 32)} {r : ((Vector Int 32))} (hf : tree_Node.f K x1 x2 = some r) (hS0 : St g w0 D0 []) (hG0 : Cell (kdArr .u32 8) D0 0 0 gl_First) (hG1 : Cell (kdArr .u32 64) D0 1 0 gl_K) :
  CallsIn (Fw none) 0 Tryd.prog 52 (List.toArray [.agg (List.toArray (acells .u8 32 (x1))), .agg (List.toArray (acells .u8 32 (x2)))]) w0 (fun e w' => ∃ v, e = .returned v ∧ ∃ D1, v = .agg (List.toArray (acells .u8 32 (r))) ∧ Stp g w0 D0 [] w' D1 []) := by
 unfold tree_Node.f at hf
 have hS := Stp.refl hS0
 clear hS0
 refine calls_body (n := 10) Tryd.func52 rfl Tryd.ntmps52 rfl fun a hE => ?_
 have hE : Env a 10 [] [(0, .agg (List.toArray (acells .u8 32 (x1)))), (1, .agg (List.toArray (acells .u8 32 (x2))))] := hE
 refine sq (ra ?_)
 refine at_op (op_box rfl rfl rfl rfl hE rfl hS rfl (fun a b87 w _ hE hS => ?_)) rfl
 refine at_op (op_box rfl rfl rfl rfl hE rfl hS rfl (fun a b89 w _ hE hS => ?_)) rfl
 refine at_op (op_alloc (z := .agg (List.toArray (acells .u8 32 ((Vector.replicate 32 (0 : Int)))))) rfl rfl rfl rfl hE rfl hS (by kernel_rfl) (fun a b91 w _ hE hS => ?_)) rfl
 refine ae ?_
 refine sq ?_
 refine region_draw (fun j => Keeps (mfOf [(5, [b91])] j)) (by kernel_rfl) ?_
 have hS := hS.drew
 first | generalize w.drew = w at hS ⊢ | generalize w0.drew = w at hS ⊢
 have hS := hS.p (.d 2 (.d 0 (.d 1 .n)))
 obtain ⟨D3, le4, e1, hS⟩ := hS.freezeB
 obtain ⟨l1, h1, hf⟩ := bs hf
 refine tW 1 2 (fuel := 5) (by kernel_rfl) hE (fun M => g_sliceArr (kk := .u8) (e := 5) (v := x1) rfl rfl rfl rfl hE rfl rfl (by kernel_rfl) rfl rfl e1 rfl h1 (fun a A1 c1 hE h2 => ?_))
 have hS := hS.p (.d 1 (.d 0 .n))
 obtain ⟨D4, le3, e2, hS⟩ := hS.freezeB
 obtain ⟨l2, h3, hf⟩ := bs hf
 refine tW 2 6 (fuel := 4) (by kernel_rfl) hE (fun M => g_sliceArr (kk := .u8) (e := 5) (v := x2) rfl rfl rfl rfl hE rfl rfl (by kernel_rfl) rfl rfl e2 rfl h3 (fun a A2 c2 hE h4 => ?_))
 refine oG 0 7 (fuel := 3) (by kernel_rfl) (op_buildSlice (K := (kdInt .u8)) (e := 5) (cs := [.int .u8 ((1 : Int))] ++ []) ([(1 : Int)] : List Int) rfl rfl rfl rfl hE rfl hS rfl (by kernel_rfl) rfl rfl (by exact ⟨_, _, rfl, rfl, rfl⟩) (fun a A3 q1 w hkp hE h5 hS => ⟨hkp.mono (fun _ h => absurd h List.not_mem_nil), ?_⟩))
 clear hkp
 obtain ⟨D5, q2, le1, hS, h10, h6⟩ := hS.lent h5
 refine oG 3 15 (fuel := 2) (by kernel_rfl) (op_buildSlice (K := (kdSlice (kdInt .u8))) (e := 37) (cs := [.slice A3 (List.length (([(1 : Int)] : List Int))) 1] ++ ([.slice A1 (List.length (l1)) c1] ++ ([.slice A2 (List.length (l2)) c2] ++ []))) ([([(1 : Int)] : List Int), l1, l2] : List (List Int)) rfl rfl rfl rfl hE rfl hS rfl (by kernel_rfl) rfl rfl (by exact ⟨_, _, rfl, (kslice h6), ⟨_, _, rfl, (kslice (h2.mono (le2 le3 le1))), ⟨_, _, rfl, (kslice (h4.mono le1)), rfl⟩⟩⟩) (fun a A4 q3 w hkp hE h7 hS => ⟨hkp.mono (fun _ h => absurd h List.not_mem_nil), ?_⟩))
 clear hkp
 obtain ⟨D6, q4, le5, hS, h11, h8⟩ := hS.lent h7
 obtain ⟨r1, h9, hf⟩ := bs hf
 refine oC 4 31 1 rfl rfl rfl rfl hE rfl rfl rfl rfl (sha_Sum.calls h9 (hS.st.fore (L := [])) h8 (hG0.mono (le2 (le2 (le2 le4 le3) le1) le5)) (hG1.mono (le2 (le2 (le2 le4 le3) le1) le5))) fun a v w hR hE => ?_
 obtain ⟨D2, rfl, hS1⟩ := hR
 refine ⟨(hS1.keeps.sub (M' := []) trivial).mono (fun _ h => h), ?_⟩
 have le6 := hS1.dle
 have hS := hS.callR hS1 rfl .n
 have hS := hS.p (.d 2 (.d 0 (.d 1 .n)))
 refine oG 5 63 (fuel := 0) (by kernel_rfl) (op_store (v := .agg (List.toArray (acells .u8 32 (r1)))) (acells .u8 32 (r1)) rfl rfl rfl rfl hE hS rfl rfl (by kernel_rfl) (by kernel_rfl) (by kernel_rfl) (by kernel_rfl) (by kernel_rfl) (fun a w hkp hE hS => ⟨hkp.mono (fun _ h => h), ?_⟩))
 clear hkp
 refine doneG (by kernel_rfl) ?_
 refine wpIn_ret ?_
 obtain rfl := si hf
 refine ret_ ?_
 refine ret_gen ([.agg (List.toArray (acells .u8 32 (r1)))]) hE (by rw [show Tryd.f52.results.toList = [.cell 4 24] from rfl]; exact ⟨_, _, _, 0, _, _, rfl, rfl, hS.heapAt (j := 0) rfl, by kernel_rfl, rfl⟩) ?_
 have hS := hS.p .n
 exact ⟨_, rfl, D2, rfl, hS⟩
set_option maxRecDepth 100000 in
theorem tree_Root.step {K : Nat} {self : (List (Vector Int 32)) → Option ((Vector Int 32))} (ih : ∀ {g w0 : World} {D0 : Snap} {x1 : (List (Vector Int 32))} {A2 : Option Addr} {c3 : Nat} {r : ((Vector Int 32))} (hf : self x1 = some r) (hS0 : St g w0 D0 []) (h4 : Sl (kdArr .u8 32) D0 A2 c3 (x1)) (hG0 : Cell (kdArr .u32 8) D0 0 0 gl_First) (hG1 : Cell (kdArr .u32 64) D0 1 0 gl_K), CallsIn (Fw none) 0 Tryd.prog 22 (List.toArray [.slice A2 (List.length (x1)) c3]) w0 (fun e w' => ∃ v, e = .returned v ∧ ∃ D1, v = .agg (List.toArray (acells .u8 32 (r))) ∧ Stp g w0 D0 [] w' D1 [])) {g w0 : World} {D0 : Snap} {x1 : (List (Vector Int 32))} {A2 : Option Addr} {c3 : Nat} {r : ((Vector Int 32))} (hf : tree_Root.b K self x1 = some r) (hS0 : St g w0 D0 []) (h4 : Sl (kdArr .u8 32) D0 A2 c3 (x1)) (hG0 : Cell (kdArr .u32 8) D0 0 0 gl_First) (hG1 : Cell (kdArr .u32 64) D0 1 0 gl_K) :
  CallsIn (Fw none) 0 Tryd.prog 22 (List.toArray [.slice A2 (List.length (x1)) c3]) w0 (fun e w' => ∃ v, e = .returned v ∧ ∃ D1, v = .agg (List.toArray (acells .u8 32 (r))) ∧ Stp g w0 D0 [] w' D1 []) := by
 unfold tree_Root.b at hf
 have hS := Stp.refl hS0
 clear hS0
 refine calls_body (n := 26) Tryd.func22 rfl Tryd.ntmps22 rfl fun a hE => ?_
 have hE : Env a 26 [] [(0, .slice A2 (List.length (x1)) c3)] := hE
 refine sq (ra ?_)
 refine at_op (op_alloc (z := .agg (List.toArray (acells .u8 32 ((Vector.replicate 32 (0 : Int)))))) rfl rfl rfl rfl hE rfl hS (by kernel_rfl) (fun a b1 w _ hE hS => ?_)) rfl
 refine ae ?_
 refine sq (sq (ra ?_))
 refine sN 2 2 [(5, .int .i64 (((List.length (x1) : Nat) : Int)))] hE fun a hE => ?_
 refine ae ?_
 refine wpIn_block ?_
 refine sq (ra ?_)
 refine sN 2 2 [(6, .bool ((decide (((List.length (x1) : Nat) : Int) = (0 : Int)))))] hE fun a hE => ?_
 refine ae ?_
 refine cond_split hE (b := (decide (((List.length (x1) : Nat) : Int) = (0 : Int)))) rfl (fun hb => ?_) (fun hb => ?_)
 ·replace hf := ct hb hf
  refine sq (ra ?_)
  obtain ⟨r1, h1, hf⟩ := bs hf
  have hc := (sha_Sum.calls h1 (hS.st.fore (L := [])) (Sl.nil (kdSlice (kdInt .u8)) D0) hG0 hG1)
  refine aC rfl rfl rfl rfl hE rfl rfl rfl rfl hc fun a v w hR hE => ?_
  obtain ⟨D2, rfl, hS1⟩ := hR
  have le5 := hS1.dle
  have hS := hS.callR hS1 rfl .n
  refine at_op (op_store (v := .agg (List.toArray (acells .u8 32 (r1)))) (acells .u8 32 (r1)) rfl rfl rfl rfl hE hS rfl rfl (by kernel_rfl) (by kernel_rfl) (by kernel_rfl) (by kernel_rfl) (by kernel_rfl) (fun a w _ hE hS => ?_)) rfl
  refine ae ?_
  refine wpIn_ret ?_
  obtain rfl := si hf
  refine ret_ ?_
  refine ret_gen ([.agg (List.toArray (acells .u8 32 (r1)))]) hE (by rw [show Tryd.f22.results.toList = [.cell 2 24] from rfl]; exact ⟨_, _, _, 0, _, _, rfl, rfl, hS.heapAt (j := 0) rfl, by kernel_rfl, rfl⟩) ?_
  have hS := hS.p .n
  exact ⟨_, rfl, D2, rfl, hS⟩
 replace hf := cf hb hf
 refine sq (ra ?_)
 refine sN 2 2 [(9, .bool ((decide (((List.length (x1) : Nat) : Int) = (1 : Int)))))] hE fun a hE => ?_
 refine ae ?_
 refine cond_split hE (b := (decide (((List.length (x1) : Nat) : Int) = (1 : Int)))) rfl (fun hb => ?_) (fun hb => ?_)
 ·replace hf := ct hb hf
  refine sq (ra ?_)
  refine sN 1 1 [(11, .slice A2 (List.length (x1)) c3)] hE fun a hE => ?_
  obtain ⟨x2, h2, hf⟩ := bs hf
  refine at_op (op_tk hE (g_index (K := (kdArr .u8 32)) (e := 24) (by_ := 32) (zl := 32) rfl rfl rfl rfl hE rfl rfl rfl (by kernel_rfl) rfl h4 h2 (fun a b2 o1 hE h3 => ?_))) rfl
  obtain ⟨cs1, C1, T1, fr1, hr1, hb1, hc1⟩ := id h3
  obtain rfl := hr1
  refine at_op (op_tk hE (tk_loadX (off0 := o1) (off := 0) (c := acells .u8 32 (x2)) (.agg (List.toArray (acells .u8 32 (x2)))) rfl rfl rfl rfl hE rfl hS rfl hb1 hc1 (by kernel_rfl) (by kernel_rfl) (kD hS dn_nil) (fun a hE => ?_))) rfl
  refine at_op (op_store (v := .agg (List.toArray (acells .u8 32 (x2)))) (acells .u8 32 (x2)) rfl rfl rfl rfl hE hS rfl rfl (by kernel_rfl) (by kernel_rfl) (by kernel_rfl) (by kernel_rfl) (by kernel_rfl) (fun a w _ hE hS => ?_)) rfl
  refine ae ?_
  refine wpIn_ret ?_
  obtain rfl := si hf
  refine ret_ ?_
  refine ret_gen ([.agg (List.toArray (acells .u8 32 (x2)))]) hE (by rw [show Tryd.f22.results.toList = [.cell 2 24] from rfl]; exact ⟨_, _, _, 0, _, _, rfl, rfl, hS.heapAt (j := 0) rfl, by kernel_rfl, rfl⟩) ?_
  have hS := hS.p .n
  exact ⟨_, rfl, D0, rfl, hS⟩
 replace hf := cf hb hf
 refine wpIn_skip ?_
 refine sq (ra ?_)
 refine sN 2 2 [(15, .int .i64 (((List.length (x1) : Nat) : Int)))] hE fun a hE => ?_
 obtain ⟨r2, h5, hf⟩ := bs hf
 refine aC rfl rfl rfl rfl hE rfl rfl rfl rfl (tree_Split.calls h5 (hS.st.fore (L := [])) ) fun a v w hR hE => ?_
 obtain ⟨D4, rfl, hS1⟩ := hR
 have le1 := hS1.dle
 have hS := hS.callR hS1 rfl .n
 refine sN 1 4 [(3, .int .i64 (r2))] hE fun a hE => ?_
 refine ae ?_
 refine sq ?_
 refine region_draw (fun j => Keeps (mfOf [(9, [b1])] j)) (by kernel_rfl) ?_
 have hS := hS.drew
 first | generalize w.drew = w at hS ⊢ | generalize w0.drew = w at hS ⊢
 refine wP 0 1 9 (.slice A2 (List.length (x1)) c3) hE fun a hE => ?_
 refine wP 1 3 8 (.int .i64 (r2)) hE fun a hE => ?_
 refine wP 4 19 7 (.slice A2 (List.length (x1)) c3) hE fun a hE => ?_
 refine wP 5 51 6 (.int .i64 (r2)) hE fun a hE => ?_
 obtain ⟨l1, h6, hf⟩ := bs hf
 refine tW 2 55 (fuel := 5) (by kernel_rfl) hE (fun M => g_slice (K := (kdArr .u8 32)) (e := 24) (by_ := 32) (zl := 32) rfl rfl rfl rfl hE rfl rfl (by kernel_rfl) rfl ⟨_, rfl⟩ (h4.mono le1) h6 (fun a A1 c1 hE h7 => ?_))
 obtain ⟨l2, h8, hf⟩ := bs hf
 refine tW 6 119 (fuel := 4) (by kernel_rfl) hE (fun M => g_slice (K := (kdArr .u8 32)) (e := 24) (by_ := 32) (zl := 32) rfl rfl rfl rfl hE rfl rfl (by kernel_rfl) ⟨_, rfl⟩ rfl (h4.mono le1) h8 (fun a A3 c2 hE h9 => ?_))
 obtain ⟨r4, h10, hf⟩ := bs hf
 refine oC 3 127 3 rfl rfl rfl rfl hE rfl rfl rfl rfl (ih (g := g) h10 (hS.st.fore (L := [])) h7 (hG0.mono le1) (hG1.mono le1)) fun a v w hR hE => ?_
 obtain ⟨D5, rfl, hS1⟩ := hR
 refine ⟨(hS1.keeps.sub (M' := []) trivial).mono (fun _ h => h), ?_⟩
 have le3 := hS1.dle
 have hS := hS.callR hS1 rfl .n
 obtain ⟨r5, h11, hf⟩ := bs hf
 refine oC 7 255 2 rfl rfl rfl rfl hE rfl rfl rfl rfl (ih (g := g) h11 (hS.st.fore (L := [])) (h9.mono le3) (hG0.mono (le2 le1 le3)) (hG1.mono (le2 le1 le3))) fun a v w hR hE => ?_
 obtain ⟨D6, rfl, hS1⟩ := hR
 refine ⟨(hS1.keeps.sub (M' := []) trivial).mono (fun _ h => h), ?_⟩
 have le4 := hS1.dle
 have hS := hS.callR hS1 rfl .n
 obtain ⟨r3, h12, hf⟩ := bs hf
 refine oC 8 511 1 rfl rfl rfl rfl hE rfl rfl rfl rfl (tree_Node.calls h12 (hS.st.fore (L := [])) (hG0.mono (le2 (le2 le1 le3) le4)) (hG1.mono (le2 (le2 le1 le3) le4))) fun a v w hR hE => ?_
 obtain ⟨D3, rfl, hS1⟩ := hR
 refine ⟨(hS1.keeps.sub (M' := []) trivial).mono (fun _ h => h), ?_⟩
 have le6 := hS1.dle
 have hS := hS.callR hS1 rfl .n
 refine oG 9 1023 (fuel := 0) (by kernel_rfl) (op_store (v := .agg (List.toArray (acells .u8 32 (r3)))) (acells .u8 32 (r3)) rfl rfl rfl rfl hE hS rfl rfl (by kernel_rfl) (by kernel_rfl) (by kernel_rfl) (by kernel_rfl) (by kernel_rfl) (fun a w hkp hE hS => ⟨hkp.mono (fun _ h => h), ?_⟩))
 clear hkp
 refine doneG (by kernel_rfl) ?_
 refine wpIn_ret ?_
 obtain rfl := si hf
 refine ret_ ?_
 refine ret_gen ([.agg (List.toArray (acells .u8 32 (r3)))]) hE (by rw [show Tryd.f22.results.toList = [.cell 2 24] from rfl]; exact ⟨_, _, _, 0, _, _, rfl, rfl, hS.heapAt (j := 0) rfl, by kernel_rfl, rfl⟩) ?_
 have hS := hS.p .n
 exact ⟨_, rfl, D3, rfl, hS⟩
set_option maxRecDepth 100000 in
theorem tree_Root.rcalls {K : Nat} : ∀ (k : Nat) {g w0 : World} {D0 : Snap} {x1 : (List (Vector Int 32))} {A2 : Option Addr} {c3 : Nat} {r : ((Vector Int 32))} (hf : tree_Root.r K k x1 = some r) (hS0 : St g w0 D0 []) (h4 : Sl (kdArr .u8 32) D0 A2 c3 (x1)) (hG0 : Cell (kdArr .u32 8) D0 0 0 gl_First) (hG1 : Cell (kdArr .u32 64) D0 1 0 gl_K),
  CallsIn (Fw none) 0 Tryd.prog 22 (List.toArray [.slice A2 (List.length (x1)) c3]) w0 (fun e w' => ∃ v, e = .returned v ∧ ∃ D1, v = .agg (List.toArray (acells .u8 32 (r))) ∧ Stp g w0 D0 [] w' D1 []) := by
 intro k
 induction k with
 | zero => intro g w0 D0 x1 A2 c3 r hf; cases hf
 | succ k ih => intro g w0 D0 x1 A2 c3 r hf hS0 h4 hG0 hG1; exact tree_Root.step ih hf hS0 h4 hG0 hG1
theorem tree_Root.calls {K : Nat} {g w0 : World} {D0 : Snap} {x1 : (List (Vector Int 32))} {A2 : Option Addr} {c3 : Nat} {r : ((Vector Int 32))} (hf : tree_Root.f K x1 = some r) (hS0 : St g w0 D0 []) (h4 : Sl (kdArr .u8 32) D0 A2 c3 (x1)) (hG0 : Cell (kdArr .u32 8) D0 0 0 gl_First) (hG1 : Cell (kdArr .u32 64) D0 1 0 gl_K) :
  CallsIn (Fw none) 0 Tryd.prog 22 (List.toArray [.slice A2 (List.length (x1)) c3]) w0 (fun e w' => ∃ v, e = .returned v ∧ ∃ D1, v = .agg (List.toArray (acells .u8 32 (r))) ∧ Stp g w0 D0 [] w' D1 []) := tree_Root.rcalls K hf hS0 h4 hG0 hG1
set_option maxRecDepth 100000 in
theorem proof_Path.step {K : Nat} {self : (List (Vector Int 32)) → Int → Option ((List (Vector Int 32)) × Bool)} (ih : ∀ {g w0 : World} {D0 : Snap} {x1 : (List (Vector Int 32))} {x5 : Int} {A2 : Option Addr} {c3 : Nat} {r : ((List (Vector Int 32)) × Bool)} (hf : self x1 x5 = some r) (hS0 : St g w0 D0 []) (h4 : Sl (kdArr .u8 32) D0 A2 c3 (x1)) (hG0 : Cell (kdArr .u32 8) D0 0 0 gl_First) (hG1 : Cell (kdArr .u32 64) D0 1 0 gl_K), CallsIn (Fw none) 0 Tryd.prog 63 (List.toArray [.slice A2 (List.length (x1)) c3, .int .i64 (x5)]) w0 (fun e w' => ∃ v, e = .returned v ∧ ∃ (D1 : Snap) (A1 : Option Addr) (c1 : Nat) (q1 : Blk), v = .tuple #[.slice A1 (List.length (r.1)) c1, .bool (r.2)] ∧ Stp g w0 D0 [] w' D1 [q1] ∧ OwnD (kdArr .u8 32) 24 D1 A1 c1 (r.1) q1)) {g w0 : World} {D0 : Snap} {x1 : (List (Vector Int 32))} {x5 : Int} {A2 : Option Addr} {c3 : Nat} {r : ((List (Vector Int 32)) × Bool)} (hf : proof_Path.b K self x1 x5 = some r) (hS0 : St g w0 D0 []) (h4 : Sl (kdArr .u8 32) D0 A2 c3 (x1)) (hG0 : Cell (kdArr .u32 8) D0 0 0 gl_First) (hG1 : Cell (kdArr .u32 64) D0 1 0 gl_K) :
  CallsIn (Fw none) 0 Tryd.prog 63 (List.toArray [.slice A2 (List.length (x1)) c3, .int .i64 (x5)]) w0 (fun e w' => ∃ v, e = .returned v ∧ ∃ (D1 : Snap) (A1 : Option Addr) (c1 : Nat) (q1 : Blk), v = .tuple #[.slice A1 (List.length (r.1)) c1, .bool (r.2)] ∧ Stp g w0 D0 [] w' D1 [q1] ∧ OwnD (kdArr .u8 32) 24 D1 A1 c1 (r.1) q1) := by
 unfold proof_Path.b at hf
 have hS := Stp.refl hS0
 clear hS0
 refine calls_body (n := 60) Tryd.func63 rfl Tryd.ntmps63 rfl fun a hE => ?_
 have hE : Env a 60 [] [(0, .slice A2 (List.length (x1)) c3), (1, .int .i64 (x5))] := hE
 refine sq (ra ?_)
 refine sN 2 2 [(4, .slice none 0 0), (5, .bool false)] hE fun a hE => ?_
 refine ae ?_
 refine sq ?_
 obtain ⟨j1, hj1, hf⟩ := jn_elim hf
 refine seq_join (fun a w => ∃ (y1 : Bool), ∃ D2, Env a 60 [] [(0, .slice A2 (List.length (x1)) c3), (1, .int .i64 (x5)), (18, .bool (y1))] ∧ Stp g w0 D0 [] w D2 [] ∧ Snap.le D0 D2 ∧ j1 y1 = some r) ?_ ?_
 ·clear hj1
  refine ra ?_
  refine sN 3 3 [(13, .bool ((decide (x5 < (0 : Int)))))] hE fun a hE => ?_
  refine bo ((decide (x5 < (0 : Int)))) (fun hb => ?_) fun hb => ?_
  ·replace hf := cf hb hf
   have hE := hE.know (t := 13) rfl hb
   refine sN 5 8 [(18, .bool ((decide (((List.length (x1) : Nat) : Int) ≤ x5))))] hE fun a hE => ?_
   exact ae ⟨(decide (((List.length (x1) : Nat) : Int) ≤ x5)), D0, hE.wk, hS, lr, hf⟩
  replace hf := ct hb hf
  have hE := hE.know (t := 13) rfl hb
  refine sN 5 8 [(18, .bool true)] hE fun a hE => ?_
  exact ae ⟨true, D0, hE.wk, hS, lr, hf⟩
 clear hE hS
 rintro a w ⟨y1, D2, hE, hS, le1, hf⟩
 replace hf := hj1 _ hf
 clear hj1
 refine cond_split hE (b := y1) rfl (fun hb => ?_) (fun hb => ?_)
 ·replace hf := ct hb hf
  refine sq (ra ?_)
  refine sN 2 2 [(4, .slice none 0 0), (5, .bool false)] hE fun a hE => ?_
  refine ae ?_
  refine wpIn_ret ?_
  have hS := hS.nils
  obtain rfl := si hf
  refine ret_ ?_
  refine ret_gen ([.slice none 0 0, .bool false]) hE (by rw [show Tryd.f63.results.toList = [.tmp 4, .tmp 5] from rfl]; exact ⟨_, _, rfl, rfl, ⟨_, _, rfl, rfl, rfl⟩⟩) ?_
  exact ⟨_, rfl, D2, none, 0, none, rfl, hS, (OwnD.nil (kdArr .u8 32) 24 D2)⟩
 replace hf := cf hb hf
 refine wpIn_skip ?_
 refine sq (sq (ra ?_))
 refine sN 3 3 [(21, .bool ((decide (((List.length (x1) : Nat) : Int) = (1 : Int)))))] hE fun a hE => ?_
 refine ae ?_
 refine cond_split hE (b := (decide (((List.length (x1) : Nat) : Int) = (1 : Int)))) rfl (fun hb => ?_) (fun hb => ?_)
 ·replace hf := ct hb hf
  refine sq (ra ?_)
  refine sN 2 2 [(4, .slice none 0 0), (5, .bool true)] hE fun a hE => ?_
  refine ae ?_
  refine wpIn_ret ?_
  have hS := hS.nils
  obtain rfl := si hf
  refine ret_ ?_
  refine ret_gen ([.slice none 0 0, .bool true]) hE (by rw [show Tryd.f63.results.toList = [.tmp 4, .tmp 5] from rfl]; exact ⟨_, _, rfl, rfl, ⟨_, _, rfl, rfl, rfl⟩⟩) ?_
  exact ⟨_, rfl, D2, none, 0, none, rfl, hS, (OwnD.nil (kdArr .u8 32) 24 D2)⟩
 replace hf := cf hb hf
 refine wpIn_skip ?_
 refine sq (ra ?_)
 refine sN 2 2 [(23, .int .i64 (((List.length (x1) : Nat) : Int)))] hE fun a hE => ?_
 obtain ⟨r1, h1, hf⟩ := bs hf
 refine aC rfl rfl rfl rfl hE rfl rfl rfl rfl (tree_Split.calls h1 (hS.st.fore (L := [])) ) fun a v w hR hE => ?_
 obtain ⟨D5, rfl, hS1⟩ := hR
 have le3 := hS1.dle
 have hS := hS.callR hS1 rfl .n
 refine sN 1 4 [(6, .int .i64 (r1))] hE fun a hE => ?_
 refine ae ?_
 refine sq (sq (ra ?_))
 refine sN 3 3 [(27, .bool ((decide (x5 < r1))))] hE fun a hE => ?_
 refine ae ?_
 refine cond_split hE (b := (decide (x5 < r1))) rfl (fun hb => ?_) (fun hb => ?_)
 ·replace hf := ct hb hf
  refine sq (ra ?_)
  refine sN 2 2 [(29, .slice A2 (List.length (x1)) c3), (30, .int .i64 (r1))] hE fun a hE => ?_
  obtain ⟨l3, h2, hf⟩ := bs hf
  refine at_op (op_tk hE (g_slice (K := (kdArr .u8 32)) (e := 24) (by_ := 32) (zl := 32) rfl rfl rfl rfl hE rfl rfl (by kernel_rfl) rfl ⟨_, rfl⟩ (h4.mono (le2 le1 le3)) h2 (fun a A7 c7 hE h3 => ?_))) rfl
  refine sN 1 4 [(32, .int .i64 (x5))] hE fun a hE => ?_
  obtain ⟨r2, h5, hf⟩ := bs hf
  refine aC rfl rfl rfl rfl hE rfl rfl rfl rfl (ih (g := g) h5 (hS.st.fore (L := [])) h3 (hG0.mono (le2 le1 le3)) (hG1.mono (le2 le1 le3))) fun a v w hR hE => ?_
  obtain ⟨D6, A5, c5, q4, rfl, hS1, h6⟩ := hR
  have le4 := hS1.dle
  have hS := hS.callR hS1 rfl (.c .n)
  refine sN 5 10 [(7, .slice A5 (List.length (r2.1)) c5)] hE fun a hE => ?_
  refine ae ?_
  refine sq (ra ?_)
  refine sN 3 3 [(36, .slice A5 (List.length (r2.1)) c5), (37, .slice A2 (List.length (x1)) c3), (38, .int .i64 (r1))] hE fun a hE => ?_
  obtain ⟨l4, h7, hf⟩ := bs hf
  refine at_op (op_tk hE (g_slice (K := (kdArr .u8 32)) (e := 24) (by_ := 32) (zl := 32) rfl rfl rfl rfl hE rfl rfl (by kernel_rfl) ⟨_, rfl⟩ rfl (h4.mono (le2 (le2 le1 le3) le4)) h7 (fun a A8 c8 hE h8 => ?_))) rfl
  obtain ⟨r3, h9, hf⟩ := bs hf
  refine aC rfl rfl rfl rfl hE rfl rfl rfl rfl (tree_Root.calls h9 (hS.st.fore (L := [])) h8 (hG0.mono (le2 (le2 le1 le3) le4)) (hG1.mono (le2 (le2 le1 le3) le4))) fun a v w hR hE => ?_
  obtain ⟨D7, rfl, hS1⟩ := hR
  have le6 := hS1.dle
  have hS := hS.callR hS1 rfl .n
  refine at_op (op_buildSlice (K := (kdArr .u8 32)) (e := 24) (cs := acells .u8 32 (r3) ++ []) ([r3] : List (Vector Int 32)) rfl rfl rfl rfl hE rfl hS rfl (by kernel_rfl) rfl rfl (by exact ⟨_, _, rfl, rfl, rfl⟩) (fun a A9 q5 w _ hE h10 hS => ?_)) rfl
  obtain ⟨D3, q6, le7, hS, h25, h11⟩ := hS.lent h10
  have hS := hS.p (.d 1 (.d 0 .n))
  obtain ⟨l1, h12, hf⟩ := bs hf
  refine at_op (g_append (K := (kdArr .u8 32)) (e := 24) (bytes := 32) (l := r2.1) (m := ([r3] : List (Vector Int 32))) rfl rfl rfl rfl hE rfl hS rfl rfl (by kernel_rfl) rfl rfl (h6.mono (le2 le6 le7)) h11 h12 (fun a A3 c2 q2 w _ hE h13 hS => ?_)) rfl
  refine sN 2 9 [(4, .slice A3 (List.length (l1)) c2), (5, .bool true)] hE fun a hE => ?_
  refine ae ?_
  refine wpIn_ret ?_
  obtain rfl := si hf
  refine ret_ ?_
  refine ret_gen ([.slice A3 (List.length (l1)) c2, .bool true]) hE (by rw [show Tryd.f63.results.toList = [.tmp 4, .tmp 5] from rfl]; exact ⟨_, _, rfl, rfl, ⟨_, _, rfl, rfl, rfl⟩⟩) ?_
  have hS := hS.p (.d 0 .n)
  exact ⟨_, rfl, D3, A3, c2, q2, rfl, hS, h13⟩
 replace hf := cf hb hf
 refine wpIn_skip ?_
 refine sq (ra ?_)
 refine sN 2 2 [(44, .slice A2 (List.length (x1)) c3), (45, .int .i64 (r1))] hE fun a hE => ?_
 obtain ⟨l5, h14, hf⟩ := bs hf
 refine at_op (op_tk hE (g_slice (K := (kdArr .u8 32)) (e := 24) (by_ := 32) (zl := 32) rfl rfl rfl rfl hE rfl rfl (by kernel_rfl) ⟨_, rfl⟩ rfl (h4.mono (le2 le1 le3)) h14 (fun a A10 c9 hE h15 => ?_))) rfl
 refine sN 3 6 [(49, .int .i64 ((IntKind.wrap .i64 (x5 - r1))))] hE fun a hE => ?_
 obtain ⟨r4, h16, hf⟩ := bs hf
 refine aC rfl rfl rfl rfl hE rfl rfl rfl rfl (ih (g := g) h16 (hS.st.fore (L := [])) h15 (hG0.mono (le2 le1 le3)) (hG1.mono (le2 le1 le3))) fun a v w hR hE => ?_
 obtain ⟨D8, A6, c6, q7, rfl, hS1, h17⟩ := hR
 have le5 := hS1.dle
 have hS := hS.callR hS1 rfl (.c .n)
 refine sN 5 12 [(9, .slice A6 (List.length (r4.1)) c6)] hE fun a hE => ?_
 refine ae ?_
 refine sq (ra ?_)
 refine sN 3 3 [(53, .slice A6 (List.length (r4.1)) c6), (54, .slice A2 (List.length (x1)) c3), (55, .int .i64 (r1))] hE fun a hE => ?_
 obtain ⟨l6, h18, hf⟩ := bs hf
 refine at_op (op_tk hE (g_slice (K := (kdArr .u8 32)) (e := 24) (by_ := 32) (zl := 32) rfl rfl rfl rfl hE rfl rfl (by kernel_rfl) rfl ⟨_, rfl⟩ (h4.mono (le2 (le2 le1 le3) le5)) h18 (fun a A11 c10 hE h19 => ?_))) rfl
 obtain ⟨r5, h20, hf⟩ := bs hf
 refine aC rfl rfl rfl rfl hE rfl rfl rfl rfl (tree_Root.calls h20 (hS.st.fore (L := [])) h19 (hG0.mono (le2 (le2 le1 le3) le5)) (hG1.mono (le2 (le2 le1 le3) le5))) fun a v w hR hE => ?_
 obtain ⟨D9, rfl, hS1⟩ := hR
 have le8 := hS1.dle
 have hS := hS.callR hS1 rfl .n
 refine at_op (op_buildSlice (K := (kdArr .u8 32)) (e := 24) (cs := acells .u8 32 (r5) ++ []) ([r5] : List (Vector Int 32)) rfl rfl rfl rfl hE rfl hS rfl (by kernel_rfl) rfl rfl (by exact ⟨_, _, rfl, rfl, rfl⟩) (fun a A12 q8 w _ hE h21 hS => ?_)) rfl
 obtain ⟨D4, q9, le9, hS, h26, h22⟩ := hS.lent h21
 have hS := hS.p (.d 1 (.d 0 .n))
 obtain ⟨l2, h23, hf⟩ := bs hf
 refine at_op (g_append (K := (kdArr .u8 32)) (e := 24) (bytes := 32) (l := r4.1) (m := ([r5] : List (Vector Int 32))) rfl rfl rfl rfl hE rfl hS rfl rfl (by kernel_rfl) rfl rfl (h17.mono (le2 le8 le9)) h22 h23 (fun a A4 c4 q3 w _ hE h24 hS => ?_)) rfl
 refine sN 2 9 [(4, .slice A4 (List.length (l2)) c4), (5, .bool true)] hE fun a hE => ?_
 refine ae ?_
 refine wpIn_ret ?_
 obtain rfl := si hf
 refine ret_ ?_
 refine ret_gen ([.slice A4 (List.length (l2)) c4, .bool true]) hE (by rw [show Tryd.f63.results.toList = [.tmp 4, .tmp 5] from rfl]; exact ⟨_, _, rfl, rfl, ⟨_, _, rfl, rfl, rfl⟩⟩) ?_
 have hS := hS.p (.d 0 .n)
 exact ⟨_, rfl, D4, A4, c4, q3, rfl, hS, h24⟩
set_option maxRecDepth 100000 in
theorem proof_Path.rcalls {K : Nat} : ∀ (k : Nat) {g w0 : World} {D0 : Snap} {x1 : (List (Vector Int 32))} {x5 : Int} {A2 : Option Addr} {c3 : Nat} {r : ((List (Vector Int 32)) × Bool)} (hf : proof_Path.r K k x1 x5 = some r) (hS0 : St g w0 D0 []) (h4 : Sl (kdArr .u8 32) D0 A2 c3 (x1)) (hG0 : Cell (kdArr .u32 8) D0 0 0 gl_First) (hG1 : Cell (kdArr .u32 64) D0 1 0 gl_K),
  CallsIn (Fw none) 0 Tryd.prog 63 (List.toArray [.slice A2 (List.length (x1)) c3, .int .i64 (x5)]) w0 (fun e w' => ∃ v, e = .returned v ∧ ∃ (D1 : Snap) (A1 : Option Addr) (c1 : Nat) (q1 : Blk), v = .tuple #[.slice A1 (List.length (r.1)) c1, .bool (r.2)] ∧ Stp g w0 D0 [] w' D1 [q1] ∧ OwnD (kdArr .u8 32) 24 D1 A1 c1 (r.1) q1) := by
 intro k
 induction k with
 | zero => intro g w0 D0 x1 x5 A2 c3 r hf; cases hf
 | succ k ih => intro g w0 D0 x1 x5 A2 c3 r hf hS0 h4 hG0 hG1; exact proof_Path.step ih hf hS0 h4 hG0 hG1
theorem proof_Path.calls {K : Nat} {g w0 : World} {D0 : Snap} {x1 : (List (Vector Int 32))} {x5 : Int} {A2 : Option Addr} {c3 : Nat} {r : ((List (Vector Int 32)) × Bool)} (hf : proof_Path.f K x1 x5 = some r) (hS0 : St g w0 D0 []) (h4 : Sl (kdArr .u8 32) D0 A2 c3 (x1)) (hG0 : Cell (kdArr .u32 8) D0 0 0 gl_First) (hG1 : Cell (kdArr .u32 64) D0 1 0 gl_K) :
  CallsIn (Fw none) 0 Tryd.prog 63 (List.toArray [.slice A2 (List.length (x1)) c3, .int .i64 (x5)]) w0 (fun e w' => ∃ v, e = .returned v ∧ ∃ (D1 : Snap) (A1 : Option Addr) (c1 : Nat) (q1 : Blk), v = .tuple #[.slice A1 (List.length (r.1)) c1, .bool (r.2)] ∧ Stp g w0 D0 [] w' D1 [q1] ∧ OwnD (kdArr .u8 32) 24 D1 A1 c1 (r.1) q1) := proof_Path.rcalls K hf hS0 h4 hG0 hG1
set_option maxRecDepth 100000 in
theorem bundle_within.calls {K : Nat} {g w0 : World} {D0 : Snap} {x1 : Int} {x2 : Int} {x3 : Int} {r : (Bool)} (hf : bundle_within.f K x1 x2 x3 = some r) (hS0 : St g w0 D0 []) :
  CallsIn (Fw none) 0 Tryd.prog 70 (List.toArray [.int .i64 (x1), .int .i64 (x2), .int .i64 (x3)]) w0 (fun e w' => ∃ v, e = .returned v ∧ ∃ D1, v = .bool (r) ∧ Stp g w0 D0 [] w' D1 []) := by
 unfold bundle_within.f at hf
 have hS := Stp.refl hS0
 clear hS0
 refine calls_body (n := 15) Tryd.func70 rfl Tryd.ntmps70 rfl fun a hE => ?_
 have hE : Env a 15 [] [(0, .int .i64 (x1)), (1, .int .i64 (x2)), (2, .int .i64 (x3))] := hE
 refine sq (ra ?_)
 refine sN 1 1 [(6, .bool false)] hE fun a hE => ?_
 refine ae ?_
 refine sq (ra ?_)
 refine sN 4 4 [(10, .bool ((decide (x2 ≤ x1))))] hE fun a hE => ?_
 refine bo ((decide (x2 ≤ x1))) (fun hb => ?_) fun hb => ?_
 ·replace hf := cf hb hf
  have hE := hE.know (t := 10) rfl hb
  refine sN 5 9 [(6, .bool false)] hE fun a hE => ?_
  refine ae ?_
  refine wpIn_ret ?_
  obtain rfl := si hf
  refine ret_ ?_
  refine rT 6 (.bool false) hE ?_
  exact ⟨_, rfl, D0, rfl, hS⟩
 replace hf := ct hb hf
 have hE := hE.know (t := 10) rfl hb
 refine sN 5 9 [(6, .bool ((decide (x1 ≤ x3))))] hE fun a hE => ?_
 refine ae ?_
 refine wpIn_ret ?_
 obtain rfl := si hf
 refine ret_ ?_
 refine rT 6 (.bool ((decide (x1 ≤ x3)))) hE ?_
 exact ⟨_, rfl, D0, rfl, hS⟩
set_option maxRecDepth 100000 in
theorem bundle_point_1.calls {K : Nat} {g w0 : World} {D0 : Snap} {x1 : T_api_Sig} {r : (Bool)} (hf : bundle_point_1.f K x1 = some r) (hS0 : St g w0 D0 []) :
  CallsIn (Fw none) 0 Tryd.prog 93 (List.toArray [.agg (List.toArray (c_T_api_Sig (x1)))]) w0 (fun e w' => ∃ v, e = .returned v ∧ ∃ D1, v = .bool (r) ∧ Stp g w0 D0 [] w' D1 []) := by
 unfold bundle_point_1.f at hf
 have hS := Stp.refl hS0
 clear hS0
 refine calls_body (n := 7) Tryd.func93 rfl Tryd.ntmps93 rfl fun a hE => ?_
 have hE : Env a 7 [] [(0, .agg (List.toArray (c_T_api_Sig (x1))))] := hE
 refine sq (ra ?_)
 refine at_op (op_box rfl rfl rfl rfl hE rfl hS rfl (fun a b9 w _ hE hS => ?_)) rfl
 refine sN 1 2 [(2, .bool false)] hE fun a hE => ?_
 refine ae ?_
 refine sq (ra ?_)
 refine sM 2 2 [0] [(4, .int .i64 (x1.fWit))] hE hS fun a hE => ?_
 obtain ⟨r11, h12, hf⟩ := bs hf
 refine aC rfl rfl rfl rfl hE rfl rfl rfl rfl (bundle_within.calls h12 (hS.st.fore (L := [])) ) fun a v w hR hE => ?_
 obtain ⟨D13, rfl, hS1⟩ := hR
 have le15 := hS1.dle
 have hS := hS.callR hS1 rfl .n
 refine sN 2 5 [(2, .bool ((!r11)))] hE fun a hE => ?_
 refine ae ?_
 refine wpIn_ret ?_
 obtain rfl := si hf
 refine ret_ ?_
 refine rT 2 (.bool ((!r11))) hE ?_
 have hS := hS.p .n
 exact ⟨_, rfl, D13, rfl, hS⟩
set_option maxRecDepth 100000 in
theorem slices_IndexFunc_api_Sig_api_Sig.calls {K : Nat} {g w0 : World} {D0 : Snap} {x1 : (List T_api_Sig)} {A2 : Option Addr} {c3 : Nat} {r : (Int)} (hf : slices_IndexFunc_api_Sig_api_Sig.f K x1 = some r) (hS0 : St g w0 D0 []) (h4 : Sl kd_T_api_Sig D0 A2 c3 (x1)) :
  CallsIn (Fw none) 0 Tryd.prog 109 (List.toArray [.slice A2 (List.length (x1)) c3, .func (.func 93) #[] #[]]) w0 (fun e w' => ∃ v, e = .returned v ∧ ∃ D1, v = .int .i64 (r) ∧ Stp g w0 D0 [] w' D1 []) := by
 unfold slices_IndexFunc_api_Sig_api_Sig.f at hf
 have hS := Stp.refl hS0
 clear hS0
 refine calls_body (n := 19) Tryd.func109 rfl Tryd.ntmps109 rfl fun a hE => ?_
 have hE : Env a 19 [] [(0, .slice A2 (List.length (x1)) c3), (1, .func (.func 93) #[] #[])] := hE
 refine sq (ra ?_)
 refine sN 1 1 [(4, .int .i64 ((0 : Int)))] hE fun a hE => ?_
 refine ae ?_
 refine sq (sq (ra ?_))
 refine sN 3 3 [(7, .int .i64 (((List.length (x1) : Nat) : Int))), (8, .int .i64 ((0 : Int)))] hE fun a hE => ?_
 refine ae ?_
 obtain ⟨s1, hf, hs1⟩ := bs hf
 refine block_loop (fun a w => ∃ (z1 : Unit), ∃ D2, Env a 19 [] [] ∧ Stp g w0 D0 [] w D2 [] ∧ Snap.le D0 D2 ∧ (Sum.inr z1) = s1) (fun k a w => ∃ (y1 : Int), ∃ D3, Env a 19 [] [(0, .slice A2 (List.length (x1)) c3), (1, .func (.func 93) #[] #[]), (7, .int .i64 (((List.length (x1) : Nat) : Int))), (8, .int .i64 (y1))] ∧ Stp g w0 D0 [] w D3 [] ∧ Snap.le D0 D3 ∧ slices_IndexFunc_api_Sig_api_Sig_l1.l K x1 k y1 = some s1) K ?_ ?_ ?_
 ·exact ⟨(0 : Int), D0, hE.wk, hS, lr, hf⟩
 ·clear hE hS hf
  rintro a w ⟨z1, D2, hE, hS, le4, rfl⟩
  have hf := hs1
  clear hs1
  refine sq (ra ?_)
  refine sN 1 1 [(4, .int .i64 ((-1 : Int)))] hE fun a hE => ?_
  refine ae ?_
  refine wpIn_ret ?_
  obtain rfl := si hf
  refine ret_ ?_
  refine rT 4 (.int .i64 ((-1 : Int))) hE ?_
  exact ⟨_, rfl, D2, rfl, hS⟩
 clear hE hS hf
 rintro k a w ⟨y1, D3, hE, hS, le1, hf⟩
 obtain ⟨k, rfl, hf⟩ := slices_IndexFunc_api_Sig_api_Sig_l1.some _ hf
 refine ⟨k, rfl, ?_⟩
 unfold slices_IndexFunc_api_Sig_api_Sig_l1.b at hf
 refine sq (ra ?_)
 refine sN 1 1 [(9, .bool ((decide (y1 < ((List.length (x1) : Nat) : Int)))))] hE fun a hE => ?_
 refine ae ?_
 refine sq ?_
 refine cond_split hE (b := (decide (y1 < ((List.length (x1) : Nat) : Int)))) rfl (fun hb => ?_) (fun hb => ?_)
 ·replace hf := ct hb hf
  refine wpIn_skip ?_
  refine sq ?_
  refine wpIn_block ?_
  refine sq (ra ?_)
  refine sN 2 2 [(5, .int .i64 (y1))] hE fun a hE => ?_
  refine ae ?_
  refine sq (ra ?_)
  refine sN 3 3 [(11, .func (.func 93) #[] #[]), (12, .slice A2 (List.length (x1)) c3), (13, .int .i64 (y1))] hE fun a hE => ?_
  obtain ⟨x2, h1, hf⟩ := bs hf
  refine at_op (op_tk hE (g_index (K := kd_T_api_Sig) (e := 84) (by_ := 40) (zl := 33) rfl rfl rfl rfl hE rfl rfl rfl (by kernel_rfl) rfl (h4.mono le1) h1 (fun a b1 o1 hE h2 => ?_))) rfl
  obtain ⟨cs1, C1, T1, fr1, hr1, hb1, hc1⟩ := id h2
  obtain ⟨rfl⟩ := kd_T_api_Sig_el hr1
  refine at_op (op_tk hE (tk_loadX (off0 := o1) (off := 0) (c := c_T_api_Sig (x2)) (.agg (List.toArray (c_T_api_Sig (x2)))) rfl rfl rfl rfl hE rfl hS rfl hb1 hc1 (by kernel_rfl) (by kernel_rfl) (kD hS dn_nil) (fun a hE => ?_))) rfl
  obtain ⟨r1, h3, hf⟩ := bs hf
  refine aC rfl rfl rfl rfl hE rfl rfl rfl rfl (bundle_point_1.calls h3 (hS.st.fore (L := [])) ) fun a v w hR hE => ?_
  obtain ⟨D4, rfl, hS1⟩ := hR
  have le3 := hS1.dle
  have hS := hS.callR hS1 rfl .n
  refine ae ?_
  refine cond_split hE (b := r1) rfl (fun hb => ?_) (fun hb => ?_)
  ·replace hf := ct hb hf
   refine sq (ra ?_)
   refine sN 2 2 [(4, .int .i64 (y1))] hE fun a hE => ?_
   refine ae ?_
   refine wpIn_ret ?_
   obtain rfl := si hf
   replace hf := hs1
   obtain rfl := si hf
   refine ret_ ?_
   refine rT 4 (.int .i64 (y1)) hE ?_
   exact ⟨_, rfl, D4, rfl, hS⟩
  replace hf := cf hb hf
  refine wpIn_skip ?_
  refine ra ?_
  refine sN 2 2 [(8, .int .i64 ((IntKind.wrap .i64 (y1 + (1 : Int)))))] hE fun a hE => ?_
  exact ae ⟨(IntKind.wrap .i64 (y1 + (1 : Int))), D4, hE.wk, hS, (le2 le1 le3), hf⟩
 replace hf := cf hb hf
 refine wpIn_exit ?_
 obtain rfl := si hf
 exact ⟨(), D3, hE.wk, hS, le1, rfl⟩
set_option maxRecDepth 100000 in
theorem slices_ContainsFunc_api_Sig_api_Sig.calls {K : Nat} {g w0 : World} {D0 : Snap} {x1 : (List T_api_Sig)} {A2 : Option Addr} {c3 : Nat} {r : (Bool)} (hf : slices_ContainsFunc_api_Sig_api_Sig.f K x1 = some r) (hS0 : St g w0 D0 []) (h4 : Sl kd_T_api_Sig D0 A2 c3 (x1)) :
  CallsIn (Fw none) 0 Tryd.prog 94 (List.toArray [.slice A2 (List.length (x1)) c3, .func (.func 93) #[] #[]]) w0 (fun e w' => ∃ v, e = .returned v ∧ ∃ D1, v = .bool (r) ∧ Stp g w0 D0 [] w' D1 []) := by
 unfold slices_ContainsFunc_api_Sig_api_Sig.f at hf
 have hS := Stp.refl hS0
 clear hS0
 refine calls_body (n := 9) Tryd.func94 rfl Tryd.ntmps94 rfl fun a hE => ?_
 have hE : Env a 9 [] [(0, .slice A2 (List.length (x1)) c3), (1, .func (.func 93) #[] #[])] := hE
 refine sq (ra ?_)
 refine sN 1 1 [(4, .bool false)] hE fun a hE => ?_
 refine ae ?_
 refine sq (ra ?_)
 refine sN 2 2 [(5, .slice A2 (List.length (x1)) c3), (6, .func (.func 93) #[] #[])] hE fun a hE => ?_
 obtain ⟨r10, h11, hf⟩ := bs hf
 refine aC rfl rfl rfl rfl hE rfl rfl rfl rfl (slices_IndexFunc_api_Sig_api_Sig.calls h11 (hS.st.fore (L := [])) h4) fun a v w hR hE => ?_
 obtain ⟨D12, rfl, hS1⟩ := hR
 have le14 := hS1.dle
 have hS := hS.callR hS1 rfl .n
 refine sN 2 5 [(4, .bool ((decide ((0 : Int) ≤ r10))))] hE fun a hE => ?_
 refine ae ?_
 refine wpIn_ret ?_
 obtain rfl := si hf
 refine ret_ ?_
 refine rT 4 (.bool ((decide ((0 : Int) ≤ r10)))) hE ?_
 exact ⟨_, rfl, D12, rfl, hS⟩
set_option maxRecDepth 100000 in
theorem bundle_point.calls {K : Nat} {g w0 : World} {D0 : Snap} {x1 : T_api_Point} {A2 : Option Addr} {c3 : Nat} {r : (Bool)} (hf : bundle_point.f K x1 = some r) (hS0 : St g w0 D0 []) (h4 : Sl kd_T_api_Sig D0 A2 c3 (x1.fSigs)) :
  CallsIn (Fw none) 0 Tryd.prog 69 (List.toArray [.agg (List.toArray (c_T_api_Point (x1) A2 c3))]) w0 (fun e w' => ∃ v, e = .returned v ∧ ∃ D1, v = .bool (r) ∧ Stp g w0 D0 [] w' D1 []) := by
 unfold bundle_point.f at hf
 have hS := Stp.refl hS0
 clear hS0
 refine calls_body (n := 20) Tryd.func69 rfl Tryd.ntmps69 rfl fun a hE => ?_
 have hE : Env a 20 [] [(0, .agg (List.toArray (c_T_api_Point (x1) A2 c3)))] := hE
 refine sq (ra ?_)
 refine at_op (op_box rfl rfl rfl rfl hE rfl hS rfl (fun a b27 w _ hE hS => ?_)) rfl
 refine sN 1 2 [(2, .bool false)] hE fun a hE => ?_
 refine ae ?_
 refine sq (ra ?_)
 refine sN 1 1 [(3, .func (.func 93) #[] #[])] hE fun a hE => ?_
 refine ae ?_
 refine sq (ra ?_)
 refine sM 2 2 [0] [(5, .int .i64 (x1.fSize))] hE hS fun a hE => ?_
 obtain ⟨r39, h40, hf⟩ := bs hf
 refine aC rfl rfl rfl rfl hE rfl rfl rfl rfl (bundle_within.calls h40 (hS.st.fore (L := [])) ) fun a v w hR hE => ?_
 obtain ⟨D41, rfl, hS1⟩ := hR
 have le43 := hS1.dle
 have hS := hS.callR hS1 rfl .n
 refine sN 1 4 [(7, .bool (r39))] hE fun a hE => ?_
 refine bo (r39) (fun hb => ?_) fun hb => ?_
 ·replace hf := cf hb hf
  have hE := hE.know (t := 7) rfl hb
  refine sN 13 17 [(2, .bool false)] hE fun a hE => ?_
  refine ae ?_
  refine wpIn_ret ?_
  obtain rfl := si hf
  refine ret_ ?_
  refine rT 2 (.bool false) hE ?_
  have hS := hS.p .n
  exact ⟨_, rfl, D41, rfl, hS⟩
 replace hf := ct hb hf
 have hE := hE.know (t := 7) rfl hb
 refine sM 6 10 [0] [(13, .bool ((decide (((List.length (x1.fSigs) : Nat) : Int) ≤ (4 : Int)))))] hE hS fun a hE => ?_
 refine bo ((decide (((List.length (x1.fSigs) : Nat) : Int) ≤ (4 : Int)))) (fun hb => ?_) fun hb => ?_
 ·replace hf := cf hb hf
  have hE := hE.know (t := 13) rfl hb
  refine sN 7 17 [(2, .bool false)] hE fun a hE => ?_
  refine ae ?_
  refine wpIn_ret ?_
  obtain rfl := si hf
  refine ret_ ?_
  refine rT 2 (.bool false) hE ?_
  have hS := hS.p .n
  exact ⟨_, rfl, D41, rfl, hS⟩
 replace hf := ct hb hf
 have hE := hE.know (t := 13) rfl hb
 refine sM 3 13 [0] [(15, .slice A2 (List.length (x1.fSigs)) c3), (16, .func (.func 93) #[] #[])] hE hS fun a hE => ?_
 obtain ⟨r44, h45, hf⟩ := bs hf
 refine aC rfl rfl rfl rfl hE rfl rfl rfl rfl (slices_ContainsFunc_api_Sig_api_Sig.calls h45 (hS.st.fore (L := [])) (h4.mono le43)) fun a v w hR hE => ?_
 obtain ⟨D46, rfl, hS1⟩ := hR
 have le48 := hS1.dle
 have hS := hS.callR hS1 rfl .n
 refine sN 3 17 [(2, .bool ((!r44)))] hE fun a hE => ?_
 refine ae ?_
 refine wpIn_ret ?_
 obtain rfl := si hf
 refine ret_ ?_
 refine rT 2 (.bool ((!r44))) hE ?_
 have hS := hS.p .n
 exact ⟨_, rfl, D46, rfl, hS⟩
set_option maxRecDepth 100000 in
theorem bundle_Right.calls {K : Nat} {g w0 : World} {D0 : Snap} {x1 : T_api_Bundle} {A2 : Option Addr} {c3 : Nat} {A5 : Option Addr} {c6 : Nat} {r : (Bool)} (hf : bundle_Right.f K x1 = some r) (hS0 : St g w0 D0 []) (h4 : Sl kd_T_api_Sig D0 A2 c3 (x1.fPoint.fSigs)) (h7 : Sl kd_T_api_Item D0 A5 c6 (x1.fItems)) :
  CallsIn (Fw none) 0 Tryd.prog 39 (List.toArray [.agg (List.toArray (c_T_api_Bundle (x1) A2 c3 A5 c6))]) w0 (fun e w' => ∃ v, e = .returned v ∧ ∃ D1, v = .bool (r) ∧ Stp g w0 D0 [] w' D1 []) := by
 unfold bundle_Right.f at hf
 have hS := Stp.refl hS0
 clear hS0
 refine calls_body (n := 81) Tryd.func39 rfl Tryd.ntmps39 rfl fun a hE => ?_
 have hE : Env a 81 [] [(0, .agg (List.toArray (c_T_api_Bundle (x1) A2 c3 A5 c6)))] := hE
 refine sq (ra ?_)
 refine at_op (op_box rfl rfl rfl rfl hE rfl hS rfl (fun a b1 w _ hE hS => ?_)) rfl
 refine sN 1 2 [(2, .bool false)] hE fun a hE => ?_
 refine ae ?_
 refine sq ?_
 obtain ⟨j1, hj1, hf⟩ := jn_elim hf
 refine seq_join (fun a w => ∃ (y2 : Bool), ∃ D2, Env a 81 [] [(1, .pointer (some ⟨b1, 0, none⟩)), (31, .bool (y2))] ∧ Stp g w0 D0 [] w D2 [bx b1 32 (c_T_api_Bundle (x1) A2 c3 A5 c6)] ∧ Snap.le D0 D2 ∧ j1 y2 = some r) ?_ ?_
 ·clear hj1
  refine ra ?_
  refine sM 2 2 [0] [(7, .agg (List.toArray (c_T_api_Point (x1.fPoint) A2 c3)))] hE hS fun a hE => ?_
  obtain ⟨r1, h1, hf⟩ := bs hf
  refine aC rfl rfl rfl rfl hE rfl rfl rfl rfl (bundle_point.calls h1 (hS.st.fore (L := [])) h4) fun a v w hR hE => ?_
  obtain ⟨D6, rfl, hS1⟩ := hR
  have le4 := hS1.dle
  have hS := hS.callR hS1 rfl .n
  refine sN 2 5 [(10, .bool ((!r1)))] hE fun a hE => ?_
  refine bo ((!r1)) (fun hb => ?_) fun hb => ?_
  ·replace hf := cf hb hf
   have hE := hE.know (t := 10) rfl hb
   refine sM 9 14 [0, 0] [(19, .bool ((decide (x1.fPoint.fSize < ((List.length (x1.fItems) : Nat) : Int)))))] hE hS fun a hE => ?_
   refine bo ((decide (x1.fPoint.fSize < ((List.length (x1.fItems) : Nat) : Int)))) (fun hb => ?_) fun hb => ?_
   ·replace hf := cf hb hf
    have hE := hE.know (t := 19) rfl hb
    refine sM 3 17 [0] [(22, .bool (x1.fWhole))] hE hS fun a hE => ?_
    refine bo (x1.fWhole) (fun hb => ?_) fun hb => ?_
    ·replace hf := cf hb hf
     have hE := hE.know (t := 22) rfl hb
     refine sN 9 26 [(31, .bool false)] hE fun a hE => ?_
     exact ae ⟨false, D6, hE.wk, hS, le4, hf⟩
    replace hf := ct hb hf
    have hE := hE.know (t := 22) rfl hb
    refine sM 9 26 [0, 0] [(31, .bool ((!decide (((List.length (x1.fItems) : Nat) : Int) = x1.fPoint.fSize))))] hE hS fun a hE => ?_
    exact ae ⟨(!decide (((List.length (x1.fItems) : Nat) : Int) = x1.fPoint.fSize)), D6, hE.wk, hS, le4, hf⟩
   replace hf := ct hb hf
   have hE := hE.know (t := 19) rfl hb
   refine sN 12 26 [(31, .bool true)] hE fun a hE => ?_
   exact ae ⟨true, D6, hE.wk, hS, le4, hf⟩
  replace hf := ct hb hf
  have hE := hE.know (t := 10) rfl hb
  refine sN 21 26 [(31, .bool true)] hE fun a hE => ?_
  exact ae ⟨true, D6, hE.wk, hS, le4, hf⟩
 clear hE hS
 rintro a w ⟨y2, D2, hE, hS, le6, hf⟩
 replace hf := hj1 _ hf
 clear hj1
 refine cond_split hE (b := y2) rfl (fun hb => ?_) (fun hb => ?_)
 ·replace hf := ct hb hf
  refine sq (ra ?_)
  refine sN 1 1 [(2, .bool false)] hE fun a hE => ?_
  refine ae ?_
  refine wpIn_ret ?_
  obtain rfl := si hf
  refine ret_ ?_
  refine rT 2 (.bool false) hE ?_
  have hS := hS.p .n
  exact ⟨_, rfl, D2, rfl, hS⟩
 replace hf := cf hb hf
 refine wpIn_skip ?_
 refine sq (ra ?_)
 refine sN 1 1 [(3, .int .i64 ((-1 : Int)))] hE fun a hE => ?_
 refine ae ?_
 refine sq (sq (ra ?_))
 refine sM 4 4 [0] [(33, .slice A5 (List.length (x1.fItems)) c6), (34, .int .i64 (((List.length (x1.fItems) : Nat) : Int))), (35, .int .i64 ((0 : Int)))] hE hS fun a hE => ?_
 refine ae ?_
 obtain ⟨s1, hf, hs1⟩ := bs hf
 refine block_loop (fun a w => ∃ (z1 : Unit), ∃ D7, Env a 81 [] [] ∧ Stp g w0 D0 [] w D7 [] ∧ Snap.le D2 D7 ∧ (Sum.inr z1) = s1) (fun k a w => ∃ (y1 : Int × Int), ∃ D3, Env a 81 [] [(1, .pointer (some ⟨b1, 0, none⟩)), (3, .int .i64 (y1.1)), (33, .slice A5 (List.length (x1.fItems)) c6), (34, .int .i64 (((List.length (x1.fItems) : Nat) : Int))), (35, .int .i64 (y1.2))] ∧ Stp g w0 D0 [] w D3 [bx b1 32 (c_T_api_Bundle (x1) A2 c3 A5 c6)] ∧ Snap.le D2 D3 ∧ bundle_Right_l1.l K x1 k y1 = some s1) K ?_ ?_ ?_
 ·exact ⟨((-1 : Int), (0 : Int)), D2, hE.wk, hS, lr, hf⟩
 ·clear hE hS hf
  rintro a w ⟨z1, D7, hE, hS, le8, rfl⟩
  have hf := hs1
  clear hs1
  refine sq (ra ?_)
  refine sN 1 1 [(2, .bool true)] hE fun a hE => ?_
  refine ae ?_
  refine wpIn_ret ?_
  obtain rfl := si hf
  refine ret_ ?_
  refine rT 2 (.bool true) hE ?_
  exact ⟨_, rfl, D7, rfl, hS⟩
 clear hE hS hf
 rintro k a w ⟨y1, D3, hE, hS, le5, hf⟩
 obtain ⟨k, rfl, hf⟩ := bundle_Right_l1.some _ hf
 refine ⟨k, rfl, ?_⟩
 unfold bundle_Right_l1.b at hf
 refine sq (ra ?_)
 refine sN 1 1 [(36, .bool ((decide (y1.2 < ((List.length (x1.fItems) : Nat) : Int)))))] hE fun a hE => ?_
 refine ae ?_
 refine sq ?_
 refine cond_split hE (b := (decide (y1.2 < ((List.length (x1.fItems) : Nat) : Int)))) rfl (fun hb => ?_) (fun hb => ?_)
 ·replace hf := ct hb hf
  refine wpIn_skip ?_
  refine sq ?_
  refine wpIn_block ?_
  refine sq (ra ?_)
  refine sN 1 1 [(37, .int .i64 (y1.2))] hE fun a hE => ?_
  obtain ⟨x2, h2, hf⟩ := bs hf
  refine at_op (op_tk hE (g_index (K := kd_T_api_Item) (e := 42) (by_ := 256) (zl := 111) rfl rfl rfl rfl hE rfl rfl rfl (by kernel_rfl) rfl (h7.mono (le2 le6 le5)) h2 (fun a b3 o1 hE h3 => ?_))) rfl
  obtain ⟨cs1, C1, T1, fr1, hr1, hb1, hc1⟩ := id h3
  obtain ⟨A1, c1, A3, c2, A4, c4, rfl, h5, h6, h10⟩ := kd_T_api_Item_el hr1
  refine at_op (op_tk hE (tk_loadX (off0 := o1) (off := 0) (c := c_T_api_Item (x2) A1 c1 A3 c2 A4 c4) (.agg (List.toArray (c_T_api_Item (x2) A1 c1 A3 c2 A4 c4))) rfl rfl rfl rfl hE rfl hS rfl hb1 hc1 (by kernel_rfl) (by kernel_rfl) (kD hS dn_nil) (fun a hE => ?_))) rfl
  refine at_op (op_alloc (z := .agg (List.toArray (c_T_api_Item (z_T_api_Item) none 0 none 0 none 0))) rfl rfl rfl rfl hE rfl hS (by kernel_rfl) (fun a b2 w _ hE hS => ?_)) rfl
  refine sN 1 5 [(4, .int .i64 (y1.2))] hE fun a hE => ?_
  refine at_op (op_store (v := .agg (List.toArray (c_T_api_Item (x2) A1 c1 A3 c2 A4 c4))) (c_T_api_Item (x2) A1 c1 A3 c2 A4 c4) rfl rfl rfl rfl hE hS rfl rfl (by kernel_rfl) (by kernel_rfl) (by kernel_rfl) (by kernel_rfl) (by kernel_rfl) (fun a w _ hE hS => ?_)) rfl
  refine ae ?_
  refine sq ?_
  obtain ⟨j2, hj2, hf⟩ := jn_elim hf
  refine seq_join (fun a w => ∃ (y3 : Bool), ∃ D4, Env a 81 [] [(1, .pointer (some ⟨b1, 0, none⟩)), (5, .pointer (some ⟨b2, 0, none⟩)), (33, .slice A5 (List.length (x1.fItems)) c6), (34, .int .i64 (((List.length (x1.fItems) : Nat) : Int))), (35, .int .i64 (y1.2)), (77, .bool (y3))] ∧ Stp g w0 D0 [] w D4 [bx b1 32 (c_T_api_Bundle (x1) A2 c3 A5 c6), bx b2 42 (c_T_api_Item (x2) A1 c1 A3 c2 A4 c4)] ∧ Snap.le D3 D4 ∧ j2 y3 = some s1) ?_ ?_
  ·clear hj2
   refine ra ?_
   refine sM 2 2 [0] [(41, .agg (List.toArray (c_T_api_Rec (x2.fRec) A1 c1 A3 c2)))] hE hS fun a hE => ?_
   obtain ⟨r2, h8, hf⟩ := bs hf
   refine aC rfl rfl rfl rfl hE rfl rfl rfl rfl (rec_Right.calls h8 (hS.st.fore (L := [])) h5 h6) fun a v w hR hE => ?_
   obtain ⟨D8, rfl, hS1⟩ := hR
   have le1 := hS1.dle
   have hS := hS.callR hS1 rfl .n
   refine sN 2 5 [(44, .bool ((!r2)))] hE fun a hE => ?_
   refine bo ((!r2)) (fun hb => ?_) fun hb => ?_
   ·replace hf := cf hb hf
    have hE := hE.know (t := 44) rfl hb
    refine sM 8 13 [0, 1] [(46, .int .i64 (x2.fAt)), (48, .int .i64 ((IntKind.wrap .i64 (y1.1 + (1 : Int))))), (52, .int .i64 ((IntKind.wrap .i64 (x1.fPoint.fSize - (1 : Int)))))] hE hS fun a hE => ?_
    obtain ⟨r3, h9, hf⟩ := bs hf
    refine aC rfl rfl rfl rfl hE rfl rfl rfl rfl (bundle_within.calls h9 (hS.st.fore (L := [])) ) fun a v w hR hE => ?_
    obtain ⟨D5, rfl, hS1⟩ := hR
    have le3 := hS1.dle
    have hS := hS.callR hS1 rfl .n
    refine sN 3 17 [(56, .bool ((!r3)))] hE fun a hE => ?_
    refine bo ((!r3)) (fun hb => ?_) fun hb => ?_
    ·replace hf := cf hb hf
     have hE := hE.know (t := 56) rfl hb
     refine sM 6 23 [0] [(62, .bool ((decide ((20 : Int) < ((List.length (x2.fPath) : Nat) : Int)))))] hE hS fun a hE => ?_
     refine bo ((decide ((20 : Int) < ((List.length (x2.fPath) : Nat) : Int)))) (fun hb => ?_) fun hb => ?_
     ·replace hf := cf hb hf
      have hE := hE.know (t := 62) rfl hb
      refine sM 3 26 [1] [(65, .bool (x1.fWhole))] hE hS fun a hE => ?_
      refine bo (x1.fWhole) (fun hb => ?_) fun hb => ?_
      ·replace hf := cf hb hf
       have hE := hE.know (t := 65) rfl hb
       refine sN 12 38 [(77, .bool false)] hE fun a hE => ?_
       refine ae ?_
       have hS := hS.p (.d 1 (.d 0 .n))
       exact ⟨false, D5, hE.wk, hS, (le2 le1 le3), hf⟩
      replace hf := ct hb hf
      have hE := hE.know (t := 65) rfl hb
      refine sM 5 31 [0] [(70, .bool ((!decide (x2.fAt = y1.2))))] hE hS fun a hE => ?_
      refine bo ((!decide (x2.fAt = y1.2))) (fun hb => ?_) fun hb => ?_
      ·replace hf := cf hb hf
       have hE := hE.know (t := 70) rfl hb
       refine sM 7 38 [0] [(77, .bool ((decide ((0 : Int) < ((List.length (x2.fPath) : Nat) : Int)))))] hE hS fun a hE => ?_
       refine ae ?_
       have hS := hS.p (.d 1 (.d 0 .n))
       exact ⟨(decide ((0 : Int) < ((List.length (x2.fPath) : Nat) : Int))), D5, hE.wk, hS, (le2 le1 le3), hf⟩
      replace hf := ct hb hf
      have hE := hE.know (t := 70) rfl hb
      refine sN 7 38 [(77, .bool true)] hE fun a hE => ?_
      refine ae ?_
      have hS := hS.p (.d 1 (.d 0 .n))
      exact ⟨true, D5, hE.wk, hS, (le2 le1 le3), hf⟩
     replace hf := ct hb hf
     have hE := hE.know (t := 62) rfl hb
     refine sN 15 38 [(77, .bool true)] hE fun a hE => ?_
     refine ae ?_
     have hS := hS.p (.d 1 (.d 0 .n))
     exact ⟨true, D5, hE.wk, hS, (le2 le1 le3), hf⟩
    replace hf := ct hb hf
    have hE := hE.know (t := 56) rfl hb
    refine sN 21 38 [(77, .bool true)] hE fun a hE => ?_
    refine ae ?_
    have hS := hS.p (.d 1 (.d 0 .n))
    exact ⟨true, D5, hE.wk, hS, (le2 le1 le3), hf⟩
   replace hf := ct hb hf
   have hE := hE.know (t := 44) rfl hb
   refine sN 33 38 [(77, .bool true)] hE fun a hE => ?_
   refine ae ?_
   have hS := hS.p (.d 1 (.d 0 .n))
   exact ⟨true, D8, hE.wk, hS, le1, hf⟩
  clear hE hS
  rintro a w ⟨y3, D4, hE, hS, le7, hf⟩
  replace hf := hj2 _ hf
  clear hj2
  refine cond_split hE (b := y3) rfl (fun hb => ?_) (fun hb => ?_)
  ·replace hf := ct hb hf
   refine sq (ra ?_)
   refine sN 1 1 [(2, .bool false)] hE fun a hE => ?_
   refine ae ?_
   refine wpIn_ret ?_
   obtain rfl := si hf
   replace hf := hs1
   obtain rfl := si hf
   refine ret_ ?_
   refine rT 2 (.bool false) hE ?_
   have hS := hS.p .n
   exact ⟨_, rfl, D4, rfl, hS⟩
  replace hf := cf hb hf
  refine wpIn_skip ?_
  refine ra ?_
  refine sM 3 3 [1] [(3, .int .i64 (x2.fAt))] hE hS fun a hE => ?_
  refine ae ?_
  refine ra ?_
  refine sN 2 2 [(35, .int .i64 ((IntKind.wrap .i64 (y1.2 + (1 : Int)))))] hE fun a hE => ?_
  refine ae ?_
  have hS := hS.p (.d 0 .n)
  exact ⟨(x2.fAt, (IntKind.wrap .i64 (y1.2 + (1 : Int)))), D4, hE.wk, hS, (le2 le5 le7), hf⟩
 replace hf := cf hb hf
 refine wpIn_exit ?_
 obtain rfl := si hf
 have hS := hS.p .n
 exact ⟨(), D3, hE.wk, hS, le5, rfl⟩
set_option maxRecDepth 100000 in
theorem export_made.calls {K : Nat} {g w0 : World} {D0 : Snap} {x9 : (List T_api_Rec)} {x13 : T_api_Point} {x17 : Int} {x18 : Bool} {x19 : Int} {x20 : Int} {x21 : Int} {b1 : Nat} {b2 : Nat} {b3 : Nat} {b4 : Nat} {A10 : Option Addr} {c11 : Nat} {A14 : Option Addr} {c15 : Nat} {r : (T_api_Bundle × Bool)} (hf : export_made.f K x9 x13 x17 x18 x19 x20 x21 = some r) (hS0 : St g w0 D0 [bx b1 3 ([.int .i64 (x19)]), bx b2 70 ([.func (.func 32) #[] #[.pointer (some ⟨b3, 0, none⟩), .pointer (some ⟨b4, 0, none⟩)]]), bx b3 3 ([.int .i64 (x20)]), bx b4 3 ([.int .i64 (x21)])]) (h12 : Sl kd_T_api_Rec D0 A10 c11 (x9)) (h16 : Sl kd_T_api_Sig D0 A14 c15 (x13.fSigs)) (hG0 : Cell (kdArr .u32 8) D0 0 0 gl_First) (hG1 : Cell (kdArr .u32 64) D0 1 0 gl_K) :
  CallsIn (Fw none) 0 Tryd.prog 28 (List.toArray [.slice A10 (List.length (x9)) c11, .agg (List.toArray (c_T_api_Point (x13) A14 c15)), .int .u32 (x17), .bool (x18), .func (.func 64) #[] #[.pointer (some ⟨b1, 0, none⟩), .pointer (some ⟨b2, 0, none⟩)]]) w0 (fun e w' => ∃ v, e = .returned v ∧ ∃ (D1 : Snap) (A20 : Option Addr) (c20 : Nat) (A21 : Option Addr) (c21 : Nat), v = .tuple #[.agg (List.toArray (c_T_api_Bundle ((T_api_Bundle.mk (r.1.fWhole) ((T_api_Point.mk (r.1.fPoint.fSize) (r.1.fPoint.fRoot) (r.1.fPoint.fSigs))) (r.1.fItems))) A20 c20 A21 c21)), .bool (r.2)] ∧ Stp g w0 D0 [bx b1 3 ([.int .i64 (x19)]), bx b2 70 ([.func (.func 32) #[] #[.pointer (some ⟨b3, 0, none⟩), .pointer (some ⟨b4, 0, none⟩)]]), bx b3 3 ([.int .i64 (x20)]), bx b4 3 ([.int .i64 (x21)])] w' D1 [bx b1 3 ([.int .i64 (x19)]), bx b2 70 ([.func (.func 32) #[] #[.pointer (some ⟨b3, 0, none⟩), .pointer (some ⟨b4, 0, none⟩)]]), bx b3 3 ([.int .i64 (x20)]), bx b4 3 ([.int .i64 (x21)])] ∧ Sl kd_T_api_Sig D1 A20 c20 (r.1.fPoint.fSigs) ∧ Sl kd_T_api_Item D1 A21 c21 (r.1.fItems)) := by
 unfold export_made.f at hf
 have hS := Stp.refl hS0
 clear hS0
 refine calls_bodyM (n := 92) Tryd.func28 rfl Tryd.ntmps28 rfl fun a hE => ?_
 have hE : Env a 92 [] [(0, .slice A10 (List.length (x9)) c11), (1, .agg (List.toArray (c_T_api_Point (x13) A14 c15))), (2, .int .u32 (x17)), (3, .bool (x18)), (4, .func (.func 64) #[] #[.pointer (some ⟨b1, 0, none⟩), .pointer (some ⟨b2, 0, none⟩)])] := hE
 refine sq (ra ?_)
 refine at_op (op_box rfl rfl rfl rfl hE rfl hS rfl (fun a b5 w _ hE hS => ?_)) rfl
 refine at_op (op_box rfl rfl rfl rfl hE rfl hS rfl (fun a b6 w _ hE hS => ?_)) rfl
 refine at_op (op_box rfl rfl rfl rfl hE rfl hS rfl (fun a b7 w _ hE hS => ?_)) rfl
 refine at_op (op_box rfl rfl rfl rfl hE rfl hS rfl (fun a b8 w _ hE hS => ?_)) rfl
 refine at_op (op_alloc (z := .agg (List.toArray (c_T_api_Bundle (z_T_api_Bundle) none 0 none 0))) rfl rfl rfl rfl hE rfl hS (by kernel_rfl) (fun a b9 w _ hE hS => ?_)) rfl
 refine at_op (op_alloc (z := .bool false) rfl rfl rfl rfl hE rfl hS (by kernel_rfl) (fun a b10 w _ hE hS => ?_)) rfl
 refine ae ?_
 refine sq ?_
 obtain ⟨j1, hj1, hf⟩ := jn_elim hf
 refine seq_join (fun a w => ∃ (y7 : Bool), ∃ D5, Env a 92 [] [(4, .func (.func 64) #[] #[.pointer (some ⟨b1, 0, none⟩), .pointer (some ⟨b2, 0, none⟩)]), (5, .pointer (some ⟨b5, 0, none⟩)), (6, .pointer (some ⟨b6, 0, none⟩)), (7, .pointer (some ⟨b7, 0, none⟩)), (8, .pointer (some ⟨b8, 0, none⟩)), (10, .pointer (some ⟨b9, 0, none⟩)), (11, .pointer (some ⟨b10, 0, none⟩)), (35, .bool (y7))] ∧ Stp g w0 D0 [bx b1 3 ([.int .i64 (x19)]), bx b2 70 ([.func (.func 32) #[] #[.pointer (some ⟨b3, 0, none⟩), .pointer (some ⟨b4, 0, none⟩)]]), bx b3 3 ([.int .i64 (x20)]), bx b4 3 ([.int .i64 (x21)])] w D5 [bx b1 3 ([.int .i64 (x19)]), bx b2 70 ([.func (.func 32) #[] #[.pointer (some ⟨b3, 0, none⟩), .pointer (some ⟨b4, 0, none⟩)]]), bx b3 3 ([.int .i64 (x20)]), bx b4 3 ([.int .i64 (x21)]), bx b5 22 ([.slice A10 (List.length (x9)) c11]), bx b6 27 (c_T_api_Point (x13) A14 c15), bx b7 35 ([.int .u32 (x17)]), bx b8 4 ([.bool (x18)]), bx b9 32 (c_T_api_Bundle (z_T_api_Bundle) none 0 none 0), bx b10 4 ([.bool false])] ∧ Snap.le D0 D5 ∧ j1 y7 = some r) ?_ ?_
 ·clear hj1
  refine ra ?_
  refine sM 1 1 [5] [(16, .slice A10 (List.length (x9)) c11)] hE hS fun a hE => ?_
  obtain ⟨r7, h6, hf⟩ := bs hf
  refine aC rfl rfl rfl rfl hE rfl rfl rfl rfl (export_right.calls h6 (hS.st.fore (L := [])) h12) fun a v w hR hE => ?_
  obtain ⟨D9, rfl, hS1⟩ := hR
  have le9 := hS1.dle
  have hS := hS.callR hS1 rfl .n
  refine sN 2 4 [(19, .bool ((!r7)))] hE fun a hE => ?_
  refine bo ((!r7)) (fun hb => ?_) fun hb => ?_
  ·replace hf := cf hb hf
   have hE := hE.know (t := 19) rfl hb
   refine sM 5 9 [5] [(24, .bool ((decide ((400 : Int) < ((List.length (x9) : Nat) : Int)))))] hE hS fun a hE => ?_
   refine bo ((decide ((400 : Int) < ((List.length (x9) : Nat) : Int)))) (fun hb => ?_) fun hb => ?_
   ·replace hf := cf hb hf
    have hE := hE.know (t := 24) rfl hb
    refine sM 5 14 [4] [(29, .bool ((decide (x13.fSize < (0 : Int)))))] hE hS fun a hE => ?_
    refine bo ((decide (x13.fSize < (0 : Int)))) (fun hb => ?_) fun hb => ?_
    ·replace hf := cf hb hf
     have hE := hE.know (t := 29) rfl hb
     refine sM 6 20 [4, 5] [(35, .bool ((decide (((List.length (x9) : Nat) : Int) < x13.fSize))))] hE hS fun a hE => ?_
     refine ae ?_
     have hS := hS.p (.d 6 (.d 7 (.d 8 (.d 9 (.d 5 (.d 4 (.d 3 (.d 2 (.d 1 (.d 0 .n))))))))))
     exact ⟨(decide (((List.length (x9) : Nat) : Int) < x13.fSize)), D9, hE.wk, hS, le9, hf⟩
    replace hf := ct hb hf
    have hE := hE.know (t := 29) rfl hb
    refine sN 6 20 [(35, .bool true)] hE fun a hE => ?_
    refine ae ?_
    have hS := hS.p (.d 6 (.d 7 (.d 8 (.d 9 (.d 5 (.d 4 (.d 3 (.d 2 (.d 1 (.d 0 .n))))))))))
    exact ⟨true, D9, hE.wk, hS, le9, hf⟩
   replace hf := ct hb hf
   have hE := hE.know (t := 24) rfl hb
   refine sN 11 20 [(35, .bool true)] hE fun a hE => ?_
   refine ae ?_
   have hS := hS.p (.d 6 (.d 7 (.d 8 (.d 9 (.d 5 (.d 4 (.d 3 (.d 2 (.d 1 (.d 0 .n))))))))))
   exact ⟨true, D9, hE.wk, hS, le9, hf⟩
  replace hf := ct hb hf
  have hE := hE.know (t := 19) rfl hb
  refine sN 16 20 [(35, .bool true)] hE fun a hE => ?_
  refine ae ?_
  have hS := hS.p (.d 6 (.d 7 (.d 8 (.d 9 (.d 5 (.d 4 (.d 3 (.d 2 (.d 1 (.d 0 .n))))))))))
  exact ⟨true, D9, hE.wk, hS, le9, hf⟩
 clear hE hS
 rintro a w ⟨y7, D5, hE, hS, le3, hf⟩
 replace hf := hj1 _ hf
 clear hj1
 refine cond_split hE (b := y7) rfl (fun hb => ?_) (fun hb => ?_)
 ·replace hf := ct hb hf
  refine sq (ra ?_)
  refine at_op (op_tk hE (tk_build (c_T_api_Bundle (z_T_api_Bundle) none 0 none 0) rfl rfl rfl rfl hE rfl rfl (by kernel_rfl) (fun a hE => ?_))) rfl
  have hS := hS.p (.d 8 (.d 0 (.d 1 (.d 2 (.d 3 (.d 4 (.d 5 (.d 6 (.d 7 (.d 9 .n))))))))))
  refine at_op (op_store (v := .agg (List.toArray (c_T_api_Bundle (z_T_api_Bundle) none 0 none 0))) (c_T_api_Bundle (z_T_api_Bundle) none 0 none 0) rfl rfl rfl rfl hE hS rfl rfl (by kernel_rfl) (by kernel_rfl) (by kernel_rfl) (by kernel_rfl) (by kernel_rfl) (fun a w _ hE hS => ?_)) rfl
  have hS := hS.p (.d 9 (.d 0 (.d 1 (.d 2 (.d 3 (.d 4 (.d 5 (.d 6 (.d 7 (.d 8 .n))))))))))
  refine at_op (op_store (v := .bool false) ([.bool false]) rfl rfl rfl rfl hE hS rfl rfl (by kernel_rfl) (by kernel_rfl) (by kernel_rfl) (by kernel_rfl) (by kernel_rfl) (fun a w _ hE hS => ?_)) rfl
  refine ae ?_
  refine wpIn_ret ?_
  obtain rfl := si hf
  refine ret_ ?_
  refine ret_M0 ([.agg (List.toArray (c_T_api_Bundle (z_T_api_Bundle) none 0 none 0)), .bool false]) hE (by rw [show Tryd.f28.results.toList = [.cell 10 32, .cell 11 4] from rfl]; exact ⟨_, _, _, 0, _, _, rfl, rfl, hS.heapAt (j := 1) rfl, by kernel_rfl, ⟨_, _, _, 0, _, _, rfl, rfl, hS.heapAt (j := 0) rfl, by kernel_rfl, rfl⟩⟩) ?_
  have hS := hS.p (.d 2 (.d 3 (.d 4 (.d 5 .n))))
  exact ⟨_, rfl, D5, none, 0, none, 0, rfl, hS, (Sl.nil kd_T_api_Sig D5), (Sl.nil kd_T_api_Item D5)⟩
 replace hf := cf hb hf
 refine wpIn_skip ?_
 refine sq (ra ?_)
 refine sM 3 3 [4, 5] [(37, .slice A10 (List.length (x9)) c11), (39, .int .i64 (x13.fSize))] hE hS fun a hE => ?_
 obtain ⟨l3, h7, hf⟩ := bs hf
 refine at_op (op_tk hE (g_slice (K := kd_T_api_Rec) (e := 39) (by_ := 224) (zl := 109) rfl rfl rfl rfl hE rfl rfl (by kernel_rfl) rfl ⟨_, rfl⟩ (h12.mono le3) h7 (fun a A24 c24 hE h8 => ?_))) rfl
 obtain ⟨r1, h9, hf⟩ := bs hf
 refine aC rfl rfl rfl rfl hE rfl rfl rfl rfl (export_Hashes.calls h9 (hS.st.fore (L := [])) h8 (hG0.mono le3) (hG1.mono le3)) fun a v w hR hE => ?_
 obtain ⟨D14, A2, c2, rfl, hS1, h10⟩ := hR
 have le6 := hS1.dle
 have hS := hS.callR hS1 rfl .n
 refine at_op (op_alloc (z := .slice none 0 0) rfl rfl rfl rfl hE rfl hS (by kernel_rfl) (fun a b12 w _ hE hS => ?_)) rfl
 refine at_op (op_store (v := .slice A2 (List.length (r1)) c2) ([.slice A2 (List.length (r1)) c2]) rfl rfl rfl rfl hE hS rfl rfl (by kernel_rfl) (by kernel_rfl) (by kernel_rfl) (by kernel_rfl) (by kernel_rfl) (fun a w _ hE hS => ?_)) rfl
 refine ae ?_
 obtain ⟨j2, hj2, hf⟩ := jn_elim hf
 refine seq_join (fun a w => ∃ (y2 : T_api_Point), ∃ A1, ∃ c1, ∃ b11, ∃ D2, Env a 92 [] [(4, .func (.func 64) #[] #[.pointer (some ⟨b1, 0, none⟩), .pointer (some ⟨b2, 0, none⟩)]), (5, .pointer (some ⟨b5, 0, none⟩)), (6, .pointer (some ⟨b6, 0, none⟩)), (7, .pointer (some ⟨b7, 0, none⟩)), (8, .pointer (some ⟨b8, 0, none⟩)), (10, .pointer (some ⟨b9, 0, none⟩)), (11, .pointer (some ⟨b10, 0, none⟩)), (12, .pointer (some ⟨b12, 0, none⟩)), (13, .pointer (some ⟨b11, 0, none⟩))] ∧ Stp g w0 D0 [bx b1 3 ([.int .i64 (x19)]), bx b2 70 ([.func (.func 32) #[] #[.pointer (some ⟨b3, 0, none⟩), .pointer (some ⟨b4, 0, none⟩)]]), bx b3 3 ([.int .i64 (x20)]), bx b4 3 ([.int .i64 (x21)])] w D2 [bx b11 32 (c_T_api_Bundle ((T_api_Bundle.mk (x18) (y2) (([] : List T_api_Item)))) A1 c1 none 0), bx b1 3 ([.int .i64 (x19)]), bx b2 70 ([.func (.func 32) #[] #[.pointer (some ⟨b3, 0, none⟩), .pointer (some ⟨b4, 0, none⟩)]]), bx b3 3 ([.int .i64 (x20)]), bx b4 3 ([.int .i64 (x21)]), bx b5 22 ([.slice A10 (List.length (x9)) c11]), bx b6 27 (c_T_api_Point (x13) A14 c15), bx b7 35 ([.int .u32 (x17)]), bx b8 4 ([.bool (x18)]), bx b9 32 (c_T_api_Bundle (z_T_api_Bundle) none 0 none 0), bx b10 4 ([.bool false]), bx b12 40 ([.slice A2 (List.length (r1)) c2])] ∧ Snap.le D14 D2 ∧ Sl kd_T_api_Sig D2 A1 c1 (y2.fSigs) ∧ j2 y2 = some r) ?_ ?_
 ·clear hj2
  refine region_draw (fun j => RD D14 (plOf [] [b6, b8] j)) (by kernel_rfl) ?_
  have hS := hS.drew
  first | generalize w.drew = w at hS ⊢ | generalize w0.drew = w at hS ⊢
  refine tD 0 1 (fuel := 11) (by kernel_rfl) hE (tk_load 8 (.bool (x18)) rfl rfl rfl rfl hE rfl hS rfl rfl (by kernel_rfl) (fun _ h => h.1.at_ (List.Mem.tail _ (List.Mem.head _))) (fun a hE => ?_))
  refine wF 1 3 10 0 3 0 hE fun a hE => ?_
  refine tD 2 7 (fuel := 9) (by kernel_rfl) hE (tk_load 6 (.int .i64 (x13.fSize)) rfl rfl rfl rfl hE rfl hS rfl rfl (by kernel_rfl) (fun _ h => h.1.at_ (List.Mem.head _)) (fun a hE => ?_))
  refine wF 3 15 8 1 24 1 hE fun a hE => ?_
  refine tD 4 31 (fuel := 7) (by kernel_rfl) hE (tk_load 6 (.agg (List.toArray (acells .u8 32 (x13.fRoot)))) rfl rfl rfl rfl hE rfl hS rfl rfl (by kernel_rfl) (fun _ h => h.1.at_ (List.Mem.head _)) (fun a hE => ?_))
  refine wF 5 63 6 33 25 33 hE fun a hE => ?_
  refine tD 6 127 (fuel := 5) (by kernel_rfl) hE (tk_load 6 (.slice A14 (List.length (x13.fSigs)) c15) rfl rfl rfl rfl hE rfl hS rfl rfl (by kernel_rfl) (fun _ h => h.1.at_ (List.Mem.head _)) (fun a hE => ?_))
  refine twoB (i := 7) (j := 10) (fuel := 4) (m1 := 255) (m2 := 1151) (by kernel_rfl) (by kernel_rfl) (by kernel_rfl) ?_ ?_
  ·have hp_b8823 := hS.heapAt (j := 6) rfl
   have hp_b8827 := hS.heapAt (j := 8) rfl
   obtain ⟨r2, h11, hf⟩ := bs hf
   refine (op_call rfl rfl rfl rfl hE rfl rfl rfl rfl (by kernel_rfl) (slices_Clone_api_Sig_api_Sig.calls h11 (hS.st.fore (L := [])) (h16.mono (le2 le3 le6))) (fun a v w hR hE => ?_))
   obtain ⟨D22, A7, c7, q9, rfl, hS1, h13⟩ := hR
   have le10 := hS1.dle
   have hS := hS.callR hS1 rfl (.c .n)
   refine ⟨⟨show RP [b6, b8] _ _ from ⟨(hS.heapAt (j := 7) rfl).trans hp_b8823.symm, ⟨(hS.heapAt (j := 9) rfl).trans hp_b8827.symm, trivial⟩⟩, fun _ => hS.st.sees.mono le10⟩, ?_⟩
   clear hp_b8823 hp_b8827
   obtain ⟨D16, q10, le14, hS, h42, h14⟩ := hS.lent h13
   refine tW 8 511 (fuel := 3) (by kernel_rfl) hE (fun M => tk_build (c_T_api_Point ({ x13 with fSigs := r2 }) A7 c7) rfl rfl rfl rfl hE rfl rfl (by kernel_rfl) (fun a hE => ?_))
   refine tW 9 1023 (fuel := 2) (by kernel_rfl) hE (fun M => tk_build (c_T_api_Bundle ((T_api_Bundle.mk (x18) ({ x13 with fSigs := r2 }) (([] : List T_api_Item)))) A7 c7 none 0) rfl rfl rfl rfl hE rfl rfl (by kernel_rfl) (fun a hE => ?_))
   have hp_b8823 := hS.heapAt (j := 7) rfl
   have hp_b8827 := hS.heapAt (j := 9) rfl
   refine oG 10 2047 (fuel := 1) (by kernel_rfl) (op_alloc (z := .agg (List.toArray (c_T_api_Bundle (z_T_api_Bundle) none 0 none 0))) rfl rfl rfl rfl hE rfl hS (by kernel_rfl) (fun a b14 w _ hE hS => ?_))
   refine ⟨⟨show RP [b6, b8] _ _ from ⟨(hS.heapAt (j := 8) rfl).trans hp_b8823.symm, ⟨(hS.heapAt (j := 10) rfl).trans hp_b8827.symm, trivial⟩⟩, fun _ => hS.st.sees.mono (le2 le10 le14)⟩, ?_⟩
   clear hp_b8823 hp_b8827
   have hp_b8823 := hS.heapAt (j := 8) rfl
   have hp_b8827 := hS.heapAt (j := 10) rfl
   refine oG 11 4095 (fuel := 0) (by kernel_rfl) (op_store (v := .agg (List.toArray (c_T_api_Bundle ((T_api_Bundle.mk (x18) ({ x13 with fSigs := r2 }) (([] : List T_api_Item)))) A7 c7 none 0))) (c_T_api_Bundle ((T_api_Bundle.mk (x18) ({ x13 with fSigs := r2 }) (([] : List T_api_Item)))) A7 c7 none 0) rfl rfl rfl rfl hE hS rfl rfl (by kernel_rfl) (by kernel_rfl) (by kernel_rfl) (by kernel_rfl) (by kernel_rfl) (fun a w _ hE hS => ?_))
   refine ⟨⟨show RP [b6, b8] _ _ from ⟨(hS.heapAt (j := 8) rfl).trans hp_b8823.symm, ⟨(hS.heapAt (j := 10) rfl).trans hp_b8827.symm, trivial⟩⟩, fun _ => hS.st.sees.mono (le2 le10 le14)⟩, ?_⟩
   clear hp_b8823 hp_b8827
   refine doneG (by kernel_rfl) ?_
   have hS := hS.p (.d 0 (.d 3 (.d 4 (.d 5 (.d 6 (.d 7 (.d 8 (.d 9 (.d 10 (.d 11 (.d 12 (.d 2 .n))))))))))))
   exact ⟨{ x13 with fSigs := r2 }, A7, c7, b14, D16, hE.wk, hS, (le2 le10 le14), h14, hf⟩
  have hp_b8823 := hS.heapAt (j := 6) rfl
  have hp_b8827 := hS.heapAt (j := 8) rfl
  refine (op_alloc (z := .agg (List.toArray (c_T_api_Bundle (z_T_api_Bundle) none 0 none 0))) rfl rfl rfl rfl hE rfl hS (by kernel_rfl) (fun a b15 w _ hE hS => ?_))
  refine ⟨⟨show RP [b6, b8] _ _ from ⟨(hS.heapAt (j := 7) rfl).trans hp_b8823.symm, ⟨(hS.heapAt (j := 9) rfl).trans hp_b8827.symm, trivial⟩⟩, fun _ => hS.st.sees⟩, ?_⟩
  clear hp_b8823 hp_b8827
  have hp_b8823 := hS.heapAt (j := 7) rfl
  have hp_b8827 := hS.heapAt (j := 9) rfl
  obtain ⟨r3, h15, hf⟩ := bs hf
  refine oC 7 1279 3 rfl rfl rfl rfl hE rfl rfl rfl rfl (slices_Clone_api_Sig_api_Sig.calls h15 (hS.st.fore (L := [])) (h16.mono (le2 le3 le6))) fun a v w hR hE => ?_
  obtain ⟨D23, A8, c8, q11, rfl, hS1, h17⟩ := hR
  have le15 := hS1.dle
  have hS := hS.callR hS1 rfl (.c .n)
  refine ⟨⟨show RP [b6, b8] _ _ from ⟨(hS.heapAt (j := 8) rfl).trans hp_b8823.symm, ⟨(hS.heapAt (j := 10) rfl).trans hp_b8827.symm, trivial⟩⟩, fun _ => hS.st.sees.mono le15⟩, ?_⟩
  clear hp_b8823 hp_b8827
  obtain ⟨D17, q12, le17, hS, h43, h18⟩ := hS.lent h17
  refine tW 8 1535 (fuel := 2) (by kernel_rfl) hE (fun M => tk_build (c_T_api_Point ({ x13 with fSigs := r3 }) A8 c8) rfl rfl rfl rfl hE rfl rfl (by kernel_rfl) (fun a hE => ?_))
  refine tW 9 2047 (fuel := 1) (by kernel_rfl) hE (fun M => tk_build (c_T_api_Bundle ((T_api_Bundle.mk (x18) ({ x13 with fSigs := r3 }) (([] : List T_api_Item)))) A8 c8 none 0) rfl rfl rfl rfl hE rfl rfl (by kernel_rfl) (fun a hE => ?_))
  have hp_b8823 := hS.heapAt (j := 8) rfl
  have hp_b8827 := hS.heapAt (j := 10) rfl
  have hS := hS.p (.d 1 (.d 0 (.d 2 (.d 3 (.d 4 (.d 5 (.d 6 (.d 7 (.d 8 (.d 9 (.d 10 (.d 11 (.d 12 .n)))))))))))))
  refine oG 11 4095 (fuel := 0) (by kernel_rfl) (op_store (v := .agg (List.toArray (c_T_api_Bundle ((T_api_Bundle.mk (x18) ({ x13 with fSigs := r3 }) (([] : List T_api_Item)))) A8 c8 none 0))) (c_T_api_Bundle ((T_api_Bundle.mk (x18) ({ x13 with fSigs := r3 }) (([] : List T_api_Item)))) A8 c8 none 0) rfl rfl rfl rfl hE hS rfl rfl (by kernel_rfl) (by kernel_rfl) (by kernel_rfl) (by kernel_rfl) (by kernel_rfl) (fun a w _ hE hS => ?_))
  refine ⟨⟨show RP [b6, b8] _ _ from ⟨(hS.heapAt (j := 8) rfl).trans hp_b8823.symm, ⟨(hS.heapAt (j := 10) rfl).trans hp_b8827.symm, trivial⟩⟩, fun _ => hS.st.sees.mono (le2 le15 le17)⟩, ?_⟩
  clear hp_b8823 hp_b8827
  refine doneG (by kernel_rfl) ?_
  have hS := hS.p (.d 0 (.d 3 (.d 4 (.d 5 (.d 6 (.d 7 (.d 8 (.d 9 (.d 10 (.d 11 (.d 12 (.d 2 .n))))))))))))
  exact ⟨{ x13 with fSigs := r3 }, A8, c8, b15, D17, hE.wk, hS, (le2 le15 le17), h18, hf⟩
 clear hE hS
 rintro a w ⟨y2, A1, c1, b11, D2, hE, hS, le7, h2, hf⟩
 replace hf := hj2 _ hf
 clear hj2
 refine sq (sq (ra ?_))
 refine sN 1 1 [(52, .func (.func 64) #[] #[.pointer (some ⟨b1, 0, none⟩), .pointer (some ⟨b2, 0, none⟩)])] hE fun a hE => ?_
 refine ae ?_
 refine wpIn_block ?_
 have hEo1 := hE
 refine range_in2 (captured := #[.pointer (some ⟨b1, 0, none⟩), .pointer (some ⟨b2, 0, none⟩)]) hE hS rfl (by kernel_rfl) (fun fn1 l1 d13236 w q2 hq1 hS => ?_)
 refine calls_body (n := 19) Tryd.func64 rfl Tryd.ntmps64 rfl fun a hE => ?_
 have hE : Env a 19 [] [(0, .func (.yield l1) #[] #[]), (1, .pointer (some ⟨b1, 0, none⟩)), (2, .pointer (some ⟨b2, 0, none⟩))] := hE
 refine sq (ra ?_)
 refine sM 2 2 [3] [(5, .int .i64 (x19)), (6, .int .i64 ((0 : Int)))] hE hS fun a hE => ?_
 refine ae ?_
 obtain ⟨s1, hf, hs1⟩ := bs hf
 have hS := hS.nils
 have hS := hS.p (.d 4 (.d 5 (.d 6 (.d 7 (.d 8 (.d 9 (.d 10 (.d 11 (.d 12 (.d 13 (.d 14 (.d 3 (.d 1 (.d 2 (.d 0 .n)))))))))))))))
 refine block_loopR (fun a w => ∃ (z1 : (List T_api_Item)), ∃ A4, ∃ c4, ∃ q4, ∃ D10, Env a 19 [] [] ∧ Stp g w0 D0 [bx b1 3 ([.int .i64 (x19)]), bx b2 70 ([.func (.func 32) #[] #[.pointer (some ⟨b3, 0, none⟩), .pointer (some ⟨b4, 0, none⟩)]]), bx b3 3 ([.int .i64 (x20)]), bx b4 3 ([.int .i64 (x21)])] w D10 [bx b1 3 ([.int .i64 (x19)]), bx b2 70 ([.func (.func 32) #[] #[.pointer (some ⟨b3, 0, none⟩), .pointer (some ⟨b4, 0, none⟩)]]), bx b3 3 ([.int .i64 (x20)]), bx b4 3 ([.int .i64 (x21)]), bx b5 22 ([.slice A10 (List.length (x9)) c11]), bx b6 27 (c_T_api_Point (x13) A14 c15), bx b7 35 ([.int .u32 (x17)]), bx b8 4 ([.bool (x18)]), bx b9 32 (c_T_api_Bundle (z_T_api_Bundle) none 0 none 0), bx b10 4 ([.bool false]), bx b12 40 ([.slice A2 (List.length (r1)) c2]), bx b11 32 (c_T_api_Bundle ((T_api_Bundle.mk (x18) (y2) (z1))) A1 c1 A4 c4), q2 .ready none, dk d13236, q4] ∧ Snap.le D2 D10 ∧ OwnL kd_T_api_Item 42 D10 A4 c4 (z1) q4 ∧ (Sum.inr z1) = s1) (fun a w => ∃ (z2 : (List T_api_Item)), ∃ A18, ∃ c18, ∃ q5, ∃ D4, Env a 19 [] [] ∧ Stp g w0 D0 [bx b1 3 ([.int .i64 (x19)]), bx b2 70 ([.func (.func 32) #[] #[.pointer (some ⟨b3, 0, none⟩), .pointer (some ⟨b4, 0, none⟩)]]), bx b3 3 ([.int .i64 (x20)]), bx b4 3 ([.int .i64 (x21)])] w D4 [bx b1 3 ([.int .i64 (x19)]), bx b2 70 ([.func (.func 32) #[] #[.pointer (some ⟨b3, 0, none⟩), .pointer (some ⟨b4, 0, none⟩)]]), bx b3 3 ([.int .i64 (x20)]), bx b4 3 ([.int .i64 (x21)]), bx b5 22 ([.slice A10 (List.length (x9)) c11]), bx b6 27 (c_T_api_Point (x13) A14 c15), bx b7 35 ([.int .u32 (x17)]), bx b8 4 ([.bool (x18)]), bx b9 32 (c_T_api_Bundle (z_T_api_Bundle) none 0 none 0), bx b10 4 ([.bool false]), bx b12 40 ([.slice A2 (List.length (r1)) c2]), bx b11 32 (c_T_api_Bundle ((T_api_Bundle.mk (x18) (y2) (z2))) A1 c1 A18 c18), q2 .done (some .ret), dk d13236, q5] ∧ Snap.le D2 D4 ∧ OwnL kd_T_api_Item 42 D4 A18 c18 (z2) q5 ∧ (Sum.inl z2) = s1) (fun k a w => ∃ (y1 : Int × (List T_api_Item)), ∃ A3, ∃ c3, ∃ q1, ∃ D6, Env a 19 [] [(0, .func (.yield l1) #[] #[]), (2, .pointer (some ⟨b2, 0, none⟩)), (5, .int .i64 (x19)), (6, .int .i64 (y1.1))] ∧ Stp g w0 D0 [bx b1 3 ([.int .i64 (x19)]), bx b2 70 ([.func (.func 32) #[] #[.pointer (some ⟨b3, 0, none⟩), .pointer (some ⟨b4, 0, none⟩)]]), bx b3 3 ([.int .i64 (x20)]), bx b4 3 ([.int .i64 (x21)])] w D6 [bx b1 3 ([.int .i64 (x19)]), bx b2 70 ([.func (.func 32) #[] #[.pointer (some ⟨b3, 0, none⟩), .pointer (some ⟨b4, 0, none⟩)]]), bx b3 3 ([.int .i64 (x20)]), bx b4 3 ([.int .i64 (x21)]), bx b5 22 ([.slice A10 (List.length (x9)) c11]), bx b6 27 (c_T_api_Point (x13) A14 c15), bx b7 35 ([.int .u32 (x17)]), bx b8 4 ([.bool (x18)]), bx b9 32 (c_T_api_Bundle (z_T_api_Bundle) none 0 none 0), bx b10 4 ([.bool false]), bx b12 40 ([.slice A2 (List.length (r1)) c2]), bx b11 32 (c_T_api_Bundle ((T_api_Bundle.mk (x18) (y2) (y1.2))) A1 c1 A3 c3), q2 .ready none, dk d13236, q1] ∧ Snap.le D2 D6 ∧ OwnL kd_T_api_Item 42 D6 A3 c3 (y1.2) q1 ∧ export_made_l1.l K x9 x13 x17 x18 x19 x20 x21 r1 k y1 = some s1) K ?_ ?_ ?_ ?_
 ·exact ⟨((0 : Int), ([] : List T_api_Item)), none, 0, none, D2, hE.wk, hS, lr, (OwnD.nil kd_T_api_Item 42 D2), hf⟩
 ·clear hE hS hf
  rintro a w ⟨z1, A4, c4, q4, D10, hE, hS, le18, h19, rfl⟩
  have hf := hs1
  clear hs1
  refine ret_genN ([]) hE (by rw [show Tryd.f64.results.toList = [] from rfl]; rfl) ?_
  have hS := hS.p (.d 12 (.d 0 (.d 1 (.d 2 (.d 3 (.d 4 (.d 5 (.d 6 (.d 7 (.d 8 (.d 9 (.d 10 (.d 11 (.d 13 (.d 14 .n)))))))))))))))
  refine range_done2 hq1 hS hEo1 (fun w a hS hE => ?_)
  refine sq (sq (ra ?_))
  refine sM 1 1 [11] [(87, .agg (List.toArray (c_T_api_Bundle ((T_api_Bundle.mk (x18) (y2) (z1))) A1 c1 A4 c4)))] hE hS fun a hE => ?_
  have hS := hS.p (.d 13 (.d 0 (.d 1 (.d 2 (.d 3 (.d 4 (.d 5 (.d 6 (.d 7 (.d 8 (.d 9 (.d 10 (.d 11 (.d 12 .n))))))))))))))
  obtain ⟨D24, q13, le19, hS, h44, h3⟩ := hS.lent h19
  obtain ⟨r8, h20, hf⟩ := bs hf
  refine aC rfl rfl rfl rfl hE rfl rfl rfl rfl (bundle_Right.calls h20 (hS.st.fore (L := [])) (h2.mono (le2 le18 le19)) h3) fun a v w hR hE => ?_
  obtain ⟨D11, rfl, hS1⟩ := hR
  have le20 := hS1.dle
  have hS := hS.callR hS1 rfl .n
  refine sN 1 3 [(89, .bool ((!r8)))] hE fun a hE => ?_
  refine ae ?_
  refine cond_split hE (b := (!r8)) rfl (fun hb => ?_) (fun hb => ?_)
  ·replace hf := ct hb hf
   refine sq (ra ?_)
   refine at_op (op_tk hE (tk_build (c_T_api_Bundle (z_T_api_Bundle) none 0 none 0) rfl rfl rfl rfl hE rfl rfl (by kernel_rfl) (fun a hE => ?_))) rfl
   have hS := hS.p (.d 9 (.d 0 (.d 1 (.d 2 (.d 3 (.d 4 (.d 5 (.d 6 (.d 7 (.d 8 (.d 10 (.d 11 (.d 12 (.d 13 .n))))))))))))))
   refine at_op (op_store (v := .agg (List.toArray (c_T_api_Bundle (z_T_api_Bundle) none 0 none 0))) (c_T_api_Bundle (z_T_api_Bundle) none 0 none 0) rfl rfl rfl rfl hE hS rfl rfl (by kernel_rfl) (by kernel_rfl) (by kernel_rfl) (by kernel_rfl) (by kernel_rfl) (fun a w _ hE hS => ?_)) rfl
   have hS := hS.p (.d 10 (.d 0 (.d 1 (.d 2 (.d 3 (.d 4 (.d 5 (.d 6 (.d 7 (.d 8 (.d 9 (.d 11 (.d 12 (.d 13 .n))))))))))))))
   refine at_op (op_store (v := .bool false) ([.bool false]) rfl rfl rfl rfl hE hS rfl rfl (by kernel_rfl) (by kernel_rfl) (by kernel_rfl) (by kernel_rfl) (by kernel_rfl) (fun a w _ hE hS => ?_)) rfl
   refine ae ?_
   refine wpIn_ret ?_
   have hS := hS.p (.d 13 (.d 0 (.d 1 (.d 2 (.d 3 (.d 4 (.d 5 (.d 6 (.d 7 (.d 8 (.d 9 (.d 10 (.d 11 (.d 12 .n))))))))))))))
   obtain rfl := si hf
   refine ret_ ?_
   refine ret_M1 ([.agg (List.toArray (c_T_api_Bundle (z_T_api_Bundle) none 0 none 0)), .bool false]) hE hS (fun w hS => ⟨by rw [show Tryd.f28.results.toList = [.cell 10 32, .cell 11 4] from rfl]; exact ⟨_, _, _, 0, _, _, rfl, rfl, hS.heapAt (j := 1) rfl, by kernel_rfl, ⟨_, _, _, 0, _, _, rfl, rfl, hS.heapAt (j := 0) rfl, by kernel_rfl, rfl⟩⟩, ?_⟩)
   have hS := hS.p (.d 3 (.d 4 (.d 5 (.d 6 .n))))
   exact ⟨_, rfl, D11, none, 0, none, 0, rfl, hS, (Sl.nil kd_T_api_Sig D11), (Sl.nil kd_T_api_Item D11)⟩
  replace hf := cf hb hf
  refine wpIn_skip ?_
  refine sq (ra ?_)
  refine sM 1 1 [12] [(91, .agg (List.toArray (c_T_api_Bundle ((T_api_Bundle.mk (x18) (y2) (z1))) A1 c1 A4 c4)))] hE hS fun a hE => ?_
  have hS := hS.p (.d 9 (.d 0 (.d 1 (.d 2 (.d 3 (.d 4 (.d 5 (.d 6 (.d 7 (.d 8 (.d 10 (.d 11 (.d 12 (.d 13 .n))))))))))))))
  refine at_op (op_store (v := .agg (List.toArray (c_T_api_Bundle ((T_api_Bundle.mk (x18) (y2) (z1))) A1 c1 A4 c4))) (c_T_api_Bundle ((T_api_Bundle.mk (x18) (y2) (z1))) A1 c1 A4 c4) rfl rfl rfl rfl hE hS rfl rfl (by kernel_rfl) (by kernel_rfl) (by kernel_rfl) (by kernel_rfl) (by kernel_rfl) (fun a w _ hE hS => ?_)) rfl
  have hS := hS.p (.d 10 (.d 0 (.d 1 (.d 2 (.d 3 (.d 4 (.d 5 (.d 6 (.d 7 (.d 8 (.d 9 (.d 11 (.d 12 (.d 13 .n))))))))))))))
  refine at_op (op_store (v := .bool true) ([.bool true]) rfl rfl rfl rfl hE hS rfl rfl (by kernel_rfl) (by kernel_rfl) (by kernel_rfl) (by kernel_rfl) (by kernel_rfl) (fun a w _ hE hS => ?_)) rfl
  refine ae ?_
  refine wpIn_ret ?_
  have hS := hS.p (.d 13 (.d 0 (.d 1 (.d 2 (.d 3 (.d 4 (.d 5 (.d 6 (.d 7 (.d 8 (.d 9 (.d 10 (.d 11 (.d 12 .n))))))))))))))
  obtain rfl := si hf
  refine ret_ ?_
  refine ret_M1 ([.agg (List.toArray (c_T_api_Bundle ((T_api_Bundle.mk (x18) (y2) (z1))) A1 c1 A4 c4)), .bool true]) hE hS (fun w hS => ⟨by rw [show Tryd.f28.results.toList = [.cell 10 32, .cell 11 4] from rfl]; exact ⟨_, _, _, 0, _, _, rfl, rfl, hS.heapAt (j := 1) rfl, by kernel_rfl, ⟨_, _, _, 0, _, _, rfl, rfl, hS.heapAt (j := 0) rfl, by kernel_rfl, rfl⟩⟩, ?_⟩)
  have hS := hS.p (.d 3 (.d 4 (.d 5 (.d 6 .n))))
  exact ⟨_, rfl, D11, A1, c1, A4, c4, rfl, hS, (h2.mono (le2 (le2 le18 le19) le20)), (h3.mono le20)⟩
 ·clear hE hS hf
  rintro a w ⟨z2, A18, c18, q5, D4, hE, hS, le25, h45, rfl⟩
  have hf := hs1
  clear hs1
  refine ret_ ?_
  refine ret_gen ([]) hE (by rw [show Tryd.f64.results.toList = [] from rfl]; rfl) ?_
  have hS := hS.p (.d 12 (.d 0 (.d 1 (.d 2 (.d 3 (.d 4 (.d 5 (.d 6 (.d 7 (.d 8 (.d 9 (.d 10 (.d 11 (.d 13 (.d 14 .n)))))))))))))))
  refine range_ret2 hq1 hS hEo1 (fun w a hS hE => ?_)
  have hS := hS.p (.d 12 (.d 0 (.d 1 (.d 2 (.d 3 (.d 4 (.d 5 (.d 6 (.d 7 (.d 8 (.d 9 (.d 10 (.d 11 (.d 13 .n))))))))))))))
  obtain rfl := si hf
  refine ret_ ?_
  refine ret_M1 ([.agg (List.toArray (c_T_api_Bundle (z_T_api_Bundle) none 0 none 0)), .bool false]) hE hS (fun w hS => ⟨by rw [show Tryd.f28.results.toList = [.cell 10 32, .cell 11 4] from rfl]; exact ⟨_, _, _, 0, _, _, rfl, rfl, hS.heapAt (j := 8) rfl, by kernel_rfl, ⟨_, _, _, 0, _, _, rfl, rfl, hS.heapAt (j := 9) rfl, by kernel_rfl, rfl⟩⟩, ?_⟩)
  have hS := hS.p (.d 0 (.d 1 (.d 2 (.d 3 .n))))
  exact ⟨_, rfl, D4, none, 0, none, 0, rfl, hS, (Sl.nil kd_T_api_Sig D4), (Sl.nil kd_T_api_Item D4)⟩
 clear hE hS hf
 rintro k a w ⟨y1, A3, c3, q1, D6, hE, hS, le5, h1, hf⟩
 obtain ⟨k, rfl, hf⟩ := export_made_l1.some _ _ _ _ _ _ _ _ hf
 refine ⟨k, rfl, ?_⟩
 unfold export_made_l1.b at hf
 refine sq (ra ?_)
 refine sN 1 1 [(7, .bool ((decide (y1.1 < x19))))] hE fun a hE => ?_
 refine ae ?_
 refine sq ?_
 refine cond_split hE (b := (decide (y1.1 < x19))) rfl (fun hb => ?_) (fun hb => ?_)
 ·replace hf := ct hb hf
  refine wpIn_skip ?_
  obtain ⟨j3, hj3, hf⟩ := jn_elim hf
  refine seq_join (fun a w => ∃ (y6 : (List T_api_Item)), ∃ A11, ∃ c10, ∃ q3, ∃ D8, Env a 19 [] [(0, .func (.yield l1) #[] #[]), (2, .pointer (some ⟨b2, 0, none⟩)), (5, .int .i64 (x19)), (6, .int .i64 (y1.1))] ∧ Stp g w0 D0 [bx b1 3 ([.int .i64 (x19)]), bx b2 70 ([.func (.func 32) #[] #[.pointer (some ⟨b3, 0, none⟩), .pointer (some ⟨b4, 0, none⟩)]]), bx b3 3 ([.int .i64 (x20)]), bx b4 3 ([.int .i64 (x21)])] w D8 [bx b1 3 ([.int .i64 (x19)]), bx b2 70 ([.func (.func 32) #[] #[.pointer (some ⟨b3, 0, none⟩), .pointer (some ⟨b4, 0, none⟩)]]), bx b3 3 ([.int .i64 (x20)]), bx b4 3 ([.int .i64 (x21)]), bx b5 22 ([.slice A10 (List.length (x9)) c11]), bx b6 27 (c_T_api_Point (x13) A14 c15), bx b7 35 ([.int .u32 (x17)]), bx b8 4 ([.bool (x18)]), bx b9 32 (c_T_api_Bundle (z_T_api_Bundle) none 0 none 0), bx b10 4 ([.bool false]), bx b12 40 ([.slice A2 (List.length (r1)) c2]), bx b11 32 (c_T_api_Bundle ((T_api_Bundle.mk (x18) (y2) (y6))) A1 c1 A11 c10), q2 .ready none, dk d13236, q3] ∧ Snap.le D6 D8 ∧ OwnL kd_T_api_Item 42 D8 A11 c10 (y6) q3 ∧ j3 y6 = some s1) ?_ ?_
  ·clear hj3
   refine wpIn_block ?_
   refine sq (ra ?_)
   refine sN 2 2 [(4, .int .i64 (y1.1))] hE fun a hE => ?_
   refine ae ?_
   refine sq (ra ?_)
   refine sM 2 2 [1] [(9, .func (.func 32) #[] #[.pointer (some ⟨b3, 0, none⟩), .pointer (some ⟨b4, 0, none⟩)]), (10, .int .i64 (y1.1))] hE hS fun a hE => ?_
   have hS := hS.p (.d 2 (.d 3 (.d 0 (.d 1 (.d 4 (.d 5 (.d 6 (.d 7 (.d 8 (.d 9 (.d 10 (.d 11 (.d 12 (.d 13 (.d 14 .n)))))))))))))))
   obtain ⟨r9, h21, hf⟩ := bs hf
   refine aC rfl rfl rfl rfl hE rfl rfl rfl rfl (export_Range_1.calls h21 (hS.st.fore (L := [bx b3 3 ([.int .i64 (x20)]), bx b4 3 ([.int .i64 (x21)])])) ) fun a v w hR hE => ?_
   obtain ⟨D12, rfl, hS1⟩ := hR
   have le1 := hS1.dle
   have hS := hS.callR hS1 rfl (.c (.c .n))
   refine sN 1 4 [(12, .bool (r9))] hE fun a hE => ?_
   refine bo (r9) (fun hb => ?_) fun hb => ?_
   ·replace hf := cf hb hf
    have hE := hE.know (t := 12) rfl hb
    refine sN 5 9 [(17, .bool false)] hE fun a hE => ?_
    refine ae ?_
    refine wpIn_cond_false (hE.eval rfl) ?_
    refine wpIn_skip ?_
    have hS := hS.p (.d 2 (.d 3 (.d 0 (.d 1 (.d 4 (.d 5 (.d 6 (.d 7 (.d 8 (.d 9 (.d 10 (.d 11 (.d 12 (.d 13 (.d 14 .n)))))))))))))))
    exact ⟨y1.2, A3, c3, q1, D12, hE.wk, hS, le1, (h1.mono le1), hf⟩
   replace hf := ct hb hf
   have hE := hE.know (t := 12) rfl hb
   refine sN 2 6 [(13, .func (.yield l1) #[] #[]), (14, .int .i64 (y1.1))] hE fun a hE => ?_
   have hS := hS.p (.d 12 (.d 0 (.d 1 (.d 2 (.d 3 (.d 4 (.d 5 (.d 6 (.d 7 (.d 8 (.d 9 (.d 10 (.d 11 (.d 13 (.d 14 .n)))))))))))))))
   refine at_op (op_yield2 (args := [.int .i64 (y1.1)]) hq1 rfl rfl rfl rfl hE rfl rfl rfl hS hEo1 rfl (by kernel_rfl) (fun a hE => ?_)) rfl
   refine ra ?_
   refine sN 1 1 [(14, .int .i64 (y1.1))] hE fun a hE => ?_
   refine ae ?_
   refine begin_in2 hq1 hS (fun w hS => ?_)
   refine wpIn_block ?_
   refine sq ?_
   obtain ⟨j4, hj4, hf⟩ := jn_elim hf
   refine seq_join (fun a w => ∃ (y5 : Bool), ∃ D7, Env a 92 [] [(5, .pointer (some ⟨b5, 0, none⟩)), (6, .pointer (some ⟨b6, 0, none⟩)), (7, .pointer (some ⟨b7, 0, none⟩)), (8, .pointer (some ⟨b8, 0, none⟩)), (10, .pointer (some ⟨b9, 0, none⟩)), (11, .pointer (some ⟨b10, 0, none⟩)), (12, .pointer (some ⟨b12, 0, none⟩)), (13, .pointer (some ⟨b11, 0, none⟩)), (14, .int .i64 (y1.1)), (52, .func (.func 64) #[] #[.pointer (some ⟨b1, 0, none⟩), .pointer (some ⟨b2, 0, none⟩)]), (53, .int .i64 (y1.1)), (61, .bool (y5))] ∧ Stp g w0 D0 [bx b1 3 ([.int .i64 (x19)]), bx b2 70 ([.func (.func 32) #[] #[.pointer (some ⟨b3, 0, none⟩), .pointer (some ⟨b4, 0, none⟩)]]), bx b3 3 ([.int .i64 (x20)]), bx b4 3 ([.int .i64 (x21)])] w D7 [bx b1 3 ([.int .i64 (x19)]), bx b2 70 ([.func (.func 32) #[] #[.pointer (some ⟨b3, 0, none⟩), .pointer (some ⟨b4, 0, none⟩)]]), bx b3 3 ([.int .i64 (x20)]), bx b4 3 ([.int .i64 (x21)]), bx b5 22 ([.slice A10 (List.length (x9)) c11]), bx b6 27 (c_T_api_Point (x13) A14 c15), bx b7 35 ([.int .u32 (x17)]), bx b8 4 ([.bool (x18)]), bx b9 32 (c_T_api_Bundle (z_T_api_Bundle) none 0 none 0), bx b10 4 ([.bool false]), bx b12 40 ([.slice A2 (List.length (r1)) c2]), bx b11 32 (c_T_api_Bundle ((T_api_Bundle.mk (x18) (y2) (y1.2))) A1 c1 A3 c3), q2 .busy none, dk d13236, q1] ∧ Snap.le D12 D7 ∧ j4 y5 = some s1) ?_ ?_
   ·clear hj4
    refine ra ?_
    refine sN 3 3 [(56, .bool ((decide (y1.1 < (0 : Int)))))] hE fun a hE => ?_
    refine bo ((decide (y1.1 < (0 : Int)))) (fun hb => ?_) fun hb => ?_
    ·replace hf := cf hb hf
     have hE := hE.know (t := 56) rfl hb
     refine sM 5 8 [6] [(61, .bool ((decide (x13.fSize ≤ y1.1))))] hE hS fun a hE => ?_
     refine ae ?_
     have hS := hS.p (.d 3 (.d 4 (.d 1 (.d 2 (.d 5 (.d 6 (.d 7 (.d 8 (.d 9 (.d 10 (.d 11 (.d 12 (.d 0 (.d 13 (.d 14 .n)))))))))))))))
     exact ⟨(decide (x13.fSize ≤ y1.1)), D12, hE.wk, hS, lr, hf⟩
    replace hf := ct hb hf
    have hE := hE.know (t := 56) rfl hb
    refine sN 5 8 [(61, .bool true)] hE fun a hE => ?_
    refine ae ?_
    have hS := hS.p (.d 3 (.d 4 (.d 1 (.d 2 (.d 5 (.d 6 (.d 7 (.d 8 (.d 9 (.d 10 (.d 11 (.d 12 (.d 0 (.d 13 (.d 14 .n)))))))))))))))
    exact ⟨true, D12, hE.wk, hS, lr, hf⟩
   clear hE hS
   rintro a w ⟨y5, D7, hE, hS, le4, hf⟩
   replace hf := hj4 _ hf
   clear hj4
   refine cond_split hE (b := y5) rfl (fun hb => ?_) (fun hb => ?_)
   ·replace hf := ct hb hf
    refine sq (ra ?_)
    refine at_op (op_tk hE (tk_build (c_T_api_Bundle (z_T_api_Bundle) none 0 none 0) rfl rfl rfl rfl hE rfl rfl (by kernel_rfl) (fun a hE => ?_))) rfl
    have hS := hS.p (.d 8 (.d 0 (.d 1 (.d 2 (.d 3 (.d 4 (.d 5 (.d 6 (.d 7 (.d 9 (.d 10 (.d 11 (.d 12 (.d 13 (.d 14 .n)))))))))))))))
    refine at_op (op_store (v := .agg (List.toArray (c_T_api_Bundle (z_T_api_Bundle) none 0 none 0))) (c_T_api_Bundle (z_T_api_Bundle) none 0 none 0) rfl rfl rfl rfl hE hS rfl rfl (by kernel_rfl) (by kernel_rfl) (by kernel_rfl) (by kernel_rfl) (by kernel_rfl) (fun a w _ hE hS => ?_)) rfl
    have hS := hS.p (.d 9 (.d 0 (.d 1 (.d 2 (.d 3 (.d 4 (.d 5 (.d 6 (.d 7 (.d 8 (.d 10 (.d 11 (.d 12 (.d 13 (.d 14 .n)))))))))))))))
    refine at_op (op_store (v := .bool false) ([.bool false]) rfl rfl rfl rfl hE hS rfl rfl (by kernel_rfl) (by kernel_rfl) (by kernel_rfl) (by kernel_rfl) (by kernel_rfl) (fun a w _ hE hS => ?_)) rfl
    refine ae ?_
    refine wpIn_ret ?_
    refine ret_ ?_
    have hS := hS.p (.d 12 (.d 0 (.d 1 (.d 2 (.d 3 (.d 4 (.d 5 (.d 6 (.d 7 (.d 8 (.d 9 (.d 10 (.d 11 (.d 13 (.d 14 .n)))))))))))))))
    refine round_ret2 (a1 := a) hq1 hS (fun w a hS hE => ?_)
    refine sN 2 9 [(17, .bool true)] hE fun a hE => ?_
    refine ae ?_
    refine wpIn_cond_true (hE.eval rfl) ?_
    refine wpIn_ret ?_
    obtain rfl := si hf
    have hS := hS.p (.d 3 (.d 4 (.d 5 (.d 6 (.d 7 (.d 8 (.d 9 (.d 10 (.d 2 (.d 1 (.d 11 (.d 12 (.d 0 (.d 13 (.d 14 .n)))))))))))))))
    exact ⟨y1.2, A3, c3, q1, D7, hE.wk, hS, (le2 (le2 le5 le1) le4), (h1.mono (le2 le1 le4)), rfl⟩
   replace hf := cf hb hf
   refine wpIn_skip ?_
   obtain ⟨j5, hj5, hf⟩ := jn_elim hf
   refine seq_join (fun a w => ∃ (y3 : T_api_Rec), ∃ A5, ∃ c5, ∃ A6, ∃ c6, ∃ b13, ∃ D3, Env a 92 [] [(5, .pointer (some ⟨b5, 0, none⟩)), (6, .pointer (some ⟨b6, 0, none⟩)), (7, .pointer (some ⟨b7, 0, none⟩)), (8, .pointer (some ⟨b8, 0, none⟩)), (10, .pointer (some ⟨b9, 0, none⟩)), (11, .pointer (some ⟨b10, 0, none⟩)), (12, .pointer (some ⟨b12, 0, none⟩)), (13, .pointer (some ⟨b11, 0, none⟩)), (14, .int .i64 (y1.1)), (15, .pointer (some ⟨b13, 0, none⟩)), (52, .func (.func 64) #[] #[.pointer (some ⟨b1, 0, none⟩), .pointer (some ⟨b2, 0, none⟩)]), (53, .int .i64 (y1.1)), (61, .bool (y5))] ∧ Stp g w0 D0 [bx b1 3 ([.int .i64 (x19)]), bx b2 70 ([.func (.func 32) #[] #[.pointer (some ⟨b3, 0, none⟩), .pointer (some ⟨b4, 0, none⟩)]]), bx b3 3 ([.int .i64 (x20)]), bx b4 3 ([.int .i64 (x21)])] w D3 [bx b13 42 (c_T_api_Item ((T_api_Item.mk (y1.1) (y3) (([] : List (Vector Int 32))))) A5 c5 A6 c6 none 0), bx b1 3 ([.int .i64 (x19)]), bx b2 70 ([.func (.func 32) #[] #[.pointer (some ⟨b3, 0, none⟩), .pointer (some ⟨b4, 0, none⟩)]]), bx b3 3 ([.int .i64 (x20)]), bx b4 3 ([.int .i64 (x21)]), bx b5 22 ([.slice A10 (List.length (x9)) c11]), bx b6 27 (c_T_api_Point (x13) A14 c15), bx b7 35 ([.int .u32 (x17)]), bx b8 4 ([.bool (x18)]), bx b9 32 (c_T_api_Bundle (z_T_api_Bundle) none 0 none 0), bx b10 4 ([.bool false]), bx b12 40 ([.slice A2 (List.length (r1)) c2]), bx b11 32 (c_T_api_Bundle ((T_api_Bundle.mk (x18) (y2) (y1.2))) A1 c1 A3 c3), q2 .busy none, dk d13236, q1] ∧ Snap.le D7 D3 ∧ Sl kd_T_api_Step D3 A5 c5 (y3.fSteps) ∧ Sl (kdInt .u8) D3 A6 c6 (y3.fData) ∧ j5 y3 = some s1) ?_ ?_
   ·clear hj5
    refine region_draw (fun j => RD D7 (plOf [] [b5, b7] j)) (by kernel_rfl) ?_
    have hS := hS.drew
    first | generalize w.drew = w at hS ⊢ | generalize w0.drew = w at hS ⊢
    refine wP 0 1 10 (.int .i64 (y1.1)) hE fun a hE => ?_
    refine wP 2 5 9 (.int .i64 (y1.1)) hE fun a hE => ?_
    refine wP 5 37 8 (.int .i64 (y1.1)) hE fun a hE => ?_
    refine tD 1 39 (fuel := 7) (by kernel_rfl) hE (tk_load 4 (.slice A10 (List.length (x9)) c11) rfl rfl rfl rfl hE rfl hS rfl rfl (by kernel_rfl) (fun _ h => h.1.at_ (List.Mem.head _)) (fun a hE => ?_))
    obtain ⟨x1, h22, hf⟩ := bs hf
    refine tW 3 47 (fuel := 6) (by kernel_rfl) hE (fun M => g_index (K := kd_T_api_Rec) (e := 39) (by_ := 224) (zl := 109) rfl rfl rfl rfl hE rfl rfl rfl (by kernel_rfl) rfl (h12.mono (le2 (le2 (le2 (le2 (le2 le3 le6) le7) le5) le1) le4)) h22 (fun a b18 o1 hE h23 => ?_))
    obtain ⟨cs1, C1, T1, fr1, hr1, hb1, hc1⟩ := id h23
    obtain ⟨A22, c22, A23, c23, rfl, h4, h5⟩ := kd_T_api_Rec_el hr1
    refine tD 4 63 (fuel := 5) (by kernel_rfl) hE (tk_loadX (off0 := o1) (off := 0) (c := c_T_api_Rec (x1) A22 c22 A23 c23) (.agg (List.toArray (c_T_api_Rec (x1) A22 c22 A23 c23))) rfl rfl rfl rfl hE rfl hS rfl hb1 hc1 (by kernel_rfl) (by kernel_rfl) (fun _ h => h.2 hS.st.sees) (fun a hE => ?_))
    refine tD 6 127 (fuel := 4) (by kernel_rfl) hE (tk_load 6 (.int .u32 (x17)) rfl rfl rfl rfl hE rfl hS rfl rfl (by kernel_rfl) (fun _ h => h.1.at_ (List.Mem.tail _ (List.Mem.head _))) (fun a hE => ?_))
    refine twoB (i := 7) (j := 9) (fuel := 3) (m1 := 255) (m2 := 639) (by kernel_rfl) (by kernel_rfl) (by kernel_rfl) ?_ ?_
    ·have hp_b8821 := hS.heapAt (j := 4) rfl
     have hp_b8825 := hS.heapAt (j := 6) rfl
     obtain ⟨r4, h24, hf⟩ := bs hf
     refine (op_call rfl rfl rfl rfl hE rfl rfl rfl rfl (by kernel_rfl) (export_masked.calls h24 (hS.st.fore (L := [])) h4 h5 (hG0.mono (le2 (le2 (le2 (le2 (le2 le3 le6) le7) le5) le1) le4)) (hG1.mono (le2 (le2 (le2 (le2 (le2 le3 le6) le7) le5) le1) le4))) (fun a v w hR hE => ?_))
     obtain ⟨D18, A12, c12, A13, c13, rfl, hS1, h25, h26⟩ := hR
     have le11 := hS1.dle
     have hS := hS.callR hS1 rfl .n
     refine ⟨⟨show RP [b5, b7] _ _ from ⟨(hS.heapAt (j := 4) rfl).trans hp_b8821.symm, ⟨(hS.heapAt (j := 6) rfl).trans hp_b8825.symm, trivial⟩⟩, fun _ => hS.st.sees.mono le11⟩, ?_⟩
     clear hp_b8821 hp_b8825
     refine tW 8 511 (fuel := 2) (by kernel_rfl) hE (fun M => tk_build (c_T_api_Item ((T_api_Item.mk (y1.1) (r4) (([] : List (Vector Int 32))))) A12 c12 A13 c13 none 0) rfl rfl rfl rfl hE rfl rfl (by kernel_rfl) (fun a hE => ?_))
     have hp_b8821 := hS.heapAt (j := 4) rfl
     have hp_b8825 := hS.heapAt (j := 6) rfl
     refine oG 9 1023 (fuel := 1) (by kernel_rfl) (op_alloc (z := .agg (List.toArray (c_T_api_Item (z_T_api_Item) none 0 none 0 none 0))) rfl rfl rfl rfl hE rfl hS (by kernel_rfl) (fun a b16 w _ hE hS => ?_))
     refine ⟨⟨show RP [b5, b7] _ _ from ⟨(hS.heapAt (j := 5) rfl).trans hp_b8821.symm, ⟨(hS.heapAt (j := 7) rfl).trans hp_b8825.symm, trivial⟩⟩, fun _ => hS.st.sees.mono le11⟩, ?_⟩
     clear hp_b8821 hp_b8825
     have hp_b8821 := hS.heapAt (j := 5) rfl
     have hp_b8825 := hS.heapAt (j := 7) rfl
     refine oG 10 2047 (fuel := 0) (by kernel_rfl) (op_store (v := .agg (List.toArray (c_T_api_Item ((T_api_Item.mk (y1.1) (r4) (([] : List (Vector Int 32))))) A12 c12 A13 c13 none 0))) (c_T_api_Item ((T_api_Item.mk (y1.1) (r4) (([] : List (Vector Int 32))))) A12 c12 A13 c13 none 0) rfl rfl rfl rfl hE hS rfl rfl (by kernel_rfl) (by kernel_rfl) (by kernel_rfl) (by kernel_rfl) (by kernel_rfl) (fun a w _ hE hS => ?_))
     refine ⟨⟨show RP [b5, b7] _ _ from ⟨(hS.heapAt (j := 5) rfl).trans hp_b8821.symm, ⟨(hS.heapAt (j := 7) rfl).trans hp_b8825.symm, trivial⟩⟩, fun _ => hS.st.sees.mono le11⟩, ?_⟩
     clear hp_b8821 hp_b8825
     refine doneG (by kernel_rfl) ?_
     exact ⟨r4, A12, c12, A13, c13, b16, D18, hE.wk, hS, le11, h25, h26, hf⟩
    have hp_b8821 := hS.heapAt (j := 4) rfl
    have hp_b8825 := hS.heapAt (j := 6) rfl
    refine (op_alloc (z := .agg (List.toArray (c_T_api_Item (z_T_api_Item) none 0 none 0 none 0))) rfl rfl rfl rfl hE rfl hS (by kernel_rfl) (fun a b17 w _ hE hS => ?_))
    refine ⟨⟨show RP [b5, b7] _ _ from ⟨(hS.heapAt (j := 5) rfl).trans hp_b8821.symm, ⟨(hS.heapAt (j := 7) rfl).trans hp_b8825.symm, trivial⟩⟩, fun _ => hS.st.sees⟩, ?_⟩
    clear hp_b8821 hp_b8825
    have hp_b8821 := hS.heapAt (j := 5) rfl
    have hp_b8825 := hS.heapAt (j := 7) rfl
    obtain ⟨r5, h27, hf⟩ := bs hf
    refine oC 7 767 2 rfl rfl rfl rfl hE rfl rfl rfl rfl (export_masked.calls h27 (hS.st.fore (L := [])) h4 h5 (hG0.mono (le2 (le2 (le2 (le2 (le2 le3 le6) le7) le5) le1) le4)) (hG1.mono (le2 (le2 (le2 (le2 (le2 le3 le6) le7) le5) le1) le4))) fun a v w hR hE => ?_
    obtain ⟨D19, A15, c14, A16, c16, rfl, hS1, h28, h29⟩ := hR
    have le16 := hS1.dle
    have hS := hS.callR hS1 rfl .n
    refine ⟨⟨show RP [b5, b7] _ _ from ⟨(hS.heapAt (j := 5) rfl).trans hp_b8821.symm, ⟨(hS.heapAt (j := 7) rfl).trans hp_b8825.symm, trivial⟩⟩, fun _ => hS.st.sees.mono le16⟩, ?_⟩
    clear hp_b8821 hp_b8825
    refine tW 8 1023 (fuel := 1) (by kernel_rfl) hE (fun M => tk_build (c_T_api_Item ((T_api_Item.mk (y1.1) (r5) (([] : List (Vector Int 32))))) A15 c14 A16 c16 none 0) rfl rfl rfl rfl hE rfl rfl (by kernel_rfl) (fun a hE => ?_))
    have hp_b8821 := hS.heapAt (j := 5) rfl
    have hp_b8825 := hS.heapAt (j := 7) rfl
    refine oG 10 2047 (fuel := 0) (by kernel_rfl) (op_store (v := .agg (List.toArray (c_T_api_Item ((T_api_Item.mk (y1.1) (r5) (([] : List (Vector Int 32))))) A15 c14 A16 c16 none 0))) (c_T_api_Item ((T_api_Item.mk (y1.1) (r5) (([] : List (Vector Int 32))))) A15 c14 A16 c16 none 0) rfl rfl rfl rfl hE hS rfl rfl (by kernel_rfl) (by kernel_rfl) (by kernel_rfl) (by kernel_rfl) (by kernel_rfl) (fun a w _ hE hS => ?_))
    refine ⟨⟨show RP [b5, b7] _ _ from ⟨(hS.heapAt (j := 5) rfl).trans hp_b8821.symm, ⟨(hS.heapAt (j := 7) rfl).trans hp_b8825.symm, trivial⟩⟩, fun _ => hS.st.sees.mono le16⟩, ?_⟩
    clear hp_b8821 hp_b8825
    refine doneG (by kernel_rfl) ?_
    exact ⟨r5, A15, c14, A16, c16, b17, D19, hE.wk, hS, le16, h28, h29, hf⟩
   clear hE hS
   rintro a w ⟨y3, A5, c5, A6, c6, b13, D3, hE, hS, le8, h30, h31, hf⟩
   replace hf := hj5 _ hf
   clear hj5
   obtain ⟨j6, hj6, hf⟩ := jn_elim hf
   refine seq_join (fun a w => ∃ (y4 : (List (Vector Int 32))), ∃ A9, ∃ c9, ∃ q6, ∃ D13, Env a 92 [] [(5, .pointer (some ⟨b5, 0, none⟩)), (6, .pointer (some ⟨b6, 0, none⟩)), (7, .pointer (some ⟨b7, 0, none⟩)), (8, .pointer (some ⟨b8, 0, none⟩)), (10, .pointer (some ⟨b9, 0, none⟩)), (11, .pointer (some ⟨b10, 0, none⟩)), (12, .pointer (some ⟨b12, 0, none⟩)), (13, .pointer (some ⟨b11, 0, none⟩)), (14, .int .i64 (y1.1)), (15, .pointer (some ⟨b13, 0, none⟩)), (52, .func (.func 64) #[] #[.pointer (some ⟨b1, 0, none⟩), .pointer (some ⟨b2, 0, none⟩)]), (53, .int .i64 (y1.1)), (61, .bool (y5)), (73, .bool ((!x18)))] ∧ Stp g w0 D0 [bx b1 3 ([.int .i64 (x19)]), bx b2 70 ([.func (.func 32) #[] #[.pointer (some ⟨b3, 0, none⟩), .pointer (some ⟨b4, 0, none⟩)]]), bx b3 3 ([.int .i64 (x20)]), bx b4 3 ([.int .i64 (x21)])] w D13 [bx b1 3 ([.int .i64 (x19)]), bx b2 70 ([.func (.func 32) #[] #[.pointer (some ⟨b3, 0, none⟩), .pointer (some ⟨b4, 0, none⟩)]]), bx b3 3 ([.int .i64 (x20)]), bx b4 3 ([.int .i64 (x21)]), bx b5 22 ([.slice A10 (List.length (x9)) c11]), bx b6 27 (c_T_api_Point (x13) A14 c15), bx b7 35 ([.int .u32 (x17)]), bx b8 4 ([.bool (x18)]), bx b9 32 (c_T_api_Bundle (z_T_api_Bundle) none 0 none 0), bx b10 4 ([.bool false]), bx b12 40 ([.slice A2 (List.length (r1)) c2]), bx b11 32 (c_T_api_Bundle ((T_api_Bundle.mk (x18) (y2) (y1.2))) A1 c1 A3 c3), bx b13 42 (c_T_api_Item ((T_api_Item.mk (y1.1) (y3) (y4))) A5 c5 A6 c6 A9 c9), q2 .busy none, dk d13236, q1, q6] ∧ Snap.le D3 D13 ∧ OwnD (kdArr .u8 32) 24 D13 A9 c9 (y4) q6 ∧ j6 y4 = some s1) ?_ ?_
   ·clear hj6
    refine sq (ra ?_)
    refine sM 2 2 [8] [(73, .bool ((!x18)))] hE hS fun a hE => ?_
    refine ae ?_
    refine cond_split hE (b := (!x18)) rfl (fun hb => ?_) (fun hb => ?_)
    ·replace hf := ct hb hf
     refine ra ?_
     refine sM 2 2 [11] [(75, .slice A2 (List.length (r1)) c2), (76, .int .i64 (y1.1))] hE hS fun a hE => ?_
     obtain ⟨r6, h32, hf⟩ := bs hf
     refine aC rfl rfl rfl rfl hE rfl rfl rfl rfl (proof_Path.calls h32 (hS.st.fore (L := [])) (h10.mono (le2 (le2 (le2 (le2 le7 le5) le1) le4) le8)) (hG0.mono (le2 (le2 (le2 (le2 (le2 (le2 le3 le6) le7) le5) le1) le4) le8)) (hG1.mono (le2 (le2 (le2 (le2 (le2 (le2 le3 le6) le7) le5) le1) le4) le8))) fun a v w hR hE => ?_
     obtain ⟨D20, A17, c17, q7, rfl, hS1, h33⟩ := hR
     have le23 := hS1.dle
     have hS := hS.callR hS1 rfl (.c .n)
     refine sM 4 7 [] [(78, .slice A17 (List.length (r6.1)) c17), (80, .pointer (some ⟨b13, 110, none⟩))] hE hS fun a hE => ?_
     have hS := hS.p (.d 1 (.d 0 (.d 2 (.d 3 (.d 4 (.d 5 (.d 6 (.d 7 (.d 8 (.d 9 (.d 10 (.d 11 (.d 12 (.d 13 (.d 14 (.d 15 (.d 16 .n)))))))))))))))))
     refine at_op (op_store (v := .slice A17 (List.length (r6.1)) c17) (c_T_api_Item ((T_api_Item.mk (y1.1) (y3) (r6.1))) A5 c5 A6 c6 A17 c17) rfl rfl rfl rfl hE hS rfl rfl (by kernel_rfl) (by kernel_rfl) (by kernel_rfl) (by kernel_rfl) (by kernel_rfl) (fun a w _ hE hS => ?_)) rfl
     refine ae ?_
     have hS := hS.p (.d 2 (.d 3 (.d 4 (.d 5 (.d 6 (.d 7 (.d 8 (.d 9 (.d 10 (.d 11 (.d 12 (.d 13 (.d 0 (.d 14 (.d 15 (.d 16 (.d 1 .n)))))))))))))))))
     exact ⟨r6.1, A17, c17, q7, D20, hE.wk, hS, le23, h33, hf⟩
    replace hf := cf hb hf
    refine wpIn_skip ?_
    have hS := hS.nils
    have hS := hS.p (.d 2 (.d 3 (.d 4 (.d 5 (.d 6 (.d 7 (.d 8 (.d 9 (.d 10 (.d 11 (.d 12 (.d 13 (.d 1 (.d 14 (.d 15 (.d 16 (.d 0 .n)))))))))))))))))
    exact ⟨([] : List (Vector Int 32)), none, 0, none, D3, hE.wk, hS, lr, (OwnD.nil (kdArr .u8 32) 24 D3), hf⟩
   clear hE hS
   rintro a w ⟨y4, A9, c9, q6, D13, hE, hS, le12, h34, hf⟩
   replace hf := hj6 _ hf
   clear hj6
   refine ra ?_
   refine sM 3 3 [11, 12] [(82, .slice A3 (List.length (y1.2)) c3), (83, .agg (List.toArray (c_T_api_Item ((T_api_Item.mk (y1.1) (y3) (y4))) A5 c5 A6 c6 A9 c9)))] hE hS fun a hE => ?_
   have hS := hS.p (.d 16 (.d 0 (.d 1 (.d 2 (.d 3 (.d 4 (.d 5 (.d 6 (.d 7 (.d 8 (.d 9 (.d 10 (.d 11 (.d 12 (.d 13 (.d 14 (.d 15 .n)))))))))))))))))
   obtain ⟨D15, q14, le13, hS, h46, h35⟩ := hS.lent h34
   refine at_op (op_buildSlice (K := kd_T_api_Item) (e := 42) (cs := (c_T_api_Item ((T_api_Item.mk (y1.1) (y3) (y4))) A5 c5 A6 c6 A9 c9) ++ []) ([(T_api_Item.mk (y1.1) (y3) (y4))] : List T_api_Item) rfl rfl rfl rfl hE rfl hS rfl (by kernel_rfl) rfl rfl (by exact ⟨_, _, rfl, (kd_T_api_Item_mk (D := D15) (x := (T_api_Item.mk (y1.1) (y3) (y4))) rfl (kd_T_api_Rec_mk (D := D15) (x := y3) rfl rfl rfl rfl rfl rfl rfl rfl rfl rfl rfl (kslice (h30.mono (le2 le12 le13))) (kslice (h31.mono (le2 le12 le13))) rfl rfl rfl) (kslice h35)), rfl⟩) (fun a A25 q15 w _ hE h36 hS => ?_)) rfl
   obtain ⟨D25, q16, le21, hS, h47, h37⟩ := hS.lent h36
   have hS := hS.p (.d 17 (.d 0 (.d 1 (.d 2 (.d 3 (.d 4 (.d 5 (.d 6 (.d 7 (.d 8 (.d 9 (.d 10 (.d 11 (.d 12 (.d 13 (.d 14 (.d 15 (.d 16 .n))))))))))))))))))
   obtain ⟨D21, q17, le22, hS, h38, h48⟩ := hS.lent (h1.mono (le2 (le2 (le2 (le2 (le2 le1 le4) le8) le12) le13) le21))
   obtain ⟨l2, h39, hf⟩ := bs hf
   refine at_op (g_append (K := kd_T_api_Item) (e := 42) (bytes := 256) (l := y1.2) (m := ([(T_api_Item.mk (y1.1) (y3) (y4))] : List T_api_Item)) rfl rfl rfl rfl hE rfl hS rfl rfl (by kernel_rfl) rfl rfl h38 (h37.mono le22) h39 (fun a A19 c19 q8 w _ hE h40 hS => ?_)) rfl
   refine sM 1 6 [] [(86, .pointer (some ⟨b11, 35, none⟩))] hE hS fun a hE => ?_
   have hS := hS.p (.d 14 (.d 0 (.d 1 (.d 2 (.d 3 (.d 4 (.d 5 (.d 6 (.d 7 (.d 8 (.d 9 (.d 10 (.d 11 (.d 12 (.d 13 (.d 15 (.d 16 (.d 17 .n))))))))))))))))))
   refine at_op (op_store (v := .slice A19 (List.length (l2)) c19) (c_T_api_Bundle ((T_api_Bundle.mk (x18) (y2) (l2))) A1 c1 A19 c19) rfl rfl rfl rfl hE hS rfl rfl (by kernel_rfl) (by kernel_rfl) (by kernel_rfl) (by kernel_rfl) (by kernel_rfl) (fun a w _ hE hS => ?_)) rfl
   refine ae ?_
   have hS := hS.p (.d 16 (.d 0 (.d 1 (.d 2 (.d 3 (.d 4 (.d 5 (.d 6 (.d 7 (.d 8 (.d 9 (.d 10 (.d 11 (.d 12 (.d 13 (.d 14 (.d 15 (.d 17 .n))))))))))))))))))
   refine round_normal2 (a1 := a) hq1 hS (fun w a hS hE => ?_)
   refine sN 2 9 [(17, .bool false)] hE fun a hE => ?_
   refine ae ?_
   refine wpIn_cond_false (hE.eval rfl) ?_
   refine wpIn_skip ?_
   have hS := hS.p (.d 5 (.d 6 (.d 7 (.d 8 (.d 9 (.d 10 (.d 11 (.d 12 (.d 13 (.d 14 (.d 15 (.d 1 (.d 0 (.d 17 (.d 2 .n)))))))))))))))
   exact ⟨l2, A19, c19, q8, D21, hE.wk, hS, (le2 (le2 (le2 (le2 (le2 (le2 le1 le4) le8) le12) le13) le21) le22), h40, hf⟩
  clear hE hS
  rintro a w ⟨y6, A11, c10, q3, D8, hE, hS, le24, h41, hf⟩
  replace hf := hj3 _ hf
  clear hj3
  refine ra ?_
  refine sN 2 2 [(6, .int .i64 ((IntKind.wrap .i64 (y1.1 + (1 : Int)))))] hE fun a hE => ?_
  exact ae ⟨((IntKind.wrap .i64 (y1.1 + (1 : Int))), y6), A11, c10, q3, D8, hE.wk, hS, (le2 le5 le24), h41, hf⟩
 replace hf := cf hb hf
 refine wpIn_exit ?_
 obtain rfl := si hf
 exact ⟨y1.2, A3, c3, q1, D6, hE.wk, hS, le5, h1, rfl⟩
set_option maxRecDepth 100000 in
theorem export_Range.calls {K : Nat} {g w0 : World} {D0 : Snap} {x1 : (List T_api_Rec)} {x5 : T_api_Point} {x9 : Int} {x10 : Int} {x11 : Int} {A2 : Option Addr} {c3 : Nat} {A6 : Option Addr} {c7 : Nat} {r : (T_api_Bundle × Bool)} (hf : export_Range.f K x1 x5 x9 x10 x11 = some r) (hS0 : St g w0 D0 []) (h4 : Sl kd_T_api_Rec D0 A2 c3 (x1)) (h8 : Sl kd_T_api_Sig D0 A6 c7 (x5.fSigs)) (hG0 : Cell (kdArr .u32 8) D0 0 0 gl_First) (hG1 : Cell (kdArr .u32 64) D0 1 0 gl_K) :
  CallsIn (Fw none) 0 Tryd.prog 12 (List.toArray [.slice A2 (List.length (x1)) c3, .agg (List.toArray (c_T_api_Point (x5) A6 c7)), .int .u32 (x9), .int .i64 (x10), .int .i64 (x11)]) w0 (fun e w' => ∃ v, e = .returned v ∧ ∃ (D1 : Snap) (A60 : Option Addr) (c61 : Nat) (A63 : Option Addr) (c64 : Nat), v = .tuple #[.agg (List.toArray (c_T_api_Bundle ((T_api_Bundle.mk (r.1.fWhole) ((T_api_Point.mk (r.1.fPoint.fSize) (r.1.fPoint.fRoot) (r.1.fPoint.fSigs))) (r.1.fItems))) A60 c61 A63 c64)), .bool (r.2)] ∧ Stp g w0 D0 [] w' D1 [] ∧ Sl kd_T_api_Sig D1 A60 c61 (r.1.fPoint.fSigs) ∧ Sl kd_T_api_Item D1 A63 c64 (r.1.fItems)) := by
 unfold export_Range.f at hf
 have hS := Stp.refl hS0
 clear hS0
 refine calls_body (n := 26) Tryd.func12 rfl Tryd.ntmps12 rfl fun a hE => ?_
 have hE : Env a 26 [] [(0, .slice A2 (List.length (x1)) c3), (1, .agg (List.toArray (c_T_api_Point (x5) A6 c7))), (2, .int .u32 (x9)), (3, .int .i64 (x10)), (4, .int .i64 (x11))] := hE
 refine sq (ra ?_)
 refine at_op (op_box rfl rfl rfl rfl hE rfl hS rfl (fun a b66 w _ hE hS => ?_)) rfl
 refine at_op (op_box rfl rfl rfl rfl hE rfl hS rfl (fun a b68 w _ hE hS => ?_)) rfl
 refine at_op (op_box rfl rfl rfl rfl hE rfl hS rfl (fun a b70 w _ hE hS => ?_)) rfl
 refine at_op (op_alloc (z := .agg (List.toArray (c_T_api_Bundle (z_T_api_Bundle) none 0 none 0))) rfl rfl rfl rfl hE rfl hS (by kernel_rfl) (fun a b72 w _ hE hS => ?_)) rfl
 refine sN 1 5 [(11, .bool false)] hE fun a hE => ?_
 refine ae ?_
 refine sq ?_
 refine region_draw (fun j => Keeps (mfOf [(14, [b72])] j)) (by kernel_rfl) ?_
 have hS := hS.drew
 first | generalize w.drew = w at hS ⊢ | generalize w0.drew = w at hS ⊢
 refine wP 0 1 15 (.slice A2 (List.length (x1)) c3) hE fun a hE => ?_
 refine wP 2 5 14 (.int .u32 (x9)) hE fun a hE => ?_
 refine wP 6 69 13 (.slice A2 (List.length (x1)) c3) hE fun a hE => ?_
 refine wP 7 197 12 (.int .i64 (((List.length (x1) : Nat) : Int))) hE fun a hE => ?_
 refine wP 9 709 11 (.func (.func 32) #[] #[.pointer (some ⟨b68, 0, none⟩), .pointer (some ⟨b70, 0, none⟩)]) hE fun a hE => ?_
 refine tL 1 711 10 3 (.agg (List.toArray (c_T_api_Point (x5) A6 c7))) hE hS fun a hE => ?_
 refine wF 3 719 9 0 3 0 hE fun a hE => ?_
 refine tL 4 735 8 3 (.int .i64 (x5.fSize)) hE hS fun a hE => ?_
 refine wP 5 767 7 (.int .i64 ((maxI (0 : Int) x5.fSize))) hE fun a hE => ?_
 refine wP 8 1023 6 (.int .i64 ((minI (maxI (0 : Int) x5.fSize) ((List.length (x1) : Nat) : Int)))) hE fun a hE => ?_
 have hS := hS.p (.d 2 (.d 1 (.d 0 (.d 3 .n))))
 obtain ⟨r94, h95, hf⟩ := bs hf
 refine oC 10 2047 5 rfl rfl rfl rfl hE rfl rfl rfl rfl (export_those.calls h95 (hS.st.fore (L := [bx b68 3 ([.int .i64 (x10)]), bx b70 3 ([.int .i64 (x11)])])) ) fun a v w hR hE => ?_
 obtain ⟨D96, b98, b99, rfl, hS1⟩ := hR
 refine ⟨(hS1.keeps.sub (M' := []) ⟨.inr ((hS1.heapAt (j := 0) rfl).trans (hS.heapAt (j := 0) rfl).symm), .inr ((hS1.heapAt (j := 1) rfl).trans (hS.heapAt (j := 1) rfl).symm), trivial⟩).mono (fun _ h => h), ?_⟩
 have le1 := hS1.dle
 have hS := hS.callR hS1 rfl (.c (.c (.c (.c .n))))
 have hS := hS.p (.d 2 (.d 3 (.d 0 (.d 1 (.d 4 (.d 5 .n))))))
 obtain ⟨r1, h1, hf⟩ := bs hf
 refine oC 11 4095 4 rfl rfl rfl rfl hE rfl rfl rfl rfl (export_made.calls h1 (hS.st.fore (L := [bx b98 3 ([.int .i64 (r94)]), bx b99 70 ([.func (.func 32) #[] #[.pointer (some ⟨b68, 0, none⟩), .pointer (some ⟨b70, 0, none⟩)]]), bx b68 3 ([.int .i64 (x10)]), bx b70 3 ([.int .i64 (x11)])])) (h4.mono le1) (h8.mono le1) (hG0.mono le1) (hG1.mono le1)) fun a v w hR hE => ?_
 obtain ⟨D2, A1, c1, A3, c2, rfl, hS1, h2, h3⟩ := hR
 refine ⟨(hS1.keeps.sub (M' := []) ⟨.inr ((hS1.heapAt (j := 0) rfl).trans (hS.heapAt (j := 0) rfl).symm), .inr ((hS1.heapAt (j := 1) rfl).trans (hS.heapAt (j := 1) rfl).symm), .inr ((hS1.heapAt (j := 2) rfl).trans (hS.heapAt (j := 2) rfl).symm), .inr ((hS1.heapAt (j := 3) rfl).trans (hS.heapAt (j := 3) rfl).symm), trivial⟩).mono (fun _ h => h), ?_⟩
 have le2 := hS1.dle
 have hS := hS.callR hS1 rfl (.c (.c (.c (.c .n))))
 refine wP 12 8191 3 (.agg (List.toArray (c_T_api_Bundle (r1.1) A1 c1 A3 c2))) hE fun a hE => ?_
 refine wP 13 16383 2 (.bool (r1.2)) hE fun a hE => ?_
 have hS := hS.p (.d 4 (.d 0 (.d 1 (.d 2 (.d 3 (.d 5 .n))))))
 refine oG 14 32767 (fuel := 1) (by kernel_rfl) (op_store (v := .agg (List.toArray (c_T_api_Bundle (r1.1) A1 c1 A3 c2))) (c_T_api_Bundle (r1.1) A1 c1 A3 c2) rfl rfl rfl rfl hE hS rfl rfl (by kernel_rfl) (by kernel_rfl) (by kernel_rfl) (by kernel_rfl) (by kernel_rfl) (fun a w hkp hE hS => ⟨hkp.mono (fun _ h => h), ?_⟩))
 clear hkp
 refine wP 15 65535 0 (.bool (r1.2)) hE fun a hE => ?_
 refine doneG (by kernel_rfl) ?_
 refine wpIn_ret ?_
 obtain rfl := si hf
 refine ret_ ?_
 refine ret_gen ([.agg (List.toArray (c_T_api_Bundle (r1.1) A1 c1 A3 c2)), .bool (r1.2)]) hE (by rw [show Tryd.f12.results.toList = [.cell 10 32, .tmp 11] from rfl]; exact ⟨_, _, _, 0, _, _, rfl, rfl, hS.heapAt (j := 0) rfl, by kernel_rfl, ⟨_, _, rfl, rfl, rfl⟩⟩) ?_
 have hS := hS.p .n
 exact ⟨_, rfl, D2, A1, c1, A3, c2, rfl, hS, h2, h3⟩
set_option maxRecDepth 100000 in
theorem export_those_v2.calls {K : Nat} {g w0 : World} {D0 : Snap} {x1 : Int} {r : (Int)} (hf : export_those_v2.f K x1 = some r) (hS0 : St g w0 D0 []) :
  CallsIn (Fw none) 0 Tryd.prog 29 (List.toArray [.int .i64 (x1), .func (.func 30) #[] #[]]) w0 (fun e w' => ∃ v, e = .returned v ∧ ∃ (D1 : Snap) (b6 : Nat) (b7 : Nat), v = .func (.func 64) #[] #[.pointer (some ⟨b6, 0, none⟩), .pointer (some ⟨b7, 0, none⟩)] ∧ Stp g w0 D0 [] w' D1 [bx b6 3 ([.int .i64 (r)]), bx b7 70 ([.func (.func 30) #[] #[]])]) := by
 unfold export_those_v2.f at hf
 have hS := Stp.refl hS0
 clear hS0
 refine calls_body (n := 6) Tryd.func29 rfl Tryd.ntmps29 rfl fun a hE => ?_
 have hE : Env a 6 [] [(0, .int .i64 (x1)), (1, .func (.func 30) #[] #[])] := hE
 refine sq (ra ?_)
 refine at_op (op_box rfl rfl rfl rfl hE rfl hS rfl (fun a b10 w _ hE hS => ?_)) rfl
 refine at_op (op_box rfl rfl rfl rfl hE rfl hS rfl (fun a b12 w _ hE hS => ?_)) rfl
 refine sN 1 3 [(4, .nilFunc)] hE fun a hE => ?_
 refine ae ?_
 refine sq (ra ?_)
 refine sN 2 2 [(4, .func (.func 64) #[] #[.pointer (some ⟨b10, 0, none⟩), .pointer (some ⟨b12, 0, none⟩)])] hE fun a hE => ?_
 refine ae ?_
 refine wpIn_ret ?_
 obtain rfl := si hf
 refine ret_ ?_
 refine rT 4 (.func (.func 64) #[] #[.pointer (some ⟨b10, 0, none⟩), .pointer (some ⟨b12, 0, none⟩)]) hE ?_
 have hS := hS.p (.d 1 (.d 0 .n))
 exact ⟨_, rfl, D0, b10, b12, rfl, hS⟩
set_option maxRecDepth 100000 in
theorem export_Whole_1.calls {K : Nat} {g w0 : World} {D0 : Snap} {x1 : Int} {r : (Bool)} (hf : export_Whole_1.f K x1 = some r) (hS0 : St g w0 D0 []) :
  CallsIn (Fw none) 0 Tryd.prog 30 (List.toArray [.int .i64 (x1)]) w0 (fun e w' => ∃ v, e = .returned v ∧ ∃ D1, v = .bool (r) ∧ Stp g w0 D0 [] w' D1 []) := by
 unfold export_Whole_1.f at hf
 have hS := Stp.refl hS0
 clear hS0
 refine calls_body (n := 3) Tryd.func30 rfl Tryd.ntmps30 rfl fun a hE => ?_
 have hE : Env a 3 [] [(0, .int .i64 (x1))] := hE
 refine sq (ra ?_)
 refine sN 1 1 [(2, .bool false)] hE fun a hE => ?_
 refine ae ?_
 refine sq (ra ?_)
 refine sN 1 1 [(2, .bool true)] hE fun a hE => ?_
 refine ae ?_
 refine wpIn_ret ?_
 obtain rfl := si hf
 refine ret_ ?_
 refine rT 2 (.bool true) hE ?_
 exact ⟨_, rfl, D0, rfl, hS⟩
end Go.Proofs.YtjgaokcplofimaaDoor
