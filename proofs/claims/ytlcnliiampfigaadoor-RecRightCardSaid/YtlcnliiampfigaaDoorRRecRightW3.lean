/-
  Proved, text by text: a call of a function of the cut comes to what its plain function computes.
  Conditions: those that each theorem names.
-/
import Derived.Test.YtlcnliiampfigaaDoorProg
import Derived.Test.YtlcnliiampfigaaDoorSepN
import Derived.Test.YtlcnliiampfigaaDoorRRecRightW2
set_option linter.unusedVariables false
namespace Go.Proofs.YtlcnliiampfigaaDoor
open Go Go.Sep
set_option maxRecDepth 100000 in
set_option maxHeartbeats 4000000 in
theorem inspeximusref01_Turn.calls {K : Nat} {g w0 : World} {D0 : Snap} {x1 : (Vector Int 8)} {x2 : (List Int)} {A3 : Option Addr} {c4 : Nat} {r : ((Vector Int 8))} (hf : inspeximusref01_Turn.f K x1 x2 = some r) (hS0 : St g w0 D0 []) (h5 : Sl (kdInt .u8) D0 A3 c4 (x2)) (hG1 : Cell (kdArr .u32 64) D0 1 0 gl_K) :
  CallsIn (Fw none) 0 Tryd.prog 82 (List.toArray [.agg (List.toArray (acells .u32 8 (x1))), .slice A3 (List.length (x2)) c4]) w0 (fun e w' => ∃ v, e = .returned v ∧ ∃ (D1 : Snap), v = .agg (List.toArray (acells .u32 8 (r))) ∧ Stp g w0 D0 [] w' D1 []) := by
 unfold inspeximusref01_Turn.f at hf
 have hS := Stp.refl hS0
 clear hS0
 refine calls_body (n := 218) Tryd.func82 rfl Tryd.ntmps82 rfl (fun a hE => ?_)
 have hE : Env a 218 [] [(0, .agg (List.toArray (acells .u32 8 (x1)))), (1, .slice A3 (List.length (x2)) c4)] := hE
 refine wpIn_seq ?_
 refine region_at ?_
 refine at_op (op_box rfl rfl rfl rfl hE rfl hS rfl (fun a b4392 w _ hE hS => ?_)) rfl
 refine at_op (op_alloc (z := .agg (List.toArray (acells .u32 8 ((Vector.replicate 8 (0 : Int)))))) rfl rfl rfl rfl hE rfl hS (by kernel_rfl) (fun a b4394 w _ hE hS => ?_)) rfl
 refine at_end rfl ?_
 refine wpIn_seq ?_
 refine wpIn_seq ?_
 refine region_at ?_
 refine sN 3 3 [(21, .bool ((!decide (((List.length (x2) : Nat) : Int) = (64 : Int)))))] hE (fun a hE => ?_)
 refine at_end rfl ?_
 refine cond_split hE (b := (!decide (((List.length (x2) : Nat) : Int) = (64 : Int)))) rfl (fun hb => ?_) (fun hb => ?_)
 ·replace hf := cond_t hb hf
  clear hb
  refine wpIn_seq ?_
  refine region_at ?_
  refine aL 1 (.agg (List.toArray (acells .u32 8 (x1)))) hE hS (fun a hE => ?_)
  refine at_op (op_store (v := .agg (List.toArray (acells .u32 8 (x1)))) (acells .u32 8 (x1)) rfl rfl rfl rfl hE hS rfl rfl (by kernel_rfl) (by kernel_rfl) (by kernel_rfl) (by kernel_rfl) (by kernel_rfl) (fun a w _ hE hS => ?_)) rfl
  refine at_end rfl ?_
  refine wpIn_ret ?_
  obtain rfl := Option.some.inj hf
  repeat (with_reducible first | refine then_ret ?_ | refine block_ret ?_ | refine qx_ret ?_)
  refine ret_gen ([.agg (List.toArray (acells .u32 8 (x1)))]) hE (by rw [show Tryd.f82.results.toList = [.cell 4 94] from rfl]; exact ⟨_, _, _, 0, _, _, rfl, rfl, hS.heapAt (j := 0) rfl, by kernel_rfl, rfl⟩) ?_
  have hS := hS.pk .n rfl
  exact ⟨_, rfl, D0, rfl, hS⟩
 ·replace hf := cond_f hb hf
  clear hb
  refine wpIn_skip ?_
  refine wpIn_seq ?_
  refine region_at ?_
  refine at_op (op_alloc (z := .agg (List.toArray (acells .u64 64 ((Vector.replicate 64 (0 : Int)))))) rfl rfl rfl rfl hE rfl hS (by kernel_rfl) (fun a b4396 w _ hE hS => ?_)) rfl
  refine at_end rfl ?_
  refine wpIn_seq ?_
  refine wpIn_seq ?_
  refine region_at ?_
  refine sN 1 1 [(6, .int .i64 ((0 : Int)))] hE (fun a hE => ?_)
  refine at_end rfl ?_
  obtain ⟨s7217, hf, hs7218⟩ := bind_some hf
  have hS := hS.pk (.c 2 rfl (.c 1 rfl (.c 0 rfl .n))) rfl
  refine block_loop (fun a w => ∃ (z7214 : (Vector Int 64)), ∃ (D7215 : Snap), Env a 218 [] [(2, .pointer (some ⟨b4392, 0, none⟩)), (4, .pointer (some ⟨b4394, 0, none⟩)), (5, .pointer (some ⟨b4396, 0, none⟩))] ∧ Stp g w0 D0 [] w D7215 [bx b4392 94 (acells .u32 8 (x1)), bx b4394 94 (acells .u32 8 ((Vector.replicate 8 (0 : Int)))), bx b4396 111 (acells .u64 64 (z7214))] ∧ Snap.le D0 D7215 ∧ z7214 = s7217) (fun k a w => ∃ (y6647 : Int × (Vector Int 64)), ∃ (D6648 : Snap), Env a 218 [] [(1, .slice A3 (List.length (x2)) c4), (2, .pointer (some ⟨b4392, 0, none⟩)), (4, .pointer (some ⟨b4394, 0, none⟩)), (5, .pointer (some ⟨b4396, 0, none⟩)), (6, .int .i64 (y6647.1))] ∧ Stp g w0 D0 [] w D6648 [bx b4392 94 (acells .u32 8 (x1)), bx b4394 94 (acells .u32 8 ((Vector.replicate 8 (0 : Int)))), bx b4396 111 (acells .u64 64 (y6647.2))] ∧ Snap.le D0 D6648 ∧ inspeximusref01_Turn_l1.l K x2 k y6647 = some s7217) K ?_ ?_ ?_
  ·exact ⟨((0 : Int), (Vector.replicate 64 (0 : Int))), D0, hE.weak (by kernel_rfl), hS, Snap.le.refl _, hf⟩
  ·clear hE hS hf
   rintro a w ⟨z7214, D7215, hE, hS, le7216, rfl⟩
   have hf := hs7218
   clear hs7218
   refine wpIn_seq ?_
   refine region_at ?_
   refine at_op (op_alloc (z := .agg (List.toArray (acells .u64 8 ((Vector.replicate 8 (0 : Int)))))) rfl rfl rfl rfl hE rfl hS (by kernel_rfl) (fun a b7780 w _ hE hS => ?_)) rfl
   refine at_end rfl ?_
   refine wpIn_seq ?_
   refine wpIn_seq ?_
   refine region_at ?_
   refine sN 1 1 [(10, .int .i64 ((0 : Int)))] hE (fun a hE => ?_)
   refine at_end rfl ?_
   obtain ⟨s7852, hf, hs7853⟩ := bind_some hf
   have hS := hS.pk (.c 1 rfl (.c 2 rfl (.c 3 rfl (.c 0 rfl .n)))) rfl
   refine block_loop (fun a w => ∃ (z7849 : (Vector Int 8)), ∃ (D7850 : Snap), Env a 218 [] [(2, .pointer (some ⟨b4392, 0, none⟩)), (4, .pointer (some ⟨b4394, 0, none⟩)), (5, .pointer (some ⟨b4396, 0, none⟩)), (9, .pointer (some ⟨b7780, 0, none⟩))] ∧ Stp g w0 D0 [] w D7850 [bx b4392 94 (acells .u32 8 (x1)), bx b4394 94 (acells .u32 8 ((Vector.replicate 8 (0 : Int)))), bx b4396 111 (acells .u64 64 (z7214)), bx b7780 113 (acells .u64 8 (z7849))] ∧ Snap.le D7215 D7850 ∧ z7849 = s7852) (fun k a w => ∃ (y7835 : Int × (Vector Int 8)), ∃ (D7836 : Snap), Env a 218 [] [(2, .pointer (some ⟨b4392, 0, none⟩)), (4, .pointer (some ⟨b4394, 0, none⟩)), (5, .pointer (some ⟨b4396, 0, none⟩)), (9, .pointer (some ⟨b7780, 0, none⟩)), (10, .int .i64 (y7835.1))] ∧ Stp g w0 D0 [] w D7836 [bx b4392 94 (acells .u32 8 (x1)), bx b4394 94 (acells .u32 8 ((Vector.replicate 8 (0 : Int)))), bx b4396 111 (acells .u64 64 (z7214)), bx b7780 113 (acells .u64 8 (y7835.2))] ∧ Snap.le D7215 D7836 ∧ inspeximusref01_Turn_l2.l K x1 k y7835 = some s7852) K ?_ ?_ ?_
   ·exact ⟨((0 : Int), (Vector.replicate 8 (0 : Int))), D7215, hE.weak (by kernel_rfl), hS, Snap.le.refl _, hf⟩
   ·clear hE hS hf
    rintro a w ⟨z7849, D7850, hE, hS, le7851, rfl⟩
    have hf := hs7853
    clear hs7853
    refine wpIn_seq ?_
    refine wpIn_seq ?_
    refine region_at ?_
    refine sN 1 1 [(11, .int .i64 ((0 : Int)))] hE (fun a hE => ?_)
    refine at_end rfl ?_
    obtain ⟨s8514, hf, hs8515⟩ := bind_some hf
    refine block_loop (fun a w => ∃ (z8511 : (Vector Int 8)), ∃ (D8512 : Snap), Env a 218 [] [(2, .pointer (some ⟨b4392, 0, none⟩)), (4, .pointer (some ⟨b4394, 0, none⟩)), (9, .pointer (some ⟨b7780, 0, none⟩))] ∧ Stp g w0 D0 [] w D8512 [bx b4392 94 (acells .u32 8 (x1)), bx b4394 94 (acells .u32 8 ((Vector.replicate 8 (0 : Int)))), bx b7780 113 (acells .u64 8 (z8511))] ∧ Snap.le D7850 D8512 ∧ z8511 = s8514) (fun k a w => ∃ (y8379 : Int × (Vector Int 8)), ∃ (D8380 : Snap), Env a 218 [] [(2, .pointer (some ⟨b4392, 0, none⟩)), (4, .pointer (some ⟨b4394, 0, none⟩)), (5, .pointer (some ⟨b4396, 0, none⟩)), (9, .pointer (some ⟨b7780, 0, none⟩)), (11, .int .i64 (y8379.1))] ∧ Stp g w0 D0 [] w D8380 [bx b4392 94 (acells .u32 8 (x1)), bx b4394 94 (acells .u32 8 ((Vector.replicate 8 (0 : Int)))), bx b4396 111 (acells .u64 64 (z7214)), bx b7780 113 (acells .u64 8 (y8379.2))] ∧ Snap.le D7850 D8380 ∧ inspeximusref01_Turn_l3.l K z7214 k y8379 = some s8514) K ?_ ?_ ?_
    ·exact ⟨((0 : Int), z7849), D7850, hE.weak (by kernel_rfl), hS, Snap.le.refl _, hf⟩
    ·clear hE hS hf
     rintro a w ⟨z8511, D8512, hE, hS, le8513, rfl⟩
     have hf := hs8515
     clear hs8515
     refine wpIn_seq ?_
     refine wpIn_seq ?_
     refine region_at ?_
     refine sN 1 1 [(18, .int .i64 ((0 : Int)))] hE (fun a hE => ?_)
     refine at_end rfl ?_
     obtain ⟨s8756, hf, hs8757⟩ := bind_some hf
     refine block_loop (fun a w => ∃ (z8753 : (Vector Int 8)), ∃ (D8754 : Snap), Env a 218 [] [(2, .pointer (some ⟨b4392, 0, none⟩)), (4, .pointer (some ⟨b4394, 0, none⟩))] ∧ Stp g w0 D0 [] w D8754 [bx b4392 94 (acells .u32 8 (z8753)), bx b4394 94 (acells .u32 8 ((Vector.replicate 8 (0 : Int))))] ∧ Snap.le D8512 D8754 ∧ z8753 = s8756) (fun k a w => ∃ (y8727 : Int × (Vector Int 8)), ∃ (D8728 : Snap), Env a 218 [] [(2, .pointer (some ⟨b4392, 0, none⟩)), (4, .pointer (some ⟨b4394, 0, none⟩)), (9, .pointer (some ⟨b7780, 0, none⟩)), (18, .int .i64 (y8727.1))] ∧ Stp g w0 D0 [] w D8728 [bx b4392 94 (acells .u32 8 (y8727.2)), bx b4394 94 (acells .u32 8 ((Vector.replicate 8 (0 : Int)))), bx b7780 113 (acells .u64 8 (z8511))] ∧ Snap.le D8512 D8728 ∧ inspeximusref01_Turn_l4.l K z8511 k y8727 = some s8756) K ?_ ?_ ?_
     ·exact ⟨((0 : Int), x1), D8512, hE.weak (by kernel_rfl), hS, Snap.le.refl _, hf⟩
     ·clear hE hS hf
      rintro a w ⟨z8753, D8754, hE, hS, le8755, rfl⟩
      have hf := hs8757
      clear hs8757
      refine wpIn_seq ?_
      refine region_at ?_
      refine aL 0 (.agg (List.toArray (acells .u32 8 (z8753)))) hE hS (fun a hE => ?_)
      have hS := hS.pk (.c 1 rfl (.c 0 rfl .n)) rfl
      refine at_op (op_store (v := .agg (List.toArray (acells .u32 8 (z8753)))) (acells .u32 8 (z8753)) rfl rfl rfl rfl hE hS rfl rfl (by kernel_rfl) (by kernel_rfl) (by kernel_rfl) (by kernel_rfl) (by kernel_rfl) (fun a w _ hE hS => ?_)) rfl
      refine at_end rfl ?_
      refine wpIn_ret ?_
      obtain rfl := Option.some.inj hf
      repeat (with_reducible first | refine then_ret ?_ | refine block_ret ?_ | refine qx_ret ?_)
      refine ret_gen ([.agg (List.toArray (acells .u32 8 (z8753)))]) hE (by rw [show Tryd.f82.results.toList = [.cell 4 94] from rfl]; exact ⟨_, _, _, 0, _, _, rfl, rfl, hS.heapAt (j := 0) rfl, by kernel_rfl, rfl⟩) ?_
      have hS := hS.pk .n rfl
      exact ⟨_, rfl, D8754, rfl, hS⟩
     ·clear hE hS hf
      rintro k a w ⟨y8727, D8728, hE, hS, le8729, hf⟩
      obtain ⟨k, rfl, hf⟩ := inspeximusref01_Turn_l4.some _ hf
      refine ⟨k, rfl, ?_⟩
      unfold inspeximusref01_Turn_l4.b at hf
      refine wpIn_seq ?_
      refine wpIn_seq ?_
      refine region_at ?_
      refine sN 2 2 [(202, .bool ((decide (y8727.1 < (8 : Int)))))] hE (fun a hE => ?_)
      refine at_end rfl ?_
      refine cond_split hE (b := (decide (y8727.1 < (8 : Int)))) rfl (fun hb => ?_) (fun hb => ?_)
      ·replace hf := cond_t hb hf
       clear hb
       refine wpIn_skip ?_
       refine wpIn_seq ?_
       refine wpIn_block ?_
       refine region_draw (fun j => Keeps (mfOf [(12, [b4392])] j)) (by kernel_rfl) ?_
       have hS := hS.drew
       first | generalize w.drew = w at hS ⊢ | generalize w0.drew = w at hS ⊢
       refine wP 0 1 12 (.int .i64 (y8727.1)) hE (fun a hE => ?_)
       refine wP 1 3 11 (.int .i64 (y8727.1)) hE (fun a hE => ?_)
       refine wP 5 35 10 (.int .i64 (y8727.1)) hE (fun a hE => ?_)
       obtain ⟨hm8773, hf⟩ := chk_some hf
       refine tW 2 39 (fuel := 9) (by kernel_rfl) hE (fun M => tk_indexPA (N := 8) (k := .u32) (m := y8727.1) rfl rfl rfl rfl hE rfl rfl rfl (by kernel_rfl) hm8773 (fun a hE => ?_))
       refine tT 3 47 (fuel := 8) (by kernel_rfl) hE (tk_loadPA 0 (N := 8) (k := .u32) (v := y8727.2) (m := y8727.1) rfl rfl rfl rfl hE rfl hS rfl rfl (by kernel_rfl) hm8773 (kL (j := 0) hS rfl List.not_mem_nil) (fun a hE => ?_))
       refine tW 4 63 (fuel := 7) (by kernel_rfl) hE (fun M => tk_pure (.int .u64 ((IntKind.wrap .u64 (vget (y8727.2) (Int.toNat (y8727.1)))))) hE rfl rfl rfl rfl (fun _ _ _ e => by cases e; rfl) (by kernel_rfl) (fun a hE => ?_))
       obtain ⟨hm8774, hf⟩ := chk_some hf
       refine tW 6 127 (fuel := 6) (by kernel_rfl) hE (fun M => tk_indexPA (N := 8) (k := .u64) (m := y8727.1) rfl rfl rfl rfl hE rfl rfl rfl (by kernel_rfl) hm8774 (fun a hE => ?_))
       refine tT 7 255 (fuel := 5) (by kernel_rfl) hE (tk_loadPA 2 (N := 8) (k := .u64) (v := z8511) (m := y8727.1) rfl rfl rfl rfl hE rfl hS rfl rfl (by kernel_rfl) hm8774 (kL (j := 2) hS rfl List.not_mem_nil) (fun a hE => ?_))
       refine wP 8 511 4 (.int .u64 ((IntKind.wrap .u64 ((IntKind.wrap .u64 (vget (y8727.2) (Int.toNat (y8727.1)))) + (vget (z8511) (Int.toNat (y8727.1))))))) hE (fun a hE => ?_)
       refine wP 9 1023 3 (.int .u64 ((Int.tmod (IntKind.wrap .u64 ((IntKind.wrap .u64 (vget (y8727.2) (Int.toNat (y8727.1)))) + (vget (z8511) (Int.toNat (y8727.1))))) 4294967296))) hE (fun a hE => ?_)
       refine tW 10 2047 (fuel := 2) (by kernel_rfl) hE (fun M => tk_pure (.int .u32 ((IntKind.wrap .u32 (Int.tmod (IntKind.wrap .u64 ((IntKind.wrap .u64 (vget (y8727.2) (Int.toNat (y8727.1)))) + (vget (z8511) (Int.toNat (y8727.1))))) 4294967296)))) hE rfl rfl rfl rfl (fun _ _ _ e => by cases e; rfl) (by kernel_rfl) (fun a hE => ?_))
       obtain ⟨hm8775, hf⟩ := chk_some hf
       refine tW 11 4095 (fuel := 1) (by kernel_rfl) hE (fun M => tk_indexPA (N := 8) (k := .u32) (m := y8727.1) rfl rfl rfl rfl hE rfl rfl rfl (by kernel_rfl) hm8775 (fun a hE => ?_))
       obtain ⟨v8776, hv8777, hf⟩ := bind_some hf
       replace hv8777 := Option.some.inj hv8777
       refine oG 12 8191 (fuel := 0) (by kernel_rfl) (op_storePA (N := 8) (k := .u32) (v := y8727.2) (m := y8727.1) (z := (IntKind.wrap .u32 (Int.tmod (IntKind.wrap .u64 ((IntKind.wrap .u64 (vget (y8727.2) (Int.toNat (y8727.1)))) + (vget (z8511) (Int.toNat (y8727.1))))) 4294967296))) rfl rfl rfl rfl hE hS rfl rfl (by kernel_rfl) hm8775 (fun a w hkp hE hS => ⟨hkp.mono (fun _ h => h), ?_⟩))
       clear hkp
       rw [hv8777] at hS
       refine doneG (by kernel_rfl) ?_
       refine region_at ?_
       refine sN 3 3 [(18, .int .i64 ((IntKind.wrap .i64 (y8727.1 + (1 : Int)))))] hE (fun a hE => ?_)
       refine at_end rfl ?_
       exact ⟨((IntKind.wrap .i64 (y8727.1 + (1 : Int))), v8776), D8728, hE.weak (by kernel_rfl), hS, le8729, hf⟩
      ·replace hf := cond_f hb hf
       clear hb
       refine wpIn_exit ?_
       obtain rfl := Option.some.inj hf
       have hS := hS.pk (.c 0 rfl (.c 1 rfl .n)) rfl
       exact ⟨y8727.2, D8728, hE.weak (by kernel_rfl), hS, le8729, rfl⟩
    ·clear hE hS hf
     rintro k a w ⟨y8379, D8380, hE, hS, le8381, hf⟩
     obtain ⟨k, rfl, hf⟩ := inspeximusref01_Turn_l3.some _ hf
     refine ⟨k, rfl, ?_⟩
     unfold inspeximusref01_Turn_l3.b at hf
     refine wpIn_seq ?_
     refine wpIn_seq ?_
     refine region_at ?_
     refine sN 2 2 [(113, .bool ((decide (y8379.1 < (64 : Int)))))] hE (fun a hE => ?_)
     refine at_end rfl ?_
     refine cond_split hE (b := (decide (y8379.1 < (64 : Int)))) rfl (fun hb => ?_) (fun hb => ?_)
     ·replace hf := cond_t hb hf
      clear hb
      refine wpIn_skip ?_
      refine wpIn_seq ?_
      refine wpIn_block ?_
      refine wpIn_seq ?_
      refine region_draw (fun j => Keeps (mfOf [] j)) (by kernel_rfl) ?_
      have hS := hS.drew
      first | generalize w.drew = w at hS ⊢ | generalize w0.drew = w at hS ⊢
      refine tW 0 1 (fuel := 5) (by kernel_rfl) hE (fun M => tk_indexPA (N := 8) (k := .u64) (m := (4 : Int)) rfl rfl rfl rfl hE rfl rfl rfl (by kernel_rfl) (by kernel_rfl) (fun a hE => ?_))
      refine tT 1 3 (fuel := 4) (by kernel_rfl) hE (tk_loadPA 3 (N := 8) (k := .u64) (v := y8379.2) (m := (4 : Int)) rfl rfl rfl rfl hE rfl hS rfl rfl (by kernel_rfl) (by kernel_rfl) (kL (j := 3) hS rfl List.not_mem_nil) (fun a hE => ?_))
      refine wP 4 19 3 (.int .u64 ((vget (y8379.2) (Int.toNat ((4 : Int)))))) hE (fun a hE => ?_)
      refine tW 2 23 (fuel := 2) (by kernel_rfl) hE (fun M => tk_indexPA (N := 8) (k := .u64) (m := (0 : Int)) rfl rfl rfl rfl hE rfl rfl rfl (by kernel_rfl) (by kernel_rfl) (fun a hE => ?_))
      refine tT 3 31 (fuel := 1) (by kernel_rfl) hE (tk_loadPA 3 (N := 8) (k := .u64) (v := y8379.2) (m := (0 : Int)) rfl rfl rfl rfl hE rfl hS rfl rfl (by kernel_rfl) (by kernel_rfl) (kL (j := 3) hS rfl List.not_mem_nil) (fun a hE => ?_))
      refine wP 5 63 0 (.int .u64 ((vget (y8379.2) (Int.toNat ((0 : Int)))))) hE (fun a hE => ?_)
      refine doneG (by kernel_rfl) ?_
      refine wpIn_seq ?_
      refine region_at ?_
      refine sN 1 1 [(120, .int .u64 ((vget (y8379.2) (Int.toNat ((4 : Int))))))] hE (fun a hE => ?_)
      refine at_op (op_tk hE (tk_indexPA (N := 8) (k := .u64) (m := (5 : Int)) rfl rfl rfl rfl hE rfl rfl rfl (by kernel_rfl) (by kernel_rfl) (fun a hE => ?_))) rfl
      refine at_op (op_tk hE (tk_loadPA 3 (N := 8) (k := .u64) (v := y8379.2) (m := (5 : Int)) rfl rfl rfl rfl hE rfl hS rfl rfl (by kernel_rfl) (by kernel_rfl) (kL (j := 3) hS rfl List.not_mem_nil) (fun a hE => ?_))) rfl
      refine sN 3 6 [(123, .int .u64 ((band .u64 (vget (y8379.2) (Int.toNat ((4 : Int)))) (vget (y8379.2) (Int.toNat ((5 : Int))))))), (125, .int .u64 ((IntKind.wrap .u64 ((4294967295 : Int) - (vget (y8379.2) (Int.toNat ((4 : Int))))))))] hE (fun a hE => ?_)
      refine at_op (op_tk hE (tk_indexPA (N := 8) (k := .u64) (m := (6 : Int)) rfl rfl rfl rfl hE rfl rfl rfl (by kernel_rfl) (by kernel_rfl) (fun a hE => ?_))) rfl
      refine at_op (op_tk hE (tk_loadPA 3 (N := 8) (k := .u64) (v := y8379.2) (m := (6 : Int)) rfl rfl rfl rfl hE rfl hS rfl rfl (by kernel_rfl) (by kernel_rfl) (kL (j := 3) hS rfl List.not_mem_nil) (fun a hE => ?_))) rfl
      refine sN 3 11 [(14, .int .u64 ((bxor .u64 (band .u64 (vget (y8379.2) (Int.toNat ((4 : Int)))) (vget (y8379.2) (Int.toNat ((5 : Int))))) (band .u64 (IntKind.wrap .u64 ((4294967295 : Int) - (vget (y8379.2) (Int.toNat ((4 : Int)))))) (vget (y8379.2) (Int.toNat ((6 : Int))))))))] hE (fun a hE => ?_)
      refine at_end rfl ?_
      refine wpIn_seq ?_
      refine region_at ?_
      refine sN 1 1 [(130, .int .u64 ((vget (y8379.2) (Int.toNat ((0 : Int))))))] hE (fun a hE => ?_)
      refine at_op (op_tk hE (tk_indexPA (N := 8) (k := .u64) (m := (1 : Int)) rfl rfl rfl rfl hE rfl rfl rfl (by kernel_rfl) (by kernel_rfl) (fun a hE => ?_))) rfl
      refine at_op (op_tk hE (tk_loadPA 3 (N := 8) (k := .u64) (v := y8379.2) (m := (1 : Int)) rfl rfl rfl rfl hE rfl hS rfl rfl (by kernel_rfl) (by kernel_rfl) (kL (j := 3) hS rfl List.not_mem_nil) (fun a hE => ?_))) rfl
      refine sN 2 5 [(133, .int .u64 ((band .u64 (vget (y8379.2) (Int.toNat ((0 : Int)))) (vget (y8379.2) (Int.toNat ((1 : Int))))))), (134, .int .u64 ((vget (y8379.2) (Int.toNat ((0 : Int))))))] hE (fun a hE => ?_)
      refine at_op (op_tk hE (tk_indexPA (N := 8) (k := .u64) (m := (2 : Int)) rfl rfl rfl rfl hE rfl rfl rfl (by kernel_rfl) (by kernel_rfl) (fun a hE => ?_))) rfl
      refine at_op (op_tk hE (tk_loadPA 3 (N := 8) (k := .u64) (v := y8379.2) (m := (2 : Int)) rfl rfl rfl rfl hE rfl hS rfl rfl (by kernel_rfl) (by kernel_rfl) (kL (j := 3) hS rfl List.not_mem_nil) (fun a hE => ?_))) rfl
      refine sN 2 9 [(138, .int .u64 ((bxor .u64 (band .u64 (vget (y8379.2) (Int.toNat ((0 : Int)))) (vget (y8379.2) (Int.toNat ((1 : Int))))) (band .u64 (vget (y8379.2) (Int.toNat ((0 : Int)))) (vget (y8379.2) (Int.toNat ((2 : Int))))))))] hE (fun a hE => ?_)
      refine at_op (op_tk hE (tk_indexPA (N := 8) (k := .u64) (m := (1 : Int)) rfl rfl rfl rfl hE rfl rfl rfl (by kernel_rfl) (by kernel_rfl) (fun a hE => ?_))) rfl
      refine at_op (op_tk hE (tk_loadPA 3 (N := 8) (k := .u64) (v := y8379.2) (m := (1 : Int)) rfl rfl rfl rfl hE rfl hS rfl rfl (by kernel_rfl) (by kernel_rfl) (kL (j := 3) hS rfl List.not_mem_nil) (fun a hE => ?_))) rfl
      refine at_op (op_tk hE (tk_indexPA (N := 8) (k := .u64) (m := (2 : Int)) rfl rfl rfl rfl hE rfl rfl rfl (by kernel_rfl) (by kernel_rfl) (fun a hE => ?_))) rfl
      refine at_op (op_tk hE (tk_loadPA 3 (N := 8) (k := .u64) (v := y8379.2) (m := (2 : Int)) rfl rfl rfl rfl hE rfl hS rfl rfl (by kernel_rfl) (by kernel_rfl) (kL (j := 3) hS rfl List.not_mem_nil) (fun a hE => ?_))) rfl
      refine sN 3 16 [(15, .int .u64 ((bxor .u64 (bxor .u64 (band .u64 (vget (y8379.2) (Int.toNat ((0 : Int)))) (vget (y8379.2) (Int.toNat ((1 : Int))))) (band .u64 (vget (y8379.2) (Int.toNat ((0 : Int)))) (vget (y8379.2) (Int.toNat ((2 : Int)))))) (band .u64 (vget (y8379.2) (Int.toNat ((1 : Int)))) (vget (y8379.2) (Int.toNat ((2 : Int))))))))] hE (fun a hE => ?_)
      refine at_end rfl ?_
      refine wpIn_seq ?_
      refine region_draw (fun j => Keeps (mfOf [] j)) (by kernel_rfl) ?_
      have hS := hS.drew
      first | generalize w.drew = w at hS ⊢ | generalize w0.drew = w at hS ⊢
      refine wP 2 4 23 (.int .u64 ((vget (y8379.2) (Int.toNat ((4 : Int)))))) hE (fun a hE => ?_)
      refine wP 4 20 22 (.int .u64 ((vget (y8379.2) (Int.toNat ((4 : Int)))))) hE (fun a hE => ?_)
      refine wP 7 148 21 (.int .u64 ((vget (y8379.2) (Int.toNat ((4 : Int)))))) hE (fun a hE => ?_)
      refine wP 11 2196 20 (.int .u64 ((bxor .u64 (band .u64 (vget (y8379.2) (Int.toNat ((4 : Int)))) (vget (y8379.2) (Int.toNat ((5 : Int))))) (band .u64 (IntKind.wrap .u64 ((4294967295 : Int) - (vget (y8379.2) (Int.toNat ((4 : Int)))))) (vget (y8379.2) (Int.toNat ((6 : Int)))))))) hE (fun a hE => ?_)
      refine wP 13 10388 19 (.int .i64 (y8379.1)) hE (fun a hE => ?_)
      refine wP 18 272532 18 (.int .i64 (y8379.1)) hE (fun a hE => ?_)
      refine tW 0 272533 (fuel := 17) (by kernel_rfl) hE (fun M => tk_indexPA (N := 8) (k := .u64) (m := (7 : Int)) rfl rfl rfl rfl hE rfl rfl rfl (by kernel_rfl) (by kernel_rfl) (fun a hE => ?_))
      refine tT 1 272535 (fuel := 16) (by kernel_rfl) hE (tk_loadPA 3 (N := 8) (k := .u64) (v := y8379.2) (m := (7 : Int)) rfl rfl rfl rfl hE rfl hS rfl rfl (by kernel_rfl) (by kernel_rfl) (kL (j := 3) hS rfl List.not_mem_nil) (fun a hE => ?_))
      obtain ⟨hm8603, hf⟩ := chk_some hf
      refine tW 14 288919 (fuel := 15) (by kernel_rfl) hE (fun M => tk_indexPA (N := 64) (k := .u32) (m := y8379.1) rfl rfl rfl rfl hE rfl rfl rfl (by kernel_rfl) hm8603 (fun a hE => ?_))
      obtain ⟨cs8604, C8605, T8606, fr8607, hr8608, hb8609, hc8610⟩ := (Cell.elemA (N := 64) (m := y8379.1) (hG1.mono (le2 (le2 le7216 le7851) le8381)) hm8603)
      obtain rfl := hr8608
      refine tT 15 321687 (fuel := 14) (by kernel_rfl) hE (tk_loadX (off0 := (0 + Int.toNat (y8379.1))) (off := 0) (c := [.int .u32 ((vget (gl_K) (Int.toNat (y8379.1))))]) (.int .u32 ((vget (gl_K) (Int.toNat (y8379.1))))) rfl rfl rfl rfl hE rfl hS rfl hb8609 hc8610 (by kernel_rfl) (by kernel_rfl) (kD hS dn_nil) (fun a hE => ?_))
      refine tW 16 387223 (fuel := 13) (by kernel_rfl) hE (fun M => tk_pure (.int .u64 ((IntKind.wrap .u64 (vget (gl_K) (Int.toNat (y8379.1)))))) hE rfl rfl rfl rfl (fun _ _ _ e => by cases e; rfl) (by kernel_rfl) (fun a hE => ?_))
      obtain ⟨hm8611, hf⟩ := chk_some hf
      refine tW 19 911511 (fuel := 12) (by kernel_rfl) hE (fun M => tk_indexPA (N := 64) (k := .u64) (m := y8379.1) rfl rfl rfl rfl hE rfl rfl rfl (by kernel_rfl) hm8611 (fun a hE => ?_))
      refine tT 20 1960087 (fuel := 11) (by kernel_rfl) hE (tk_loadPA 2 (N := 64) (k := .u64) (v := z7214) (m := y8379.1) rfl rfl rfl rfl hE rfl hS rfl rfl (by kernel_rfl) hm8611 (kL (j := 2) hS rfl List.not_mem_nil) (fun a hE => ?_))
      obtain ⟨r8612, h8613, hf⟩ := bind_some hf
      refine oG 3 1960095 (fuel := 10) (by kernel_rfl) (op_call rfl rfl rfl rfl hE rfl rfl rfl rfl (by kernel_rfl) (inspeximusref01_right.calls (g := g) h8613 (hS.st.fore (L := [])) ) (fun a v w hR hE => ?_))
      obtain ⟨D8614, rfl, hS1⟩ := hR
      refine ⟨(hS1.keeps.sub (M' := []) trivial).mono (fun _ h => h), ?_⟩
      have le8616 := hS1.dle
      have hS := hS.callR hS1 rfl .n
      clear hS1
      obtain ⟨r8617, h8618, hf⟩ := bind_some hf
      refine oG 5 1960127 (fuel := 9) (by kernel_rfl) (op_call rfl rfl rfl rfl hE rfl rfl rfl rfl (by kernel_rfl) (inspeximusref01_right.calls (g := g) h8618 (hS.st.fore (L := [])) ) (fun a v w hR hE => ?_))
      obtain ⟨D8619, rfl, hS1⟩ := hR
      refine ⟨(hS1.keeps.sub (M' := []) trivial).mono (fun _ h => h), ?_⟩
      have le8621 := hS1.dle
      have hS := hS.callR hS1 rfl .n
      clear hS1
      refine wP 6 1960191 8 (.int .u64 ((bxor .u64 r8612 r8617))) hE (fun a hE => ?_)
      obtain ⟨r8622, h8623, hf⟩ := bind_some hf
      refine oG 8 1960447 (fuel := 7) (by kernel_rfl) (op_call rfl rfl rfl rfl hE rfl rfl rfl rfl (by kernel_rfl) (inspeximusref01_right.calls (g := g) h8623 (hS.st.fore (L := [])) ) (fun a v w hR hE => ?_))
      obtain ⟨D8624, rfl, hS1⟩ := hR
      refine ⟨(hS1.keeps.sub (M' := []) trivial).mono (fun _ h => h), ?_⟩
      have le8626 := hS1.dle
      have hS := hS.callR hS1 rfl .n
      clear hS1
      refine wP 9 1960959 6 (.int .u64 ((bxor .u64 (bxor .u64 r8612 r8617) r8622))) hE (fun a hE => ?_)
      refine wP 10 1961983 5 (.int .u64 ((IntKind.wrap .u64 ((vget (y8379.2) (Int.toNat ((7 : Int)))) + (bxor .u64 (bxor .u64 r8612 r8617) r8622))))) hE (fun a hE => ?_)
      refine wP 12 1966079 4 (.int .u64 ((IntKind.wrap .u64 ((IntKind.wrap .u64 ((vget (y8379.2) (Int.toNat ((7 : Int)))) + (bxor .u64 (bxor .u64 r8612 r8617) r8622))) + (bxor .u64 (band .u64 (vget (y8379.2) (Int.toNat ((4 : Int)))) (vget (y8379.2) (Int.toNat ((5 : Int))))) (band .u64 (IntKind.wrap .u64 ((4294967295 : Int) - (vget (y8379.2) (Int.toNat ((4 : Int)))))) (vget (y8379.2) (Int.toNat ((6 : Int)))))))))) hE (fun a hE => ?_)
      refine wP 17 2097151 3 (.int .u64 ((IntKind.wrap .u64 ((IntKind.wrap .u64 ((IntKind.wrap .u64 ((vget (y8379.2) (Int.toNat ((7 : Int)))) + (bxor .u64 (bxor .u64 r8612 r8617) r8622))) + (bxor .u64 (band .u64 (vget (y8379.2) (Int.toNat ((4 : Int)))) (vget (y8379.2) (Int.toNat ((5 : Int))))) (band .u64 (IntKind.wrap .u64 ((4294967295 : Int) - (vget (y8379.2) (Int.toNat ((4 : Int)))))) (vget (y8379.2) (Int.toNat ((6 : Int)))))))) + (IntKind.wrap .u64 (vget (gl_K) (Int.toNat (y8379.1)))))))) hE (fun a hE => ?_)
      refine wP 21 4194303 2 (.int .u64 ((IntKind.wrap .u64 ((IntKind.wrap .u64 ((IntKind.wrap .u64 ((IntKind.wrap .u64 ((vget (y8379.2) (Int.toNat ((7 : Int)))) + (bxor .u64 (bxor .u64 r8612 r8617) r8622))) + (bxor .u64 (band .u64 (vget (y8379.2) (Int.toNat ((4 : Int)))) (vget (y8379.2) (Int.toNat ((5 : Int))))) (band .u64 (IntKind.wrap .u64 ((4294967295 : Int) - (vget (y8379.2) (Int.toNat ((4 : Int)))))) (vget (y8379.2) (Int.toNat ((6 : Int)))))))) + (IntKind.wrap .u64 (vget (gl_K) (Int.toNat (y8379.1)))))) + (vget (z7214) (Int.toNat (y8379.1))))))) hE (fun a hE => ?_)
      refine wP 22 8388607 1 (.int .u64 ((Int.tmod (IntKind.wrap .u64 ((IntKind.wrap .u64 ((IntKind.wrap .u64 ((IntKind.wrap .u64 ((vget (y8379.2) (Int.toNat ((7 : Int)))) + (bxor .u64 (bxor .u64 r8612 r8617) r8622))) + (bxor .u64 (band .u64 (vget (y8379.2) (Int.toNat ((4 : Int)))) (vget (y8379.2) (Int.toNat ((5 : Int))))) (band .u64 (IntKind.wrap .u64 ((4294967295 : Int) - (vget (y8379.2) (Int.toNat ((4 : Int)))))) (vget (y8379.2) (Int.toNat ((6 : Int)))))))) + (IntKind.wrap .u64 (vget (gl_K) (Int.toNat (y8379.1)))))) + (vget (z7214) (Int.toNat (y8379.1))))) 4294967296))) hE (fun a hE => ?_)
      refine wP 23 16777215 0 (.int .u64 ((Int.tmod (IntKind.wrap .u64 ((IntKind.wrap .u64 ((IntKind.wrap .u64 ((IntKind.wrap .u64 ((vget (y8379.2) (Int.toNat ((7 : Int)))) + (bxor .u64 (bxor .u64 r8612 r8617) r8622))) + (bxor .u64 (band .u64 (vget (y8379.2) (Int.toNat ((4 : Int)))) (vget (y8379.2) (Int.toNat ((5 : Int))))) (band .u64 (IntKind.wrap .u64 ((4294967295 : Int) - (vget (y8379.2) (Int.toNat ((4 : Int)))))) (vget (y8379.2) (Int.toNat ((6 : Int)))))))) + (IntKind.wrap .u64 (vget (gl_K) (Int.toNat (y8379.1)))))) + (vget (z7214) (Int.toNat (y8379.1))))) 4294967296))) hE (fun a hE => ?_)
      refine doneG (by kernel_rfl) ?_
      refine wpIn_seq ?_
      refine region_at ?_
      refine sN 1 1 [(168, .int .u64 ((vget (y8379.2) (Int.toNat ((0 : Int))))))] hE (fun a hE => ?_)
      obtain ⟨r8627, h8628, hf⟩ := bind_some hf
      refine aC rfl rfl rfl rfl hE rfl rfl rfl rfl (inspeximusref01_right.calls (g := g) h8628 (hS.st.fore (L := [])) ) (fun a v w hR hE => ?_)
      obtain ⟨D8629, rfl, hS1⟩ := hR
      have le8631 := hS1.dle
      have hS := hS.callR hS1 rfl .n
      clear hS1
      refine sN 1 3 [(170, .int .u64 ((vget (y8379.2) (Int.toNat ((0 : Int))))))] hE (fun a hE => ?_)
      obtain ⟨r8632, h8633, hf⟩ := bind_some hf
      refine aC rfl rfl rfl rfl hE rfl rfl rfl rfl (inspeximusref01_right.calls (g := g) h8633 (hS.st.fore (L := [])) ) (fun a v w hR hE => ?_)
      obtain ⟨D8634, rfl, hS1⟩ := hR
      have le8636 := hS1.dle
      have hS := hS.callR hS1 rfl .n
      clear hS1
      refine sN 2 6 [(172, .int .u64 ((bxor .u64 r8627 r8632))), (173, .int .u64 ((vget (y8379.2) (Int.toNat ((0 : Int))))))] hE (fun a hE => ?_)
      obtain ⟨r8637, h8638, hf⟩ := bind_some hf
      refine aC rfl rfl rfl rfl hE rfl rfl rfl rfl (inspeximusref01_right.calls (g := g) h8638 (hS.st.fore (L := [])) ) (fun a v w hR hE => ?_)
      obtain ⟨D8639, rfl, hS1⟩ := hR
      have le8641 := hS1.dle
      have hS := hS.callR hS1 rfl .n
      clear hS1
      refine sN 5 12 [(17, .int .u64 ((Int.tmod (IntKind.wrap .u64 ((bxor .u64 (bxor .u64 r8627 r8632) r8637) + (bxor .u64 (bxor .u64 (band .u64 (vget (y8379.2) (Int.toNat ((0 : Int)))) (vget (y8379.2) (Int.toNat ((1 : Int))))) (band .u64 (vget (y8379.2) (Int.toNat ((0 : Int)))) (vget (y8379.2) (Int.toNat ((2 : Int)))))) (band .u64 (vget (y8379.2) (Int.toNat ((1 : Int)))) (vget (y8379.2) (Int.toNat ((2 : Int)))))))) 4294967296)))] hE (fun a hE => ?_)
      refine at_end rfl ?_
      refine region_at ?_
      refine sN 4 4 [(182, .int .u64 ((Int.tmod (IntKind.wrap .u64 ((Int.tmod (IntKind.wrap .u64 ((IntKind.wrap .u64 ((IntKind.wrap .u64 ((IntKind.wrap .u64 ((vget (y8379.2) (Int.toNat ((7 : Int)))) + (bxor .u64 (bxor .u64 r8612 r8617) r8622))) + (bxor .u64 (band .u64 (vget (y8379.2) (Int.toNat ((4 : Int)))) (vget (y8379.2) (Int.toNat ((5 : Int))))) (band .u64 (IntKind.wrap .u64 ((4294967295 : Int) - (vget (y8379.2) (Int.toNat ((4 : Int)))))) (vget (y8379.2) (Int.toNat ((6 : Int)))))))) + (IntKind.wrap .u64 (vget (gl_K) (Int.toNat (y8379.1)))))) + (vget (z7214) (Int.toNat (y8379.1))))) 4294967296) + (Int.tmod (IntKind.wrap .u64 ((bxor .u64 (bxor .u64 r8627 r8632) r8637) + (bxor .u64 (bxor .u64 (band .u64 (vget (y8379.2) (Int.toNat ((0 : Int)))) (vget (y8379.2) (Int.toNat ((1 : Int))))) (band .u64 (vget (y8379.2) (Int.toNat ((0 : Int)))) (vget (y8379.2) (Int.toNat ((2 : Int)))))) (band .u64 (vget (y8379.2) (Int.toNat ((1 : Int)))) (vget (y8379.2) (Int.toNat ((2 : Int)))))))) 4294967296))) 4294967296)))] hE (fun a hE => ?_)
      refine at_op (op_tk hE (tk_indexPA (N := 8) (k := .u64) (m := (0 : Int)) rfl rfl rfl rfl hE rfl rfl rfl (by kernel_rfl) (by kernel_rfl) (fun a hE => ?_))) rfl
      refine at_op (op_tk hE (tk_loadPA 3 (N := 8) (k := .u64) (v := y8379.2) (m := (0 : Int)) rfl rfl rfl rfl hE rfl hS rfl rfl (by kernel_rfl) (by kernel_rfl) (kL (j := 3) hS rfl List.not_mem_nil) (fun a hE => ?_))) rfl
      refine at_op (op_tk hE (tk_indexPA (N := 8) (k := .u64) (m := (1 : Int)) rfl rfl rfl rfl hE rfl rfl rfl (by kernel_rfl) (by kernel_rfl) (fun a hE => ?_))) rfl
      refine at_op (op_tk hE (tk_loadPA 3 (N := 8) (k := .u64) (v := y8379.2) (m := (1 : Int)) rfl rfl rfl rfl hE rfl hS rfl rfl (by kernel_rfl) (by kernel_rfl) (kL (j := 3) hS rfl List.not_mem_nil) (fun a hE => ?_))) rfl
      refine at_op (op_tk hE (tk_indexPA (N := 8) (k := .u64) (m := (2 : Int)) rfl rfl rfl rfl hE rfl rfl rfl (by kernel_rfl) (by kernel_rfl) (fun a hE => ?_))) rfl
      refine at_op (op_tk hE (tk_loadPA 3 (N := 8) (k := .u64) (v := y8379.2) (m := (2 : Int)) rfl rfl rfl rfl hE rfl hS rfl rfl (by kernel_rfl) (by kernel_rfl) (kL (j := 3) hS rfl List.not_mem_nil) (fun a hE => ?_))) rfl
      refine at_op (op_tk hE (tk_indexPA (N := 8) (k := .u64) (m := (3 : Int)) rfl rfl rfl rfl hE rfl rfl rfl (by kernel_rfl) (by kernel_rfl) (fun a hE => ?_))) rfl
      refine at_op (op_tk hE (tk_loadPA 3 (N := 8) (k := .u64) (v := y8379.2) (m := (3 : Int)) rfl rfl rfl rfl hE rfl hS rfl rfl (by kernel_rfl) (by kernel_rfl) (kL (j := 3) hS rfl List.not_mem_nil) (fun a hE => ?_))) rfl
      refine sN 3 15 [(193, .int .u64 ((Int.tmod (IntKind.wrap .u64 ((vget (y8379.2) (Int.toNat ((3 : Int)))) + (Int.tmod (IntKind.wrap .u64 ((IntKind.wrap .u64 ((IntKind.wrap .u64 ((IntKind.wrap .u64 ((vget (y8379.2) (Int.toNat ((7 : Int)))) + (bxor .u64 (bxor .u64 r8612 r8617) r8622))) + (bxor .u64 (band .u64 (vget (y8379.2) (Int.toNat ((4 : Int)))) (vget (y8379.2) (Int.toNat ((5 : Int))))) (band .u64 (IntKind.wrap .u64 ((4294967295 : Int) - (vget (y8379.2) (Int.toNat ((4 : Int)))))) (vget (y8379.2) (Int.toNat ((6 : Int)))))))) + (IntKind.wrap .u64 (vget (gl_K) (Int.toNat (y8379.1)))))) + (vget (z7214) (Int.toNat (y8379.1))))) 4294967296))) 4294967296)))] hE (fun a hE => ?_)
      refine at_op (op_tk hE (tk_indexPA (N := 8) (k := .u64) (m := (4 : Int)) rfl rfl rfl rfl hE rfl rfl rfl (by kernel_rfl) (by kernel_rfl) (fun a hE => ?_))) rfl
      refine at_op (op_tk hE (tk_loadPA 3 (N := 8) (k := .u64) (v := y8379.2) (m := (4 : Int)) rfl rfl rfl rfl hE rfl hS rfl rfl (by kernel_rfl) (by kernel_rfl) (kL (j := 3) hS rfl List.not_mem_nil) (fun a hE => ?_))) rfl
      refine at_op (op_tk hE (tk_indexPA (N := 8) (k := .u64) (m := (5 : Int)) rfl rfl rfl rfl hE rfl rfl rfl (by kernel_rfl) (by kernel_rfl) (fun a hE => ?_))) rfl
      refine at_op (op_tk hE (tk_loadPA 3 (N := 8) (k := .u64) (v := y8379.2) (m := (5 : Int)) rfl rfl rfl rfl hE rfl hS rfl rfl (by kernel_rfl) (by kernel_rfl) (kL (j := 3) hS rfl List.not_mem_nil) (fun a hE => ?_))) rfl
      refine at_op (op_tk hE (tk_indexPA (N := 8) (k := .u64) (m := (6 : Int)) rfl rfl rfl rfl hE rfl rfl rfl (by kernel_rfl) (by kernel_rfl) (fun a hE => ?_))) rfl
      refine at_op (op_tk hE (tk_loadPA 3 (N := 8) (k := .u64) (v := y8379.2) (m := (6 : Int)) rfl rfl rfl rfl hE rfl hS rfl rfl (by kernel_rfl) (by kernel_rfl) (kL (j := 3) hS rfl List.not_mem_nil) (fun a hE => ?_))) rfl
      refine at_op (op_tk hE (tk_build (acells .u64 8 ((vofL 8 [(Int.tmod (IntKind.wrap .u64 ((Int.tmod (IntKind.wrap .u64 ((IntKind.wrap .u64 ((IntKind.wrap .u64 ((IntKind.wrap .u64 ((vget (y8379.2) (Int.toNat ((7 : Int)))) + (bxor .u64 (bxor .u64 r8612 r8617) r8622))) + (bxor .u64 (band .u64 (vget (y8379.2) (Int.toNat ((4 : Int)))) (vget (y8379.2) (Int.toNat ((5 : Int))))) (band .u64 (IntKind.wrap .u64 ((4294967295 : Int) - (vget (y8379.2) (Int.toNat ((4 : Int)))))) (vget (y8379.2) (Int.toNat ((6 : Int)))))))) + (IntKind.wrap .u64 (vget (gl_K) (Int.toNat (y8379.1)))))) + (vget (z7214) (Int.toNat (y8379.1))))) 4294967296) + (Int.tmod (IntKind.wrap .u64 ((bxor .u64 (bxor .u64 r8627 r8632) r8637) + (bxor .u64 (bxor .u64 (band .u64 (vget (y8379.2) (Int.toNat ((0 : Int)))) (vget (y8379.2) (Int.toNat ((1 : Int))))) (band .u64 (vget (y8379.2) (Int.toNat ((0 : Int)))) (vget (y8379.2) (Int.toNat ((2 : Int)))))) (band .u64 (vget (y8379.2) (Int.toNat ((1 : Int)))) (vget (y8379.2) (Int.toNat ((2 : Int)))))))) 4294967296))) 4294967296), (vget (y8379.2) (Int.toNat ((0 : Int)))), (vget (y8379.2) (Int.toNat ((1 : Int)))), (vget (y8379.2) (Int.toNat ((2 : Int)))), (Int.tmod (IntKind.wrap .u64 ((vget (y8379.2) (Int.toNat ((3 : Int)))) + (Int.tmod (IntKind.wrap .u64 ((IntKind.wrap .u64 ((IntKind.wrap .u64 ((IntKind.wrap .u64 ((vget (y8379.2) (Int.toNat ((7 : Int)))) + (bxor .u64 (bxor .u64 r8612 r8617) r8622))) + (bxor .u64 (band .u64 (vget (y8379.2) (Int.toNat ((4 : Int)))) (vget (y8379.2) (Int.toNat ((5 : Int))))) (band .u64 (IntKind.wrap .u64 ((4294967295 : Int) - (vget (y8379.2) (Int.toNat ((4 : Int)))))) (vget (y8379.2) (Int.toNat ((6 : Int)))))))) + (IntKind.wrap .u64 (vget (gl_K) (Int.toNat (y8379.1)))))) + (vget (z7214) (Int.toNat (y8379.1))))) 4294967296))) 4294967296), (vget (y8379.2) (Int.toNat ((4 : Int)))), (vget (y8379.2) (Int.toNat ((5 : Int)))), (vget (y8379.2) (Int.toNat ((6 : Int))))]))) rfl rfl rfl rfl hE rfl rfl (by kernel_rfl) (fun a hE => ?_))) rfl
      have hS := hS.pk (.c 3 rfl (.c 0 rfl (.c 1 rfl (.c 2 rfl .n)))) rfl
      refine at_op (op_store (v := .agg (List.toArray (acells .u64 8 ((vofL 8 [(Int.tmod (IntKind.wrap .u64 ((Int.tmod (IntKind.wrap .u64 ((IntKind.wrap .u64 ((IntKind.wrap .u64 ((IntKind.wrap .u64 ((vget (y8379.2) (Int.toNat ((7 : Int)))) + (bxor .u64 (bxor .u64 r8612 r8617) r8622))) + (bxor .u64 (band .u64 (vget (y8379.2) (Int.toNat ((4 : Int)))) (vget (y8379.2) (Int.toNat ((5 : Int))))) (band .u64 (IntKind.wrap .u64 ((4294967295 : Int) - (vget (y8379.2) (Int.toNat ((4 : Int)))))) (vget (y8379.2) (Int.toNat ((6 : Int)))))))) + (IntKind.wrap .u64 (vget (gl_K) (Int.toNat (y8379.1)))))) + (vget (z7214) (Int.toNat (y8379.1))))) 4294967296) + (Int.tmod (IntKind.wrap .u64 ((bxor .u64 (bxor .u64 r8627 r8632) r8637) + (bxor .u64 (bxor .u64 (band .u64 (vget (y8379.2) (Int.toNat ((0 : Int)))) (vget (y8379.2) (Int.toNat ((1 : Int))))) (band .u64 (vget (y8379.2) (Int.toNat ((0 : Int)))) (vget (y8379.2) (Int.toNat ((2 : Int)))))) (band .u64 (vget (y8379.2) (Int.toNat ((1 : Int)))) (vget (y8379.2) (Int.toNat ((2 : Int)))))))) 4294967296))) 4294967296), (vget (y8379.2) (Int.toNat ((0 : Int)))), (vget (y8379.2) (Int.toNat ((1 : Int)))), (vget (y8379.2) (Int.toNat ((2 : Int)))), (Int.tmod (IntKind.wrap .u64 ((vget (y8379.2) (Int.toNat ((3 : Int)))) + (Int.tmod (IntKind.wrap .u64 ((IntKind.wrap .u64 ((IntKind.wrap .u64 ((IntKind.wrap .u64 ((vget (y8379.2) (Int.toNat ((7 : Int)))) + (bxor .u64 (bxor .u64 r8612 r8617) r8622))) + (bxor .u64 (band .u64 (vget (y8379.2) (Int.toNat ((4 : Int)))) (vget (y8379.2) (Int.toNat ((5 : Int))))) (band .u64 (IntKind.wrap .u64 ((4294967295 : Int) - (vget (y8379.2) (Int.toNat ((4 : Int)))))) (vget (y8379.2) (Int.toNat ((6 : Int)))))))) + (IntKind.wrap .u64 (vget (gl_K) (Int.toNat (y8379.1)))))) + (vget (z7214) (Int.toNat (y8379.1))))) 4294967296))) 4294967296), (vget (y8379.2) (Int.toNat ((4 : Int)))), (vget (y8379.2) (Int.toNat ((5 : Int)))), (vget (y8379.2) (Int.toNat ((6 : Int))))]))))) (acells .u64 8 ((vofL 8 [(Int.tmod (IntKind.wrap .u64 ((Int.tmod (IntKind.wrap .u64 ((IntKind.wrap .u64 ((IntKind.wrap .u64 ((IntKind.wrap .u64 ((vget (y8379.2) (Int.toNat ((7 : Int)))) + (bxor .u64 (bxor .u64 r8612 r8617) r8622))) + (bxor .u64 (band .u64 (vget (y8379.2) (Int.toNat ((4 : Int)))) (vget (y8379.2) (Int.toNat ((5 : Int))))) (band .u64 (IntKind.wrap .u64 ((4294967295 : Int) - (vget (y8379.2) (Int.toNat ((4 : Int)))))) (vget (y8379.2) (Int.toNat ((6 : Int)))))))) + (IntKind.wrap .u64 (vget (gl_K) (Int.toNat (y8379.1)))))) + (vget (z7214) (Int.toNat (y8379.1))))) 4294967296) + (Int.tmod (IntKind.wrap .u64 ((bxor .u64 (bxor .u64 r8627 r8632) r8637) + (bxor .u64 (bxor .u64 (band .u64 (vget (y8379.2) (Int.toNat ((0 : Int)))) (vget (y8379.2) (Int.toNat ((1 : Int))))) (band .u64 (vget (y8379.2) (Int.toNat ((0 : Int)))) (vget (y8379.2) (Int.toNat ((2 : Int)))))) (band .u64 (vget (y8379.2) (Int.toNat ((1 : Int)))) (vget (y8379.2) (Int.toNat ((2 : Int)))))))) 4294967296))) 4294967296), (vget (y8379.2) (Int.toNat ((0 : Int)))), (vget (y8379.2) (Int.toNat ((1 : Int)))), (vget (y8379.2) (Int.toNat ((2 : Int)))), (Int.tmod (IntKind.wrap .u64 ((vget (y8379.2) (Int.toNat ((3 : Int)))) + (Int.tmod (IntKind.wrap .u64 ((IntKind.wrap .u64 ((IntKind.wrap .u64 ((IntKind.wrap .u64 ((vget (y8379.2) (Int.toNat ((7 : Int)))) + (bxor .u64 (bxor .u64 r8612 r8617) r8622))) + (bxor .u64 (band .u64 (vget (y8379.2) (Int.toNat ((4 : Int)))) (vget (y8379.2) (Int.toNat ((5 : Int))))) (band .u64 (IntKind.wrap .u64 ((4294967295 : Int) - (vget (y8379.2) (Int.toNat ((4 : Int)))))) (vget (y8379.2) (Int.toNat ((6 : Int)))))))) + (IntKind.wrap .u64 (vget (gl_K) (Int.toNat (y8379.1)))))) + (vget (z7214) (Int.toNat (y8379.1))))) 4294967296))) 4294967296), (vget (y8379.2) (Int.toNat ((4 : Int)))), (vget (y8379.2) (Int.toNat ((5 : Int)))), (vget (y8379.2) (Int.toNat ((6 : Int))))]))) rfl rfl rfl rfl hE hS rfl rfl (by kernel_rfl) (by kernel_rfl) (by kernel_rfl) (by kernel_rfl) (by kernel_rfl) (fun a w _ hE hS => ?_)) rfl
      refine at_end rfl ?_
      refine region_at ?_
      refine sN 3 3 [(11, .int .i64 ((IntKind.wrap .i64 (y8379.1 + (1 : Int)))))] hE (fun a hE => ?_)
      refine at_end rfl ?_
      have hS := hS.pk (.c 1 rfl (.c 2 rfl (.c 3 rfl (.c 0 rfl .n)))) rfl
      exact ⟨((IntKind.wrap .i64 (y8379.1 + (1 : Int))), (vofL 8 [(Int.tmod (IntKind.wrap .u64 ((Int.tmod (IntKind.wrap .u64 ((IntKind.wrap .u64 ((IntKind.wrap .u64 ((IntKind.wrap .u64 ((vget (y8379.2) (Int.toNat ((7 : Int)))) + (bxor .u64 (bxor .u64 r8612 r8617) r8622))) + (bxor .u64 (band .u64 (vget (y8379.2) (Int.toNat ((4 : Int)))) (vget (y8379.2) (Int.toNat ((5 : Int))))) (band .u64 (IntKind.wrap .u64 ((4294967295 : Int) - (vget (y8379.2) (Int.toNat ((4 : Int)))))) (vget (y8379.2) (Int.toNat ((6 : Int)))))))) + (IntKind.wrap .u64 (vget (gl_K) (Int.toNat (y8379.1)))))) + (vget (z7214) (Int.toNat (y8379.1))))) 4294967296) + (Int.tmod (IntKind.wrap .u64 ((bxor .u64 (bxor .u64 r8627 r8632) r8637) + (bxor .u64 (bxor .u64 (band .u64 (vget (y8379.2) (Int.toNat ((0 : Int)))) (vget (y8379.2) (Int.toNat ((1 : Int))))) (band .u64 (vget (y8379.2) (Int.toNat ((0 : Int)))) (vget (y8379.2) (Int.toNat ((2 : Int)))))) (band .u64 (vget (y8379.2) (Int.toNat ((1 : Int)))) (vget (y8379.2) (Int.toNat ((2 : Int)))))))) 4294967296))) 4294967296), (vget (y8379.2) (Int.toNat ((0 : Int)))), (vget (y8379.2) (Int.toNat ((1 : Int)))), (vget (y8379.2) (Int.toNat ((2 : Int)))), (Int.tmod (IntKind.wrap .u64 ((vget (y8379.2) (Int.toNat ((3 : Int)))) + (Int.tmod (IntKind.wrap .u64 ((IntKind.wrap .u64 ((IntKind.wrap .u64 ((IntKind.wrap .u64 ((vget (y8379.2) (Int.toNat ((7 : Int)))) + (bxor .u64 (bxor .u64 r8612 r8617) r8622))) + (bxor .u64 (band .u64 (vget (y8379.2) (Int.toNat ((4 : Int)))) (vget (y8379.2) (Int.toNat ((5 : Int))))) (band .u64 (IntKind.wrap .u64 ((4294967295 : Int) - (vget (y8379.2) (Int.toNat ((4 : Int)))))) (vget (y8379.2) (Int.toNat ((6 : Int)))))))) + (IntKind.wrap .u64 (vget (gl_K) (Int.toNat (y8379.1)))))) + (vget (z7214) (Int.toNat (y8379.1))))) 4294967296))) 4294967296), (vget (y8379.2) (Int.toNat ((4 : Int)))), (vget (y8379.2) (Int.toNat ((5 : Int)))), (vget (y8379.2) (Int.toNat ((6 : Int))))])), D8639, hE.weak (by kernel_rfl), hS, (le2 (le2 (le2 (le2 (le2 (le2 le8381 le8616) le8621) le8626) le8631) le8636) le8641), hf⟩
     ·replace hf := cond_f hb hf
      clear hb
      refine wpIn_exit ?_
      obtain rfl := Option.some.inj hf
      have hS := hS.pk (.c 0 rfl (.c 1 rfl (.c 3 rfl .n))) rfl
      exact ⟨y8379.2, D8380, hE.weak (by kernel_rfl), hS, le8381, rfl⟩
   ·clear hE hS hf
    rintro k a w ⟨y7835, D7836, hE, hS, le7837, hf⟩
    obtain ⟨k, rfl, hf⟩ := inspeximusref01_Turn_l2.some _ hf
    refine ⟨k, rfl, ?_⟩
    unfold inspeximusref01_Turn_l2.b at hf
    refine wpIn_seq ?_
    refine wpIn_seq ?_
    refine region_at ?_
    refine sN 2 2 [(103, .bool ((decide (y7835.1 < (8 : Int)))))] hE (fun a hE => ?_)
    refine at_end rfl ?_
    refine cond_split hE (b := (decide (y7835.1 < (8 : Int)))) rfl (fun hb => ?_) (fun hb => ?_)
    ·replace hf := cond_t hb hf
     clear hb
     refine wpIn_skip ?_
     refine wpIn_seq ?_
     refine wpIn_block ?_
     refine region_at ?_
     refine sN 2 2 [(106, .int .i64 (y7835.1)), (107, .int .i64 (y7835.1))] hE (fun a hE => ?_)
     obtain ⟨hm7858, hf⟩ := chk_some hf
     refine at_op (op_tk hE (tk_indexPA (N := 8) (k := .u32) (m := y7835.1) rfl rfl rfl rfl hE rfl rfl rfl (by kernel_rfl) hm7858 (fun a hE => ?_))) rfl
     refine at_op (op_tk hE (tk_loadPA 0 (N := 8) (k := .u32) (v := x1) (m := y7835.1) rfl rfl rfl rfl hE rfl hS rfl rfl (by kernel_rfl) hm7858 (kL (j := 0) hS rfl List.not_mem_nil) (fun a hE => ?_))) rfl
     refine sN 1 5 [(110, .int .u64 ((IntKind.wrap .u64 (vget (x1) (Int.toNat (y7835.1))))))] hE (fun a hE => ?_)
     obtain ⟨hm7859, hf⟩ := chk_some hf
     refine at_op (op_tk hE (tk_indexPA (N := 8) (k := .u64) (m := y7835.1) rfl rfl rfl rfl hE rfl rfl rfl (by kernel_rfl) hm7859 (fun a hE => ?_))) rfl
     have hS := hS.pk (.c 3 rfl (.c 0 rfl (.c 1 rfl (.c 2 rfl .n)))) rfl
     obtain ⟨v7860, hv7861, hf⟩ := bind_some hf
     replace hv7861 := Option.some.inj hv7861
     refine at_op (op_storePA (N := 8) (k := .u64) (v := y7835.2) (m := y7835.1) (z := (IntKind.wrap .u64 (vget (x1) (Int.toNat (y7835.1))))) rfl rfl rfl rfl hE hS rfl rfl (by kernel_rfl) hm7859 (fun a w _ hE hS => ?_)) rfl
     rw [hv7861] at hS
     refine at_end rfl ?_
     refine region_at ?_
     refine sN 3 3 [(10, .int .i64 ((IntKind.wrap .i64 (y7835.1 + (1 : Int)))))] hE (fun a hE => ?_)
     refine at_end rfl ?_
     have hS := hS.pk (.c 1 rfl (.c 2 rfl (.c 3 rfl (.c 0 rfl .n)))) rfl
     exact ⟨((IntKind.wrap .i64 (y7835.1 + (1 : Int))), v7860), D7836, hE.weak (by kernel_rfl), hS, le7837, hf⟩
    ·replace hf := cond_f hb hf
     clear hb
     refine wpIn_exit ?_
     obtain rfl := Option.some.inj hf
     exact ⟨y7835.2, D7836, hE.weak (by kernel_rfl), hS, le7837, rfl⟩
  ·clear hE hS hf
   rintro k a w ⟨y6647, D6648, hE, hS, le6649, hf⟩
   obtain ⟨k, rfl, hf⟩ := inspeximusref01_Turn_l1.some _ hf
   refine ⟨k, rfl, ?_⟩
   unfold inspeximusref01_Turn_l1.b at hf
   refine wpIn_seq ?_
   refine wpIn_seq ?_
   refine region_at ?_
   refine sN 2 2 [(24, .bool ((decide (y6647.1 < (64 : Int)))))] hE (fun a hE => ?_)
   refine at_end rfl ?_
   refine cond_split hE (b := (decide (y6647.1 < (64 : Int)))) rfl (fun hb => ?_) (fun hb => ?_)
   ·replace hf := cond_t hb hf
    clear hb
    refine wpIn_skip ?_
    obtain ⟨j7500, hj7501, hf⟩ := jn_elim hf
    refine seq_join (fun a w => ∃ (y7497 : (Vector Int 64)), ∃ (D7498 : Snap), Env a 218 [] [(1, .slice A3 (List.length (x2)) c4), (2, .pointer (some ⟨b4392, 0, none⟩)), (4, .pointer (some ⟨b4394, 0, none⟩)), (5, .pointer (some ⟨b4396, 0, none⟩)), (6, .int .i64 (y6647.1))] ∧ Stp g w0 D0 [] w D7498 [bx b4392 94 (acells .u32 8 (x1)), bx b4394 94 (acells .u32 8 ((Vector.replicate 8 (0 : Int)))), bx b4396 111 (acells .u64 64 (y7497))] ∧ Snap.le D6648 D7498 ∧ j7500 y7497 = some s7217) ?_ ?_
    ·clear hj7501
     refine wpIn_block ?_
     refine wpIn_seq ?_
     refine wpIn_seq ?_
     refine region_at ?_
     refine sN 2 2 [(28, .bool ((decide (y6647.1 < (16 : Int)))))] hE (fun a hE => ?_)
     refine at_end rfl ?_
     refine cond_split hE (b := (decide (y6647.1 < (16 : Int)))) rfl (fun hb => ?_) (fun hb => ?_)
     ·replace hf := cond_t hb hf
      clear hb
      refine wpIn_seq ?_
      refine region_draw (fun j => Keeps (mfOf [(35, [b4396])] j)) (by kernel_rfl) ?_
      have hS := hS.drew
      first | generalize w.drew = w at hS ⊢ | generalize w0.drew = w at hS ⊢
      refine wP 0 1 35 (.int .i64 (y6647.1)) hE (fun a hE => ?_)
      refine wP 1 3 34 (.slice A3 (List.length (x2)) c4) hE (fun a hE => ?_)
      refine wP 2 7 33 (.int .i64 (y6647.1)) hE (fun a hE => ?_)
      refine wP 3 15 32 (.int .i64 ((IntKind.wrap .i64 ((4 : Int) * y6647.1)))) hE (fun a hE => ?_)
      refine wP 8 271 31 (.slice A3 (List.length (x2)) c4) hE (fun a hE => ?_)
      refine wP 9 783 30 (.int .i64 (y6647.1)) hE (fun a hE => ?_)
      refine wP 10 1807 29 (.int .i64 ((IntKind.wrap .i64 ((4 : Int) * y6647.1)))) hE (fun a hE => ?_)
      refine wP 11 3855 28 (.int .i64 ((IntKind.wrap .i64 ((IntKind.wrap .i64 ((4 : Int) * y6647.1)) + (1 : Int))))) hE (fun a hE => ?_)
      refine wP 17 134927 27 (.slice A3 (List.length (x2)) c4) hE (fun a hE => ?_)
      refine wP 18 397071 26 (.int .i64 (y6647.1)) hE (fun a hE => ?_)
      refine wP 19 921359 25 (.int .i64 ((IntKind.wrap .i64 ((4 : Int) * y6647.1)))) hE (fun a hE => ?_)
      refine wP 20 1969935 24 (.int .i64 ((IntKind.wrap .i64 ((IntKind.wrap .i64 ((4 : Int) * y6647.1)) + (2 : Int))))) hE (fun a hE => ?_)
      refine wP 26 69078799 23 (.slice A3 (List.length (x2)) c4) hE (fun a hE => ?_)
      refine wP 27 203296527 22 (.int .i64 (y6647.1)) hE (fun a hE => ?_)
      refine wP 28 471731983 21 (.int .i64 ((IntKind.wrap .i64 ((4 : Int) * y6647.1)))) hE (fun a hE => ?_)
      refine wP 29 1008602895 20 (.int .i64 ((IntKind.wrap .i64 ((IntKind.wrap .i64 ((4 : Int) * y6647.1)) + (3 : Int))))) hE (fun a hE => ?_)
      obtain ⟨x7655, h7656, hf⟩ := bind_some hf
      refine tW 4 1008602911 (fuel := 19) (by kernel_rfl) hE (fun M => g_index (K := (kdInt .u8)) (e := 5) (by_ := 1) (zl := 1) rfl rfl rfl rfl hE rfl rfl rfl (by kernel_rfl) rfl (h5.mono le6649) h7656 (fun a b7657 o7658 hE h7659 => ?_))
      obtain ⟨cs7660, C7661, T7662, fr7663, hr7664, hb7665, hc7666⟩ := h7659
      obtain rfl := hr7664
      refine tT 5 1008602943 (fuel := 18) (by kernel_rfl) hE (tk_loadX (off0 := o7658) (off := 0) (c := [.int .u8 (x7655)]) (.int .u8 (x7655)) rfl rfl rfl rfl hE rfl hS rfl hb7665 hc7666 (by kernel_rfl) (by kernel_rfl) (kD hS dn_nil) (fun a hE => ?_))
      refine tW 6 1008603007 (fuel := 17) (by kernel_rfl) hE (fun M => tk_pure (.int .u64 ((IntKind.wrap .u64 x7655))) hE rfl rfl rfl rfl (fun _ _ _ e => by cases e; rfl) (by kernel_rfl) (fun a hE => ?_))
      refine wP 7 1008603135 16 (.int .u64 ((IntKind.wrap .u64 ((IntKind.wrap .u64 x7655) * (256 : Int))))) hE (fun a hE => ?_)
      obtain ⟨x7667, h7668, hf⟩ := bind_some hf
      refine tW 12 1008607231 (fuel := 15) (by kernel_rfl) hE (fun M => g_index (K := (kdInt .u8)) (e := 5) (by_ := 1) (zl := 1) rfl rfl rfl rfl hE rfl rfl rfl (by kernel_rfl) rfl (h5.mono le6649) h7668 (fun a b7669 o7670 hE h7671 => ?_))
      obtain ⟨cs7672, C7673, T7674, fr7675, hr7676, hb7677, hc7678⟩ := h7671
      obtain rfl := hr7676
      refine tT 13 1008615423 (fuel := 14) (by kernel_rfl) hE (tk_loadX (off0 := o7670) (off := 0) (c := [.int .u8 (x7667)]) (.int .u8 (x7667)) rfl rfl rfl rfl hE rfl hS rfl hb7677 hc7678 (by kernel_rfl) (by kernel_rfl) (kD hS dn_nil) (fun a hE => ?_))
      refine tW 14 1008631807 (fuel := 13) (by kernel_rfl) hE (fun M => tk_pure (.int .u64 ((IntKind.wrap .u64 x7667))) hE rfl rfl rfl rfl (fun _ _ _ e => by cases e; rfl) (by kernel_rfl) (fun a hE => ?_))
      refine wP 15 1008664575 12 (.int .u64 ((IntKind.wrap .u64 ((IntKind.wrap .u64 ((IntKind.wrap .u64 x7655) * (256 : Int))) + (IntKind.wrap .u64 x7667))))) hE (fun a hE => ?_)
      refine wP 16 1008730111 11 (.int .u64 ((IntKind.wrap .u64 ((IntKind.wrap .u64 ((IntKind.wrap .u64 ((IntKind.wrap .u64 x7655) * (256 : Int))) + (IntKind.wrap .u64 x7667))) * (256 : Int))))) hE (fun a hE => ?_)
      obtain ⟨x7679, h7680, hf⟩ := bind_some hf
      refine tW 21 1010827263 (fuel := 10) (by kernel_rfl) hE (fun M => g_index (K := (kdInt .u8)) (e := 5) (by_ := 1) (zl := 1) rfl rfl rfl rfl hE rfl rfl rfl (by kernel_rfl) rfl (h5.mono le6649) h7680 (fun a b7681 o7682 hE h7683 => ?_))
      obtain ⟨cs7684, C7685, T7686, fr7687, hr7688, hb7689, hc7690⟩ := h7683
      obtain rfl := hr7688
      refine tT 22 1015021567 (fuel := 9) (by kernel_rfl) hE (tk_loadX (off0 := o7682) (off := 0) (c := [.int .u8 (x7679)]) (.int .u8 (x7679)) rfl rfl rfl rfl hE rfl hS rfl hb7689 hc7690 (by kernel_rfl) (by kernel_rfl) (kD hS dn_nil) (fun a hE => ?_))
      refine tW 23 1023410175 (fuel := 8) (by kernel_rfl) hE (fun M => tk_pure (.int .u64 ((IntKind.wrap .u64 x7679))) hE rfl rfl rfl rfl (fun _ _ _ e => by cases e; rfl) (by kernel_rfl) (fun a hE => ?_))
      refine wP 24 1040187391 7 (.int .u64 ((IntKind.wrap .u64 ((IntKind.wrap .u64 ((IntKind.wrap .u64 ((IntKind.wrap .u64 ((IntKind.wrap .u64 x7655) * (256 : Int))) + (IntKind.wrap .u64 x7667))) * (256 : Int))) + (IntKind.wrap .u64 x7679))))) hE (fun a hE => ?_)
      refine wP 25 1073741823 6 (.int .u64 ((IntKind.wrap .u64 ((IntKind.wrap .u64 ((IntKind.wrap .u64 ((IntKind.wrap .u64 ((IntKind.wrap .u64 ((IntKind.wrap .u64 x7655) * (256 : Int))) + (IntKind.wrap .u64 x7667))) * (256 : Int))) + (IntKind.wrap .u64 x7679))) * (256 : Int))))) hE (fun a hE => ?_)
      obtain ⟨x7691, h7692, hf⟩ := bind_some hf
      refine tW 30 2147483647 (fuel := 5) (by kernel_rfl) hE (fun M => g_index (K := (kdInt .u8)) (e := 5) (by_ := 1) (zl := 1) rfl rfl rfl rfl hE rfl rfl rfl (by kernel_rfl) rfl (h5.mono le6649) h7692 (fun a b7693 o7694 hE h7695 => ?_))
      obtain ⟨cs7696, C7697, T7698, fr7699, hr7700, hb7701, hc7702⟩ := h7695
      obtain rfl := hr7700
      refine tT 31 4294967295 (fuel := 4) (by kernel_rfl) hE (tk_loadX (off0 := o7694) (off := 0) (c := [.int .u8 (x7691)]) (.int .u8 (x7691)) rfl rfl rfl rfl hE rfl hS rfl hb7701 hc7702 (by kernel_rfl) (by kernel_rfl) (kD hS dn_nil) (fun a hE => ?_))
      refine tW 32 8589934591 (fuel := 3) (by kernel_rfl) hE (fun M => tk_pure (.int .u64 ((IntKind.wrap .u64 x7691))) hE rfl rfl rfl rfl (fun _ _ _ e => by cases e; rfl) (by kernel_rfl) (fun a hE => ?_))
      refine wP 33 17179869183 2 (.int .u64 ((IntKind.wrap .u64 ((IntKind.wrap .u64 ((IntKind.wrap .u64 ((IntKind.wrap .u64 ((IntKind.wrap .u64 ((IntKind.wrap .u64 ((IntKind.wrap .u64 x7655) * (256 : Int))) + (IntKind.wrap .u64 x7667))) * (256 : Int))) + (IntKind.wrap .u64 x7679))) * (256 : Int))) + (IntKind.wrap .u64 x7691))))) hE (fun a hE => ?_)
      obtain ⟨hm7703, hf⟩ := chk_some hf
      refine tW 34 34359738367 (fuel := 1) (by kernel_rfl) hE (fun M => tk_indexPA (N := 64) (k := .u64) (m := y6647.1) rfl rfl rfl rfl hE rfl rfl rfl (by kernel_rfl) hm7703 (fun a hE => ?_))
      have hS := hS.pk (.c 2 rfl (.c 0 rfl (.c 1 rfl .n))) rfl
      obtain ⟨v7704, hv7705, hf⟩ := bind_some hf
      replace hv7705 := Option.some.inj hv7705
      refine oG 35 68719476735 (fuel := 0) (by kernel_rfl) (op_storePA (N := 64) (k := .u64) (v := y6647.2) (m := y6647.1) (z := (IntKind.wrap .u64 ((IntKind.wrap .u64 ((IntKind.wrap .u64 ((IntKind.wrap .u64 ((IntKind.wrap .u64 ((IntKind.wrap .u64 ((IntKind.wrap .u64 x7655) * (256 : Int))) + (IntKind.wrap .u64 x7667))) * (256 : Int))) + (IntKind.wrap .u64 x7679))) * (256 : Int))) + (IntKind.wrap .u64 x7691)))) rfl rfl rfl rfl hE hS rfl rfl (by kernel_rfl) hm7703 (fun a w hkp hE hS => ⟨hkp.mono (fun _ h => h), ?_⟩))
      clear hkp
      rw [hv7705] at hS
      refine doneG (by kernel_rfl) ?_
      refine wpIn_exit ?_
      have hS := hS.pk (.c 1 rfl (.c 2 rfl (.c 0 rfl .n))) rfl
      exact ⟨v7704, D6648, hE.weak (by kernel_rfl), hS, Snap.le.refl _, hf⟩
     ·replace hf := cond_f hb hf
      clear hb
      refine wpIn_skip ?_
      refine wpIn_seq ?_
      refine region_draw (fun j => Keeps (mfOf [] j)) (by kernel_rfl) ?_
      have hS := hS.drew
      first | generalize w.drew = w at hS ⊢ | generalize w0.drew = w at hS ⊢
      refine wP 0 1 9 (.int .i64 (y6647.1)) hE (fun a hE => ?_)
      refine wP 1 3 8 (.int .i64 ((IntKind.wrap .i64 (y6647.1 - (15 : Int))))) hE (fun a hE => ?_)
      refine wP 4 19 7 (.int .i64 (y6647.1)) hE (fun a hE => ?_)
      refine wP 5 51 6 (.int .i64 ((IntKind.wrap .i64 (y6647.1 - (2 : Int))))) hE (fun a hE => ?_)
      obtain ⟨hm7708, hf⟩ := chk_some hf
      refine tW 2 55 (fuel := 5) (by kernel_rfl) hE (fun M => tk_indexPA (N := 64) (k := .u64) (m := (IntKind.wrap .i64 (y6647.1 - (15 : Int)))) rfl rfl rfl rfl hE rfl rfl rfl (by kernel_rfl) hm7708 (fun a hE => ?_))
      refine tT 3 63 (fuel := 4) (by kernel_rfl) hE (tk_loadPA 2 (N := 64) (k := .u64) (v := y6647.2) (m := (IntKind.wrap .i64 (y6647.1 - (15 : Int)))) rfl rfl rfl rfl hE rfl hS rfl rfl (by kernel_rfl) hm7708 (kL (j := 2) hS rfl List.not_mem_nil) (fun a hE => ?_))
      refine wP 8 319 3 (.int .u64 ((vget (y6647.2) (Int.toNat ((IntKind.wrap .i64 (y6647.1 - (15 : Int)))))))) hE (fun a hE => ?_)
      obtain ⟨hm7709, hf⟩ := chk_some hf
      refine tW 6 383 (fuel := 2) (by kernel_rfl) hE (fun M => tk_indexPA (N := 64) (k := .u64) (m := (IntKind.wrap .i64 (y6647.1 - (2 : Int)))) rfl rfl rfl rfl hE rfl rfl rfl (by kernel_rfl) hm7709 (fun a hE => ?_))
      refine tT 7 511 (fuel := 1) (by kernel_rfl) hE (tk_loadPA 2 (N := 64) (k := .u64) (v := y6647.2) (m := (IntKind.wrap .i64 (y6647.1 - (2 : Int)))) rfl rfl rfl rfl hE rfl hS rfl rfl (by kernel_rfl) hm7709 (kL (j := 2) hS rfl List.not_mem_nil) (fun a hE => ?_))
      refine wP 9 1023 0 (.int .u64 ((vget (y6647.2) (Int.toNat ((IntKind.wrap .i64 (y6647.1 - (2 : Int)))))))) hE (fun a hE => ?_)
      refine doneG (by kernel_rfl) ?_
      refine region_draw (fun j => Keeps (mfOf [(30, [b4396])] j)) (by kernel_rfl) ?_
      have hS := hS.drew
      first | generalize w.drew = w at hS ⊢ | generalize w0.drew = w at hS ⊢
      refine wP 0 1 30 (.int .i64 (y6647.1)) hE (fun a hE => ?_)
      refine wP 1 3 29 (.int .u64 ((vget (y6647.2) (Int.toNat ((IntKind.wrap .i64 (y6647.1 - (2 : Int)))))))) hE (fun a hE => ?_)
      refine wP 3 11 28 (.int .u64 ((vget (y6647.2) (Int.toNat ((IntKind.wrap .i64 (y6647.1 - (2 : Int)))))))) hE (fun a hE => ?_)
      refine wP 6 75 27 (.int .u64 ((vget (y6647.2) (Int.toNat ((IntKind.wrap .i64 (y6647.1 - (2 : Int)))))))) hE (fun a hE => ?_)
      refine wP 9 587 26 (.int .i64 (y6647.1)) hE (fun a hE => ?_)
      refine wP 10 1611 25 (.int .i64 ((IntKind.wrap .i64 (y6647.1 - (7 : Int))))) hE (fun a hE => ?_)
      refine wP 14 17995 24 (.int .u64 ((vget (y6647.2) (Int.toNat ((IntKind.wrap .i64 (y6647.1 - (15 : Int)))))))) hE (fun a hE => ?_)
      refine wP 16 83531 23 (.int .u64 ((vget (y6647.2) (Int.toNat ((IntKind.wrap .i64 (y6647.1 - (15 : Int)))))))) hE (fun a hE => ?_)
      refine wP 19 607819 22 (.int .u64 ((vget (y6647.2) (Int.toNat ((IntKind.wrap .i64 (y6647.1 - (15 : Int)))))))) hE (fun a hE => ?_)
      refine wP 23 8996427 21 (.int .i64 (y6647.1)) hE (fun a hE => ?_)
      refine wP 24 25773643 20 (.int .i64 ((IntKind.wrap .i64 (y6647.1 - (16 : Int))))) hE (fun a hE => ?_)
      obtain ⟨hm7745, hf⟩ := chk_some hf
      refine tW 11 25775691 (fuel := 19) (by kernel_rfl) hE (fun M => tk_indexPA (N := 64) (k := .u64) (m := (IntKind.wrap .i64 (y6647.1 - (7 : Int)))) rfl rfl rfl rfl hE rfl rfl rfl (by kernel_rfl) hm7745 (fun a hE => ?_))
      refine tT 12 25779787 (fuel := 18) (by kernel_rfl) hE (tk_loadPA 2 (N := 64) (k := .u64) (v := y6647.2) (m := (IntKind.wrap .i64 (y6647.1 - (7 : Int)))) rfl rfl rfl rfl hE rfl hS rfl rfl (by kernel_rfl) hm7745 (kL (j := 2) hS rfl List.not_mem_nil) (fun a hE => ?_))
      obtain ⟨hm7746, hf⟩ := chk_some hf
      refine tW 25 59334219 (fuel := 17) (by kernel_rfl) hE (fun M => tk_indexPA (N := 64) (k := .u64) (m := (IntKind.wrap .i64 (y6647.1 - (16 : Int)))) rfl rfl rfl rfl hE rfl rfl rfl (by kernel_rfl) hm7746 (fun a hE => ?_))
      refine tT 26 126443083 (fuel := 16) (by kernel_rfl) hE (tk_loadPA 2 (N := 64) (k := .u64) (v := y6647.2) (m := (IntKind.wrap .i64 (y6647.1 - (16 : Int)))) rfl rfl rfl rfl hE rfl hS rfl rfl (by kernel_rfl) hm7746 (kL (j := 2) hS rfl List.not_mem_nil) (fun a hE => ?_))
      obtain ⟨r7747, h7748, hf⟩ := bind_some hf
      refine oG 2 126443087 (fuel := 15) (by kernel_rfl) (op_call rfl rfl rfl rfl hE rfl rfl rfl rfl (by kernel_rfl) (inspeximusref01_right.calls (g := g) h7748 (hS.st.fore (L := [])) ) (fun a v w hR hE => ?_))
      obtain ⟨D7749, rfl, hS1⟩ := hR
      refine ⟨(hS1.keeps.sub (M' := []) trivial).mono (fun _ h => h), ?_⟩
      have le7751 := hS1.dle
      have hS := hS.callR hS1 rfl .n
      clear hS1
      obtain ⟨r7752, h7753, hf⟩ := bind_some hf
      refine oG 4 126443103 (fuel := 14) (by kernel_rfl) (op_call rfl rfl rfl rfl hE rfl rfl rfl rfl (by kernel_rfl) (inspeximusref01_right.calls (g := g) h7753 (hS.st.fore (L := [])) ) (fun a v w hR hE => ?_))
      obtain ⟨D7754, rfl, hS1⟩ := hR
      refine ⟨(hS1.keeps.sub (M' := []) trivial).mono (fun _ h => h), ?_⟩
      have le7756 := hS1.dle
      have hS := hS.callR hS1 rfl .n
      clear hS1
      refine wP 5 126443135 13 (.int .u64 ((bxor .u64 r7747 r7752))) hE (fun a hE => ?_)
      obtain ⟨r7757, h7758, hf⟩ := bind_some hf
      refine oG 7 126443263 (fuel := 12) (by kernel_rfl) (op_call rfl rfl rfl rfl hE rfl rfl rfl rfl (by kernel_rfl) (inspeximusref01_shift.calls (g := g) h7758 (hS.st.fore (L := [])) ) (fun a v w hR hE => ?_))
      obtain ⟨D7759, rfl, hS1⟩ := hR
      refine ⟨(hS1.keeps.sub (M' := []) trivial).mono (fun _ h => h), ?_⟩
      have le7761 := hS1.dle
      have hS := hS.callR hS1 rfl .n
      clear hS1
      refine wP 8 126443519 11 (.int .u64 ((bxor .u64 (bxor .u64 r7747 r7752) r7757))) hE (fun a hE => ?_)
      refine wP 13 126451711 10 (.int .u64 ((IntKind.wrap .u64 ((bxor .u64 (bxor .u64 r7747 r7752) r7757) + (vget (y6647.2) (Int.toNat ((IntKind.wrap .i64 (y6647.1 - (7 : Int)))))))))) hE (fun a hE => ?_)
      obtain ⟨r7762, h7763, hf⟩ := bind_some hf
      refine oG 15 126484479 (fuel := 9) (by kernel_rfl) (op_call rfl rfl rfl rfl hE rfl rfl rfl rfl (by kernel_rfl) (inspeximusref01_right.calls (g := g) h7763 (hS.st.fore (L := [])) ) (fun a v w hR hE => ?_))
      obtain ⟨D7764, rfl, hS1⟩ := hR
      refine ⟨(hS1.keeps.sub (M' := []) trivial).mono (fun _ h => h), ?_⟩
      have le7766 := hS1.dle
      have hS := hS.callR hS1 rfl .n
      clear hS1
      obtain ⟨r7767, h7768, hf⟩ := bind_some hf
      refine oG 17 126615551 (fuel := 8) (by kernel_rfl) (op_call rfl rfl rfl rfl hE rfl rfl rfl rfl (by kernel_rfl) (inspeximusref01_right.calls (g := g) h7768 (hS.st.fore (L := [])) ) (fun a v w hR hE => ?_))
      obtain ⟨D7769, rfl, hS1⟩ := hR
      refine ⟨(hS1.keeps.sub (M' := []) trivial).mono (fun _ h => h), ?_⟩
      have le7771 := hS1.dle
      have hS := hS.callR hS1 rfl .n
      clear hS1
      refine wP 18 126877695 7 (.int .u64 ((bxor .u64 r7762 r7767))) hE (fun a hE => ?_)
      obtain ⟨r7772, h7773, hf⟩ := bind_some hf
      refine oG 20 127926271 (fuel := 6) (by kernel_rfl) (op_call rfl rfl rfl rfl hE rfl rfl rfl rfl (by kernel_rfl) (inspeximusref01_shift.calls (g := g) h7773 (hS.st.fore (L := [])) ) (fun a v w hR hE => ?_))
      obtain ⟨D7774, rfl, hS1⟩ := hR
      refine ⟨(hS1.keeps.sub (M' := []) trivial).mono (fun _ h => h), ?_⟩
      have le7776 := hS1.dle
      have hS := hS.callR hS1 rfl .n
      clear hS1
      refine wP 21 130023423 5 (.int .u64 ((bxor .u64 (bxor .u64 r7762 r7767) r7772))) hE (fun a hE => ?_)
      refine wP 22 134217727 4 (.int .u64 ((IntKind.wrap .u64 ((IntKind.wrap .u64 ((bxor .u64 (bxor .u64 r7747 r7752) r7757) + (vget (y6647.2) (Int.toNat ((IntKind.wrap .i64 (y6647.1 - (7 : Int)))))))) + (bxor .u64 (bxor .u64 r7762 r7767) r7772))))) hE (fun a hE => ?_)
      refine wP 27 268435455 3 (.int .u64 ((IntKind.wrap .u64 ((IntKind.wrap .u64 ((IntKind.wrap .u64 ((bxor .u64 (bxor .u64 r7747 r7752) r7757) + (vget (y6647.2) (Int.toNat ((IntKind.wrap .i64 (y6647.1 - (7 : Int)))))))) + (bxor .u64 (bxor .u64 r7762 r7767) r7772))) + (vget (y6647.2) (Int.toNat ((IntKind.wrap .i64 (y6647.1 - (16 : Int)))))))))) hE (fun a hE => ?_)
      refine wP 28 536870911 2 (.int .u64 ((Int.tmod (IntKind.wrap .u64 ((IntKind.wrap .u64 ((IntKind.wrap .u64 ((bxor .u64 (bxor .u64 r7747 r7752) r7757) + (vget (y6647.2) (Int.toNat ((IntKind.wrap .i64 (y6647.1 - (7 : Int)))))))) + (bxor .u64 (bxor .u64 r7762 r7767) r7772))) + (vget (y6647.2) (Int.toNat ((IntKind.wrap .i64 (y6647.1 - (16 : Int)))))))) 4294967296))) hE (fun a hE => ?_)
      obtain ⟨hm7777, hf⟩ := chk_some hf
      refine tW 29 1073741823 (fuel := 1) (by kernel_rfl) hE (fun M => tk_indexPA (N := 64) (k := .u64) (m := y6647.1) rfl rfl rfl rfl hE rfl rfl rfl (by kernel_rfl) hm7777 (fun a hE => ?_))
      have hS := hS.pk (.c 2 rfl (.c 0 rfl (.c 1 rfl .n))) rfl
      obtain ⟨v7778, hv7779, hf⟩ := bind_some hf
      replace hv7779 := Option.some.inj hv7779
      refine oG 30 2147483647 (fuel := 0) (by kernel_rfl) (op_storePA (N := 64) (k := .u64) (v := y6647.2) (m := y6647.1) (z := (Int.tmod (IntKind.wrap .u64 ((IntKind.wrap .u64 ((IntKind.wrap .u64 ((bxor .u64 (bxor .u64 r7747 r7752) r7757) + (vget (y6647.2) (Int.toNat ((IntKind.wrap .i64 (y6647.1 - (7 : Int)))))))) + (bxor .u64 (bxor .u64 r7762 r7767) r7772))) + (vget (y6647.2) (Int.toNat ((IntKind.wrap .i64 (y6647.1 - (16 : Int)))))))) 4294967296)) rfl rfl rfl rfl hE hS rfl rfl (by kernel_rfl) hm7777 (fun a w hkp hE hS => ⟨hkp.mono (fun _ h => h), ?_⟩))
      clear hkp
      rw [hv7779] at hS
      refine doneG (by kernel_rfl) ?_
      have hS := hS.pk (.c 1 rfl (.c 2 rfl (.c 0 rfl .n))) rfl
      exact ⟨v7778, D7774, hE.weak (by kernel_rfl), hS, (le2 (le2 (le2 (le2 (le2 le7751 le7756) le7761) le7766) le7771) le7776), hf⟩
    ·clear hE hS
     rintro a w ⟨y7497, D7498, hE, hS, le7499, hf⟩
     replace hf := hj7501 _ hf
     clear hj7501
     refine region_at ?_
     refine sN 3 3 [(6, .int .i64 ((IntKind.wrap .i64 (y6647.1 + (1 : Int)))))] hE (fun a hE => ?_)
     refine at_end rfl ?_
     exact ⟨((IntKind.wrap .i64 (y6647.1 + (1 : Int))), y7497), D7498, hE.weak (by kernel_rfl), hS, (le2 le6649 le7499), hf⟩
   ·replace hf := cond_f hb hf
    clear hb
    refine wpIn_exit ?_
    obtain rfl := Option.some.inj hf
    exact ⟨y6647.2, D6648, hE.weak (by kernel_rfl), hS, le6649, rfl⟩
set_option maxRecDepth 100000 in
set_option maxHeartbeats 4000000 in
theorem inspeximusref01_Sum.calls {K : Nat} {g w0 : World} {D0 : Snap} {x1 : (List Int)} {A2 : Option Addr} {c3 : Nat} {r : ((Vector Int 32))} (hf : inspeximusref01_Sum.f K x1 = some r) (hS0 : St g w0 D0 []) (h4 : Sl (kdInt .u8) D0 A2 c3 (x1)) (hG0 : Cell (kdArr .u32 8) D0 0 0 gl_First) (hG1 : Cell (kdArr .u32 64) D0 1 0 gl_K) :
  CallsIn (Fw none) 0 Tryd.prog 64 (List.toArray [.slice A2 (List.length (x1)) c3]) w0 (fun e w' => ∃ v, e = .returned v ∧ ∃ (D1 : Snap), v = .agg (List.toArray (acells .u8 32 (r))) ∧ Stp g w0 D0 [] w' D1 []) := by
 unfold inspeximusref01_Sum.f at hf
 have hS := Stp.refl hS0
 clear hS0
 refine calls_body (n := 54) Tryd.func64 rfl Tryd.ntmps64 rfl (fun a hE => ?_)
 have hE : Env a 54 [] [(0, .slice A2 (List.length (x1)) c3)] := hE
 refine wpIn_seq ?_
 refine region_at ?_
 refine at_op (op_alloc (z := .agg (List.toArray (acells .u8 32 ((Vector.replicate 32 (0 : Int)))))) rfl rfl rfl rfl hE rfl hS (by kernel_rfl) (fun a b971 w _ hE hS => ?_)) rfl
 refine at_end rfl ?_
 refine wpIn_seq ?_
 refine region_at ?_
 refine at_op (op_buildSlice (K := (kdInt .u8)) (e := 5) (cs := []) ([] : List Int) rfl rfl rfl rfl hE rfl hS rfl (by kernel_rfl) rfl rfl (by exact (show RL (kdInt .u8) D0 ([] : List Int) ([]) from rfl)) (fun a A973 q974 w _ hE h975 hS => ?_)) rfl
 refine sN 1 2 [(11, .slice A2 (List.length (x1)) c3)] hE (fun a hE => ?_)
 obtain ⟨l977, h978, hf⟩ := bind_some hf
 refine at_op (g_append (K := (kdInt .u8)) (e := 5) (bytes := 1) (l := ([] : List Int)) (m := x1) rfl rfl rfl rfl hE rfl hS rfl rfl (by kernel_rfl) rfl rfl h975 h4 h978 (fun a A979 c980 q981 w _ hE h982 hS => ?_)) rfl
 refine sN 2 5 [(14, .int .i64 (((List.length (x1) : Nat) : Int)))] hE (fun a hE => ?_)
 obtain ⟨r984, h985, hf⟩ := bind_some hf
 refine aC rfl rfl rfl rfl hE rfl rfl rfl rfl (inspeximusref01_Fill.calls (g := g) h985 (hS.st.fore (L := [])) ) (fun a v w hR hE => ?_)
 obtain ⟨D986, A988, c989, q990, rfl, hS1, h991⟩ := hR
 have le993 := hS1.dle
 have hS := hS.callR hS1 rfl (.c .n)
 clear hS1
 obtain ⟨D994, q997, le995, hS, h998, h996⟩ := hS.lent h991
 have hS := hS.pk (.c 1 rfl (.c 0 rfl (.c 2 rfl .n))) rfl
 obtain ⟨l999, h1000, hf⟩ := bind_some hf
 refine at_op (g_append (K := (kdInt .u8)) (e := 5) (bytes := 1) (l := l977) (m := r984) rfl rfl rfl rfl hE rfl hS rfl rfl (by kernel_rfl) rfl rfl (h982.mono (le2 le993 le995)) h996 h1000 (fun a A1001 c1002 q1003 w _ hE h1004 hS => ?_)) rfl
 refine sN 1 8 [(3, .slice A1001 (List.length (l999)) c1002)] hE (fun a hE => ?_)
 refine at_end rfl ?_
 refine wpIn_seq ?_
 refine region_at ?_
 obtain ⟨cs1006, C1007, T1008, fr1009, hr1010, hb1011, hc1012⟩ := (hG0.mono (le2 le993 le995))
 obtain rfl := hr1010
 refine at_op (op_tk hE (tk_loadX (off0 := 0) (off := 0) (c := acells .u32 8 (gl_First)) (.agg (List.toArray (acells .u32 8 (gl_First)))) rfl rfl rfl rfl hE rfl hS rfl hb1011 hc1012 (by kernel_rfl) (by kernel_rfl) (kD hS dn_nil) (fun a hE => ?_))) rfl
 refine at_op (op_alloc (z := .agg (List.toArray (acells .u32 8 ((Vector.replicate 8 (0 : Int)))))) rfl rfl rfl rfl hE rfl hS (by kernel_rfl) (fun a b1013 w _ hE hS => ?_)) rfl
 refine at_op (op_store (v := .agg (List.toArray (acells .u32 8 (gl_First)))) (acells .u32 8 (gl_First)) rfl rfl rfl rfl hE hS rfl rfl (by kernel_rfl) (by kernel_rfl) (by kernel_rfl) (by kernel_rfl) (by kernel_rfl) (fun a w _ hE hS => ?_)) rfl
 refine at_end rfl ?_
 refine wpIn_seq ?_
 refine wpIn_seq ?_
 refine region_at ?_
 refine sN 1 1 [(5, .int .i64 ((0 : Int)))] hE (fun a hE => ?_)
 refine at_end rfl ?_
 have hS := hS.pk (.c 1 rfl (.c 0 rfl (.c 2 rfl (.c 3 rfl .n)))) rfl
 obtain ⟨D1286, q1289, le1287, hS, h1290, h1288⟩ := hS.lent h1004
 obtain ⟨s1389, hf, hs1390⟩ := bind_some hf
 have hS := hS.pk (.c 3 rfl (.c 1 rfl (.c 0 rfl .n))) rfl
 refine block_loop (fun a w => ∃ (z1386 : (Vector Int 8)), ∃ (D1387 : Snap), Env a 54 [] [(2, .pointer (some ⟨b971, 0, none⟩)), (4, .pointer (some ⟨b1013, 0, none⟩))] ∧ Stp g w0 D0 [] w D1387 [bx b971 23 (acells .u8 32 ((Vector.replicate 32 (0 : Int)))), bx b1013 94 (acells .u32 8 (z1386))] ∧ Snap.le D1286 D1387 ∧ z1386 = s1389) (fun k a w => ∃ (y1340 : Int × (Vector Int 8)), ∃ (D1341 : Snap), Env a 54 [] [(2, .pointer (some ⟨b971, 0, none⟩)), (3, .slice A1001 (List.length (l999)) c1002), (4, .pointer (some ⟨b1013, 0, none⟩)), (5, .int .i64 (y1340.1))] ∧ Stp g w0 D0 [] w D1341 [bx b971 23 (acells .u8 32 ((Vector.replicate 32 (0 : Int)))), bx b1013 94 (acells .u32 8 (y1340.2)), q1289] ∧ Snap.le D1286 D1341 ∧ inspeximusref01_Sum_l1.l K l999 k y1340 = some s1389) K ?_ ?_ ?_
 ·exact ⟨((0 : Int), gl_First), D1286, hE.weak (by kernel_rfl), hS, Snap.le.refl _, hf⟩
 ·clear hE hS hf
  rintro a w ⟨z1386, D1387, hE, hS, le1388, rfl⟩
  have hf := hs1390
  clear hs1390
  refine wpIn_seq ?_
  refine region_at ?_
  refine at_op (op_alloc (z := .agg (List.toArray (acells .u8 32 ((Vector.replicate 32 (0 : Int)))))) rfl rfl rfl rfl hE rfl hS (by kernel_rfl) (fun a b1431 w _ hE hS => ?_)) rfl
  refine at_end rfl ?_
  refine wpIn_seq ?_
  refine wpIn_seq ?_
  refine region_at ?_
  refine sN 1 1 [(7, .int .i64 ((0 : Int)))] hE (fun a hE => ?_)
  refine at_end rfl ?_
  obtain ⟨s1857, hf, hs1858⟩ := bind_some hf
  have hS := hS.pk (.c 1 rfl (.c 2 rfl (.c 0 rfl .n))) rfl
  refine block_loop (fun a w => ∃ (z1854 : (Vector Int 32)), ∃ (D1855 : Snap), Env a 54 [] [(2, .pointer (some ⟨b971, 0, none⟩)), (6, .pointer (some ⟨b1431, 0, none⟩))] ∧ Stp g w0 D0 [] w D1855 [bx b971 23 (acells .u8 32 ((Vector.replicate 32 (0 : Int)))), bx b1431 23 (acells .u8 32 (z1854))] ∧ Snap.le D1387 D1855 ∧ z1854 = s1857) (fun k a w => ∃ (y1770 : Int × (Vector Int 32)), ∃ (D1771 : Snap), Env a 54 [] [(2, .pointer (some ⟨b971, 0, none⟩)), (4, .pointer (some ⟨b1013, 0, none⟩)), (6, .pointer (some ⟨b1431, 0, none⟩)), (7, .int .i64 (y1770.1))] ∧ Stp g w0 D0 [] w D1771 [bx b971 23 (acells .u8 32 ((Vector.replicate 32 (0 : Int)))), bx b1013 94 (acells .u32 8 (z1386)), bx b1431 23 (acells .u8 32 (y1770.2))] ∧ Snap.le D1387 D1771 ∧ inspeximusref01_Sum_l2.l K z1386 k y1770 = some s1857) K ?_ ?_ ?_
  ·exact ⟨((0 : Int), (Vector.replicate 32 (0 : Int))), D1387, hE.weak (by kernel_rfl), hS, Snap.le.refl _, hf⟩
  ·clear hE hS hf
   rintro a w ⟨z1854, D1855, hE, hS, le1856, rfl⟩
   have hf := hs1858
   clear hs1858
   refine wpIn_seq ?_
   refine region_at ?_
   refine aL 1 (.agg (List.toArray (acells .u8 32 (z1854)))) hE hS (fun a hE => ?_)
   refine at_op (op_store (v := .agg (List.toArray (acells .u8 32 (z1854)))) (acells .u8 32 (z1854)) rfl rfl rfl rfl hE hS rfl rfl (by kernel_rfl) (by kernel_rfl) (by kernel_rfl) (by kernel_rfl) (by kernel_rfl) (fun a w _ hE hS => ?_)) rfl
   refine at_end rfl ?_
   refine wpIn_ret ?_
   obtain rfl := Option.some.inj hf
   repeat (with_reducible first | refine then_ret ?_ | refine block_ret ?_ | refine qx_ret ?_)
   refine ret_gen ([.agg (List.toArray (acells .u8 32 (z1854)))]) hE (by rw [show Tryd.f64.results.toList = [.cell 2 23] from rfl]; exact ⟨_, _, _, 0, _, _, rfl, rfl, hS.heapAt (j := 0) rfl, by kernel_rfl, rfl⟩) ?_
   have hS := hS.pk .n rfl
   exact ⟨_, rfl, D1855, rfl, hS⟩
  ·clear hE hS hf
   rintro k a w ⟨y1770, D1771, hE, hS, le1772, hf⟩
   obtain ⟨k, rfl, hf⟩ := inspeximusref01_Sum_l2.some _ hf
   refine ⟨k, rfl, ?_⟩
   unfold inspeximusref01_Sum_l2.b at hf
   refine wpIn_seq ?_
   refine wpIn_seq ?_
   refine region_at ?_
   refine sN 2 2 [(33, .bool ((decide (y1770.1 < (8 : Int)))))] hE (fun a hE => ?_)
   refine at_end rfl ?_
   refine cond_split hE (b := (decide (y1770.1 < (8 : Int)))) rfl (fun hb => ?_) (fun hb => ?_)
   ·replace hf := cond_t hb hf
    clear hb
    refine wpIn_skip ?_
    refine wpIn_seq ?_
    refine wpIn_block ?_
    refine wpIn_seq ?_
    refine region_at ?_
    refine sN 1 1 [(36, .int .i64 (y1770.1))] hE (fun a hE => ?_)
    obtain ⟨hm1898, hf⟩ := chk_some hf
    refine at_op (op_tk hE (tk_indexPA (N := 8) (k := .u32) (m := y1770.1) rfl rfl rfl rfl hE rfl rfl rfl (by kernel_rfl) hm1898 (fun a hE => ?_))) rfl
    refine at_op (op_tk hE (tk_loadPA 1 (N := 8) (k := .u32) (v := z1386) (m := y1770.1) rfl rfl rfl rfl hE rfl hS rfl rfl (by kernel_rfl) hm1898 (kL (j := 1) hS rfl List.not_mem_nil) (fun a hE => ?_))) rfl
    refine sN 1 4 [(8, .int .u32 ((vget (z1386) (Int.toNat (y1770.1)))))] hE (fun a hE => ?_)
    refine at_end rfl ?_
    refine wpIn_seq ?_
    refine region_at ?_
    refine sN 1 1 [(9, .int .i64 ((3 : Int)))] hE (fun a hE => ?_)
    refine at_end rfl ?_
    obtain ⟨s1929, hf, hs1930⟩ := bind_some hf
    refine block_loop (fun a w => ∃ (z1926 : (Vector Int 32)), ∃ (D1927 : Snap), Env a 54 [] [(2, .pointer (some ⟨b971, 0, none⟩)), (4, .pointer (some ⟨b1013, 0, none⟩)), (6, .pointer (some ⟨b1431, 0, none⟩)), (7, .int .i64 (y1770.1))] ∧ Stp g w0 D0 [] w D1927 [bx b971 23 (acells .u8 32 ((Vector.replicate 32 (0 : Int)))), bx b1013 94 (acells .u32 8 (z1386)), bx b1431 23 (acells .u8 32 (z1926))] ∧ Snap.le D1771 D1927 ∧ z1926 = s1929) (fun k a w => ∃ (y1914 : Int × Int × (Vector Int 32)), ∃ (D1915 : Snap), Env a 54 [] [(2, .pointer (some ⟨b971, 0, none⟩)), (4, .pointer (some ⟨b1013, 0, none⟩)), (6, .pointer (some ⟨b1431, 0, none⟩)), (7, .int .i64 (y1770.1)), (8, .int .u32 (y1914.1)), (9, .int .i64 (y1914.2.1))] ∧ Stp g w0 D0 [] w D1915 [bx b971 23 (acells .u8 32 ((Vector.replicate 32 (0 : Int)))), bx b1013 94 (acells .u32 8 (z1386)), bx b1431 23 (acells .u8 32 (y1914.2.2))] ∧ Snap.le D1771 D1915 ∧ inspeximusref01_Sum_l3.l K y1770 k y1914 = some s1929) K ?_ ?_ ?_
    ·exact ⟨((vget (z1386) (Int.toNat (y1770.1))), (3 : Int), y1770.2), D1771, hE.weak (by kernel_rfl), hS, Snap.le.refl _, hf⟩
    ·clear hE hS hf
     rintro a w ⟨z1926, D1927, hE, hS, le1928, rfl⟩
     have hf := hs1930
     clear hs1930
     refine region_at ?_
     refine sN 3 3 [(7, .int .i64 ((IntKind.wrap .i64 (y1770.1 + (1 : Int)))))] hE (fun a hE => ?_)
     refine at_end rfl ?_
     exact ⟨((IntKind.wrap .i64 (y1770.1 + (1 : Int))), z1926), D1927, hE.weak (by kernel_rfl), hS, (le2 le1772 le1928), hf⟩
    ·clear hE hS hf
     rintro k a w ⟨y1914, D1915, hE, hS, le1916, hf⟩
     obtain ⟨k, rfl, hf⟩ := inspeximusref01_Sum_l3.some _ hf
     refine ⟨k, rfl, ?_⟩
     unfold inspeximusref01_Sum_l3.b at hf
     refine wpIn_seq ?_
     refine wpIn_seq ?_
     refine region_at ?_
     refine sN 2 2 [(40, .bool ((decide ((0 : Int) ≤ y1914.2.1))))] hE (fun a hE => ?_)
     refine at_end rfl ?_
     refine cond_split hE (b := (decide ((0 : Int) ≤ y1914.2.1))) rfl (fun hb => ?_) (fun hb => ?_)
     ·replace hf := cond_t hb hf
      clear hb
      refine wpIn_skip ?_
      refine wpIn_seq ?_
      refine wpIn_block ?_
      refine wpIn_seq ?_
      refine region_at ?_
      refine sN 7 7 [(46, .int .i64 ((IntKind.wrap .i64 ((IntKind.wrap .i64 ((4 : Int) * y1770.1)) + y1914.2.1)))), (49, .int .u8 ((IntKind.wrap .u8 (Int.tmod y1914.1 256))))] hE (fun a hE => ?_)
      obtain ⟨hm1934, hf⟩ := chk_some hf
      refine at_op (op_tk hE (tk_indexPA (N := 32) (k := .u8) (m := (IntKind.wrap .i64 ((IntKind.wrap .i64 ((4 : Int) * y1770.1)) + y1914.2.1))) rfl rfl rfl rfl hE rfl rfl rfl (by kernel_rfl) hm1934 (fun a hE => ?_))) rfl
      have hS := hS.pk (.c 2 rfl (.c 0 rfl (.c 1 rfl .n))) rfl
      obtain ⟨v1935, hv1936, hf⟩ := bind_some hf
      replace hv1936 := Option.some.inj hv1936
      refine at_op (op_storePA (N := 32) (k := .u8) (v := y1914.2.2) (m := (IntKind.wrap .i64 ((IntKind.wrap .i64 ((4 : Int) * y1770.1)) + y1914.2.1))) (z := (IntKind.wrap .u8 (Int.tmod y1914.1 256))) rfl rfl rfl rfl hE hS rfl rfl (by kernel_rfl) hm1934 (fun a w _ hE hS => ?_)) rfl
      rw [hv1936] at hS
      refine at_end rfl ?_
      refine region_at ?_
      refine sN 3 3 [(8, .int .u32 ((IntKind.wrap .u32 (Int.tdiv y1914.1 256))))] hE (fun a hE => ?_)
      refine at_end rfl ?_
      refine region_at ?_
      refine sN 3 3 [(9, .int .i64 ((IntKind.wrap .i64 (y1914.2.1 - (1 : Int)))))] hE (fun a hE => ?_)
      refine at_end rfl ?_
      have hS := hS.pk (.c 1 rfl (.c 2 rfl (.c 0 rfl .n))) rfl
      exact ⟨((IntKind.wrap .u32 (Int.tdiv y1914.1 256)), (IntKind.wrap .i64 (y1914.2.1 - (1 : Int))), v1935), D1915, hE.weak (by kernel_rfl), hS, le1916, hf⟩
     ·replace hf := cond_f hb hf
      clear hb
      refine wpIn_exit ?_
      obtain rfl := Option.some.inj hf
      exact ⟨y1914.2.2, D1915, hE.weak (by kernel_rfl), hS, le1916, rfl⟩
   ·replace hf := cond_f hb hf
    clear hb
    refine wpIn_exit ?_
    obtain rfl := Option.some.inj hf
    have hS := hS.pk (.c 0 rfl (.c 2 rfl .n)) rfl
    exact ⟨y1770.2, D1771, hE.weak (by kernel_rfl), hS, le1772, rfl⟩
 ·clear hE hS hf
  rintro k a w ⟨y1340, D1341, hE, hS, le1342, hf⟩
  obtain ⟨k, rfl, hf⟩ := inspeximusref01_Sum_l1.some _ hf
  refine ⟨k, rfl, ?_⟩
  unfold inspeximusref01_Sum_l1.b at hf
  refine wpIn_seq ?_
  refine wpIn_seq ?_
  refine region_at ?_
  refine sN 5 5 [(22, .bool ((decide ((IntKind.wrap .i64 (y1340.1 + (64 : Int))) ≤ ((List.length (l999) : Nat) : Int)))))] hE (fun a hE => ?_)
  refine at_end rfl ?_
  refine cond_split hE (b := (decide ((IntKind.wrap .i64 (y1340.1 + (64 : Int))) ≤ ((List.length (l999) : Nat) : Int)))) rfl (fun hb => ?_) (fun hb => ?_)
  ·replace hf := cond_t hb hf
   clear hb
   refine wpIn_skip ?_
   refine wpIn_seq ?_
   refine wpIn_block ?_
   refine region_draw (fun j => Keeps (mfOf [(7, [b1013])] j)) (by kernel_rfl) ?_
   have hS := hS.drew
   first | generalize w.drew = w at hS ⊢ | generalize w0.drew = w at hS ⊢
   refine wP 1 2 7 (.slice A1001 (List.length (l999)) c1002) hE (fun a hE => ?_)
   refine wP 2 6 6 (.int .i64 (y1340.1)) hE (fun a hE => ?_)
   refine wP 3 14 5 (.int .i64 (y1340.1)) hE (fun a hE => ?_)
   refine wP 4 30 4 (.int .i64 ((IntKind.wrap .i64 (y1340.1 + (64 : Int))))) hE (fun a hE => ?_)
   refine tT 0 31 (fuel := 3) (by kernel_rfl) hE (tk_load 1 (.agg (List.toArray (acells .u32 8 (y1340.2)))) rfl rfl rfl rfl hE rfl hS rfl rfl (by kernel_rfl) (kL (j := 1) hS rfl List.not_mem_nil) (fun a hE => ?_))
   obtain ⟨l1421, h1422, hf⟩ := bind_some hf
   refine tW 5 63 (fuel := 2) (by kernel_rfl) hE (fun M => g_slice (K := (kdInt .u8)) (e := 5) (by_ := 1) (zl := 1) rfl rfl rfl rfl hE rfl rfl (by kernel_rfl) ⟨_, rfl⟩ ⟨_, rfl⟩ (h1288.mono le1342) h1422 (fun a A1423 c1424 hE h1425 => ?_))
   obtain ⟨r1426, h1427, hf⟩ := bind_some hf
   refine oG 6 127 (fuel := 1) (by kernel_rfl) (op_call rfl rfl rfl rfl hE rfl rfl rfl rfl (by kernel_rfl) (inspeximusref01_Turn.calls (g := g) h1427 (hS.st.fore (L := [])) h1425 (hG1.mono (le2 (le2 (le2 le993 le995) le1287) le1342))) (fun a v w hR hE => ?_))
   obtain ⟨D1428, rfl, hS1⟩ := hR
   refine ⟨(hS1.keeps.sub (M' := []) trivial).mono (fun _ h => h), ?_⟩
   have le1430 := hS1.dle
   have hS := hS.callR hS1 rfl .n
   clear hS1
   have hS := hS.pk (.c 1 rfl (.c 0 rfl (.c 2 rfl .n))) rfl
   refine oG 7 255 (fuel := 0) (by kernel_rfl) (op_store (v := .agg (List.toArray (acells .u32 8 (r1426)))) (acells .u32 8 (r1426)) rfl rfl rfl rfl hE hS rfl rfl (by kernel_rfl) (by kernel_rfl) (by kernel_rfl) (by kernel_rfl) (by kernel_rfl) (fun a w hkp hE hS => ⟨hkp.mono (fun _ h => h), ?_⟩))
   clear hkp
   refine doneG (by kernel_rfl) ?_
   refine region_at ?_
   refine sN 3 3 [(5, .int .i64 ((IntKind.wrap .i64 (y1340.1 + (64 : Int)))))] hE (fun a hE => ?_)
   refine at_end rfl ?_
   have hS := hS.pk (.c 1 rfl (.c 0 rfl (.c 2 rfl .n))) rfl
   exact ⟨((IntKind.wrap .i64 (y1340.1 + (64 : Int))), r1426), D1428, hE.weak (by kernel_rfl), hS, (le2 le1342 le1430), hf⟩
  ·replace hf := cond_f hb hf
   clear hb
   refine wpIn_exit ?_
   obtain rfl := Option.some.inj hf
   have hS := hS.pk (.c 0 rfl (.c 1 rfl .n)) rfl
   exact ⟨y1340.2, D1341, hE.weak (by kernel_rfl), hS, le1342, rfl⟩
set_option maxRecDepth 100000 in
set_option maxHeartbeats 4000000 in
theorem inspeximusref02_Of.calls {K : Nat} {g w0 : World} {D0 : Snap} {x1 : Int} {x2 : (List (List Int))} {A3 : Option Addr} {c4 : Nat} {r : ((Vector Int 32))} (hf : inspeximusref02_Of.f K x1 x2 = some r) (hS0 : St g w0 D0 []) (h5 : Sl (kdSlice (kdInt .u8)) D0 A3 c4 (x2)) (hG0 : Cell (kdArr .u32 8) D0 0 0 gl_First) (hG1 : Cell (kdArr .u32 64) D0 1 0 gl_K) :
  CallsIn (Fw none) 0 Tryd.prog 32 (List.toArray [.int .i64 (x1), .slice A3 (List.length (x2)) c4]) w0 (fun e w' => ∃ v, e = .returned v ∧ ∃ (D1 : Snap), v = .agg (List.toArray (acells .u8 32 (r))) ∧ Stp g w0 D0 [] w' D1 []) := by
 unfold inspeximusref02_Of.f at hf
 have hS := Stp.refl hS0
 clear hS0
 refine calls_body (n := 9) Tryd.func32 rfl Tryd.ntmps32 rfl (fun a hE => ?_)
 have hE : Env a 9 [] [(0, .int .i64 (x1)), (1, .slice A3 (List.length (x2)) c4)] := hE
 refine wpIn_seq ?_
 refine region_at ?_
 refine at_op (op_alloc (z := .agg (List.toArray (acells .u8 32 ((Vector.replicate 32 (0 : Int)))))) rfl rfl rfl rfl hE rfl hS (by kernel_rfl) (fun a b28 w _ hE hS => ?_)) rfl
 refine at_end rfl ?_
 refine wpIn_seq ?_
 refine region_at ?_
 refine sN 2 2 [(5, .int .i64 (x1)), (6, .slice A3 (List.length (x2)) c4)] hE (fun a hE => ?_)
 obtain ⟨r30, h31, hf⟩ := bind_some hf
 refine aC rfl rfl rfl rfl hE rfl rfl rfl rfl (inspeximusref02_Text.calls (g := g) h31 (hS.st.fore (L := [])) h5) (fun a v w hR hE => ?_)
 obtain ⟨D32, A34, c35, q36, rfl, hS1, h37⟩ := hR
 have le39 := hS1.dle
 have hS := hS.callR hS1 rfl (.c .n)
 clear hS1
 obtain ⟨D40, q43, le41, hS, h44, h42⟩ := hS.lent h37
 obtain ⟨r45, h46, hf⟩ := bind_some hf
 refine aC rfl rfl rfl rfl hE rfl rfl rfl rfl (inspeximusref01_Sum.calls (g := g) h46 (hS.st.fore (L := [])) h42 (hG0.mono (le2 le39 le41)) (hG1.mono (le2 le39 le41))) (fun a v w hR hE => ?_)
 obtain ⟨D47, rfl, hS1⟩ := hR
 have le49 := hS1.dle
 have hS := hS.callR hS1 rfl .n
 clear hS1
 have hS := hS.pk (.c 1 rfl (.c 0 rfl .n)) rfl
 refine at_op (op_store (v := .agg (List.toArray (acells .u8 32 (r45)))) (acells .u8 32 (r45)) rfl rfl rfl rfl hE hS rfl rfl (by kernel_rfl) (by kernel_rfl) (by kernel_rfl) (by kernel_rfl) (by kernel_rfl) (fun a w _ hE hS => ?_)) rfl
 refine at_end rfl ?_
 refine wpIn_ret ?_
 obtain rfl := Option.some.inj hf
 repeat (with_reducible first | refine then_ret ?_ | refine block_ret ?_ | refine qx_ret ?_)
 refine ret_gen ([.agg (List.toArray (acells .u8 32 (r45)))]) hE (by rw [show Tryd.f32.results.toList = [.cell 4 23] from rfl]; exact ⟨_, _, _, 0, _, _, rfl, rfl, hS.heapAt (j := 0) rfl, by kernel_rfl, rfl⟩) ?_
 have hS := hS.pk .n rfl
 exact ⟨_, rfl, D47, rfl, hS⟩
set_option maxRecDepth 100000 in
set_option maxHeartbeats 4000000 in
theorem inspeximusref04_Com.calls {K : Nat} {g w0 : World} {D0 : Snap} {x1 : T_api_Rec} {A2 : Option Addr} {c3 : Nat} {A5 : Option Addr} {c6 : Nat} {r : ((Vector Int 32))} (hf : inspeximusref04_Com.f K x1 = some r) (hS0 : St g w0 D0 []) (h4 : Sl kd_T_api_Step D0 A2 c3 (x1.fSteps)) (h7 : Sl (kdInt .u8) D0 A5 c6 (x1.fData)) (hG0 : Cell (kdArr .u32 8) D0 0 0 gl_First) (hG1 : Cell (kdArr .u32 64) D0 1 0 gl_K) :
  CallsIn (Fw none) 0 Tryd.prog 14 (List.toArray [.agg (List.toArray (c_T_api_Rec (x1) A2 c3 A5 c6))]) w0 (fun e w' => ∃ v, e = .returned v ∧ ∃ (D1 : Snap), v = .agg (List.toArray (acells .u8 32 (r))) ∧ Stp g w0 D0 [] w' D1 []) := by
 unfold inspeximusref04_Com.f at hf
 have hS := Stp.refl hS0
 clear hS0
 refine calls_body (n := 22) Tryd.func14 rfl Tryd.ntmps14 rfl (fun a hE => ?_)
 have hE : Env a 22 [] [(0, .agg (List.toArray (c_T_api_Rec (x1) A2 c3 A5 c6)))] := hE
 refine wpIn_seq ?_
 refine region_at ?_
 refine at_op (op_box rfl rfl rfl rfl hE rfl hS rfl (fun a b114 w _ hE hS => ?_)) rfl
 refine at_op (op_alloc (z := .agg (List.toArray (acells .u8 32 ((Vector.replicate 32 (0 : Int)))))) rfl rfl rfl rfl hE rfl hS (by kernel_rfl) (fun a b116 w _ hE hS => ?_)) rfl
 refine at_end rfl ?_
 refine wpIn_seq ?_
 obtain ⟨j213, hj214, hf⟩ := jn_elim hf
 refine seq_join (fun a w => ∃ (y138 : Bool), ∃ (D139 : Snap), Env a 22 [] [(1, .pointer (some ⟨b114, 0, none⟩)), (2, .pointer (some ⟨b116, 0, none⟩)), (10, .bool (y138))] ∧ Stp g w0 D0 [] w D139 [bx b114 27 (c_T_api_Rec (x1) A2 c3 A5 c6), bx b116 23 (acells .u8 32 ((Vector.replicate 32 (0 : Int))))] ∧ Snap.le D0 D139 ∧ j213 y138 = some r) ?_ ?_
 ·clear hj214
  refine region_at ?_
  refine aL 1 (.agg (List.toArray (c_T_api_Rec (x1) A2 c3 A5 c6))) hE hS (fun a hE => ?_)
  obtain ⟨r215, h216, hf⟩ := bind_some hf
  refine aC rfl rfl rfl rfl hE rfl rfl rfl rfl (inspeximusref04_Right.calls (g := g) h216 (hS.st.fore (L := [])) h4 h7) (fun a v w hR hE => ?_)
  obtain ⟨D217, rfl, hS1⟩ := hR
  have le219 := hS1.dle
  have hS := hS.callR hS1 rfl .n
  clear hS1
  refine sN 2 4 [(6, .bool ((!r215)))] hE (fun a hE => ?_)
  refine Or.elim (Bool.eq_false_or_eq_true ((!r215))).symm (fun hb => ?_) (fun hb => ?_)
  ·replace hf := cond_f hb hf
   have hE := hE.know (t := 6) (b := (!r215)) (b' := false) rfl hb
   clear hb
   refine aF 0 3 0 hE (fun a hE => ?_)
   refine aL 1 (.int .i64 (x1.fKind)) hE hS (fun a hE => ?_)
   refine sN 2 8 [(10, .bool ((!decide (x1.fKind = (1 : Int)))))] hE (fun a hE => ?_)
   refine at_end rfl ?_
   have hS := hS.pk (.c 1 rfl (.c 0 rfl .n)) rfl
   exact ⟨(!decide (x1.fKind = (1 : Int))), D217, hE.weak (by kernel_rfl), hS, le219, hf⟩
  ·replace hf := cond_t hb hf
   have hE := hE.know (t := 6) (b := (!r215)) (b' := true) rfl hb
   clear hb
   refine sN 4 8 [(10, .bool true)] hE (fun a hE => ?_)
   refine at_end rfl ?_
   have hS := hS.pk (.c 1 rfl (.c 0 rfl .n)) rfl
   exact ⟨true, D217, hE.weak (by kernel_rfl), hS, le219, hf⟩
 ·clear hE hS
  rintro a w ⟨y138, D139, hE, hS, le140, hf⟩
  replace hf := hj214 _ hf
  clear hj214
  refine cond_split hE (b := y138) rfl (fun hb => ?_) (fun hb => ?_)
  ·replace hf := cond_t hb hf
   clear hb
   refine wpIn_seq ?_
   refine region_at ?_
   refine at_op (op_tk hE (tk_build (acells .u8 32 ((vofL 32 [(0 : Int), (0 : Int), (0 : Int), (0 : Int), (0 : Int), (0 : Int), (0 : Int), (0 : Int), (0 : Int), (0 : Int), (0 : Int), (0 : Int), (0 : Int), (0 : Int), (0 : Int), (0 : Int), (0 : Int), (0 : Int), (0 : Int), (0 : Int), (0 : Int), (0 : Int), (0 : Int), (0 : Int), (0 : Int), (0 : Int), (0 : Int), (0 : Int), (0 : Int), (0 : Int), (0 : Int), (0 : Int)]))) rfl rfl rfl rfl hE rfl rfl (by kernel_rfl) (fun a hE => ?_))) rfl
   have hS := hS.pk (.c 1 rfl (.c 0 rfl .n)) rfl
   refine at_op (op_store (v := .agg (List.toArray (acells .u8 32 ((vofL 32 [(0 : Int), (0 : Int), (0 : Int), (0 : Int), (0 : Int), (0 : Int), (0 : Int), (0 : Int), (0 : Int), (0 : Int), (0 : Int), (0 : Int), (0 : Int), (0 : Int), (0 : Int), (0 : Int), (0 : Int), (0 : Int), (0 : Int), (0 : Int), (0 : Int), (0 : Int), (0 : Int), (0 : Int), (0 : Int), (0 : Int), (0 : Int), (0 : Int), (0 : Int), (0 : Int), (0 : Int), (0 : Int)]))))) (acells .u8 32 ((vofL 32 [(0 : Int), (0 : Int), (0 : Int), (0 : Int), (0 : Int), (0 : Int), (0 : Int), (0 : Int), (0 : Int), (0 : Int), (0 : Int), (0 : Int), (0 : Int), (0 : Int), (0 : Int), (0 : Int), (0 : Int), (0 : Int), (0 : Int), (0 : Int), (0 : Int), (0 : Int), (0 : Int), (0 : Int), (0 : Int), (0 : Int), (0 : Int), (0 : Int), (0 : Int), (0 : Int), (0 : Int), (0 : Int)]))) rfl rfl rfl rfl hE hS rfl rfl (by kernel_rfl) (by kernel_rfl) (by kernel_rfl) (by kernel_rfl) (by kernel_rfl) (fun a w _ hE hS => ?_)) rfl
   refine at_end rfl ?_
   refine wpIn_ret ?_
   obtain rfl := Option.some.inj hf
   repeat (with_reducible first | refine then_ret ?_ | refine block_ret ?_ | refine qx_ret ?_)
   refine ret_gen ([.agg (List.toArray (acells .u8 32 ((vofL 32 [(0 : Int), (0 : Int), (0 : Int), (0 : Int), (0 : Int), (0 : Int), (0 : Int), (0 : Int), (0 : Int), (0 : Int), (0 : Int), (0 : Int), (0 : Int), (0 : Int), (0 : Int), (0 : Int), (0 : Int), (0 : Int), (0 : Int), (0 : Int), (0 : Int), (0 : Int), (0 : Int), (0 : Int), (0 : Int), (0 : Int), (0 : Int), (0 : Int), (0 : Int), (0 : Int), (0 : Int), (0 : Int)]))))]) hE (by rw [show Tryd.f14.results.toList = [.cell 2 23] from rfl]; exact ⟨_, _, _, 0, _, _, rfl, rfl, hS.heapAt (j := 0) rfl, by kernel_rfl, rfl⟩) ?_
   have hS := hS.pk .n rfl
   exact ⟨_, rfl, D139, rfl, hS⟩
  ·replace hf := cond_f hb hf
   clear hb
   refine wpIn_skip ?_
   refine wpIn_seq ?_
   refine wpIn_seq ?_
   refine region_at ?_
   refine aF 76 4 76 hE (fun a hE => ?_)
   refine aL 0 (.bool (x1.fGone)) hE hS (fun a hE => ?_)
   refine at_end rfl ?_
   refine cond_split hE (b := x1.fGone) rfl (fun hb => ?_) (fun hb => ?_)
   ·replace hf := cond_t hb hf
    clear hb
    refine wpIn_seq ?_
    refine region_at ?_
    refine aF 77 23 77 hE (fun a hE => ?_)
    refine aL 0 (.agg (List.toArray (acells .u8 32 (x1.fCom)))) hE hS (fun a hE => ?_)
    have hS := hS.pk (.c 1 rfl (.c 0 rfl .n)) rfl
    refine at_op (op_store (v := .agg (List.toArray (acells .u8 32 (x1.fCom)))) (acells .u8 32 (x1.fCom)) rfl rfl rfl rfl hE hS rfl rfl (by kernel_rfl) (by kernel_rfl) (by kernel_rfl) (by kernel_rfl) (by kernel_rfl) (fun a w _ hE hS => ?_)) rfl
    refine at_end rfl ?_
    refine wpIn_ret ?_
    obtain rfl := Option.some.inj hf
    repeat (with_reducible first | refine then_ret ?_ | refine block_ret ?_ | refine qx_ret ?_)
    refine ret_gen ([.agg (List.toArray (acells .u8 32 (x1.fCom)))]) hE (by rw [show Tryd.f14.results.toList = [.cell 2 23] from rfl]; exact ⟨_, _, _, 0, _, _, rfl, rfl, hS.heapAt (j := 0) rfl, by kernel_rfl, rfl⟩) ?_
    have hS := hS.pk .n rfl
    exact ⟨_, rfl, D139, rfl, hS⟩
   ·replace hf := cond_f hb hf
    clear hb
    refine wpIn_skip ?_
    refine wpIn_seq ?_
    refine region_draw (fun j => Keeps (mfOf [(6, [b116])] j)) (by kernel_rfl) ?_
    have hS := hS.drew
    first | generalize w.drew = w at hS ⊢ | generalize w0.drew = w at hS ⊢
    refine wF 0 1 6 44 23 44 hE (fun a hE => ?_)
    obtain ⟨D177, le178, e179, hS⟩ := hS.freezeB
    have hc180 : Cell kd_T_api_Rec D177 b114 0 (x1) := ⟨c_T_api_Rec (x1) A2 c3 A5 c6, _, _, _, (kd_T_api_Rec_mk (D := D177) (x := x1) rfl rfl rfl rfl rfl rfl rfl rfl rfl rfl rfl (kslice (h4.mono (le2 le140 le178))) (kslice (h7.mono (le2 le140 le178))) rfl rfl rfl), e179, fun j u hu => by show (List.toArray (c_T_api_Rec (x1) A2 c3 A5 c6))[0 + j]? = some u; simpa using hu⟩
    obtain ⟨l181, h182, hf⟩ := bind_some hf
    refine tW 1 3 (fuel := 5) (by kernel_rfl) hE (fun M => tk_sliceArrAt (kk := .u8) (e := 5) (v := x1.fSalt) (off := 44) (cs := c_T_api_Rec (x1) A2 c3 A5 c6) rfl rfl rfl rfl hE rfl rfl (by kernel_rfl) rfl rfl e179 (by kernel_rfl) rfl h182 (fun a A183 c184 hE h185 => ?_))
    refine tW 2 7 (fuel := 4) (by kernel_rfl) hE (fun M => g_fieldAddr (fo := 43) (ft := 25) (0 + 43) rfl rfl rfl rfl hE rfl rfl (by kernel_rfl) rfl (fun a hE => ?_))
    obtain ⟨cs186, C187, T188, fr189, hr190, hb191, hc192⟩ := hc180
    obtain ⟨A193, c194, A196, c197, rfl, h195, h198⟩ := kd_T_api_Rec_el hr190
    refine tT 3 15 (fuel := 3) (by kernel_rfl) hE (tk_loadX (off0 := 0) (off := 43) (c := c_T_api_Rec (x1) A193 c194 A196 c197) (.slice A196 (List.length (x1.fData)) c197) rfl rfl rfl rfl hE rfl hS rfl hb191 hc192 (by kernel_rfl) (by kernel_rfl) (kD hS dn_nil) (fun a hE => ?_))
    refine oG 4 31 (fuel := 2) (by kernel_rfl) (op_buildSlice (K := (kdSlice (kdInt .u8))) (e := 25) (cs := [.slice A183 (List.length (l181)) c184] ++ ([.slice A196 (List.length (x1.fData)) c197] ++ [])) ([l181, x1.fData] : List (List Int)) rfl rfl rfl rfl hE rfl hS rfl (by kernel_rfl) rfl rfl (by exact (show RL (kdSlice (kdInt .u8)) D177 ([l181, x1.fData] : List (List Int)) ([.slice A183 (List.length (l181)) c184] ++ ([.slice A196 (List.length (x1.fData)) c197] ++ [])) from ⟨_, _, rfl, (kslice h185), ⟨_, _, rfl, (kslice h198), rfl⟩⟩)) (fun a A199 q200 w hkp hE h201 hS => ⟨hkp.mono (fun _ h => absurd h List.not_mem_nil), ?_⟩))
    clear hkp
    obtain ⟨D203, q206, le204, hS, h207, h205⟩ := hS.lent h201
    obtain ⟨r208, h209, hf⟩ := bind_some hf
    refine oG 5 63 (fuel := 1) (by kernel_rfl) (op_call rfl rfl rfl rfl hE rfl rfl rfl rfl (by kernel_rfl) (inspeximusref02_Of.calls (g := g) h209 (hS.st.fore (L := [])) h205 (hG0.mono (le2 (le2 le140 le178) le204)) (hG1.mono (le2 (le2 le140 le178) le204))) (fun a v w hR hE => ?_))
    obtain ⟨D210, rfl, hS1⟩ := hR
    refine ⟨(hS1.keeps.sub (M' := []) trivial).mono (fun _ h => h), ?_⟩
    have le212 := hS1.dle
    have hS := hS.callR hS1 rfl .n
    clear hS1
    have hS := hS.pk (.c 1 rfl (.c 0 rfl .n)) rfl
    refine oG 6 127 (fuel := 0) (by kernel_rfl) (op_store (v := .agg (List.toArray (acells .u8 32 (r208)))) (acells .u8 32 (r208)) rfl rfl rfl rfl hE hS rfl rfl (by kernel_rfl) (by kernel_rfl) (by kernel_rfl) (by kernel_rfl) (by kernel_rfl) (fun a w hkp hE hS => ⟨hkp.mono (fun _ h => h), ?_⟩))
    clear hkp
    refine doneG (by kernel_rfl) ?_
    refine wpIn_ret ?_
    obtain rfl := Option.some.inj hf
    repeat (with_reducible first | refine then_ret ?_ | refine block_ret ?_ | refine qx_ret ?_)
    refine ret_gen ([.agg (List.toArray (acells .u8 32 (r208)))]) hE (by rw [show Tryd.f14.results.toList = [.cell 2 23] from rfl]; exact ⟨_, _, _, 0, _, _, rfl, rfl, hS.heapAt (j := 0) rfl, by kernel_rfl, rfl⟩) ?_
    have hS := hS.pk .n rfl
    exact ⟨_, rfl, D210, rfl, hS⟩
set_option maxRecDepth 100000 in
set_option maxHeartbeats 4000000 in
theorem inspeximusref04_Redact.calls {K : Nat} {g w0 : World} {D0 : Snap} {x1 : T_api_Rec} {A2 : Option Addr} {c3 : Nat} {A5 : Option Addr} {c6 : Nat} {r : (T_api_Rec)} (hf : inspeximusref04_Redact.f K x1 = some r) (hS0 : St g w0 D0 []) (h4 : Sl kd_T_api_Step D0 A2 c3 (x1.fSteps)) (h7 : Sl (kdInt .u8) D0 A5 c6 (x1.fData)) (hG0 : Cell (kdArr .u32 8) D0 0 0 gl_First) (hG1 : Cell (kdArr .u32 64) D0 1 0 gl_K) :
  CallsIn (Fw none) 0 Tryd.prog 17 (List.toArray [.agg (List.toArray (c_T_api_Rec (x1) A2 c3 A5 c6))]) w0 (fun e w' => ∃ v, e = .returned v ∧ ∃ (D1 : Snap) (A83 : Option Addr) (c84 : Nat) (A86 : Option Addr) (c87 : Nat), v = .agg (List.toArray (c_T_api_Rec ((T_api_Rec.mk (r.fKind) (r.fSaga) (r.fSeq) (r.fStep) (r.fTry) (r.fBack) (r.fGood) (r.fEnd) (r.fPart) (r.fEpoch) (r.fTag) (r.fSteps) (r.fData) (r.fSalt) (r.fGone) (r.fCom))) A83 c84 A86 c87)) ∧ Stp g w0 D0 [] w' D1 [] ∧ Sl kd_T_api_Step D1 A83 c84 (r.fSteps) ∧ Sl (kdInt .u8) D1 A86 c87 (r.fData)) := by
 unfold inspeximusref04_Redact.f at hf
 have hS := Stp.refl hS0
 clear hS0
 refine calls_body (n := 18) Tryd.func17 rfl Tryd.ntmps17 rfl (fun a hE => ?_)
 have hE : Env a 18 [] [(0, .agg (List.toArray (c_T_api_Rec (x1) A2 c3 A5 c6)))] := hE
 refine wpIn_seq ?_
 refine region_at ?_
 refine at_op (op_box rfl rfl rfl rfl hE rfl hS rfl (fun a b89 w _ hE hS => ?_)) rfl
 refine at_op (op_alloc (z := .agg (List.toArray (c_T_api_Rec (z_T_api_Rec) none 0 none 0))) rfl rfl rfl rfl hE rfl hS (by kernel_rfl) (fun a b91 w _ hE hS => ?_)) rfl
 refine at_end rfl ?_
 refine wpIn_seq ?_
 obtain ⟨j157, hj158, hf⟩ := jn_elim hf
 refine seq_join (fun a w => ∃ (y132 : Bool), ∃ (D133 : Snap), Env a 18 [] [(1, .pointer (some ⟨b89, 0, none⟩)), (2, .pointer (some ⟨b91, 0, none⟩)), (9, .bool (y132))] ∧ Stp g w0 D0 [] w D133 [bx b89 27 (c_T_api_Rec (x1) A2 c3 A5 c6), bx b91 27 (c_T_api_Rec (z_T_api_Rec) none 0 none 0)] ∧ Snap.le D0 D133 ∧ j157 y132 = some r) ?_ ?_
 ·clear hj158
  refine region_at ?_
  refine aL 1 (.agg (List.toArray (c_T_api_Rec (x1) A2 c3 A5 c6))) hE hS (fun a hE => ?_)
  obtain ⟨r159, h160, hf⟩ := bind_some hf
  refine aC rfl rfl rfl rfl hE rfl rfl rfl rfl (inspeximusref04_Right.calls (g := g) h160 (hS.st.fore (L := [])) h4 h7) (fun a v w hR hE => ?_)
  obtain ⟨D161, rfl, hS1⟩ := hR
  have le163 := hS1.dle
  have hS := hS.callR hS1 rfl .n
  clear hS1
  refine sN 1 3 [(5, .bool (r159))] hE (fun a hE => ?_)
  refine Or.elim (Bool.eq_false_or_eq_true (r159)).symm (fun hb => ?_) (fun hb => ?_)
  ·replace hf := cond_f hb hf
   have hE := hE.know (t := 5) (b := r159) (b' := false) rfl hb
   clear hb
   refine sN 4 7 [(9, .bool false)] hE (fun a hE => ?_)
   refine at_end rfl ?_
   have hS := hS.pk (.c 1 rfl (.c 0 rfl .n)) rfl
   exact ⟨false, D161, hE.weak (by kernel_rfl), hS, le163, hf⟩
  ·replace hf := cond_t hb hf
   have hE := hE.know (t := 5) (b := r159) (b' := true) rfl hb
   clear hb
   refine aF 0 3 0 hE (fun a hE => ?_)
   refine aL 1 (.int .i64 (x1.fKind)) hE hS (fun a hE => ?_)
   refine sN 2 7 [(9, .bool ((decide (x1.fKind = (1 : Int)))))] hE (fun a hE => ?_)
   refine at_end rfl ?_
   have hS := hS.pk (.c 1 rfl (.c 0 rfl .n)) rfl
   exact ⟨(decide (x1.fKind = (1 : Int))), D161, hE.weak (by kernel_rfl), hS, le163, hf⟩
 ·clear hE hS
  rintro a w ⟨y132, D133, hE, hS, le134, hf⟩
  replace hf := hj158 _ hf
  clear hj158
  refine cond_split hE (b := y132) rfl (fun hb => ?_) (fun hb => ?_)
  ·replace hf := cond_t hb hf
   clear hb
   refine wpIn_seq ?_
   refine region_at ?_
   refine aL 0 (.agg (List.toArray (c_T_api_Rec (x1) A2 c3 A5 c6))) hE hS (fun a hE => ?_)
   obtain ⟨r135, h136, hf⟩ := bind_some hf
   refine aC rfl rfl rfl rfl hE rfl rfl rfl rfl (inspeximusref04_Com.calls (g := g) h136 (hS.st.fore (L := [])) (h4.mono le134) (h7.mono le134) (hG0.mono le134) (hG1.mono le134)) (fun a v w hR hE => ?_)
   obtain ⟨D137, rfl, hS1⟩ := hR
   have le139 := hS1.dle
   have hS := hS.callR hS1 rfl .n
   clear hS1
   refine aF 77 23 77 hE (fun a hE => ?_)
   obtain ⟨v140, hv141, hf⟩ := bind_some hf
   replace hv141 := Option.some.inj hv141
   refine at_op (op_store (v := .agg (List.toArray (acells .u8 32 (r135)))) (c_T_api_Rec (v140) A2 c3 A5 c6) rfl rfl rfl rfl hE hS rfl rfl (by kernel_rfl) (by kernel_rfl) (by kernel_rfl) (by kernel_rfl) (by rw [← hv141]; kernel_rfl) (fun a w _ hE hS => ?_)) rfl
   have h142 : Sl kd_T_api_Step D0 A2 c3 (v140.fSteps) := by rw [← hv141]; exact h4
   have h143 : Sl (kdInt .u8) D0 A5 c6 (v140.fData) := by rw [← hv141]; exact h7
   refine at_end rfl ?_
   refine wpIn_seq ?_
   refine region_at ?_
   refine aF 76 4 76 hE (fun a hE => ?_)
   obtain ⟨v144, hv145, hf⟩ := bind_some hf
   replace hv145 := Option.some.inj hv145
   refine at_op (op_store (v := .bool true) (c_T_api_Rec (v144) A2 c3 A5 c6) rfl rfl rfl rfl hE hS rfl rfl (by kernel_rfl) (by kernel_rfl) (by kernel_rfl) (by kernel_rfl) (by rw [← hv145]; kernel_rfl) (fun a w _ hE hS => ?_)) rfl
   have h146 : Sl kd_T_api_Step D0 A2 c3 (v144.fSteps) := by rw [← hv145]; exact h142
   have h147 : Sl (kdInt .u8) D0 A5 c6 (v144.fData) := by rw [← hv145]; exact h143
   refine at_end rfl ?_
   refine wpIn_seq ?_
   refine region_at ?_
   refine aF 43 25 43 hE (fun a hE => ?_)
   obtain ⟨v148, hv149, hf⟩ := bind_some hf
   replace hv149 := Option.some.inj hv149
   refine at_op (op_store (v := .slice none 0 0) (c_T_api_Rec ({ v148 with fData := ([] : List Int) }) A2 c3 none 0) rfl rfl rfl rfl hE hS rfl rfl (by kernel_rfl) (by kernel_rfl) (by kernel_rfl) (by kernel_rfl) (by rw [← hv149]; kernel_rfl) (fun a w _ hE hS => ?_)) rfl
   have h150 : Sl kd_T_api_Step D0 A2 c3 (v148.fSteps) := by rw [← hv149]; exact h146
   refine at_end rfl ?_
   refine region_at ?_
   refine at_op (op_tk hE (tk_build (acells .u8 32 ((vofL 32 [(0 : Int), (0 : Int), (0 : Int), (0 : Int), (0 : Int), (0 : Int), (0 : Int), (0 : Int), (0 : Int), (0 : Int), (0 : Int), (0 : Int), (0 : Int), (0 : Int), (0 : Int), (0 : Int), (0 : Int), (0 : Int), (0 : Int), (0 : Int), (0 : Int), (0 : Int), (0 : Int), (0 : Int), (0 : Int), (0 : Int), (0 : Int), (0 : Int), (0 : Int), (0 : Int), (0 : Int), (0 : Int)]))) rfl rfl rfl rfl hE rfl rfl (by kernel_rfl) (fun a hE => ?_))) rfl
   refine aF 44 23 44 hE (fun a hE => ?_)
   obtain ⟨v151, hv152, hf⟩ := bind_some hf
   replace hv152 := Option.some.inj hv152
   refine at_op (op_store (v := .agg (List.toArray (acells .u8 32 ((vofL 32 [(0 : Int), (0 : Int), (0 : Int), (0 : Int), (0 : Int), (0 : Int), (0 : Int), (0 : Int), (0 : Int), (0 : Int), (0 : Int), (0 : Int), (0 : Int), (0 : Int), (0 : Int), (0 : Int), (0 : Int), (0 : Int), (0 : Int), (0 : Int), (0 : Int), (0 : Int), (0 : Int), (0 : Int), (0 : Int), (0 : Int), (0 : Int), (0 : Int), (0 : Int), (0 : Int), (0 : Int), (0 : Int)]))))) (c_T_api_Rec ({ v151 with fData := ([] : List Int) }) A2 c3 none 0) rfl rfl rfl rfl hE hS rfl rfl (by kernel_rfl) (by kernel_rfl) (by kernel_rfl) (by kernel_rfl) (by rw [← hv152]; kernel_rfl) (fun a w _ hE hS => ?_)) rfl
   have h153 : Sl kd_T_api_Step D0 A2 c3 (v151.fSteps) := by rw [← hv152]; exact h150
   refine at_end rfl ?_
   refine wpIn_seq ?_
   refine region_at ?_
   refine aL 0 (.agg (List.toArray (c_T_api_Rec ({ v151 with fData := ([] : List Int) }) A2 c3 none 0))) hE hS (fun a hE => ?_)
   have hS := hS.pk (.c 1 rfl (.c 0 rfl .n)) rfl
   obtain ⟨v154, hv155, hf⟩ := bind_some hf
   replace hv155 := Option.some.inj hv155
   refine at_op (op_store (v := .agg (List.toArray (c_T_api_Rec ({ v151 with fData := ([] : List Int) }) A2 c3 none 0))) (c_T_api_Rec ({ v154 with fData := ([] : List Int) }) A2 c3 none 0) rfl rfl rfl rfl hE hS rfl rfl (by kernel_rfl) (by kernel_rfl) (by kernel_rfl) (by kernel_rfl) (by rw [← hv155]; kernel_rfl) (fun a w _ hE hS => ?_)) rfl
   have h156 : Sl kd_T_api_Step D0 A2 c3 (v154.fSteps) := by rw [← hv155]; exact h153
   refine at_end rfl ?_
   refine wpIn_ret ?_
   obtain rfl := Option.some.inj hf
   repeat (with_reducible first | refine then_ret ?_ | refine block_ret ?_ | refine qx_ret ?_)
   refine ret_gen ([.agg (List.toArray (c_T_api_Rec ({ v154 with fData := ([] : List Int) }) A2 c3 none 0))]) hE (by rw [show Tryd.f17.results.toList = [.cell 2 27] from rfl]; exact ⟨_, _, _, 0, _, _, rfl, rfl, hS.heapAt (j := 0) rfl, by kernel_rfl, rfl⟩) ?_
   have hS := hS.pk .n rfl
   exact ⟨_, rfl, D137, A2, c3, none, 0, rfl, hS, (h156.mono (le2 le134 le139)), (Sl.nil (kdInt .u8) D137)⟩
  ·replace hf := cond_f hb hf
   clear hb
   refine wpIn_skip ?_
   refine wpIn_seq ?_
   refine region_at ?_
   refine aL 0 (.agg (List.toArray (c_T_api_Rec (x1) A2 c3 A5 c6))) hE hS (fun a hE => ?_)
   have hS := hS.pk (.c 1 rfl (.c 0 rfl .n)) rfl
   refine at_op (op_store (v := .agg (List.toArray (c_T_api_Rec (x1) A2 c3 A5 c6))) (c_T_api_Rec (x1) A2 c3 A5 c6) rfl rfl rfl rfl hE hS rfl rfl (by kernel_rfl) (by kernel_rfl) (by kernel_rfl) (by kernel_rfl) (by kernel_rfl) (fun a w _ hE hS => ?_)) rfl
   refine at_end rfl ?_
   refine wpIn_ret ?_
   obtain rfl := Option.some.inj hf
   repeat (with_reducible first | refine then_ret ?_ | refine block_ret ?_ | refine qx_ret ?_)
   refine ret_gen ([.agg (List.toArray (c_T_api_Rec (x1) A2 c3 A5 c6))]) hE (by rw [show Tryd.f17.results.toList = [.cell 2 27] from rfl]; exact ⟨_, _, _, 0, _, _, rfl, rfl, hS.heapAt (j := 0) rfl, by kernel_rfl, rfl⟩) ?_
   have hS := hS.pk .n rfl
   exact ⟨_, rfl, D133, A2, c3, A5, c6, rfl, hS, (h4.mono le134), (h7.mono le134)⟩
set_option maxRecDepth 100000 in
set_option maxHeartbeats 4000000 in
theorem inspeximusref04_Steps.calls {K : Nat} {g w0 : World} {D0 : Snap} {x1 : (List T_api_Step)} {x5 : (List T_api_Step)} {A2 : Option Addr} {c3 : Nat} {A6 : Option Addr} {c7 : Nat} {r : (Bool)} (hf : inspeximusref04_Steps.f K x1 x5 = some r) (hS0 : St g w0 D0 []) (h4 : Sl kd_T_api_Step D0 A2 c3 (x1)) (h8 : Sl kd_T_api_Step D0 A6 c7 (x5)) :
  CallsIn (Fw none) 0 Tryd.prog 33 (List.toArray [.slice A2 (List.length (x1)) c3, .slice A6 (List.length (x5)) c7]) w0 (fun e w' => ∃ v, e = .returned v ∧ ∃ (D1 : Snap), v = .bool (r) ∧ Stp g w0 D0 [] w' D1 []) := by
 unfold inspeximusref04_Steps.f at hf
 have hS := Stp.refl hS0
 clear hS0
 refine calls_body (n := 26) Tryd.func33 rfl Tryd.ntmps33 rfl (fun a hE => ?_)
 have hE : Env a 26 [] [(0, .slice A2 (List.length (x1)) c3), (1, .slice A6 (List.length (x5)) c7)] := hE
 refine wpIn_seq ?_
 refine region_at ?_
 refine sN 1 1 [(4, .bool false)] hE (fun a hE => ?_)
 refine at_end rfl ?_
 refine wpIn_seq ?_
 refine wpIn_seq ?_
 refine region_at ?_
 refine sN 5 5 [(10, .bool ((!decide (((List.length (x1) : Nat) : Int) = ((List.length (x5) : Nat) : Int)))))] hE (fun a hE => ?_)
 refine at_end rfl ?_
 refine cond_split hE (b := (!decide (((List.length (x1) : Nat) : Int) = ((List.length (x5) : Nat) : Int)))) rfl (fun hb => ?_) (fun hb => ?_)
 ·replace hf := cond_t hb hf
  clear hb
  refine wpIn_seq ?_
  refine region_at ?_
  refine sN 1 1 [(4, .bool false)] hE (fun a hE => ?_)
  refine at_end rfl ?_
  refine wpIn_ret ?_
  obtain rfl := Option.some.inj hf
  repeat (with_reducible first | refine then_ret ?_ | refine block_ret ?_ | refine qx_ret ?_)
  refine ret_gen ([.bool false]) hE (by rw [show Tryd.f33.results.toList = [.tmp 4] from rfl]; exact ⟨_, _, rfl, rfl, rfl⟩) ?_
  exact ⟨_, rfl, D0, rfl, hS⟩
 ·replace hf := cond_f hb hf
  clear hb
  refine wpIn_skip ?_
  refine wpIn_seq ?_
  refine wpIn_seq ?_
  refine region_at ?_
  refine sN 1 1 [(5, .int .i64 ((0 : Int)))] hE (fun a hE => ?_)
  refine at_end rfl ?_
  obtain ⟨s1152, hf, hs1153⟩ := bind_some hf
  refine block_loop (fun a w => ∃ (z1149 : Unit), ∃ (D1150 : Snap), Env a 26 [] [] ∧ Stp g w0 D0 [] w D1150 [] ∧ Snap.le D0 D1150 ∧ (Sum.inr z1149) = s1152) (fun k a w => ∃ (y1047 : Int), ∃ (D1048 : Snap), Env a 26 [] [(0, .slice A2 (List.length (x1)) c3), (1, .slice A6 (List.length (x5)) c7), (5, .int .i64 (y1047))] ∧ Stp g w0 D0 [] w D1048 [] ∧ Snap.le D0 D1048 ∧ inspeximusref04_Steps_l1.l K x1 x5 k y1047 = some s1152) K ?_ ?_ ?_
  ·exact ⟨(0 : Int), D0, hE.weak (by kernel_rfl), hS, Snap.le.refl _, hf⟩
  ·clear hE hS hf
   rintro a w ⟨z1149, D1150, hE, hS, le1151, rfl⟩
   have hf := hs1153
   clear hs1153
   refine wpIn_seq ?_
   refine region_at ?_
   refine sN 1 1 [(4, .bool true)] hE (fun a hE => ?_)
   refine at_end rfl ?_
   refine wpIn_ret ?_
   obtain rfl := Option.some.inj hf
   repeat (with_reducible first | refine then_ret ?_ | refine block_ret ?_ | refine qx_ret ?_)
   refine ret_gen ([.bool true]) hE (by rw [show Tryd.f33.results.toList = [.tmp 4] from rfl]; exact ⟨_, _, rfl, rfl, rfl⟩) ?_
   exact ⟨_, rfl, D1150, rfl, hS⟩
  ·clear hE hS hf
   rintro k a w ⟨y1047, D1048, hE, hS, le1049, hf⟩
   obtain ⟨k, rfl, hf⟩ := inspeximusref04_Steps_l1.some _ _ hf
   refine ⟨k, rfl, ?_⟩
   unfold inspeximusref04_Steps_l1.b at hf
   refine wpIn_seq ?_
   refine wpIn_seq ?_
   refine region_at ?_
   refine sN 4 4 [(14, .bool ((decide (y1047 < ((List.length (x1) : Nat) : Int)))))] hE (fun a hE => ?_)
   refine at_end rfl ?_
   refine cond_split hE (b := (decide (y1047 < ((List.length (x1) : Nat) : Int)))) rfl (fun hb => ?_) (fun hb => ?_)
   ·replace hf := cond_t hb hf
    clear hb
    refine wpIn_skip ?_
    refine wpIn_seq ?_
    refine wpIn_block ?_
    refine wpIn_seq ?_
    refine region_draw (fun j => Keeps (mfOf [] j)) (by kernel_rfl) ?_
    have hS := hS.drew
    first | generalize w.drew = w at hS ⊢ | generalize w0.drew = w at hS ⊢
    refine wP 0 1 8 (.slice A2 (List.length (x1)) c3) hE (fun a hE => ?_)
    refine wP 1 3 7 (.int .i64 (y1047)) hE (fun a hE => ?_)
    refine wP 4 19 6 (.slice A6 (List.length (x5)) c7) hE (fun a hE => ?_)
    refine wP 5 51 5 (.int .i64 (y1047)) hE (fun a hE => ?_)
    obtain ⟨x1226, h1227, hf⟩ := bind_some hf
    refine tW 2 55 (fuel := 4) (by kernel_rfl) hE (fun M => g_index (K := kd_T_api_Step) (e := 37) (by_ := 16) (zl := 2) rfl rfl rfl rfl hE rfl rfl rfl (by kernel_rfl) rfl (h4.mono le1049) h1227 (fun a b1228 o1229 hE h1230 => ?_))
    obtain ⟨cs1231, C1232, T1233, fr1234, hr1235, hb1236, hc1237⟩ := h1230
    obtain ⟨rfl⟩ := kd_T_api_Step_el hr1235
    refine tT 3 63 (fuel := 3) (by kernel_rfl) hE (tk_loadX (off0 := o1229) (off := 0) (c := c_T_api_Step (x1226)) (.agg (List.toArray (c_T_api_Step (x1226)))) rfl rfl rfl rfl hE rfl hS rfl hb1236 hc1237 (by kernel_rfl) (by kernel_rfl) (kD hS dn_nil) (fun a hE => ?_))
    obtain ⟨x1238, h1239, hf⟩ := bind_some hf
    refine tW 6 127 (fuel := 2) (by kernel_rfl) hE (fun M => g_index (K := kd_T_api_Step) (e := 37) (by_ := 16) (zl := 2) rfl rfl rfl rfl hE rfl rfl rfl (by kernel_rfl) rfl (h8.mono le1049) h1239 (fun a b1240 o1241 hE h1242 => ?_))
    obtain ⟨cs1243, C1244, T1245, fr1246, hr1247, hb1248, hc1249⟩ := h1242
    obtain ⟨rfl⟩ := kd_T_api_Step_el hr1247
    refine tT 7 255 (fuel := 1) (by kernel_rfl) hE (tk_loadX (off0 := o1241) (off := 0) (c := c_T_api_Step (x1238)) (.agg (List.toArray (c_T_api_Step (x1238)))) rfl rfl rfl rfl hE rfl hS rfl hb1248 hc1249 (by kernel_rfl) (by kernel_rfl) (kD hS dn_nil) (fun a hE => ?_))
    refine tW 8 511 (fuel := 0) (by kernel_rfl) hE (fun M => tk_bin (r := .bool ((!((decide (x1226.fPart = x1238.fPart)) && ((decide (x1226.fKind = x1238.fKind)) && true))))) rfl rfl rfl rfl hE rfl rfl rfl (neagg_run (by kernel_rfl) (EqR_struct (fs := structFs Tryd.prog 37) (by kernel_rfl) ⟨.int .i64 (x1226.fPart), .int .i64 (x1238.fPart), (decide (x1226.fPart = x1238.fPart)), _, by kernel_rfl, by kernel_rfl, by kernel_rfl, (EqR_int (by kernel_rfl)), ⟨.int .i64 (x1226.fKind), .int .i64 (x1238.fKind), (decide (x1226.fKind = x1238.fKind)), _, by kernel_rfl, by kernel_rfl, by kernel_rfl, (EqR_int (by kernel_rfl)), rfl, rfl⟩, rfl⟩)) (fun a hE => ?_))
    refine doneG (by kernel_rfl) ?_
    refine cond_split hE (b := (!((decide (x1226.fPart = x1238.fPart)) && ((decide (x1226.fKind = x1238.fKind)) && true)))) rfl (fun hb => ?_) (fun hb => ?_)
    ·replace hf := cond_t hb hf
     clear hb
     refine wpIn_seq ?_
     refine region_at ?_
     refine sN 1 1 [(4, .bool false)] hE (fun a hE => ?_)
     refine at_end rfl ?_
     refine wpIn_ret ?_
     obtain rfl := Option.some.inj hf
     replace hf := hs1153
     obtain rfl := Option.some.inj hf
     repeat (with_reducible first | refine then_ret ?_ | refine block_ret ?_ | refine qx_ret ?_)
     refine ret_gen ([.bool false]) hE (by rw [show Tryd.f33.results.toList = [.tmp 4] from rfl]; exact ⟨_, _, rfl, rfl, rfl⟩) ?_
     exact ⟨_, rfl, D1048, rfl, hS⟩
    ·replace hf := cond_f hb hf
     clear hb
     refine wpIn_skip ?_
     refine region_at ?_
     refine sN 3 3 [(5, .int .i64 ((IntKind.wrap .i64 (y1047 + (1 : Int)))))] hE (fun a hE => ?_)
     refine at_end rfl ?_
     exact ⟨(IntKind.wrap .i64 (y1047 + (1 : Int))), D1048, hE.weak (by kernel_rfl), hS, le1049, hf⟩
   ·replace hf := cond_f hb hf
    clear hb
    refine wpIn_exit ?_
    obtain rfl := Option.some.inj hf
    exact ⟨(), D1048, hE.weak (by kernel_rfl), hS, le1049, rfl⟩
set_option maxRecDepth 100000 in
set_option maxHeartbeats 4000000 in
theorem inspeximusref04_Same.calls {K : Nat} {g w0 : World} {D0 : Snap} {x1 : T_api_Rec} {x8 : T_api_Rec} {A2 : Option Addr} {c3 : Nat} {A5 : Option Addr} {c6 : Nat} {A9 : Option Addr} {c10 : Nat} {A12 : Option Addr} {c13 : Nat} {r : (Bool)} (hf : inspeximusref04_Same.f K x1 x8 = some r) (hS0 : St g w0 D0 []) (h4 : Sl kd_T_api_Step D0 A2 c3 (x1.fSteps)) (h7 : Sl (kdInt .u8) D0 A5 c6 (x1.fData)) (h11 : Sl kd_T_api_Step D0 A9 c10 (x8.fSteps)) (h14 : Sl (kdInt .u8) D0 A12 c13 (x8.fData)) :
  CallsIn (Fw none) 0 Tryd.prog 15 (List.toArray [.agg (List.toArray (c_T_api_Rec (x1) A2 c3 A5 c6)), .agg (List.toArray (c_T_api_Rec (x8) A9 c10 A12 c13))]) w0 (fun e w' => ∃ v, e = .returned v ∧ ∃ (D1 : Snap), v = .bool (r) ∧ Stp g w0 D0 [] w' D1 []) := by
 unfold inspeximusref04_Same.f at hf
 have hS := Stp.refl hS0
 clear hS0
 refine calls_body (n := 115) Tryd.func15 rfl Tryd.ntmps15 rfl (fun a hE => ?_)
 have hE : Env a 115 [] [(0, .agg (List.toArray (c_T_api_Rec (x1) A2 c3 A5 c6))), (1, .agg (List.toArray (c_T_api_Rec (x8) A9 c10 A12 c13)))] := hE
 refine wpIn_seq ?_
 refine region_at ?_
 refine at_op (op_box rfl rfl rfl rfl hE rfl hS rfl (fun a b44 w _ hE hS => ?_)) rfl
 refine at_op (op_box rfl rfl rfl rfl hE rfl hS rfl (fun a b46 w _ hE hS => ?_)) rfl
 refine sN 1 3 [(4, .bool false)] hE (fun a hE => ?_)
 refine at_end rfl ?_
 obtain ⟨j61, hj62, hf⟩ := jn_elim hf
 refine seq_join (fun a w => ∃ (y58 : Bool), ∃ (D59 : Snap), Env a 115 [] [(4, .bool (y58))] ∧ Stp g w0 D0 [] w D59 [] ∧ Snap.le D0 D59 ∧ j61 y58 = some r) ?_ ?_
 ·clear hj62
  refine region_at ?_
  refine aF 0 3 0 hE (fun a hE => ?_)
  refine aL 1 (.int .i64 (x1.fKind)) hE hS (fun a hE => ?_)
  refine aF 0 3 0 hE (fun a hE => ?_)
  refine aL 0 (.int .i64 (x8.fKind)) hE hS (fun a hE => ?_)
  refine sN 2 6 [(10, .bool ((decide (x1.fKind = x8.fKind))))] hE (fun a hE => ?_)
  refine Or.elim (Bool.eq_false_or_eq_true ((decide (x1.fKind = x8.fKind)))).symm (fun hb => ?_) (fun hb => ?_)
  ·replace hf := cond_f hb hf
   have hE := hE.know (t := 10) (b := (decide (x1.fKind = x8.fKind))) (b' := false) rfl hb
   clear hb
   refine sN 105 111 [(4, .bool false)] hE (fun a hE => ?_)
   refine at_end rfl ?_
   have hS := hS.pk .n rfl
   exact ⟨false, D0, hE.weak (by kernel_rfl), hS, Snap.le.refl _, hf⟩
  ·replace hf := cond_t hb hf
   have hE := hE.know (t := 10) (b := (decide (x1.fKind = x8.fKind))) (b' := true) rfl hb
   clear hb
   refine aF 1 3 1 hE (fun a hE => ?_)
   refine aL 1 (.int .i64 (x1.fSaga)) hE hS (fun a hE => ?_)
   refine aF 1 3 1 hE (fun a hE => ?_)
   refine aL 0 (.int .i64 (x8.fSaga)) hE hS (fun a hE => ?_)
   refine sN 3 13 [(17, .bool ((decide (x1.fSaga = x8.fSaga))))] hE (fun a hE => ?_)
   refine Or.elim (Bool.eq_false_or_eq_true ((decide (x1.fSaga = x8.fSaga)))).symm (fun hb => ?_) (fun hb => ?_)
   ·replace hf := cond_f hb hf
    have hE := hE.know (t := 17) (b := (decide (x1.fSaga = x8.fSaga))) (b' := false) rfl hb
    clear hb
    refine sN 98 111 [(4, .bool false)] hE (fun a hE => ?_)
    refine at_end rfl ?_
    have hS := hS.pk .n rfl
    exact ⟨false, D0, hE.weak (by kernel_rfl), hS, Snap.le.refl _, hf⟩
   ·replace hf := cond_t hb hf
    have hE := hE.know (t := 17) (b := (decide (x1.fSaga = x8.fSaga))) (b' := true) rfl hb
    clear hb
    refine aF 2 3 2 hE (fun a hE => ?_)
    refine aL 1 (.int .i64 (x1.fSeq)) hE hS (fun a hE => ?_)
    refine aF 2 3 2 hE (fun a hE => ?_)
    refine aL 0 (.int .i64 (x8.fSeq)) hE hS (fun a hE => ?_)
    refine sN 3 20 [(24, .bool ((decide (x1.fSeq = x8.fSeq))))] hE (fun a hE => ?_)
    refine Or.elim (Bool.eq_false_or_eq_true ((decide (x1.fSeq = x8.fSeq)))).symm (fun hb => ?_) (fun hb => ?_)
    ·replace hf := cond_f hb hf
     have hE := hE.know (t := 24) (b := (decide (x1.fSeq = x8.fSeq))) (b' := false) rfl hb
     clear hb
     refine sN 91 111 [(4, .bool false)] hE (fun a hE => ?_)
     refine at_end rfl ?_
     have hS := hS.pk .n rfl
     exact ⟨false, D0, hE.weak (by kernel_rfl), hS, Snap.le.refl _, hf⟩
    ·replace hf := cond_t hb hf
     have hE := hE.know (t := 24) (b := (decide (x1.fSeq = x8.fSeq))) (b' := true) rfl hb
     clear hb
     refine aF 3 3 3 hE (fun a hE => ?_)
     refine aL 1 (.int .i64 (x1.fStep)) hE hS (fun a hE => ?_)
     refine aF 3 3 3 hE (fun a hE => ?_)
     refine aL 0 (.int .i64 (x8.fStep)) hE hS (fun a hE => ?_)
     refine sN 3 27 [(31, .bool ((decide (x1.fStep = x8.fStep))))] hE (fun a hE => ?_)
     refine Or.elim (Bool.eq_false_or_eq_true ((decide (x1.fStep = x8.fStep)))).symm (fun hb => ?_) (fun hb => ?_)
     ·replace hf := cond_f hb hf
      have hE := hE.know (t := 31) (b := (decide (x1.fStep = x8.fStep))) (b' := false) rfl hb
      clear hb
      refine sN 84 111 [(4, .bool false)] hE (fun a hE => ?_)
      refine at_end rfl ?_
      have hS := hS.pk .n rfl
      exact ⟨false, D0, hE.weak (by kernel_rfl), hS, Snap.le.refl _, hf⟩
     ·replace hf := cond_t hb hf
      have hE := hE.know (t := 31) (b := (decide (x1.fStep = x8.fStep))) (b' := true) rfl hb
      clear hb
      refine aF 4 3 4 hE (fun a hE => ?_)
      refine aL 1 (.int .i64 (x1.fTry)) hE hS (fun a hE => ?_)
      refine aF 4 3 4 hE (fun a hE => ?_)
      refine aL 0 (.int .i64 (x8.fTry)) hE hS (fun a hE => ?_)
      refine sN 3 34 [(38, .bool ((decide (x1.fTry = x8.fTry))))] hE (fun a hE => ?_)
      refine Or.elim (Bool.eq_false_or_eq_true ((decide (x1.fTry = x8.fTry)))).symm (fun hb => ?_) (fun hb => ?_)
      ·replace hf := cond_f hb hf
       have hE := hE.know (t := 38) (b := (decide (x1.fTry = x8.fTry))) (b' := false) rfl hb
       clear hb
       refine sN 77 111 [(4, .bool false)] hE (fun a hE => ?_)
       refine at_end rfl ?_
       have hS := hS.pk .n rfl
       exact ⟨false, D0, hE.weak (by kernel_rfl), hS, Snap.le.refl _, hf⟩
      ·replace hf := cond_t hb hf
       have hE := hE.know (t := 38) (b := (decide (x1.fTry = x8.fTry))) (b' := true) rfl hb
       clear hb
       refine aF 5 4 5 hE (fun a hE => ?_)
       refine aL 1 (.bool (x1.fBack)) hE hS (fun a hE => ?_)
       refine aF 5 4 5 hE (fun a hE => ?_)
       refine aL 0 (.bool (x8.fBack)) hE hS (fun a hE => ?_)
       refine at_op (op_tk hE (tk_bin (r := .bool ((x1.fBack == x8.fBack))) rfl rfl rfl rfl hE rfl rfl rfl (eqb_run (by kernel_rfl) _ _) (fun a hE => ?_))) rfl
       refine sN 2 41 [(45, .bool ((x1.fBack == x8.fBack)))] hE (fun a hE => ?_)
       refine Or.elim (Bool.eq_false_or_eq_true ((x1.fBack == x8.fBack))).symm (fun hb => ?_) (fun hb => ?_)
       ·replace hf := cond_f hb hf
        have hE := hE.know (t := 45) (b := (x1.fBack == x8.fBack)) (b' := false) rfl hb
        clear hb
        refine sN 70 111 [(4, .bool false)] hE (fun a hE => ?_)
        refine at_end rfl ?_
        have hS := hS.pk .n rfl
        exact ⟨false, D0, hE.weak (by kernel_rfl), hS, Snap.le.refl _, hf⟩
       ·replace hf := cond_t hb hf
        have hE := hE.know (t := 45) (b := (x1.fBack == x8.fBack)) (b' := true) rfl hb
        clear hb
        refine aF 6 4 6 hE (fun a hE => ?_)
        refine aL 1 (.bool (x1.fGood)) hE hS (fun a hE => ?_)
        refine aF 6 4 6 hE (fun a hE => ?_)
        refine aL 0 (.bool (x8.fGood)) hE hS (fun a hE => ?_)
        refine at_op (op_tk hE (tk_bin (r := .bool ((x1.fGood == x8.fGood))) rfl rfl rfl rfl hE rfl rfl rfl (eqb_run (by kernel_rfl) _ _) (fun a hE => ?_))) rfl
        refine sN 2 48 [(52, .bool ((x1.fGood == x8.fGood)))] hE (fun a hE => ?_)
        refine Or.elim (Bool.eq_false_or_eq_true ((x1.fGood == x8.fGood))).symm (fun hb => ?_) (fun hb => ?_)
        ·replace hf := cond_f hb hf
         have hE := hE.know (t := 52) (b := (x1.fGood == x8.fGood)) (b' := false) rfl hb
         clear hb
         refine sN 63 111 [(4, .bool false)] hE (fun a hE => ?_)
         refine at_end rfl ?_
         have hS := hS.pk .n rfl
         exact ⟨false, D0, hE.weak (by kernel_rfl), hS, Snap.le.refl _, hf⟩
        ·replace hf := cond_t hb hf
         have hE := hE.know (t := 52) (b := (x1.fGood == x8.fGood)) (b' := true) rfl hb
         clear hb
         refine aF 7 3 7 hE (fun a hE => ?_)
         refine aL 1 (.int .i64 (x1.fEnd)) hE hS (fun a hE => ?_)
         refine aF 7 3 7 hE (fun a hE => ?_)
         refine aL 0 (.int .i64 (x8.fEnd)) hE hS (fun a hE => ?_)
         refine sN 3 55 [(59, .bool ((decide (x1.fEnd = x8.fEnd))))] hE (fun a hE => ?_)
         refine Or.elim (Bool.eq_false_or_eq_true ((decide (x1.fEnd = x8.fEnd)))).symm (fun hb => ?_) (fun hb => ?_)
         ·replace hf := cond_f hb hf
          have hE := hE.know (t := 59) (b := (decide (x1.fEnd = x8.fEnd))) (b' := false) rfl hb
          clear hb
          refine sN 56 111 [(4, .bool false)] hE (fun a hE => ?_)
          refine at_end rfl ?_
          have hS := hS.pk .n rfl
          exact ⟨false, D0, hE.weak (by kernel_rfl), hS, Snap.le.refl _, hf⟩
         ·replace hf := cond_t hb hf
          have hE := hE.know (t := 59) (b := (decide (x1.fEnd = x8.fEnd))) (b' := true) rfl hb
          clear hb
          refine aF 8 3 8 hE (fun a hE => ?_)
          refine aL 1 (.int .i64 (x1.fPart)) hE hS (fun a hE => ?_)
          refine aF 8 3 8 hE (fun a hE => ?_)
          refine aL 0 (.int .i64 (x8.fPart)) hE hS (fun a hE => ?_)
          refine sN 3 62 [(66, .bool ((decide (x1.fPart = x8.fPart))))] hE (fun a hE => ?_)
          refine Or.elim (Bool.eq_false_or_eq_true ((decide (x1.fPart = x8.fPart)))).symm (fun hb => ?_) (fun hb => ?_)
          ·replace hf := cond_f hb hf
           have hE := hE.know (t := 66) (b := (decide (x1.fPart = x8.fPart))) (b' := false) rfl hb
           clear hb
           refine sN 49 111 [(4, .bool false)] hE (fun a hE => ?_)
           refine at_end rfl ?_
           have hS := hS.pk .n rfl
           exact ⟨false, D0, hE.weak (by kernel_rfl), hS, Snap.le.refl _, hf⟩
          ·replace hf := cond_t hb hf
           have hE := hE.know (t := 66) (b := (decide (x1.fPart = x8.fPart))) (b' := true) rfl hb
           clear hb
           refine aF 9 3 9 hE (fun a hE => ?_)
           refine aL 1 (.int .i64 (x1.fEpoch)) hE hS (fun a hE => ?_)
           refine aF 9 3 9 hE (fun a hE => ?_)
           refine aL 0 (.int .i64 (x8.fEpoch)) hE hS (fun a hE => ?_)
           refine sN 3 69 [(73, .bool ((decide (x1.fEpoch = x8.fEpoch))))] hE (fun a hE => ?_)
           refine Or.elim (Bool.eq_false_or_eq_true ((decide (x1.fEpoch = x8.fEpoch)))).symm (fun hb => ?_) (fun hb => ?_)
           ·replace hf := cond_f hb hf
            have hE := hE.know (t := 73) (b := (decide (x1.fEpoch = x8.fEpoch))) (b' := false) rfl hb
            clear hb
            refine sN 42 111 [(4, .bool false)] hE (fun a hE => ?_)
            refine at_end rfl ?_
            have hS := hS.pk .n rfl
            exact ⟨false, D0, hE.weak (by kernel_rfl), hS, Snap.le.refl _, hf⟩
           ·replace hf := cond_t hb hf
            have hE := hE.know (t := 73) (b := (decide (x1.fEpoch = x8.fEpoch))) (b' := true) rfl hb
            clear hb
            refine aF 10 23 10 hE (fun a hE => ?_)
            refine aL 1 (.agg (List.toArray (acells .u8 32 (x1.fTag)))) hE hS (fun a hE => ?_)
            refine aF 10 23 10 hE (fun a hE => ?_)
            refine aL 0 (.agg (List.toArray (acells .u8 32 (x8.fTag)))) hE hS (fun a hE => ?_)
            refine at_op (op_tk hE (tk_bin (r := .bool ((decide (x1.fTag = x8.fTag)))) rfl rfl rfl rfl hE rfl rfl rfl (eqagg_run (by kernel_rfl) (EqR_arr (k := .u8) (N := 32) (by kernel_rfl))) (fun a hE => ?_))) rfl
            refine sN 2 76 [(80, .bool ((decide (x1.fTag = x8.fTag))))] hE (fun a hE => ?_)
            refine Or.elim (Bool.eq_false_or_eq_true ((decide (x1.fTag = x8.fTag)))).symm (fun hb => ?_) (fun hb => ?_)
            ·replace hf := cond_f hb hf
             have hE := hE.know (t := 80) (b := (decide (x1.fTag = x8.fTag))) (b' := false) rfl hb
             clear hb
             refine sN 35 111 [(4, .bool false)] hE (fun a hE => ?_)
             refine at_end rfl ?_
             have hS := hS.pk .n rfl
             exact ⟨false, D0, hE.weak (by kernel_rfl), hS, Snap.le.refl _, hf⟩
            ·replace hf := cond_t hb hf
             have hE := hE.know (t := 80) (b := (decide (x1.fTag = x8.fTag))) (b' := true) rfl hb
             clear hb
             refine aF 42 24 42 hE (fun a hE => ?_)
             refine aL 1 (.slice A2 (List.length (x1.fSteps)) c3) hE hS (fun a hE => ?_)
             refine aF 42 24 42 hE (fun a hE => ?_)
             refine aL 0 (.slice A9 (List.length (x8.fSteps)) c10) hE hS (fun a hE => ?_)
             obtain ⟨r63, h64, hf⟩ := bind_some hf
             refine aC rfl rfl rfl rfl hE rfl rfl rfl rfl (inspeximusref04_Steps.calls (g := g) h64 (hS.st.fore (L := [])) h4 h11) (fun a v w hR hE => ?_)
             obtain ⟨D65, rfl, hS1⟩ := hR
             have le67 := hS1.dle
             have hS := hS.callR hS1 rfl .n
             clear hS1
             refine sN 2 83 [(87, .bool (r63))] hE (fun a hE => ?_)
             refine Or.elim (Bool.eq_false_or_eq_true (r63)).symm (fun hb => ?_) (fun hb => ?_)
             ·replace hf := cond_f hb hf
              have hE := hE.know (t := 87) (b := r63) (b' := false) rfl hb
              clear hb
              refine sN 28 111 [(4, .bool false)] hE (fun a hE => ?_)
              refine at_end rfl ?_
              have hS := hS.pk .n rfl
              exact ⟨false, D65, hE.weak (by kernel_rfl), hS, le67, hf⟩
             ·replace hf := cond_t hb hf
              have hE := hE.know (t := 87) (b := r63) (b' := true) rfl hb
              clear hb
              refine aF 43 25 43 hE (fun a hE => ?_)
              refine aL 1 (.slice A5 (List.length (x1.fData)) c6) hE hS (fun a hE => ?_)
              refine aF 43 25 43 hE (fun a hE => ?_)
              refine aL 0 (.slice A12 (List.length (x8.fData)) c13) hE hS (fun a hE => ?_)
              obtain ⟨r68, h69, hf⟩ := bind_some hf
              refine aC rfl rfl rfl rfl hE rfl rfl rfl rfl (inspeximusref01_Bytes.calls (g := g) h69 (hS.st.fore (L := [])) (h7.mono le67) (h14.mono le67)) (fun a v w hR hE => ?_)
              obtain ⟨D70, rfl, hS1⟩ := hR
              have le72 := hS1.dle
              have hS := hS.callR hS1 rfl .n
              clear hS1
              refine sN 2 90 [(94, .bool (r68))] hE (fun a hE => ?_)
              refine Or.elim (Bool.eq_false_or_eq_true (r68)).symm (fun hb => ?_) (fun hb => ?_)
              ·replace hf := cond_f hb hf
               have hE := hE.know (t := 94) (b := r68) (b' := false) rfl hb
               clear hb
               refine sN 21 111 [(4, .bool false)] hE (fun a hE => ?_)
               refine at_end rfl ?_
               have hS := hS.pk .n rfl
               exact ⟨false, D70, hE.weak (by kernel_rfl), hS, (le2 le67 le72), hf⟩
              ·replace hf := cond_t hb hf
               have hE := hE.know (t := 94) (b := r68) (b' := true) rfl hb
               clear hb
               refine aF 44 23 44 hE (fun a hE => ?_)
               refine aL 1 (.agg (List.toArray (acells .u8 32 (x1.fSalt)))) hE hS (fun a hE => ?_)
               refine aF 44 23 44 hE (fun a hE => ?_)
               refine aL 0 (.agg (List.toArray (acells .u8 32 (x8.fSalt)))) hE hS (fun a hE => ?_)
               refine at_op (op_tk hE (tk_bin (r := .bool ((decide (x1.fSalt = x8.fSalt)))) rfl rfl rfl rfl hE rfl rfl rfl (eqagg_run (by kernel_rfl) (EqR_arr (k := .u8) (N := 32) (by kernel_rfl))) (fun a hE => ?_))) rfl
               refine sN 2 97 [(101, .bool ((decide (x1.fSalt = x8.fSalt))))] hE (fun a hE => ?_)
               refine Or.elim (Bool.eq_false_or_eq_true ((decide (x1.fSalt = x8.fSalt)))).symm (fun hb => ?_) (fun hb => ?_)
               ·replace hf := cond_f hb hf
                have hE := hE.know (t := 101) (b := (decide (x1.fSalt = x8.fSalt))) (b' := false) rfl hb
                clear hb
                refine sN 14 111 [(4, .bool false)] hE (fun a hE => ?_)
                refine at_end rfl ?_
                have hS := hS.pk .n rfl
                exact ⟨false, D70, hE.weak (by kernel_rfl), hS, (le2 le67 le72), hf⟩
               ·replace hf := cond_t hb hf
                have hE := hE.know (t := 101) (b := (decide (x1.fSalt = x8.fSalt))) (b' := true) rfl hb
                clear hb
                refine aF 76 4 76 hE (fun a hE => ?_)
                refine aL 1 (.bool (x1.fGone)) hE hS (fun a hE => ?_)
                refine aF 76 4 76 hE (fun a hE => ?_)
                refine aL 0 (.bool (x8.fGone)) hE hS (fun a hE => ?_)
                refine at_op (op_tk hE (tk_bin (r := .bool ((x1.fGone == x8.fGone))) rfl rfl rfl rfl hE rfl rfl rfl (eqb_run (by kernel_rfl) _ _) (fun a hE => ?_))) rfl
                refine sN 2 104 [(108, .bool ((x1.fGone == x8.fGone)))] hE (fun a hE => ?_)
                refine Or.elim (Bool.eq_false_or_eq_true ((x1.fGone == x8.fGone))).symm (fun hb => ?_) (fun hb => ?_)
                ·replace hf := cond_f hb hf
                 have hE := hE.know (t := 108) (b := (x1.fGone == x8.fGone)) (b' := false) rfl hb
                 clear hb
                 refine sN 7 111 [(4, .bool false)] hE (fun a hE => ?_)
                 refine at_end rfl ?_
                 have hS := hS.pk .n rfl
                 exact ⟨false, D70, hE.weak (by kernel_rfl), hS, (le2 le67 le72), hf⟩
                ·replace hf := cond_t hb hf
                 have hE := hE.know (t := 108) (b := (x1.fGone == x8.fGone)) (b' := true) rfl hb
                 clear hb
                 refine aF 77 23 77 hE (fun a hE => ?_)
                 refine aL 1 (.agg (List.toArray (acells .u8 32 (x1.fCom)))) hE hS (fun a hE => ?_)
                 refine aF 77 23 77 hE (fun a hE => ?_)
                 refine aL 0 (.agg (List.toArray (acells .u8 32 (x8.fCom)))) hE hS (fun a hE => ?_)
                 refine at_op (op_tk hE (tk_bin (r := .bool ((decide (x1.fCom = x8.fCom)))) rfl rfl rfl rfl hE rfl rfl rfl (eqagg_run (by kernel_rfl) (EqR_arr (k := .u8) (N := 32) (by kernel_rfl))) (fun a hE => ?_))) rfl
                 refine sN 2 111 [(4, .bool ((decide (x1.fCom = x8.fCom))))] hE (fun a hE => ?_)
                 refine at_end rfl ?_
                 have hS := hS.pk .n rfl
                 exact ⟨(decide (x1.fCom = x8.fCom)), D70, hE.weak (by kernel_rfl), hS, (le2 le67 le72), hf⟩
 ·clear hE hS
  rintro a w ⟨y58, D59, hE, hS, le60, hf⟩
  replace hf := hj62 _ hf
  clear hj62
  refine wpIn_ret ?_
  obtain rfl := Option.some.inj hf
  repeat (with_reducible first | refine then_ret ?_ | refine block_ret ?_ | refine qx_ret ?_)
  refine ret_gen ([.bool (y58)]) hE (by rw [show Tryd.f15.results.toList = [.tmp 4] from rfl]; exact ⟨_, _, rfl, rfl, rfl⟩) ?_
  exact ⟨_, rfl, D59, rfl, hS⟩
set_option maxRecDepth 100000 in
set_option maxHeartbeats 4000000 in
theorem inspeximuslaw04_RecRight.calls {K : Nat} {g w0 : World} {D0 : Snap} {x1 : T_api_Rec} {x8 : T_api_Rec} {A2 : Option Addr} {c3 : Nat} {A5 : Option Addr} {c6 : Nat} {A9 : Option Addr} {c10 : Nat} {A12 : Option Addr} {c13 : Nat} {r : (Bool)} (hf : inspeximuslaw04_RecRight.f K x1 x8 = some r) (hS0 : St g w0 D0 []) (h4 : Sl kd_T_api_Step D0 A2 c3 (x1.fSteps)) (h7 : Sl (kdInt .u8) D0 A5 c6 (x1.fData)) (h11 : Sl kd_T_api_Step D0 A9 c10 (x8.fSteps)) (h14 : Sl (kdInt .u8) D0 A12 c13 (x8.fData)) (hG0 : Cell (kdArr .u32 8) D0 0 0 gl_First) (hG1 : Cell (kdArr .u32 64) D0 1 0 gl_K) :
  CallsIn (Fw none) 0 Tryd.prog 3 (List.toArray [.agg (List.toArray (c_T_api_Rec (x1) A2 c3 A5 c6)), .agg (List.toArray (c_T_api_Rec (x8) A9 c10 A12 c13))]) w0 (fun e w' => ∃ v, e = .returned v ∧ ∃ (D1 : Snap), v = .bool (r) ∧ Stp g w0 D0 [] w' D1 []) := by
 unfold inspeximuslaw04_RecRight.f at hf
 have hS := Stp.refl hS0
 clear hS0
 refine calls_body (n := 41) Tryd.func3 rfl Tryd.ntmps3 rfl (fun a hE => ?_)
 have hE : Env a 41 [] [(0, .agg (List.toArray (c_T_api_Rec (x1) A2 c3 A5 c6))), (1, .agg (List.toArray (c_T_api_Rec (x8) A9 c10 A12 c13)))] := hE
 refine wpIn_seq ?_
 refine region_at ?_
 refine at_op (op_box rfl rfl rfl rfl hE rfl hS rfl (fun a b312 w _ hE hS => ?_)) rfl
 refine at_op (op_box rfl rfl rfl rfl hE rfl hS rfl (fun a b314 w _ hE hS => ?_)) rfl
 refine sN 1 3 [(4, .bool false)] hE (fun a hE => ?_)
 refine at_end rfl ?_
 refine wpIn_seq ?_
 refine wpIn_seq ?_
 refine region_at ?_
 obtain ⟨r321, h322, hf⟩ := bind_some hf
 refine aC rfl rfl rfl rfl hE rfl rfl rfl rfl (inspeximuslaw04_alive.calls (g := g) h322 (hS.st.fore (L := [])) hG0 hG1) (fun a v w hR hE => ?_)
 obtain ⟨D323, rfl, hS1⟩ := hR
 have le325 := hS1.dle
 have hS := hS.callR hS1 rfl .n
 clear hS1
 refine sN 1 2 [(6, .bool ((!r321)))] hE (fun a hE => ?_)
 refine at_end rfl ?_
 refine cond_split hE (b := (!r321)) rfl (fun hb => ?_) (fun hb => ?_)
 ·replace hf := cond_t hb hf
  clear hb
  refine wpIn_seq ?_
  refine region_at ?_
  refine sN 1 1 [(4, .bool false)] hE (fun a hE => ?_)
  refine at_end rfl ?_
  refine wpIn_ret ?_
  obtain rfl := Option.some.inj hf
  repeat (with_reducible first | refine then_ret ?_ | refine block_ret ?_ | refine qx_ret ?_)
  refine ret_gen ([.bool false]) hE (by rw [show Tryd.f3.results.toList = [.tmp 4] from rfl]; exact ⟨_, _, rfl, rfl, rfl⟩) ?_
  have hS := hS.pk .n rfl
  exact ⟨_, rfl, D323, rfl, hS⟩
 ·replace hf := cond_f hb hf
  clear hb
  refine wpIn_skip ?_
  refine wpIn_seq ?_
  obtain ⟨j597, hj598, hf⟩ := jn_elim hf
  refine seq_join (fun a w => ∃ (y361 : Bool), ∃ (D362 : Snap), Env a 41 [] [(2, .pointer (some ⟨b312, 0, none⟩)), (3, .pointer (some ⟨b314, 0, none⟩)), (12, .bool (y361))] ∧ Stp g w0 D0 [] w D362 [bx b312 27 (c_T_api_Rec (x1) A2 c3 A5 c6), bx b314 27 (c_T_api_Rec (x8) A9 c10 A12 c13)] ∧ Snap.le D323 D362 ∧ j597 y361 = some r) ?_ ?_
  ·clear hj598
   refine region_at ?_
   refine aL 1 (.agg (List.toArray (c_T_api_Rec (x1) A2 c3 A5 c6))) hE hS (fun a hE => ?_)
   obtain ⟨r599, h600, hf⟩ := bind_some hf
   refine aC rfl rfl rfl rfl hE rfl rfl rfl rfl (inspeximusref04_Great.calls (g := g) h600 (hS.st.fore (L := [])) (h4.mono le325) (h7.mono le325)) (fun a v w hR hE => ?_)
   obtain ⟨D601, rfl, hS1⟩ := hR
   have le603 := hS1.dle
   have hS := hS.callR hS1 rfl .n
   clear hS1
   refine sN 1 3 [(9, .bool (r599))] hE (fun a hE => ?_)
   refine Or.elim (Bool.eq_false_or_eq_true (r599)).symm (fun hb => ?_) (fun hb => ?_)
   ·replace hf := cond_f hb hf
    have hE := hE.know (t := 9) (b := r599) (b' := false) rfl hb
    clear hb
    refine aL 0 (.agg (List.toArray (c_T_api_Rec (x8) A9 c10 A12 c13))) hE hS (fun a hE => ?_)
    obtain ⟨r604, h605, hf⟩ := bind_some hf
    refine aC rfl rfl rfl rfl hE rfl rfl rfl rfl (inspeximusref04_Great.calls (g := g) h605 (hS.st.fore (L := [])) (h11.mono (le2 le325 le603)) (h14.mono (le2 le325 le603))) (fun a v w hR hE => ?_)
    obtain ⟨D606, rfl, hS1⟩ := hR
    have le608 := hS1.dle
    have hS := hS.callR hS1 rfl .n
    clear hS1
    refine sN 1 6 [(12, .bool (r604))] hE (fun a hE => ?_)
    refine at_end rfl ?_
    have hS := hS.pk (.c 1 rfl (.c 0 rfl .n)) rfl
    exact ⟨r604, D606, hE.weak (by kernel_rfl), hS, (le2 le603 le608), hf⟩
   ·replace hf := cond_t hb hf
    have hE := hE.know (t := 9) (b := r599) (b' := true) rfl hb
    clear hb
    refine sN 3 6 [(12, .bool true)] hE (fun a hE => ?_)
    refine at_end rfl ?_
    have hS := hS.pk (.c 1 rfl (.c 0 rfl .n)) rfl
    exact ⟨true, D601, hE.weak (by kernel_rfl), hS, le603, hf⟩
  ·clear hE hS
   rintro a w ⟨y361, D362, hE, hS, le363, hf⟩
   replace hf := hj598 _ hf
   clear hj598
   refine cond_split hE (b := y361) rfl (fun hb => ?_) (fun hb => ?_)
   ·replace hf := cond_t hb hf
    clear hb
    refine wpIn_seq ?_
    refine region_at ?_
    refine sN 1 1 [(4, .bool true)] hE (fun a hE => ?_)
    refine at_end rfl ?_
    refine wpIn_ret ?_
    obtain rfl := Option.some.inj hf
    repeat (with_reducible first | refine then_ret ?_ | refine block_ret ?_ | refine qx_ret ?_)
    refine ret_gen ([.bool true]) hE (by rw [show Tryd.f3.results.toList = [.tmp 4] from rfl]; exact ⟨_, _, rfl, rfl, rfl⟩) ?_
    have hS := hS.pk .n rfl
    exact ⟨_, rfl, D362, rfl, hS⟩
   ·replace hf := cond_f hb hf
    clear hb
    refine wpIn_skip ?_
    obtain ⟨j481, hj482, hf⟩ := jn_elim hf
    refine seq_join (fun a w => ∃ (y478 : Bool), ∃ (D479 : Snap), Env a 41 [] [(4, .bool (y478))] ∧ Stp g w0 D0 [] w D479 [] ∧ Snap.le D362 D479 ∧ j481 y478 = some r) ?_ ?_
    ·clear hj482
     refine region_draw (fun j => Keeps (mfOf [] j)) (by kernel_rfl) ?_
     have hS := hS.drew
     first | generalize w.drew = w at hS ⊢ | generalize w0.drew = w at hS ⊢
     refine tT 0 1 (fuel := 28) (by kernel_rfl) hE (tk_load 0 (.agg (List.toArray (c_T_api_Rec (x1) A2 c3 A5 c6))) rfl rfl rfl rfl hE rfl hS rfl rfl (by kernel_rfl) (kL (j := 0) hS rfl List.not_mem_nil) (fun a hE => ?_))
     refine tT 2 5 (fuel := 27) (by kernel_rfl) hE (tk_load 0 (.agg (List.toArray (c_T_api_Rec (x1) A2 c3 A5 c6))) rfl rfl rfl rfl hE rfl hS rfl rfl (by kernel_rfl) (kL (j := 0) hS rfl List.not_mem_nil) (fun a hE => ?_))
     obtain ⟨r540, h541, hf⟩ := bind_some hf
     refine oG 1 7 (fuel := 26) (by kernel_rfl) (op_call rfl rfl rfl rfl hE rfl rfl rfl rfl (by kernel_rfl) (rec_Right.calls (g := g) h541 (hS.st.fore (L := [])) (h4.mono (le2 le325 le363)) (h7.mono (le2 le325 le363))) (fun a v w hR hE => ?_))
     obtain ⟨D542, rfl, hS1⟩ := hR
     refine ⟨(hS1.keeps.sub (M' := []) trivial).mono (fun _ h => h), ?_⟩
     have le544 := hS1.dle
     have hS := hS.callR hS1 rfl .n
     clear hS1
     obtain ⟨r545, h546, hf⟩ := bind_some hf
     refine oG 3 15 (fuel := 25) (by kernel_rfl) (op_call rfl rfl rfl rfl hE rfl rfl rfl rfl (by kernel_rfl) (inspeximusref04_Right.calls (g := g) h546 (hS.st.fore (L := [])) (h4.mono (le2 (le2 le325 le363) le544)) (h7.mono (le2 (le2 le325 le363) le544))) (fun a v w hR hE => ?_))
     obtain ⟨D547, rfl, hS1⟩ := hR
     refine ⟨(hS1.keeps.sub (M' := []) trivial).mono (fun _ h => h), ?_⟩
     have le549 := hS1.dle
     have hS := hS.callR hS1 rfl .n
     clear hS1
     refine tW 4 31 (fuel := 24) (by kernel_rfl) hE (fun M => tk_bin (r := .bool ((r540 == r545))) rfl rfl rfl rfl hE rfl rfl rfl (eqb_run (by kernel_rfl) _ _) (fun a hE => ?_))
     refine wP 5 63 23 (.bool ((r540 == r545))) hE (fun a hE => ?_)
     refine Or.elim (Bool.eq_false_or_eq_true ((r540 == r545))).symm (fun hb => ?_) (fun hb => ?_)
     ·replace hf := cond_f hb hf
      have hE := hE.know (t := 18) (b := (r540 == r545)) (b' := false) rfl hb
      clear hb
      refine wS 6 127 22 hE (fun a hE => ?_)
      refine wS 7 255 21 hE (fun a hE => ?_)
      refine wS 8 511 20 hE (fun a hE => ?_)
      refine wS 9 1023 19 hE (fun a hE => ?_)
      refine wS 10 2047 18 hE (fun a hE => ?_)
      refine wP 11 4095 17 (.bool false) hE (fun a hE => ?_)
      refine wP 12 8191 16 (.bool false) hE (fun a hE => ?_)
      refine wS 13 16383 15 hE (fun a hE => ?_)
      refine wS 14 32767 14 hE (fun a hE => ?_)
      refine wS 15 65535 13 hE (fun a hE => ?_)
      refine wS 16 131071 12 hE (fun a hE => ?_)
      refine wS 17 262143 11 hE (fun a hE => ?_)
      refine wP 18 524287 10 (.bool false) hE (fun a hE => ?_)
      refine wP 19 1048575 9 (.bool false) hE (fun a hE => ?_)
      refine wS 20 2097151 8 hE (fun a hE => ?_)
      refine wS 21 4194303 7 hE (fun a hE => ?_)
      refine wS 22 8388607 6 hE (fun a hE => ?_)
      refine wS 23 16777215 5 hE (fun a hE => ?_)
      refine wS 24 33554431 4 hE (fun a hE => ?_)
      refine wS 25 67108863 3 hE (fun a hE => ?_)
      refine wS 26 134217727 2 hE (fun a hE => ?_)
      refine wP 27 268435455 1 (.bool false) hE (fun a hE => ?_)
      refine wP 28 536870911 0 (.bool false) hE (fun a hE => ?_)
      refine doneG (by kernel_rfl) ?_
      have hS := hS.pk .n rfl
      exact ⟨false, D547, hE.weak (by kernel_rfl), hS, (le2 le544 le549), hf⟩
     ·replace hf := cond_t hb hf
      have hE := hE.know (t := 18) (b := (r540 == r545)) (b' := true) rfl hb
      clear hb
      refine tT 6 127 (fuel := 22) (by kernel_rfl) hE (tk_load 0 (.agg (List.toArray (c_T_api_Rec (x1) A2 c3 A5 c6))) rfl rfl rfl rfl hE rfl hS rfl rfl (by kernel_rfl) (kL (j := 0) hS rfl List.not_mem_nil) (fun a hE => ?_))
      refine tT 8 383 (fuel := 21) (by kernel_rfl) hE (tk_load 0 (.agg (List.toArray (c_T_api_Rec (x1) A2 c3 A5 c6))) rfl rfl rfl rfl hE rfl hS rfl rfl (by kernel_rfl) (kL (j := 0) hS rfl List.not_mem_nil) (fun a hE => ?_))
      obtain ⟨r550, h551, hf⟩ := bind_some hf
      refine oG 7 511 (fuel := 20) (by kernel_rfl) (op_call rfl rfl rfl rfl hE rfl rfl rfl rfl (by kernel_rfl) (rec_Com.calls (g := g) h551 (hS.st.fore (L := [])) (h4.mono (le2 (le2 (le2 le325 le363) le544) le549)) (h7.mono (le2 (le2 (le2 le325 le363) le544) le549)) (hG0.mono (le2 (le2 (le2 le325 le363) le544) le549)) (hG1.mono (le2 (le2 (le2 le325 le363) le544) le549))) (fun a v w hR hE => ?_))
      obtain ⟨D552, rfl, hS1⟩ := hR
      refine ⟨(hS1.keeps.sub (M' := []) trivial).mono (fun _ h => h), ?_⟩
      have le554 := hS1.dle
      have hS := hS.callR hS1 rfl .n
      clear hS1
      obtain ⟨r555, h556, hf⟩ := bind_some hf
      refine oG 9 1023 (fuel := 19) (by kernel_rfl) (op_call rfl rfl rfl rfl hE rfl rfl rfl rfl (by kernel_rfl) (inspeximusref04_Com.calls (g := g) h556 (hS.st.fore (L := [])) (h4.mono (le2 (le2 (le2 (le2 le325 le363) le544) le549) le554)) (h7.mono (le2 (le2 (le2 (le2 le325 le363) le544) le549) le554)) (hG0.mono (le2 (le2 (le2 (le2 le325 le363) le544) le549) le554)) (hG1.mono (le2 (le2 (le2 (le2 le325 le363) le544) le549) le554))) (fun a v w hR hE => ?_))
      obtain ⟨D557, rfl, hS1⟩ := hR
      refine ⟨(hS1.keeps.sub (M' := []) trivial).mono (fun _ h => h), ?_⟩
      have le559 := hS1.dle
      have hS := hS.callR hS1 rfl .n
      clear hS1
      refine tW 10 2047 (fuel := 18) (by kernel_rfl) hE (fun M => tk_bin (r := .bool ((decide (r550 = r555)))) rfl rfl rfl rfl hE rfl rfl rfl (eqagg_run (by kernel_rfl) (EqR_arr (k := .u8) (N := 32) (by kernel_rfl))) (fun a hE => ?_))
      refine wP 11 4095 17 (.bool ((decide (r550 = r555)))) hE (fun a hE => ?_)
      refine wP 12 8191 16 (.bool ((decide (r550 = r555)))) hE (fun a hE => ?_)
      refine Or.elim (Bool.eq_false_or_eq_true ((decide (r550 = r555)))).symm (fun hb => ?_) (fun hb => ?_)
      ·replace hf := cond_f hb hf
       have hE := hE.know (t := 25) (b := (decide (r550 = r555))) (b' := false) rfl hb
       clear hb
       refine wS 13 16383 15 hE (fun a hE => ?_)
       refine wS 14 32767 14 hE (fun a hE => ?_)
       refine wS 15 65535 13 hE (fun a hE => ?_)
       refine wS 16 131071 12 hE (fun a hE => ?_)
       refine wS 17 262143 11 hE (fun a hE => ?_)
       refine wP 18 524287 10 (.bool false) hE (fun a hE => ?_)
       refine wP 19 1048575 9 (.bool false) hE (fun a hE => ?_)
       refine wS 20 2097151 8 hE (fun a hE => ?_)
       refine wS 21 4194303 7 hE (fun a hE => ?_)
       refine wS 22 8388607 6 hE (fun a hE => ?_)
       refine wS 23 16777215 5 hE (fun a hE => ?_)
       refine wS 24 33554431 4 hE (fun a hE => ?_)
       refine wS 25 67108863 3 hE (fun a hE => ?_)
       refine wS 26 134217727 2 hE (fun a hE => ?_)
       refine wP 27 268435455 1 (.bool false) hE (fun a hE => ?_)
       refine wP 28 536870911 0 (.bool false) hE (fun a hE => ?_)
       refine doneG (by kernel_rfl) ?_
       have hS := hS.pk .n rfl
       exact ⟨false, D557, hE.weak (by kernel_rfl), hS, (le2 (le2 (le2 le544 le549) le554) le559), hf⟩
      ·replace hf := cond_t hb hf
       have hE := hE.know (t := 25) (b := (decide (r550 = r555))) (b' := true) rfl hb
       clear hb
       refine tT 13 16383 (fuel := 15) (by kernel_rfl) hE (tk_load 0 (.agg (List.toArray (c_T_api_Rec (x1) A2 c3 A5 c6))) rfl rfl rfl rfl hE rfl hS rfl rfl (by kernel_rfl) (kL (j := 0) hS rfl List.not_mem_nil) (fun a hE => ?_))
       refine tT 15 49151 (fuel := 14) (by kernel_rfl) hE (tk_load 0 (.agg (List.toArray (c_T_api_Rec (x1) A2 c3 A5 c6))) rfl rfl rfl rfl hE rfl hS rfl rfl (by kernel_rfl) (kL (j := 0) hS rfl List.not_mem_nil) (fun a hE => ?_))
       obtain ⟨r560, h561, hf⟩ := bind_some hf
       refine oG 14 65535 (fuel := 13) (by kernel_rfl) (op_call rfl rfl rfl rfl hE rfl rfl rfl rfl (by kernel_rfl) (rec_Redact.calls (g := g) h561 (hS.st.fore (L := [])) (h4.mono (le2 (le2 (le2 (le2 (le2 le325 le363) le544) le549) le554) le559)) (h7.mono (le2 (le2 (le2 (le2 (le2 le325 le363) le544) le549) le554) le559)) (hG0.mono (le2 (le2 (le2 (le2 (le2 le325 le363) le544) le549) le554) le559)) (hG1.mono (le2 (le2 (le2 (le2 (le2 le325 le363) le544) le549) le554) le559))) (fun a v w hR hE => ?_))
       obtain ⟨D562, A564, c565, A567, c568, rfl, hS1, h566, h569⟩ := hR
       refine ⟨(hS1.keeps.sub (M' := []) trivial).mono (fun _ h => h), ?_⟩
       have le570 := hS1.dle
       have hS := hS.callR hS1 rfl .n
       clear hS1
       obtain ⟨r571, h572, hf⟩ := bind_some hf
       refine oG 16 131071 (fuel := 12) (by kernel_rfl) (op_call rfl rfl rfl rfl hE rfl rfl rfl rfl (by kernel_rfl) (inspeximusref04_Redact.calls (g := g) h572 (hS.st.fore (L := [])) (h4.mono (le2 (le2 (le2 (le2 (le2 (le2 le325 le363) le544) le549) le554) le559) le570)) (h7.mono (le2 (le2 (le2 (le2 (le2 (le2 le325 le363) le544) le549) le554) le559) le570)) (hG0.mono (le2 (le2 (le2 (le2 (le2 (le2 le325 le363) le544) le549) le554) le559) le570)) (hG1.mono (le2 (le2 (le2 (le2 (le2 (le2 le325 le363) le544) le549) le554) le559) le570))) (fun a v w hR hE => ?_))
       obtain ⟨D573, A575, c576, A578, c579, rfl, hS1, h577, h580⟩ := hR
       refine ⟨(hS1.keeps.sub (M' := []) trivial).mono (fun _ h => h), ?_⟩
       have le581 := hS1.dle
       have hS := hS.callR hS1 rfl .n
       clear hS1
       obtain ⟨r582, h583, hf⟩ := bind_some hf
       refine oG 17 262143 (fuel := 11) (by kernel_rfl) (op_call rfl rfl rfl rfl hE rfl rfl rfl rfl (by kernel_rfl) (inspeximusref04_Same.calls (g := g) h583 (hS.st.fore (L := [])) (h566.mono le581) (h569.mono le581) h577 h580) (fun a v w hR hE => ?_))
       obtain ⟨D584, rfl, hS1⟩ := hR
       refine ⟨(hS1.keeps.sub (M' := []) trivial).mono (fun _ h => h), ?_⟩
       have le586 := hS1.dle
       have hS := hS.callR hS1 rfl .n
       clear hS1
       refine wP 18 524287 10 (.bool (r582)) hE (fun a hE => ?_)
       refine wP 19 1048575 9 (.bool (r582)) hE (fun a hE => ?_)
       refine Or.elim (Bool.eq_false_or_eq_true (r582)).symm (fun hb => ?_) (fun hb => ?_)
       ·replace hf := cond_f hb hf
        have hE := hE.know (t := 32) (b := r582) (b' := false) rfl hb
        clear hb
        refine wS 20 2097151 8 hE (fun a hE => ?_)
        refine wS 21 4194303 7 hE (fun a hE => ?_)
        refine wS 22 8388607 6 hE (fun a hE => ?_)
        refine wS 23 16777215 5 hE (fun a hE => ?_)
        refine wS 24 33554431 4 hE (fun a hE => ?_)
        refine wS 25 67108863 3 hE (fun a hE => ?_)
        refine wS 26 134217727 2 hE (fun a hE => ?_)
        refine wP 27 268435455 1 (.bool false) hE (fun a hE => ?_)
        refine wP 28 536870911 0 (.bool false) hE (fun a hE => ?_)
        refine doneG (by kernel_rfl) ?_
        have hS := hS.pk .n rfl
        exact ⟨false, D584, hE.weak (by kernel_rfl), hS, (le2 (le2 (le2 (le2 (le2 (le2 le544 le549) le554) le559) le570) le581) le586), hf⟩
       ·replace hf := cond_t hb hf
        have hE := hE.know (t := 32) (b := r582) (b' := true) rfl hb
        clear hb
        refine tT 20 2097151 (fuel := 8) (by kernel_rfl) hE (tk_load 0 (.agg (List.toArray (c_T_api_Rec (x1) A2 c3 A5 c6))) rfl rfl rfl rfl hE rfl hS rfl rfl (by kernel_rfl) (kL (j := 0) hS rfl List.not_mem_nil) (fun a hE => ?_))
        refine tT 21 4194303 (fuel := 7) (by kernel_rfl) hE (tk_load 1 (.agg (List.toArray (c_T_api_Rec (x8) A9 c10 A12 c13))) rfl rfl rfl rfl hE rfl hS rfl rfl (by kernel_rfl) (kL (j := 1) hS rfl List.not_mem_nil) (fun a hE => ?_))
        refine tT 23 12582911 (fuel := 6) (by kernel_rfl) hE (tk_load 0 (.agg (List.toArray (c_T_api_Rec (x1) A2 c3 A5 c6))) rfl rfl rfl rfl hE rfl hS rfl rfl (by kernel_rfl) (kL (j := 0) hS rfl List.not_mem_nil) (fun a hE => ?_))
        refine tT 24 29360127 (fuel := 5) (by kernel_rfl) hE (tk_load 1 (.agg (List.toArray (c_T_api_Rec (x8) A9 c10 A12 c13))) rfl rfl rfl rfl hE rfl hS rfl rfl (by kernel_rfl) (kL (j := 1) hS rfl List.not_mem_nil) (fun a hE => ?_))
        obtain ⟨r587, h588, hf⟩ := bind_some hf
        refine oG 22 33554431 (fuel := 4) (by kernel_rfl) (op_call rfl rfl rfl rfl hE rfl rfl rfl rfl (by kernel_rfl) (rec_Same.calls (g := g) h588 (hS.st.fore (L := [])) (h4.mono (le2 (le2 (le2 (le2 (le2 (le2 (le2 (le2 le325 le363) le544) le549) le554) le559) le570) le581) le586)) (h7.mono (le2 (le2 (le2 (le2 (le2 (le2 (le2 (le2 le325 le363) le544) le549) le554) le559) le570) le581) le586)) (h11.mono (le2 (le2 (le2 (le2 (le2 (le2 (le2 (le2 le325 le363) le544) le549) le554) le559) le570) le581) le586)) (h14.mono (le2 (le2 (le2 (le2 (le2 (le2 (le2 (le2 le325 le363) le544) le549) le554) le559) le570) le581) le586))) (fun a v w hR hE => ?_))
        obtain ⟨D589, rfl, hS1⟩ := hR
        refine ⟨(hS1.keeps.sub (M' := []) trivial).mono (fun _ h => h), ?_⟩
        have le591 := hS1.dle
        have hS := hS.callR hS1 rfl .n
        clear hS1
        obtain ⟨r592, h593, hf⟩ := bind_some hf
        refine oG 25 67108863 (fuel := 3) (by kernel_rfl) (op_call rfl rfl rfl rfl hE rfl rfl rfl rfl (by kernel_rfl) (inspeximusref04_Same.calls (g := g) h593 (hS.st.fore (L := [])) (h4.mono (le2 (le2 (le2 (le2 (le2 (le2 (le2 (le2 (le2 le325 le363) le544) le549) le554) le559) le570) le581) le586) le591)) (h7.mono (le2 (le2 (le2 (le2 (le2 (le2 (le2 (le2 (le2 le325 le363) le544) le549) le554) le559) le570) le581) le586) le591)) (h11.mono (le2 (le2 (le2 (le2 (le2 (le2 (le2 (le2 (le2 le325 le363) le544) le549) le554) le559) le570) le581) le586) le591)) (h14.mono (le2 (le2 (le2 (le2 (le2 (le2 (le2 (le2 (le2 le325 le363) le544) le549) le554) le559) le570) le581) le586) le591))) (fun a v w hR hE => ?_))
        obtain ⟨D594, rfl, hS1⟩ := hR
        refine ⟨(hS1.keeps.sub (M' := []) trivial).mono (fun _ h => h), ?_⟩
        have le596 := hS1.dle
        have hS := hS.callR hS1 rfl .n
        clear hS1
        refine tW 26 134217727 (fuel := 2) (by kernel_rfl) hE (fun M => tk_bin (r := .bool ((r587 == r592))) rfl rfl rfl rfl hE rfl rfl rfl (eqb_run (by kernel_rfl) _ _) (fun a hE => ?_))
        refine wP 27 268435455 1 (.bool ((r587 == r592))) hE (fun a hE => ?_)
        refine wP 28 536870911 0 (.bool ((r587 == r592))) hE (fun a hE => ?_)
        refine doneG (by kernel_rfl) ?_
        have hS := hS.pk .n rfl
        exact ⟨(r587 == r592), D594, hE.weak (by kernel_rfl), hS, (le2 (le2 (le2 (le2 (le2 (le2 (le2 (le2 le544 le549) le554) le559) le570) le581) le586) le591) le596), hf⟩
    ·clear hE hS
     rintro a w ⟨y478, D479, hE, hS, le480, hf⟩
     replace hf := hj482 _ hf
     clear hj482
     refine wpIn_ret ?_
     obtain rfl := Option.some.inj hf
     repeat (with_reducible first | refine then_ret ?_ | refine block_ret ?_ | refine qx_ret ?_)
     refine ret_gen ([.bool (y478)]) hE (by rw [show Tryd.f3.results.toList = [.tmp 4] from rfl]; exact ⟨_, _, rfl, rfl, rfl⟩) ?_
     exact ⟨_, rfl, D479, rfl, hS⟩
end Go.Proofs.YtlcnliiampfigaaDoor
