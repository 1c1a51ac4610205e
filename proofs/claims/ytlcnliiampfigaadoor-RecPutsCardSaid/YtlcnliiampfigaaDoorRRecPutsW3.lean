/-
  Proved, text by text: a call of a function of the cut comes to what its plain function computes.
  Conditions: those that each theorem names.
-/
import Derived.Test.YtlcnliiampfigaaDoorProg
import Derived.Test.YtlcnliiampfigaaDoorSepN
import Derived.Test.YtlcnliiampfigaaDoorRRecPutsW2
set_option linter.unusedVariables false
namespace Go.Proofs.YtlcnliiampfigaaDoor
open Go Go.Sep
set_option maxRecDepth 100000 in
set_option maxHeartbeats 4000000 in
theorem inspeximusref01_Turn.calls {K : Nat} {g w0 : World} {D0 : Snap} {x1 : (Vector Int 8)} {x2 : (List Int)} {A3 : Option Addr} {c4 : Nat} {r : ((Vector Int 8))} (hf : inspeximusref01_Turn.f K x1 x2 = some r) (hS0 : St g w0 D0 []) (h5 : Sl (kdInt .u8) D0 A3 c4 (x2)) (hG1 : Cell (kdArr .u32 64) D0 1 0 gl_K) :
  CallsIn (Fw none) 0 Tryd.prog 82 (List.toArray [.agg (List.toArray (acells .u32 8 (x1))), .slice A3 (List.length (x2)) c4]) w0 (fun e w' => ∃ v, e = .returned v ∧ ∃ (D1 : Snap), v = .agg (List.toArray (acells .u32 8 (r))) ∧ Stp g w0 D0 [] w' D1 []) := by
 unfold inspeximusref01_Turn.f at hf
 have hS := Stp.refl hS0
 clear hS0
 refine calls_body (n := 218) Tryd.func82 rfl Tryd.ntmps82 rfl (fun a hE => ?_)
 have hE : Env a 218 [] [(0, .agg (List.toArray (acells .u32 8 (x1)))), (1, .slice A3 (List.length (x2)) c4)] := hE
 refine wpIn_seq ?_
 refine region_at ?_
 refine at_op (op_box rfl rfl rfl rfl hE rfl hS rfl (fun a b4392 w _ hE hS => ?_)) rfl
 refine at_op (op_alloc (z := .agg (List.toArray (acells .u32 8 ((Vector.replicate 8 (0 : Int)))))) rfl rfl rfl rfl hE rfl hS (by kernel_rfl) (fun a b4394 w _ hE hS => ?_)) rfl
 refine at_end rfl ?_
 refine wpIn_seq ?_
 refine wpIn_seq ?_
 refine region_at ?_
 refine sN 3 3 [(21, .bool ((!decide (((List.length (x2) : Nat) : Int) = (64 : Int)))))] hE (fun a hE => ?_)
 refine at_end rfl ?_
 refine cond_split hE (b := (!decide (((List.length (x2) : Nat) : Int) = (64 : Int)))) rfl (fun hb => ?_) (fun hb => ?_)
 ·replace hf := cond_t hb hf
  clear hb
  refine wpIn_seq ?_
  refine region_at ?_
  refine aL 1 (.agg (List.toArray (acells .u32 8 (x1)))) hE hS (fun a hE => ?_)
  refine at_op (op_store (v := .agg (List.toArray (acells .u32 8 (x1)))) (acells .u32 8 (x1)) rfl rfl rfl rfl hE hS rfl rfl (by kernel_rfl) (by kernel_rfl) (by kernel_rfl) (by kernel_rfl) (by kernel_rfl) (fun a w _ hE hS => ?_)) rfl
  refine at_end rfl ?_
  refine wpIn_ret ?_
  obtain rfl := Option.some.inj hf
  repeat (with_reducible first | refine then_ret ?_ | refine block_ret ?_ | refine qx_ret ?_)
  refine ret_gen ([.agg (List.toArray (acells .u32 8 (x1)))]) hE (by rw [show Tryd.f82.results.toList = [.cell 4 94] from rfl]; exact ⟨_, _, _, 0, _, _, rfl, rfl, hS.heapAt (j := 0) rfl, by kernel_rfl, rfl⟩) ?_
  have hS := hS.pk .n rfl
  exact ⟨_, rfl, D0, rfl, hS⟩
 ·replace hf := cond_f hb hf
  clear hb
  refine wpIn_skip ?_
  refine wpIn_seq ?_
  refine region_at ?_
  refine at_op (op_alloc (z := .agg (List.toArray (acells .u64 64 ((Vector.replicate 64 (0 : Int)))))) rfl rfl rfl rfl hE rfl hS (by kernel_rfl) (fun a b4396 w _ hE hS => ?_)) rfl
  refine at_end rfl ?_
  refine wpIn_seq ?_
  refine wpIn_seq ?_
  refine region_at ?_
  refine sN 1 1 [(6, .int .i64 ((0 : Int)))] hE (fun a hE => ?_)
  refine at_end rfl ?_
  obtain ⟨s7217, hf, hs7218⟩ := bind_some hf
  have hS := hS.pk (.c 2 rfl (.c 1 rfl (.c 0 rfl .n))) rfl
  refine block_loop (fun a w => ∃ (z7214 : (Vector Int 64)), ∃ (D7215 : Snap), Env a 218 [] [(2, .pointer (some ⟨b4392, 0, none⟩)), (4, .pointer (some ⟨b4394, 0, none⟩)), (5, .pointer (some ⟨b4396, 0, none⟩))] ∧ Stp g w0 D0 [] w D7215 [bx b4392 94 (acells .u32 8 (x1)), bx b4394 94 (acells .u32 8 ((Vector.replicate 8 (0 : Int)))), bx b4396 111 (acells .u64 64 (z7214))] ∧ Snap.le D0 D7215 ∧ z7214 = s7217) (fun k a w => ∃ (y6647 : Int × (Vector Int 64)), ∃ (D6648 : Snap), Env a 218 [] [(1, .slice A3 (List.length (x2)) c4), (2, .pointer (some ⟨b4392, 0, none⟩)), (4, .pointer (some ⟨b4394, 0, none⟩)), (5, .pointer (some ⟨b4396, 0, none⟩)), (6, .int .i64 (y6647.1))] ∧ Stp g w0 D0 [] w D6648 [bx b4392 94 (acells .u32 8 (x1)), bx b4394 94 (acells .u32 8 ((Vector.replicate 8 (0 : Int)))), bx b4396 111 (acells .u64 64 (y6647.2))] ∧ Snap.le D0 D6648 ∧ inspeximusref01_Turn_l1.l K x2 k y6647 = some s7217) K ?_ ?_ ?_
  ·exact ⟨((0 : Int), (Vector.replicate 64 (0 : Int))), D0, hE.weak (by kernel_rfl), hS, Snap.le.refl _, hf⟩
  ·clear hE hS hf
   rintro a w ⟨z7214, D7215, hE, hS, le7216, rfl⟩
   have hf := hs7218
   clear hs7218
   refine wpIn_seq ?_
   refine region_at ?_
   refine at_op (op_alloc (z := .agg (List.toArray (acells .u64 8 ((Vector.replicate 8 (0 : Int)))))) rfl rfl rfl rfl hE rfl hS (by kernel_rfl) (fun a b7780 w _ hE hS => ?_)) rfl
   refine at_end rfl ?_
   refine wpIn_seq ?_
   refine wpIn_seq ?_
   refine region_at ?_
   refine sN 1 1 [(10, .int .i64 ((0 : Int)))] hE (fun a hE => ?_)
   refine at_end rfl ?_
   obtain ⟨s7852, hf, hs7853⟩ := bind_some hf
   have hS := hS.pk (.c 1 rfl (.c 2 rfl (.c 3 rfl (.c 0 rfl .n)))) rfl
   refine block_loop (fun a w => ∃ (z7849 : (Vector Int 8)), ∃ (D7850 : Snap), Env a 218 [] [(2, .pointer (some ⟨b4392, 0, none⟩)), (4, .pointer (some ⟨b4394, 0, none⟩)), (5, .pointer (some ⟨b4396, 0, none⟩)), (9, .pointer (some ⟨b7780, 0, none⟩))] ∧ Stp g w0 D0 [] w D7850 [bx b4392 94 (acells .u32 8 (x1)), bx b4394 94 (acells .u32 8 ((Vector.replicate 8 (0 : Int)))), bx b4396 111 (acells .u64 64 (z7214)), bx b7780 113 (acells .u64 8 (z7849))] ∧ Snap.le D7215 D7850 ∧ z7849 = s7852) (fun k a w => ∃ (y7835 : Int × (Vector Int 8)), ∃ (D7836 : Snap), Env a 218 [] [(2, .pointer (some ⟨b4392, 0, none⟩)), (4, .pointer (some ⟨b4394, 0, none⟩)), (5, .pointer (some ⟨b4396, 0, none⟩)), (9, .pointer (some ⟨b7780, 0, none⟩)), (10, .int .i64 (y7835.1))] ∧ Stp g w0 D0 [] w D7836 [bx b4392 94 (acells .u32 8 (x1)), bx b4394 94 (acells .u32 8 ((Vector.replicate 8 (0 : Int)))), bx b4396 111 (acells .u64 64 (z7214)), bx b7780 113 (acells .u64 8 (y7835.2))] ∧ Snap.le D7215 D7836 ∧ inspeximusref01_Turn_l2.l K x1 k y7835 = some s7852) K ?_ ?_ ?_
   ·exact ⟨((0 : Int), (Vector.replicate 8 (0 : Int))), D7215, hE.weak (by kernel_rfl), hS, Snap.le.refl _, hf⟩
   ·clear hE hS hf
    rintro a w ⟨z7849, D7850, hE, hS, le7851, rfl⟩
    have hf := hs7853
    clear hs7853
    refine wpIn_seq ?_
    refine wpIn_seq ?_
    refine region_at ?_
    refine sN 1 1 [(11, .int .i64 ((0 : Int)))] hE (fun a hE => ?_)
    refine at_end rfl ?_
    obtain ⟨s8514, hf, hs8515⟩ := bind_some hf
    refine block_loop (fun a w => ∃ (z8511 : (Vector Int 8)), ∃ (D8512 : Snap), Env a 218 [] [(2, .pointer (some ⟨b4392, 0, none⟩)), (4, .pointer (some ⟨b4394, 0, none⟩)), (9, .pointer (some ⟨b7780, 0, none⟩))] ∧ Stp g w0 D0 [] w D8512 [bx b4392 94 (acells .u32 8 (x1)), bx b4394 94 (acells .u32 8 ((Vector.replicate 8 (0 : Int)))), bx b7780 113 (acells .u64 8 (z8511))] ∧ Snap.le D7850 D8512 ∧ z8511 = s8514) (fun k a w => ∃ (y8379 : Int × (Vector Int 8)), ∃ (D8380 : Snap), Env a 218 [] [(2, .pointer (some ⟨b4392, 0, none⟩)), (4, .pointer (some ⟨b4394, 0, none⟩)), (5, .pointer (some ⟨b4396, 0, none⟩)), (9, .pointer (some ⟨b7780, 0, none⟩)), (11, .int .i64 (y8379.1))] ∧ Stp g w0 D0 [] w D8380 [bx b4392 94 (acells .u32 8 (x1)), bx b4394 94 (acells .u32 8 ((Vector.replicate 8 (0 : Int)))), bx b4396 111 (acells .u64 64 (z7214)), bx b7780 113 (acells .u64 8 (y8379.2))] ∧ Snap.le D7850 D8380 ∧ inspeximusref01_Turn_l3.l K z7214 k y8379 = some s8514) K ?_ ?_ ?_
    ·exact ⟨((0 : Int), z7849), D7850, hE.weak (by kernel_rfl), hS, Snap.le.refl _, hf⟩
    ·clear hE hS hf
     rintro a w ⟨z8511, D8512, hE, hS, le8513, rfl⟩
     have hf := hs8515
     clear hs8515
     refine wpIn_seq ?_
     refine wpIn_seq ?_
     refine region_at ?_
     refine sN 1 1 [(18, .int .i64 ((0 : Int)))] hE (fun a hE => ?_)
     refine at_end rfl ?_
     obtain ⟨s8756, hf, hs8757⟩ := bind_some hf
     refine block_loop (fun a w => ∃ (z8753 : (Vector Int 8)), ∃ (D8754 : Snap), Env a 218 [] [(2, .pointer (some ⟨b4392, 0, none⟩)), (4, .pointer (some ⟨b4394, 0, none⟩))] ∧ Stp g w0 D0 [] w D8754 [bx b4392 94 (acells .u32 8 (z8753)), bx b4394 94 (acells .u32 8 ((Vector.replicate 8 (0 : Int))))] ∧ Snap.le D8512 D8754 ∧ z8753 = s8756) (fun k a w => ∃ (y8727 : Int × (Vector Int 8)), ∃ (D8728 : Snap), Env a 218 [] [(2, .pointer (some ⟨b4392, 0, none⟩)), (4, .pointer (some ⟨b4394, 0, none⟩)), (9, .pointer (some ⟨b7780, 0, none⟩)), (18, .int .i64 (y8727.1))] ∧ Stp g w0 D0 [] w D8728 [bx b4392 94 (acells .u32 8 (y8727.2)), bx b4394 94 (acells .u32 8 ((Vector.replicate 8 (0 : Int)))), bx b7780 113 (acells .u64 8 (z8511))] ∧ Snap.le D8512 D8728 ∧ inspeximusref01_Turn_l4.l K z8511 k y8727 = some s8756) K ?_ ?_ ?_
     ·exact ⟨((0 : Int), x1), D8512, hE.weak (by kernel_rfl), hS, Snap.le.refl _, hf⟩
     ·clear hE hS hf
      rintro a w ⟨z8753, D8754, hE, hS, le8755, rfl⟩
      have hf := hs8757
      clear hs8757
      refine wpIn_seq ?_
      refine region_at ?_
      refine aL 0 (.agg (List.toArray (acells .u32 8 (z8753)))) hE hS (fun a hE => ?_)
      have hS := hS.pk (.c 1 rfl (.c 0 rfl .n)) rfl
      refine at_op (op_store (v := .agg (List.toArray (acells .u32 8 (z8753)))) (acells .u32 8 (z8753)) rfl rfl rfl rfl hE hS rfl rfl (by kernel_rfl) (by kernel_rfl) (by kernel_rfl) (by kernel_rfl) (by kernel_rfl) (fun a w _ hE hS => ?_)) rfl
      refine at_end rfl ?_
      refine wpIn_ret ?_
      obtain rfl := Option.some.inj hf
      repeat (with_reducible first | refine then_ret ?_ | refine block_ret ?_ | refine qx_ret ?_)
      refine ret_gen ([.agg (List.toArray (acells .u32 8 (z8753)))]) hE (by rw [show Tryd.f82.results.toList = [.cell 4 94] from rfl]; exact ⟨_, _, _, 0, _, _, rfl, rfl, hS.heapAt (j := 0) rfl, by kernel_rfl, rfl⟩) ?_
      have hS := hS.pk .n rfl
      exact ⟨_, rfl, D8754, rfl, hS⟩
     ·clear hE hS hf
      rintro k a w ⟨y8727, D8728, hE, hS, le8729, hf⟩
      obtain ⟨k, rfl, hf⟩ := inspeximusref01_Turn_l4.some _ hf
      refine ⟨k, rfl, ?_⟩
      unfold inspeximusref01_Turn_l4.b at hf
      refine wpIn_seq ?_
      refine wpIn_seq ?_
      refine region_at ?_
      refine sN 2 2 [(202, .bool ((decide (y8727.1 < (8 : Int)))))] hE (fun a hE => ?_)
      refine at_end rfl ?_
      refine cond_split hE (b := (decide (y8727.1 < (8 : Int)))) rfl (fun hb => ?_) (fun hb => ?_)
      ·replace hf := cond_t hb hf
       clear hb
       refine wpIn_skip ?_
       refine wpIn_seq ?_
       refine wpIn_block ?_
       refine region_draw (fun j => Keeps (mfOf [(12, [b4392])] j)) (by kernel_rfl) ?_
       have hS := hS.drew
       first | generalize w.drew = w at hS ⊢ | generalize w0.drew = w at hS ⊢
       refine wP 0 1 12 (.int .i64 (y8727.1)) hE (fun a hE => ?_)
       refine wP 1 3 11 (.int .i64 (y8727.1)) hE (fun a hE => ?_)
       refine wP 5 35 10 (.int .i64 (y8727.1)) hE (fun a hE => ?_)
       obtain ⟨hm8773, hf⟩ := chk_some hf
       refine tW 2 39 (fuel := 9) (by kernel_rfl) hE (fun M => tk_indexPA (N := 8) (k := .u32) (m := y8727.1) rfl rfl rfl rfl hE rfl rfl rfl (by kernel_rfl) hm8773 (fun a hE => ?_))
       refine tT 3 47 (fuel := 8) (by kernel_rfl) hE (tk_loadPA 0 (N := 8) (k := .u32) (v := y8727.2) (m := y8727.1) rfl rfl rfl rfl hE rfl hS rfl rfl (by kernel_rfl) hm8773 (kL (j := 0) hS rfl List.not_mem_nil) (fun a hE => ?_))
       refine tW 4 63 (fuel := 7) (by kernel_rfl) hE (fun M => tk_pure (.int .u64 ((IntKind.wrap .u64 (vget (y8727.2) (Int.toNat (y8727.1)))))) hE rfl rfl rfl rfl (fun _ _ _ e => by cases e; rfl) (by kernel_rfl) (fun a hE => ?_))
       obtain ⟨hm8774, hf⟩ := chk_some hf
       refine tW 6 127 (fuel := 6) (by kernel_rfl) hE (fun M => tk_indexPA (N := 8) (k := .u64) (m := y8727.1) rfl rfl rfl rfl hE rfl rfl rfl (by kernel_rfl) hm8774 (fun a hE => ?_))
       refine tT 7 255 (fuel := 5) (by kernel_rfl) hE (tk_loadPA 2 (N := 8) (k := .u64) (v := z8511) (m := y8727.1) rfl rfl rfl rfl hE rfl hS rfl rfl (by kernel_rfl) hm8774 (kL (j := 2) hS rfl List.not_mem_nil) (fun a hE => ?_))
       refine wP 8 511 4 (.int .u64 ((IntKind.wrap .u64 ((IntKind.wrap .u64 (vget (y8727.2) (Int.toNat (y8727.1)))) + (vget (z8511) (Int.toNat (y8727.1))))))) hE (fun a hE => ?_)
       refine wP 9 1023 3 (.int .u64 ((Int.tmod (IntKind.wrap .u64 ((IntKind.wrap .u64 (vget (y8727.2) (Int.toNat (y8727.1)))) + (vget (z8511) (Int.toNat (y8727.1))))) 4294967296))) hE (fun a hE => ?_)
       refine tW 10 2047 (fuel := 2) (by kernel_rfl) hE (fun M => tk_pure (.int .u32 ((IntKind.wrap .u32 (Int.tmod (IntKind.wrap .u64 ((IntKind.wrap .u64 (vget (y8727.2) (Int.toNat (y8727.1)))) + (vget (z8511) (Int.toNat (y8727.1))))) 4294967296)))) hE rfl rfl rfl rfl (fun _ _ _ e => by cases e; rfl) (by kernel_rfl) (fun a hE => ?_))
       obtain ⟨hm8775, hf⟩ := chk_some hf
       refine tW 11 4095 (fuel := 1) (by kernel_rfl) hE (fun M => tk_indexPA (N := 8) (k := .u32) (m := y8727.1) rfl rfl rfl rfl hE rfl rfl rfl (by kernel_rfl) hm8775 (fun a hE => ?_))
       obtain ⟨v8776, hv8777, hf⟩ := bind_some hf
       replace hv8777 := Option.some.inj hv8777
       refine oG 12 8191 (fuel := 0) (by kernel_rfl) (op_storePA (N := 8) (k := .u32) (v := y8727.2) (m := y8727.1) (z := (IntKind.wrap .u32 (Int.tmod (IntKind.wrap .u64 ((IntKind.wrap .u64 (vget (y8727.2) (Int.toNat (y8727.1)))) + (vget (z8511) (Int.toNat (y8727.1))))) 4294967296))) rfl rfl rfl rfl hE hS rfl rfl (by kernel_rfl) hm8775 (fun a w hkp hE hS => ⟨hkp.mono (fun _ h => h), ?_⟩))
       clear hkp
       rw [hv8777] at hS
       refine doneG (by kernel_rfl) ?_
       refine region_at ?_
       refine sN 3 3 [(18, .int .i64 ((IntKind.wrap .i64 (y8727.1 + (1 : Int)))))] hE (fun a hE => ?_)
       refine at_end rfl ?_
       exact ⟨((IntKind.wrap .i64 (y8727.1 + (1 : Int))), v8776), D8728, hE.weak (by kernel_rfl), hS, le8729, hf⟩
      ·replace hf := cond_f hb hf
       clear hb
       refine wpIn_exit ?_
       obtain rfl := Option.some.inj hf
       have hS := hS.pk (.c 0 rfl (.c 1 rfl .n)) rfl
       exact ⟨y8727.2, D8728, hE.weak (by kernel_rfl), hS, le8729, rfl⟩
    ·clear hE hS hf
     rintro k a w ⟨y8379, D8380, hE, hS, le8381, hf⟩
     obtain ⟨k, rfl, hf⟩ := inspeximusref01_Turn_l3.some _ hf
     refine ⟨k, rfl, ?_⟩
     unfold inspeximusref01_Turn_l3.b at hf
     refine wpIn_seq ?_
     refine wpIn_seq ?_
     refine region_at ?_
     refine sN 2 2 [(113, .bool ((decide (y8379.1 < (64 : Int)))))] hE (fun a hE => ?_)
     refine at_end rfl ?_
     refine cond_split hE (b := (decide (y8379.1 < (64 : Int)))) rfl (fun hb => ?_) (fun hb => ?_)
     ·replace hf := cond_t hb hf
      clear hb
      refine wpIn_skip ?_
      refine wpIn_seq ?_
      refine wpIn_block ?_
      refine wpIn_seq ?_
      refine region_draw (fun j => Keeps (mfOf [] j)) (by kernel_rfl) ?_
      have hS := hS.drew
      first | generalize w.drew = w at hS ⊢ | generalize w0.drew = w at hS ⊢
      refine tW 0 1 (fuel := 5) (by kernel_rfl) hE (fun M => tk_indexPA (N := 8) (k := .u64) (m := (4 : Int)) rfl rfl rfl rfl hE rfl rfl rfl (by kernel_rfl) (by kernel_rfl) (fun a hE => ?_))
      refine tT 1 3 (fuel := 4) (by kernel_rfl) hE (tk_loadPA 3 (N := 8) (k := .u64) (v := y8379.2) (m := (4 : Int)) rfl rfl rfl rfl hE rfl hS rfl rfl (by kernel_rfl) (by kernel_rfl) (kL (j := 3) hS rfl List.not_mem_nil) (fun a hE => ?_))
      refine wP 4 19 3 (.int .u64 ((vget (y8379.2) (Int.toNat ((4 : Int)))))) hE (fun a hE => ?_)
      refine tW 2 23 (fuel := 2) (by kernel_rfl) hE (fun M => tk_indexPA (N := 8) (k := .u64) (m := (0 : Int)) rfl rfl rfl rfl hE rfl rfl rfl (by kernel_rfl) (by kernel_rfl) (fun a hE => ?_))
      refine tT 3 31 (fuel := 1) (by kernel_rfl) hE (tk_loadPA 3 (N := 8) (k := .u64) (v := y8379.2) (m := (0 : Int)) rfl rfl rfl rfl hE rfl hS rfl rfl (by kernel_rfl) (by kernel_rfl) (kL (j := 3) hS rfl List.not_mem_nil) (fun a hE => ?_))
      refine wP 5 63 0 (.int .u64 ((vget (y8379.2) (Int.toNat ((0 : Int)))))) hE (fun a hE => ?_)
      refine doneG (by kernel_rfl) ?_
      refine wpIn_seq ?_
      refine region_at ?_
      refine sN 1 1 [(120, .int .u64 ((vget (y8379.2) (Int.toNat ((4 : Int))))))] hE (fun a hE => ?_)
      refine at_op (op_tk hE (tk_indexPA (N := 8) (k := .u64) (m := (5 : Int)) rfl rfl rfl rfl hE rfl rfl rfl (by kernel_rfl) (by kernel_rfl) (fun a hE => ?_))) rfl
      refine at_op (op_tk hE (tk_loadPA 3 (N := 8) (k := .u64) (v := y8379.2) (m := (5 : Int)) rfl rfl rfl rfl hE rfl hS rfl rfl (by kernel_rfl) (by kernel_rfl) (kL (j := 3) hS rfl List.not_mem_nil) (fun a hE => ?_))) rfl
      refine sN 3 6 [(123, .int .u64 ((band .u64 (vget (y8379.2) (Int.toNat ((4 : Int)))) (vget (y8379.2) (Int.toNat ((5 : Int))))))), (125, .int .u64 ((IntKind.wrap .u64 ((4294967295 : Int) - (vget (y8379.2) (Int.toNat ((4 : Int))))))))] hE (fun a hE => ?_)
      refine at_op (op_tk hE (tk_indexPA (N := 8) (k := .u64) (m := (6 : Int)) rfl rfl rfl rfl hE rfl rfl rfl (by kernel_rfl) (by kernel_rfl) (fun a hE => ?_))) rfl
      refine at_op (op_tk hE (tk_loadPA 3 (N := 8) (k := .u64) (v := y8379.2) (m := (6 : Int)) rfl rfl rfl rfl hE rfl hS rfl rfl (by kernel_rfl) (by kernel_rfl) (kL (j := 3) hS rfl List.not_mem_nil) (fun a hE => ?_))) rfl
      refine sN 3 11 [(14, .int .u64 ((bxor .u64 (band .u64 (vget (y8379.2) (Int.toNat ((4 : Int)))) (vget (y8379.2) (Int.toNat ((5 : Int))))) (band .u64 (IntKind.wrap .u64 ((4294967295 : Int) - (vget (y8379.2) (Int.toNat ((4 : Int)))))) (vget (y8379.2) (Int.toNat ((6 : Int))))))))] hE (fun a hE => ?_)
      refine at_end rfl ?_
      refine wpIn_seq ?_
      refine region_at ?_
      refine sN 1 1 [(130, .int .u64 ((vget (y8379.2) (Int.toNat ((0 : Int))))))] hE (fun a hE => ?_)
      refine at_op (op_tk hE (tk_indexPA (N := 8) (k := .u64) (m := (1 : Int)) rfl rfl rfl rfl hE rfl rfl rfl (by kernel_rfl) (by kernel_rfl) (fun a hE => ?_))) rfl
      refine at_op (op_tk hE (tk_loadPA 3 (N := 8) (k := .u64) (v := y8379.2) (m := (1 : Int)) rfl rfl rfl rfl hE rfl hS rfl rfl (by kernel_rfl) (by kernel_rfl) (kL (j := 3) hS rfl List.not_mem_nil) (fun a hE => ?_))) rfl
      refine sN 2 5 [(133, .int .u64 ((band .u64 (vget (y8379.2) (Int.toNat ((0 : Int)))) (vget (y8379.2) (Int.toNat ((1 : Int))))))), (134, .int .u64 ((vget (y8379.2) (Int.toNat ((0 : Int))))))] hE (fun a hE => ?_)
      refine at_op (op_tk hE (tk_indexPA (N := 8) (k := .u64) (m := (2 : Int)) rfl rfl rfl rfl hE rfl rfl rfl (by kernel_rfl) (by kernel_rfl) (fun a hE => ?_))) rfl
      refine at_op (op_tk hE (tk_loadPA 3 (N := 8) (k := .u64) (v := y8379.2) (m := (2 : Int)) rfl rfl rfl rfl hE rfl hS rfl rfl (by kernel_rfl) (by kernel_rfl) (kL (j := 3) hS rfl List.not_mem_nil) (fun a hE => ?_))) rfl
      refine sN 2 9 [(138, .int .u64 ((bxor .u64 (band .u64 (vget (y8379.2) (Int.toNat ((0 : Int)))) (vget (y8379.2) (Int.toNat ((1 : Int))))) (band .u64 (vget (y8379.2) (Int.toNat ((0 : Int)))) (vget (y8379.2) (Int.toNat ((2 : Int))))))))] hE (fun a hE => ?_)
      refine at_op (op_tk hE (tk_indexPA (N := 8) (k := .u64) (m := (1 : Int)) rfl rfl rfl rfl hE rfl rfl rfl (by kernel_rfl) (by kernel_rfl) (fun a hE => ?_))) rfl
      refine at_op (op_tk hE (tk_loadPA 3 (N := 8) (k := .u64) (v := y8379.2) (m := (1 : Int)) rfl rfl rfl rfl hE rfl hS rfl rfl (by kernel_rfl) (by kernel_rfl) (kL (j := 3) hS rfl List.not_mem_nil) (fun a hE => ?_))) rfl
      refine at_op (op_tk hE (tk_indexPA (N := 8) (k := .u64) (m := (2 : Int)) rfl rfl rfl rfl hE rfl rfl rfl (by kernel_rfl) (by kernel_rfl) (fun a hE => ?_))) rfl
      refine at_op (op_tk hE (tk_loadPA 3 (N := 8) (k := .u64) (v := y8379.2) (m := (2 : Int)) rfl rfl rfl rfl hE rfl hS rfl rfl (by kernel_rfl) (by kernel_rfl) (kL (j := 3) hS rfl List.not_mem_nil) (fun a hE => ?_))) rfl
      refine sN 3 16 [(15, .int .u64 ((bxor .u64 (bxor .u64 (band .u64 (vget (y8379.2) (Int.toNat ((0 : Int)))) (vget (y8379.2) (Int.toNat ((1 : Int))))) (band .u64 (vget (y8379.2) (Int.toNat ((0 : Int)))) (vget (y8379.2) (Int.toNat ((2 : Int)))))) (band .u64 (vget (y8379.2) (Int.toNat ((1 : Int)))) (vget (y8379.2) (Int.toNat ((2 : Int))))))))] hE (fun a hE => ?_)
      refine at_end rfl ?_
      refine wpIn_seq ?_
      refine region_draw (fun j => Keeps (mfOf [] j)) (by kernel_rfl) ?_
      have hS := hS.drew
      first | generalize w.drew = w at hS ⊢ | generalize w0.drew = w at hS ⊢
      refine wP 2 4 23 (.int .u64 ((vget (y8379.2) (Int.toNat ((4 : Int)))))) hE (fun a hE => ?_)
      refine wP 4 20 22 (.int .u64 ((vget (y8379.2) (Int.toNat ((4 : Int)))))) hE (fun a hE => ?_)
      refine wP 7 148 21 (.int .u64 ((vget (y8379.2) (Int.toNat ((4 : Int)))))) hE (fun a hE => ?_)
      refine wP 11 2196 20 (.int .u64 ((bxor .u64 (band .u64 (vget (y8379.2) (Int.toNat ((4 : Int)))) (vget (y8379.2) (Int.toNat ((5 : Int))))) (band .u64 (IntKind.wrap .u64 ((4294967295 : Int) - (vget (y8379.2) (Int.toNat ((4 : Int)))))) (vget (y8379.2) (Int.toNat ((6 : Int)))))))) hE (fun a hE => ?_)
      refine wP 13 10388 19 (.int .i64 (y8379.1)) hE (fun a hE => ?_)
      refine wP 18 272532 18 (.int .i64 (y8379.1)) hE (fun a hE => ?_)
      refine tW 0 272533 (fuel := 17) (by kernel_rfl) hE (fun M => tk_indexPA (N := 8) (k := .u64) (m := (7 : Int)) rfl rfl rfl rfl hE rfl rfl rfl (by kernel_rfl) (by kernel_rfl) (fun a hE => ?_))
      refine tT 1 272535 (fuel := 16) (by kernel_rfl) hE (tk_loadPA 3 (N := 8) (k := .u64) (v := y8379.2) (m := (7 : Int)) rfl rfl rfl rfl hE rfl hS rfl rfl (by kernel_rfl) (by kernel_rfl) (kL (j := 3) hS rfl List.not_mem_nil) (fun a hE => ?_))
      obtain ⟨hm8603, hf⟩ := chk_some hf
      refine tW 14 288919 (fuel := 15) (by kernel_rfl) hE (fun M => tk_indexPA (N := 64) (k := .u32) (m := y8379.1) rfl rfl rfl rfl hE rfl rfl rfl (by kernel_rfl) hm8603 (fun a hE => ?_))
      obtain ⟨cs8604, C8605, T8606, fr8607, hr8608, hb8609, hc8610⟩ := (Cell.elemA (N := 64) (m := y8379.1) (hG1.mono (le2 (le2 le7216 le7851) le8381)) hm8603)
      obtain rfl := hr8608
      refine tT 15 321687 (fuel := 14) (by kernel_rfl) hE (tk_loadX (off0 := (0 + Int.toNat (y8379.1))) (off := 0) (c := [.int .u32 ((vget (gl_K) (Int.toNat (y8379.1))))]) (.int .u32 ((vget (gl_K) (Int.toNat (y8379.1))))) rfl rfl rfl rfl hE rfl hS rfl hb8609 hc8610 (by kernel_rfl) (by kernel_rfl) (kD hS dn_nil) (fun a hE => ?_))
      refine tW 16 387223 (fuel := 13) (by kernel_rfl) hE (fun M => tk_pure (.int .u64 ((IntKind.wrap .u64 (vget (gl_K) (Int.toNat (y8379.1)))))) hE rfl rfl rfl rfl (fun _ _ _ e => by cases e; rfl) (by kernel_rfl) (fun a hE => ?_))
      obtain ⟨hm8611, hf⟩ := chk_some hf
      refine tW 19 911511 (fuel := 12) (by kernel_rfl) hE (fun M => tk_indexPA (N := 64) (k := .u64) (m := y8379.1) rfl rfl rfl rfl hE rfl rfl rfl (by kernel_rfl) hm8611 (fun a hE => ?_))
      refine tT 20 1960087 (fuel := 11) (by kernel_rfl) hE (tk_loadPA 2 (N := 64) (k := .u64) (v := z7214) (m := y8379.1) rfl rfl rfl rfl hE rfl hS rfl rfl (by kernel_rfl) hm8611 (kL (j := 2) hS rfl List.not_mem_nil) (fun a hE => ?_))
      obtain ⟨r8612, h8613, hf⟩ := bind_some hf
      refine oG 3 1960095 (fuel := 10) (by kernel_rfl) (op_call rfl rfl rfl rfl hE rfl rfl rfl rfl (by kernel_rfl) (inspeximusref01_right.calls (g := g) h8613 (hS.st.fore (L := [])) ) (fun a v w hR hE => ?_))
      obtain ⟨D8614, rfl, hS1⟩ := hR
      refine ⟨(hS1.keeps.sub (M' := []) trivial).mono (fun _ h => h), ?_⟩
      have le8616 := hS1.dle
      have hS := hS.callR hS1 rfl .n
      clear hS1
      obtain ⟨r8617, h8618, hf⟩ := bind_some hf
      refine oG 5 1960127 (fuel := 9) (by kernel_rfl) (op_call rfl rfl rfl rfl hE rfl rfl rfl rfl (by kernel_rfl) (inspeximusref01_right.calls (g := g) h8618 (hS.st.fore (L := [])) ) (fun a v w hR hE => ?_))
      obtain ⟨D8619, rfl, hS1⟩ := hR
      refine ⟨(hS1.keeps.sub (M' := []) trivial).mono (fun _ h => h), ?_⟩
      have le8621 := hS1.dle
      have hS := hS.callR hS1 rfl .n
      clear hS1
      refine wP 6 1960191 8 (.int .u64 ((bxor .u64 r8612 r8617))) hE (fun a hE => ?_)
      obtain ⟨r8622, h8623, hf⟩ := bind_some hf
      refine oG 8 1960447 (fuel := 7) (by kernel_rfl) (op_call rfl rfl rfl rfl hE rfl rfl rfl rfl (by kernel_rfl) (inspeximusref01_right.calls (g := g) h8623 (hS.st.fore (L := [])) ) (fun a v w hR hE => ?_))
      obtain ⟨D8624, rfl, hS1⟩ := hR
      refine ⟨(hS1.keeps.sub (M' := []) trivial).mono (fun _ h => h), ?_⟩
      have le8626 := hS1.dle
      have hS := hS.callR hS1 rfl .n
      clear hS1
      refine wP 9 1960959 6 (.int .u64 ((bxor .u64 (bxor .u64 r8612 r8617) r8622))) hE (fun a hE => ?_)
      refine wP 10 1961983 5 (.int .u64 ((IntKind.wrap .u64 ((vget (y8379.2) (Int.toNat ((7 : Int)))) + (bxor .u64 (bxor .u64 r8612 r8617) r8622))))) hE (fun a hE => ?_)
      refine wP 12 1966079 4 (.int .u64 ((IntKind.wrap .u64 ((IntKind.wrap .u64 ((vget (y8379.2) (Int.toNat ((7 : Int)))) + (bxor .u64 (bxor .u64 r8612 r8617) r8622))) + (bxor .u64 (band .u64 (vget (y8379.2) (Int.toNat ((4 : Int)))) (vget (y8379.2) (Int.toNat ((5 : Int))))) (band .u64 (IntKind.wrap .u64 ((4294967295 : Int) - (vget (y8379.2) (Int.toNat ((4 : Int)))))) (vget (y8379.2) (Int.toNat ((6 : Int)))))))))) hE (fun a hE => ?_)
      refine wP 17 2097151 3 (.int .u64 ((IntKind.wrap .u64 ((IntKind.wrap .u64 ((IntKind.wrap .u64 ((vget (y8379.2) (Int.toNat ((7 : Int)))) + (bxor .u64 (bxor .u64 r8612 r8617) r8622))) + (bxor .u64 (band .u64 (vget (y8379.2) (Int.toNat ((4 : Int)))) (vget (y8379.2) (Int.toNat ((5 : Int))))) (band .u64 (IntKind.wrap .u64 ((4294967295 : Int) - (vget (y8379.2) (Int.toNat ((4 : Int)))))) (vget (y8379.2) (Int.toNat ((6 : Int)))))))) + (IntKind.wrap .u64 (vget (gl_K) (Int.toNat (y8379.1)))))))) hE (fun a hE => ?_)
      refine wP 21 4194303 2 (.int .u64 ((IntKind.wrap .u64 ((IntKind.wrap .u64 ((IntKind.wrap .u64 ((IntKind.wrap .u64 ((vget (y8379.2) (Int.toNat ((7 : Int)))) + (bxor .u64 (bxor .u64 r8612 r8617) r8622))) + (bxor .u64 (band .u64 (vget (y8379.2) (Int.toNat ((4 : Int)))) (vget (y8379.2) (Int.toNat ((5 : Int))))) (band .u64 (IntKind.wrap .u64 ((4294967295 : Int) - (vget (y8379.2) (Int.toNat ((4 : Int)))))) (vget (y8379.2) (Int.toNat ((6 : Int)))))))) + (IntKind.wrap .u64 (vget (gl_K) (Int.toNat (y8379.1)))))) + (vget (z7214) (Int.toNat (y8379.1))))))) hE (fun a hE => ?_)
      refine wP 22 8388607 1 (.int .u64 ((Int.tmod (IntKind.wrap .u64 ((IntKind.wrap .u64 ((IntKind.wrap .u64 ((IntKind.wrap .u64 ((vget (y8379.2) (Int.toNat ((7 : Int)))) + (bxor .u64 (bxor .u64 r8612 r8617) r8622))) + (bxor .u64 (band .u64 (vget (y8379.2) (Int.toNat ((4 : Int)))) (vget (y8379.2) (Int.toNat ((5 : Int))))) (band .u64 (IntKind.wrap .u64 ((4294967295 : Int) - (vget (y8379.2) (Int.toNat ((4 : Int)))))) (vget (y8379.2) (Int.toNat ((6 : Int)))))))) + (IntKind.wrap .u64 (vget (gl_K) (Int.toNat (y8379.1)))))) + (vget (z7214) (Int.toNat (y8379.1))))) 4294967296))) hE (fun a hE => ?_)
      refine wP 23 16777215 0 (.int .u64 ((Int.tmod (IntKind.wrap .u64 ((IntKind.wrap .u64 ((IntKind.wrap .u64 ((IntKind.wrap .u64 ((vget (y8379.2) (Int.toNat ((7 : Int)))) + (bxor .u64 (bxor .u64 r8612 r8617) r8622))) + (bxor .u64 (band .u64 (vget (y8379.2) (Int.toNat ((4 : Int)))) (vget (y8379.2) (Int.toNat ((5 : Int))))) (band .u64 (IntKind.wrap .u64 ((4294967295 : Int) - (vget (y8379.2) (Int.toNat ((4 : Int)))))) (vget (y8379.2) (Int.toNat ((6 : Int)))))))) + (IntKind.wrap .u64 (vget (gl_K) (Int.toNat (y8379.1)))))) + (vget (z7214) (Int.toNat (y8379.1))))) 4294967296))) hE (fun a hE => ?_)
      refine doneG (by kernel_rfl) ?_
      refine wpIn_seq ?_
      refine region_at ?_
      refine sN 1 1 [(168, .int .u64 ((vget (y8379.2) (Int.toNat ((0 : Int))))))] hE (fun a hE => ?_)
      obtain ⟨r8627, h8628, hf⟩ := bind_some hf
      refine aC rfl rfl rfl rfl hE rfl rfl rfl rfl (inspeximusref01_right.calls (g := g) h8628 (hS.st.fore (L := [])) ) (fun a v w hR hE => ?_)
      obtain ⟨D8629, rfl, hS1⟩ := hR
      have le8631 := hS1.dle
      have hS := hS.callR hS1 rfl .n
      clear hS1
      refine sN 1 3 [(170, .int .u64 ((vget (y8379.2) (Int.toNat ((0 : Int))))))] hE (fun a hE => ?_)
      obtain ⟨r8632, h8633, hf⟩ := bind_some hf
      refine aC rfl rfl rfl rfl hE rfl rfl rfl rfl (inspeximusref01_right.calls (g := g) h8633 (hS.st.fore (L := [])) ) (fun a v w hR hE => ?_)
      obtain ⟨D8634, rfl, hS1⟩ := hR
      have le8636 := hS1.dle
      have hS := hS.callR hS1 rfl .n
      clear hS1
      refine sN 2 6 [(172, .int .u64 ((bxor .u64 r8627 r8632))), (173, .int .u64 ((vget (y8379.2) (Int.toNat ((0 : Int))))))] hE (fun a hE => ?_)
      obtain ⟨r8637, h8638, hf⟩ := bind_some hf
      refine aC rfl rfl rfl rfl hE rfl rfl rfl rfl (inspeximusref01_right.calls (g := g) h8638 (hS.st.fore (L := [])) ) (fun a v w hR hE => ?_)
      obtain ⟨D8639, rfl, hS1⟩ := hR
      have le8641 := hS1.dle
      have hS := hS.callR hS1 rfl .n
      clear hS1
      refine sN 5 12 [(17, .int .u64 ((Int.tmod (IntKind.wrap .u64 ((bxor .u64 (bxor .u64 r8627 r8632) r8637) + (bxor .u64 (bxor .u64 (band .u64 (vget (y8379.2) (Int.toNat ((0 : Int)))) (vget (y8379.2) (Int.toNat ((1 : Int))))) (band .u64 (vget (y8379.2) (Int.toNat ((0 : Int)))) (vget (y8379.2) (Int.toNat ((2 : Int)))))) (band .u64 (vget (y8379.2) (Int.toNat ((1 : Int)))) (vget (y8379.2) (Int.toNat ((2 : Int)))))))) 4294967296)))] hE (fun a hE => ?_)
      refine at_end rfl ?_
      refine region_at ?_
      refine sN 4 4 [(182, .int .u64 ((Int.tmod (IntKind.wrap .u64 ((Int.tmod (IntKind.wrap .u64 ((IntKind.wrap .u64 ((IntKind.wrap .u64 ((IntKind.wrap .u64 ((vget (y8379.2) (Int.toNat ((7 : Int)))) + (bxor .u64 (bxor .u64 r8612 r8617) r8622))) + (bxor .u64 (band .u64 (vget (y8379.2) (Int.toNat ((4 : Int)))) (vget (y8379.2) (Int.toNat ((5 : Int))))) (band .u64 (IntKind.wrap .u64 ((4294967295 : Int) - (vget (y8379.2) (Int.toNat ((4 : Int)))))) (vget (y8379.2) (Int.toNat ((6 : Int)))))))) + (IntKind.wrap .u64 (vget (gl_K) (Int.toNat (y8379.1)))))) + (vget (z7214) (Int.toNat (y8379.1))))) 4294967296) + (Int.tmod (IntKind.wrap .u64 ((bxor .u64 (bxor .u64 r8627 r8632) r8637) + (bxor .u64 (bxor .u64 (band .u64 (vget (y8379.2) (Int.toNat ((0 : Int)))) (vget (y8379.2) (Int.toNat ((1 : Int))))) (band .u64 (vget (y8379.2) (Int.toNat ((0 : Int)))) (vget (y8379.2) (Int.toNat ((2 : Int)))))) (band .u64 (vget (y8379.2) (Int.toNat ((1 : Int)))) (vget (y8379.2) (Int.toNat ((2 : Int)))))))) 4294967296))) 4294967296)))] hE (fun a hE => ?_)
      refine at_op (op_tk hE (tk_indexPA (N := 8) (k := .u64) (m := (0 : Int)) rfl rfl rfl rfl hE rfl rfl rfl (by kernel_rfl) (by kernel_rfl) (fun a hE => ?_))) rfl
      refine at_op (op_tk hE (tk_loadPA 3 (N := 8) (k := .u64) (v := y8379.2) (m := (0 : Int)) rfl rfl rfl rfl hE rfl hS rfl rfl (by kernel_rfl) (by kernel_rfl) (kL (j := 3) hS rfl List.not_mem_nil) (fun a hE => ?_))) rfl
      refine at_op (op_tk hE (tk_indexPA (N := 8) (k := .u64) (m := (1 : Int)) rfl rfl rfl rfl hE rfl rfl rfl (by kernel_rfl) (by kernel_rfl) (fun a hE => ?_))) rfl
      refine at_op (op_tk hE (tk_loadPA 3 (N := 8) (k := .u64) (v := y8379.2) (m := (1 : Int)) rfl rfl rfl rfl hE rfl hS rfl rfl (by kernel_rfl) (by kernel_rfl) (kL (j := 3) hS rfl List.not_mem_nil) (fun a hE => ?_))) rfl
      refine at_op (op_tk hE (tk_indexPA (N := 8) (k := .u64) (m := (2 : Int)) rfl rfl rfl rfl hE rfl rfl rfl (by kernel_rfl) (by kernel_rfl) (fun a hE => ?_))) rfl
      refine at_op (op_tk hE (tk_loadPA 3 (N := 8) (k := .u64) (v := y8379.2) (m := (2 : Int)) rfl rfl rfl rfl hE rfl hS rfl rfl (by kernel_rfl) (by kernel_rfl) (kL (j := 3) hS rfl List.not_mem_nil) (fun a hE => ?_))) rfl
      refine at_op (op_tk hE (tk_indexPA (N := 8) (k := .u64) (m := (3 : Int)) rfl rfl rfl rfl hE rfl rfl rfl (by kernel_rfl) (by kernel_rfl) (fun a hE => ?_))) rfl
      refine at_op (op_tk hE (tk_loadPA 3 (N := 8) (k := .u64) (v := y8379.2) (m := (3 : Int)) rfl rfl rfl rfl hE rfl hS rfl rfl (by kernel_rfl) (by kernel_rfl) (kL (j := 3) hS rfl List.not_mem_nil) (fun a hE => ?_))) rfl
      refine sN 3 15 [(193, .int .u64 ((Int.tmod (IntKind.wrap .u64 ((vget (y8379.2) (Int.toNat ((3 : Int)))) + (Int.tmod (IntKind.wrap .u64 ((IntKind.wrap .u64 ((IntKind.wrap .u64 ((IntKind.wrap .u64 ((vget (y8379.2) (Int.toNat ((7 : Int)))) + (bxor .u64 (bxor .u64 r8612 r8617) r8622))) + (bxor .u64 (band .u64 (vget (y8379.2) (Int.toNat ((4 : Int)))) (vget (y8379.2) (Int.toNat ((5 : Int))))) (band .u64 (IntKind.wrap .u64 ((4294967295 : Int) - (vget (y8379.2) (Int.toNat ((4 : Int)))))) (vget (y8379.2) (Int.toNat ((6 : Int)))))))) + (IntKind.wrap .u64 (vget (gl_K) (Int.toNat (y8379.1)))))) + (vget (z7214) (Int.toNat (y8379.1))))) 4294967296))) 4294967296)))] hE (fun a hE => ?_)
      refine at_op (op_tk hE (tk_indexPA (N := 8) (k := .u64) (m := (4 : Int)) rfl rfl rfl rfl hE rfl rfl rfl (by kernel_rfl) (by kernel_rfl) (fun a hE => ?_))) rfl
      refine at_op (op_tk hE (tk_loadPA 3 (N := 8) (k := .u64) (v := y8379.2) (m := (4 : Int)) rfl rfl rfl rfl hE rfl hS rfl rfl (by kernel_rfl) (by kernel_rfl) (kL (j := 3) hS rfl List.not_mem_nil) (fun a hE => ?_))) rfl
      refine at_op (op_tk hE (tk_indexPA (N := 8) (k := .u64) (m := (5 : Int)) rfl rfl rfl rfl hE rfl rfl rfl (by kernel_rfl) (by kernel_rfl) (fun a hE => ?_))) rfl
      refine at_op (op_tk hE (tk_loadPA 3 (N := 8) (k := .u64) (v := y8379.2) (m := (5 : Int)) rfl rfl rfl rfl hE rfl hS rfl rfl (by kernel_rfl) (by kernel_rfl) (kL (j := 3) hS rfl List.not_mem_nil) (fun a hE => ?_))) rfl
      refine at_op (op_tk hE (tk_indexPA (N := 8) (k := .u64) (m := (6 : Int)) rfl rfl rfl rfl hE rfl rfl rfl (by kernel_rfl) (by kernel_rfl) (fun a hE => ?_))) rfl
      refine at_op (op_tk hE (tk_loadPA 3 (N := 8) (k := .u64) (v := y8379.2) (m := (6 : Int)) rfl rfl rfl rfl hE rfl hS rfl rfl (by kernel_rfl) (by kernel_rfl) (kL (j := 3) hS rfl List.not_mem_nil) (fun a hE => ?_))) rfl
      refine at_op (op_tk hE (tk_build (acells .u64 8 ((vofL 8 [(Int.tmod (IntKind.wrap .u64 ((Int.tmod (IntKind.wrap .u64 ((IntKind.wrap .u64 ((IntKind.wrap .u64 ((IntKind.wrap .u64 ((vget (y8379.2) (Int.toNat ((7 : Int)))) + (bxor .u64 (bxor .u64 r8612 r8617) r8622))) + (bxor .u64 (band .u64 (vget (y8379.2) (Int.toNat ((4 : Int)))) (vget (y8379.2) (Int.toNat ((5 : Int))))) (band .u64 (IntKind.wrap .u64 ((4294967295 : Int) - (vget (y8379.2) (Int.toNat ((4 : Int)))))) (vget (y8379.2) (Int.toNat ((6 : Int)))))))) + (IntKind.wrap .u64 (vget (gl_K) (Int.toNat (y8379.1)))))) + (vget (z7214) (Int.toNat (y8379.1))))) 4294967296) + (Int.tmod (IntKind.wrap .u64 ((bxor .u64 (bxor .u64 r8627 r8632) r8637) + (bxor .u64 (bxor .u64 (band .u64 (vget (y8379.2) (Int.toNat ((0 : Int)))) (vget (y8379.2) (Int.toNat ((1 : Int))))) (band .u64 (vget (y8379.2) (Int.toNat ((0 : Int)))) (vget (y8379.2) (Int.toNat ((2 : Int)))))) (band .u64 (vget (y8379.2) (Int.toNat ((1 : Int)))) (vget (y8379.2) (Int.toNat ((2 : Int)))))))) 4294967296))) 4294967296), (vget (y8379.2) (Int.toNat ((0 : Int)))), (vget (y8379.2) (Int.toNat ((1 : Int)))), (vget (y8379.2) (Int.toNat ((2 : Int)))), (Int.tmod (IntKind.wrap .u64 ((vget (y8379.2) (Int.toNat ((3 : Int)))) + (Int.tmod (IntKind.wrap .u64 ((IntKind.wrap .u64 ((IntKind.wrap .u64 ((IntKind.wrap .u64 ((vget (y8379.2) (Int.toNat ((7 : Int)))) + (bxor .u64 (bxor .u64 r8612 r8617) r8622))) + (bxor .u64 (band .u64 (vget (y8379.2) (Int.toNat ((4 : Int)))) (vget (y8379.2) (Int.toNat ((5 : Int))))) (band .u64 (IntKind.wrap .u64 ((4294967295 : Int) - (vget (y8379.2) (Int.toNat ((4 : Int)))))) (vget (y8379.2) (Int.toNat ((6 : Int)))))))) + (IntKind.wrap .u64 (vget (gl_K) (Int.toNat (y8379.1)))))) + (vget (z7214) (Int.toNat (y8379.1))))) 4294967296))) 4294967296), (vget (y8379.2) (Int.toNat ((4 : Int)))), (vget (y8379.2) (Int.toNat ((5 : Int)))), (vget (y8379.2) (Int.toNat ((6 : Int))))]))) rfl rfl rfl rfl hE rfl rfl (by kernel_rfl) (fun a hE => ?_))) rfl
      have hS := hS.pk (.c 3 rfl (.c 0 rfl (.c 1 rfl (.c 2 rfl .n)))) rfl
      refine at_op (op_store (v := .agg (List.toArray (acells .u64 8 ((vofL 8 [(Int.tmod (IntKind.wrap .u64 ((Int.tmod (IntKind.wrap .u64 ((IntKind.wrap .u64 ((IntKind.wrap .u64 ((IntKind.wrap .u64 ((vget (y8379.2) (Int.toNat ((7 : Int)))) + (bxor .u64 (bxor .u64 r8612 r8617) r8622))) + (bxor .u64 (band .u64 (vget (y8379.2) (Int.toNat ((4 : Int)))) (vget (y8379.2) (Int.toNat ((5 : Int))))) (band .u64 (IntKind.wrap .u64 ((4294967295 : Int) - (vget (y8379.2) (Int.toNat ((4 : Int)))))) (vget (y8379.2) (Int.toNat ((6 : Int)))))))) + (IntKind.wrap .u64 (vget (gl_K) (Int.toNat (y8379.1)))))) + (vget (z7214) (Int.toNat (y8379.1))))) 4294967296) + (Int.tmod (IntKind.wrap .u64 ((bxor .u64 (bxor .u64 r8627 r8632) r8637) + (bxor .u64 (bxor .u64 (band .u64 (vget (y8379.2) (Int.toNat ((0 : Int)))) (vget (y8379.2) (Int.toNat ((1 : Int))))) (band .u64 (vget (y8379.2) (Int.toNat ((0 : Int)))) (vget (y8379.2) (Int.toNat ((2 : Int)))))) (band .u64 (vget (y8379.2) (Int.toNat ((1 : Int)))) (vget (y8379.2) (Int.toNat ((2 : Int)))))))) 4294967296))) 4294967296), (vget (y8379.2) (Int.toNat ((0 : Int)))), (vget (y8379.2) (Int.toNat ((1 : Int)))), (vget (y8379.2) (Int.toNat ((2 : Int)))), (Int.tmod (IntKind.wrap .u64 ((vget (y8379.2) (Int.toNat ((3 : Int)))) + (Int.tmod (IntKind.wrap .u64 ((IntKind.wrap .u64 ((IntKind.wrap .u64 ((IntKind.wrap .u64 ((vget (y8379.2) (Int.toNat ((7 : Int)))) + (bxor .u64 (bxor .u64 r8612 r8617) r8622))) + (bxor .u64 (band .u64 (vget (y8379.2) (Int.toNat ((4 : Int)))) (vget (y8379.2) (Int.toNat ((5 : Int))))) (band .u64 (IntKind.wrap .u64 ((4294967295 : Int) - (vget (y8379.2) (Int.toNat ((4 : Int)))))) (vget (y8379.2) (Int.toNat ((6 : Int)))))))) + (IntKind.wrap .u64 (vget (gl_K) (Int.toNat (y8379.1)))))) + (vget (z7214) (Int.toNat (y8379.1))))) 4294967296))) 4294967296), (vget (y8379.2) (Int.toNat ((4 : Int)))), (vget (y8379.2) (Int.toNat ((5 : Int)))), (vget (y8379.2) (Int.toNat ((6 : Int))))]))))) (acells .u64 8 ((vofL 8 [(Int.tmod (IntKind.wrap .u64 ((Int.tmod (IntKind.wrap .u64 ((IntKind.wrap .u64 ((IntKind.wrap .u64 ((IntKind.wrap .u64 ((vget (y8379.2) (Int.toNat ((7 : Int)))) + (bxor .u64 (bxor .u64 r8612 r8617) r8622))) + (bxor .u64 (band .u64 (vget (y8379.2) (Int.toNat ((4 : Int)))) (vget (y8379.2) (Int.toNat ((5 : Int))))) (band .u64 (IntKind.wrap .u64 ((4294967295 : Int) - (vget (y8379.2) (Int.toNat ((4 : Int)))))) (vget (y8379.2) (Int.toNat ((6 : Int)))))))) + (IntKind.wrap .u64 (vget (gl_K) (Int.toNat (y8379.1)))))) + (vget (z7214) (Int.toNat (y8379.1))))) 4294967296) + (Int.tmod (IntKind.wrap .u64 ((bxor .u64 (bxor .u64 r8627 r8632) r8637) + (bxor .u64 (bxor .u64 (band .u64 (vget (y8379.2) (Int.toNat ((0 : Int)))) (vget (y8379.2) (Int.toNat ((1 : Int))))) (band .u64 (vget (y8379.2) (Int.toNat ((0 : Int)))) (vget (y8379.2) (Int.toNat ((2 : Int)))))) (band .u64 (vget (y8379.2) (Int.toNat ((1 : Int)))) (vget (y8379.2) (Int.toNat ((2 : Int)))))))) 4294967296))) 4294967296), (vget (y8379.2) (Int.toNat ((0 : Int)))), (vget (y8379.2) (Int.toNat ((1 : Int)))), (vget (y8379.2) (Int.toNat ((2 : Int)))), (Int.tmod (IntKind.wrap .u64 ((vget (y8379.2) (Int.toNat ((3 : Int)))) + (Int.tmod (IntKind.wrap .u64 ((IntKind.wrap .u64 ((IntKind.wrap .u64 ((IntKind.wrap .u64 ((vget (y8379.2) (Int.toNat ((7 : Int)))) + (bxor .u64 (bxor .u64 r8612 r8617) r8622))) + (bxor .u64 (band .u64 (vget (y8379.2) (Int.toNat ((4 : Int)))) (vget (y8379.2) (Int.toNat ((5 : Int))))) (band .u64 (IntKind.wrap .u64 ((4294967295 : Int) - (vget (y8379.2) (Int.toNat ((4 : Int)))))) (vget (y8379.2) (Int.toNat ((6 : Int)))))))) + (IntKind.wrap .u64 (vget (gl_K) (Int.toNat (y8379.1)))))) + (vget (z7214) (Int.toNat (y8379.1))))) 4294967296))) 4294967296), (vget (y8379.2) (Int.toNat ((4 : Int)))), (vget (y8379.2) (Int.toNat ((5 : Int)))), (vget (y8379.2) (Int.toNat ((6 : Int))))]))) rfl rfl rfl rfl hE hS rfl rfl (by kernel_rfl) (by kernel_rfl) (by kernel_rfl) (by kernel_rfl) (by kernel_rfl) (fun a w _ hE hS => ?_)) rfl
      refine at_end rfl ?_
      refine region_at ?_
      refine sN 3 3 [(11, .int .i64 ((IntKind.wrap .i64 (y8379.1 + (1 : Int)))))] hE (fun a hE => ?_)
      refine at_end rfl ?_
      have hS := hS.pk (.c 1 rfl (.c 2 rfl (.c 3 rfl (.c 0 rfl .n)))) rfl
      exact ⟨((IntKind.wrap .i64 (y8379.1 + (1 : Int))), (vofL 8 [(Int.tmod (IntKind.wrap .u64 ((Int.tmod (IntKind.wrap .u64 ((IntKind.wrap .u64 ((IntKind.wrap .u64 ((IntKind.wrap .u64 ((vget (y8379.2) (Int.toNat ((7 : Int)))) + (bxor .u64 (bxor .u64 r8612 r8617) r8622))) + (bxor .u64 (band .u64 (vget (y8379.2) (Int.toNat ((4 : Int)))) (vget (y8379.2) (Int.toNat ((5 : Int))))) (band .u64 (IntKind.wrap .u64 ((4294967295 : Int) - (vget (y8379.2) (Int.toNat ((4 : Int)))))) (vget (y8379.2) (Int.toNat ((6 : Int)))))))) + (IntKind.wrap .u64 (vget (gl_K) (Int.toNat (y8379.1)))))) + (vget (z7214) (Int.toNat (y8379.1))))) 4294967296) + (Int.tmod (IntKind.wrap .u64 ((bxor .u64 (bxor .u64 r8627 r8632) r8637) + (bxor .u64 (bxor .u64 (band .u64 (vget (y8379.2) (Int.toNat ((0 : Int)))) (vget (y8379.2) (Int.toNat ((1 : Int))))) (band .u64 (vget (y8379.2) (Int.toNat ((0 : Int)))) (vget (y8379.2) (Int.toNat ((2 : Int)))))) (band .u64 (vget (y8379.2) (Int.toNat ((1 : Int)))) (vget (y8379.2) (Int.toNat ((2 : Int)))))))) 4294967296))) 4294967296), (vget (y8379.2) (Int.toNat ((0 : Int)))), (vget (y8379.2) (Int.toNat ((1 : Int)))), (vget (y8379.2) (Int.toNat ((2 : Int)))), (Int.tmod (IntKind.wrap .u64 ((vget (y8379.2) (Int.toNat ((3 : Int)))) + (Int.tmod (IntKind.wrap .u64 ((IntKind.wrap .u64 ((IntKind.wrap .u64 ((IntKind.wrap .u64 ((vget (y8379.2) (Int.toNat ((7 : Int)))) + (bxor .u64 (bxor .u64 r8612 r8617) r8622))) + (bxor .u64 (band .u64 (vget (y8379.2) (Int.toNat ((4 : Int)))) (vget (y8379.2) (Int.toNat ((5 : Int))))) (band .u64 (IntKind.wrap .u64 ((4294967295 : Int) - (vget (y8379.2) (Int.toNat ((4 : Int)))))) (vget (y8379.2) (Int.toNat ((6 : Int)))))))) + (IntKind.wrap .u64 (vget (gl_K) (Int.toNat (y8379.1)))))) + (vget (z7214) (Int.toNat (y8379.1))))) 4294967296))) 4294967296), (vget (y8379.2) (Int.toNat ((4 : Int)))), (vget (y8379.2) (Int.toNat ((5 : Int)))), (vget (y8379.2) (Int.toNat ((6 : Int))))])), D8639, hE.weak (by kernel_rfl), hS, (le2 (le2 (le2 (le2 (le2 (le2 le8381 le8616) le8621) le8626) le8631) le8636) le8641), hf⟩
     ·replace hf := cond_f hb hf
      clear hb
      refine wpIn_exit ?_
      obtain rfl := Option.some.inj hf
      have hS := hS.pk (.c 0 rfl (.c 1 rfl (.c 3 rfl .n))) rfl
      exact ⟨y8379.2, D8380, hE.weak (by kernel_rfl), hS, le8381, rfl⟩
   ·clear hE hS hf
    rintro k a w ⟨y7835, D7836, hE, hS, le7837, hf⟩
    obtain ⟨k, rfl, hf⟩ := inspeximusref01_Turn_l2.some _ hf
    refine ⟨k, rfl, ?_⟩
    unfold inspeximusref01_Turn_l2.b at hf
    refine wpIn_seq ?_
    refine wpIn_seq ?_
    refine region_at ?_
    refine sN 2 2 [(103, .bool ((decide (y7835.1 < (8 : Int)))))] hE (fun a hE => ?_)
    refine at_end rfl ?_
    refine cond_split hE (b := (decide (y7835.1 < (8 : Int)))) rfl (fun hb => ?_) (fun hb => ?_)
    ·replace hf := cond_t hb hf
     clear hb
     refine wpIn_skip ?_
     refine wpIn_seq ?_
     refine wpIn_block ?_
     refine region_at ?_
     refine sN 2 2 [(106, .int .i64 (y7835.1)), (107, .int .i64 (y7835.1))] hE (fun a hE => ?_)
     obtain ⟨hm7858, hf⟩ := chk_some hf
     refine at_op (op_tk hE (tk_indexPA (N := 8) (k := .u32) (m := y7835.1) rfl rfl rfl rfl hE rfl rfl rfl (by kernel_rfl) hm7858 (fun a hE => ?_))) rfl
     refine at_op (op_tk hE (tk_loadPA 0 (N := 8) (k := .u32) (v := x1) (m := y7835.1) rfl rfl rfl rfl hE rfl hS rfl rfl (by kernel_rfl) hm7858 (kL (j := 0) hS rfl List.not_mem_nil) (fun a hE => ?_))) rfl
     refine sN 1 5 [(110, .int .u64 ((IntKind.wrap .u64 (vget (x1) (Int.toNat (y7835.1))))))] hE (fun a hE => ?_)
     obtain ⟨hm7859, hf⟩ := chk_some hf
     refine at_op (op_tk hE (tk_indexPA (N := 8) (k := .u64) (m := y7835.1) rfl rfl rfl rfl hE rfl rfl rfl (by kernel_rfl) hm7859 (fun a hE => ?_))) rfl
     have hS := hS.pk (.c 3 rfl (.c 0 rfl (.c 1 rfl (.c 2 rfl .n)))) rfl
     obtain ⟨v7860, hv7861, hf⟩ := bind_some hf
     replace hv7861 := Option.some.inj hv7861
     refine at_op (op_storePA (N := 8) (k := .u64) (v := y7835.2) (m := y7835.1) (z := (IntKind.wrap .u64 (vget (x1) (Int.toNat (y7835.1))))) rfl rfl rfl rfl hE hS rfl rfl (by kernel_rfl) hm7859 (fun a w _ hE hS => ?_)) rfl
     rw [hv7861] at hS
     refine at_end rfl ?_
     refine region_at ?_
     refine sN 3 3 [(10, .int .i64 ((IntKind.wrap .i64 (y7835.1 + (1 : Int)))))] hE (fun a hE => ?_)
     refine at_end rfl ?_
     have hS := hS.pk (.c 1 rfl (.c 2 rfl (.c 3 rfl (.c 0 rfl .n)))) rfl
     exact ⟨((IntKind.wrap .i64 (y7835.1 + (1 : Int))), v7860), D7836, hE.weak (by kernel_rfl), hS, le7837, hf⟩
    ·replace hf := cond_f hb hf
     clear hb
     refine wpIn_exit ?_
     obtain rfl := Option.some.inj hf
     exact ⟨y7835.2, D7836, hE.weak (by kernel_rfl), hS, le7837, rfl⟩
  ·clear hE hS hf
   rintro k a w ⟨y6647, D6648, hE, hS, le6649, hf⟩
   obtain ⟨k, rfl, hf⟩ := inspeximusref01_Turn_l1.some _ hf
   refine ⟨k, rfl, ?_⟩
   unfold inspeximusref01_Turn_l1.b at hf
   refine wpIn_seq ?_
   refine wpIn_seq ?_
   refine region_at ?_
   refine sN 2 2 [(24, .bool ((decide (y6647.1 < (64 : Int)))))] hE (fun a hE => ?_)
   refine at_end rfl ?_
   refine cond_split hE (b := (decide (y6647.1 < (64 : Int)))) rfl (fun hb => ?_) (fun hb => ?_)
   ·replace hf := cond_t hb hf
    clear hb
    refine wpIn_skip ?_
    obtain ⟨j7500, hj7501, hf⟩ := jn_elim hf
    refine seq_join (fun a w => ∃ (y7497 : (Vector Int 64)), ∃ (D7498 : Snap), Env a 218 [] [(1, .slice A3 (List.length (x2)) c4), (2, .pointer (some ⟨b4392, 0, none⟩)), (4, .pointer (some ⟨b4394, 0, none⟩)), (5, .pointer (some ⟨b4396, 0, none⟩)), (6, .int .i64 (y6647.1))] ∧ Stp g w0 D0 [] w D7498 [bx b4392 94 (acells .u32 8 (x1)), bx b4394 94 (acells .u32 8 ((Vector.replicate 8 (0 : Int)))), bx b4396 111 (acells .u64 64 (y7497))] ∧ Snap.le D6648 D7498 ∧ j7500 y7497 = some s7217) ?_ ?_
    ·clear hj7501
     refine wpIn_block ?_
     refine wpIn_seq ?_
     refine wpIn_seq ?_
     refine region_at ?_
     refine sN 2 2 [(28, .bool ((decide (y6647.1 < (16 : Int)))))] hE (fun a hE => ?_)
     refine at_end rfl ?_
     refine cond_split hE (b := (decide (y6647.1 < (16 : Int)))) rfl (fun hb => ?_) (fun hb => ?_)
     ·replace hf := cond_t hb hf
      clear hb
      refine wpIn_seq ?_
      refine region_draw (fun j => Keeps (mfOf [(35, [b4396])] j)) (by kernel_rfl) ?_
      have hS := hS.drew
      first | generalize w.drew = w at hS ⊢ | generalize w0.drew = w at hS ⊢
      refine wP 0 1 35 (.int .i64 (y6647.1)) hE (fun a hE => ?_)
      refine wP 1 3 34 (.slice A3 (List.length (x2)) c4) hE (fun a hE => ?_)
      refine wP 2 7 33 (.int .i64 (y6647.1)) hE (fun a hE => ?_)
      refine wP 3 15 32 (.int .i64 ((IntKind.wrap .i64 ((4 : Int) * y6647.1)))) hE (fun a hE => ?_)
      refine wP 8 271 31 (.slice A3 (List.length (x2)) c4) hE (fun a hE => ?_)
      refine wP 9 783 30 (.int .i64 (y6647.1)) hE (fun a hE => ?_)
      refine wP 10 1807 29 (.int .i64 ((IntKind.wrap .i64 ((4 : Int) * y6647.1)))) hE (fun a hE => ?_)
      refine wP 11 3855 28 (.int .i64 ((IntKind.wrap .i64 ((IntKind.wrap .i64 ((4 : Int) * y6647.1)) + (1 : Int))))) hE (fun a hE => ?_)
      refine wP 17 134927 27 (.slice A3 (List.length (x2)) c4) hE (fun a hE => ?_)
      refine wP 18 397071 26 (.int .i64 (y6647.1)) hE (fun a hE => ?_)
      refine wP 19 921359 25 (.int .i64 ((IntKind.wrap .i64 ((4 : Int) * y6647.1)))) hE (fun a hE => ?_)
      refine wP 20 1969935 24 (.int .i64 ((IntKind.wrap .i64 ((IntKind.wrap .i64 ((4 : Int) * y6647.1)) + (2 : Int))))) hE (fun a hE => ?_)
      refine wP 26 69078799 23 (.slice A3 (List.length (x2)) c4) hE (fun a hE => ?_)
      refine wP 27 203296527 22 (.int .i64 (y6647.1)) hE (fun a hE => ?_)
      refine wP 28 471731983 21 (.int .i64 ((IntKind.wrap .i64 ((4 : Int) * y6647.1)))) hE (fun a hE => ?_)
      refine wP 29 1008602895 20 (.int .i64 ((IntKind.wrap .i64 ((IntKind.wrap .i64 ((4 : Int) * y6647.1)) + (3 : Int))))) hE (fun a hE => ?_)
      obtain ⟨x7655, h7656, hf⟩ := bind_some hf
      refine tW 4 1008602911 (fuel := 19) (by kernel_rfl) hE (fun M => g_index (K := (kdInt .u8)) (e := 5) (by_ := 1) (zl := 1) rfl rfl rfl rfl hE rfl rfl rfl (by kernel_rfl) rfl (h5.mono le6649) h7656 (fun a b7657 o7658 hE h7659 => ?_))
      obtain ⟨cs7660, C7661, T7662, fr7663, hr7664, hb7665, hc7666⟩ := h7659
      obtain rfl := hr7664
      refine tT 5 1008602943 (fuel := 18) (by kernel_rfl) hE (tk_loadX (off0 := o7658) (off := 0) (c := [.int .u8 (x7655)]) (.int .u8 (x7655)) rfl rfl rfl rfl hE rfl hS rfl hb7665 hc7666 (by kernel_rfl) (by kernel_rfl) (kD hS dn_nil) (fun a hE => ?_))
      refine tW 6 1008603007 (fuel := 17) (by kernel_rfl) hE (fun M => tk_pure (.int .u64 ((IntKind.wrap .u64 x7655))) hE rfl rfl rfl rfl (fun _ _ _ e => by cases e; rfl) (by kernel_rfl) (fun a hE => ?_))
      refine wP 7 1008603135 16 (.int .u64 ((IntKind.wrap .u64 ((IntKind.wrap .u64 x7655) * (256 : Int))))) hE (fun a hE => ?_)
      obtain ⟨x7667, h7668, hf⟩ := bind_some hf
      refine tW 12 1008607231 (fuel := 15) (by kernel_rfl) hE (fun M => g_index (K := (kdInt .u8)) (e := 5) (by_ := 1) (zl := 1) rfl rfl rfl rfl hE rfl rfl rfl (by kernel_rfl) rfl (h5.mono le6649) h7668 (fun a b7669 o7670 hE h7671 => ?_))
      obtain ⟨cs7672, C7673, T7674, fr7675, hr7676, hb7677, hc7678⟩ := h7671
      obtain rfl := hr7676
      refine tT 13 1008615423 (fuel := 14) (by kernel_rfl) hE (tk_loadX (off0 := o7670) (off := 0) (c := [.int .u8 (x7667)]) (.int .u8 (x7667)) rfl rfl rfl rfl hE rfl hS rfl hb7677 hc7678 (by kernel_rfl) (by kernel_rfl) (kD hS dn_nil) (fun a hE => ?_))
      refine tW 14 1008631807 (fuel := 13) (by kernel_rfl) hE (fun M => tk_pure (.int .u64 ((IntKind.wrap .u64 x7667))) hE rfl rfl rfl rfl (fun _ _ _ e => by cases e; rfl) (by kernel_rfl) (fun a hE => ?_))
      refine wP 15 1008664575 12 (.int .u64 ((IntKind.wrap .u64 ((IntKind.wrap .u64 ((IntKind.wrap .u64 x7655) * (256 : Int))) + (IntKind.wrap .u64 x7667))))) hE (fun a hE => ?_)
      refine wP 16 1008730111 11 (.int .u64 ((IntKind.wrap .u64 ((IntKind.wrap .u64 ((IntKind.wrap .u64 ((IntKind.wrap .u64 x7655) * (256 : Int))) + (IntKind.wrap .u64 x7667))) * (256 : Int))))) hE (fun a hE => ?_)
      obtain ⟨x7679, h7680, hf⟩ := bind_some hf
      refine tW 21 1010827263 (fuel := 10) (by kernel_rfl) hE (fun M => g_index (K := (kdInt .u8)) (e := 5) (by_ := 1) (zl := 1) rfl rfl rfl rfl hE rfl rfl rfl (by kernel_rfl) rfl (h5.mono le6649) h7680 (fun a b7681 o7682 hE h7683 => ?_))
      obtain ⟨cs7684, C7685, T7686, fr7687, hr7688, hb7689, hc7690⟩ := h7683
      obtain rfl := hr7688
      refine tT 22 1015021567 (fuel := 9) (by kernel_rfl) hE (tk_loadX (off0 := o7682) (off := 0) (c := [.int .u8 (x7679)]) (.int .u8 (x7679)) rfl rfl rfl rfl hE rfl hS rfl hb7689 hc7690 (by kernel_rfl) (by kernel_rfl) (kD hS dn_nil) (fun a hE => ?_))
      refine tW 23 1023410175 (fuel := 8) (by kernel_rfl) hE (fun M => tk_pure (.int .u64 ((IntKind.wrap .u64 x7679))) hE rfl rfl rfl rfl (fun _ _ _ e => by cases e; rfl) (by kernel_rfl) (fun a hE => ?_))
      refine wP 24 1040187391 7 (.int .u64 ((IntKind.wrap .u64 ((IntKind.wrap .u64 ((IntKind.wrap .u64 ((IntKind.wrap .u64 ((IntKind.wrap .u64 x7655) * (256 : Int))) + (IntKind.wrap .u64 x7667))) * (256 : Int))) + (IntKind.wrap .u64 x7679))))) hE (fun a hE => ?_)
      refine wP 25 1073741823 6 (.int .u64 ((IntKind.wrap .u64 ((IntKind.wrap .u64 ((IntKind.wrap .u64 ((IntKind.wrap .u64 ((IntKind.wrap .u64 ((IntKind.wrap .u64 x7655) * (256 : Int))) + (IntKind.wrap .u64 x7667))) * (256 : Int))) + (IntKind.wrap .u64 x7679))) * (256 : Int))))) hE (fun a hE => ?_)
      obtain ⟨x7691, h7692, hf⟩ := bind_some hf
      refine tW 30 2147483647 (fuel := 5) (by kernel_rfl) hE (fun M => g_index (K := (kdInt .u8)) (e := 5) (by_ := 1) (zl := 1) rfl rfl rfl rfl hE rfl rfl rfl (by kernel_rfl) rfl (h5.mono le6649) h7692 (fun a b7693 o7694 hE h7695 => ?_))
      obtain ⟨cs7696, C7697, T7698, fr7699, hr7700, hb7701, hc7702⟩ := h7695
      obtain rfl := hr7700
      refine tT 31 4294967295 (fuel := 4) (by kernel_rfl) hE (tk_loadX (off0 := o7694) (off := 0) (c := [.int .u8 (x7691)]) (.int .u8 (x7691)) rfl rfl rfl rfl hE rfl hS rfl hb7701 hc7702 (by kernel_rfl) (by kernel_rfl) (kD hS dn_nil) (fun a hE => ?_))
      refine tW 32 8589934591 (fuel := 3) (by kernel_rfl) hE (fun M => tk_pure (.int .u64 ((IntKind.wrap .u64 x7691))) hE rfl rfl rfl rfl (fun _ _ _ e => by cases e; rfl) (by kernel_rfl) (fun a hE => ?_))
      refine wP 33 17179869183 2 (.int .u64 ((IntKind.wrap .u64 ((IntKind.wrap .u64 ((IntKind.wrap .u64 ((IntKind.wrap .u64 ((IntKind.wrap .u64 ((IntKind.wrap .u64 ((IntKind.wrap .u64 x7655) * (256 : Int))) + (IntKind.wrap .u64 x7667))) * (256 : Int))) + (IntKind.wrap .u64 x7679))) * (256 : Int))) + (IntKind.wrap .u64 x7691))))) hE (fun a hE => ?_)
      obtain ⟨hm7703, hf⟩ := chk_some hf
      refine tW 34 34359738367 (fuel := 1) (by kernel_rfl) hE (fun M => tk_indexPA (N := 64) (k := .u64) (m := y6647.1) rfl rfl rfl rfl hE rfl rfl rfl (by kernel_rfl) hm7703 (fun a hE => ?_))
      have hS := hS.pk (.c 2 rfl (.c 0 rfl (.c 1 rfl .n))) rfl
      obtain ⟨v7704, hv7705, hf⟩ := bind_some hf
      replace hv7705 := Option.some.inj hv7705
      refine oG 35 68719476735 (fuel := 0) (by kernel_rfl) (op_storePA (N := 64) (k := .u64) (v := y6647.2) (m := y6647.1) (z := (IntKind.wrap .u64 ((IntKind.wrap .u64 ((IntKind.wrap .u64 ((IntKind.wrap .u64 ((IntKind.wrap .u64 ((IntKind.wrap .u64 ((IntKind.wrap .u64 x7655) * (256 : Int))) + (IntKind.wrap .u64 x7667))) * (256 : Int))) + (IntKind.wrap .u64 x7679))) * (256 : Int))) + (IntKind.wrap .u64 x7691)))) rfl rfl rfl rfl hE hS rfl rfl (by kernel_rfl) hm7703 (fun a w hkp hE hS => ⟨hkp.mono (fun _ h => h), ?_⟩))
      clear hkp
      rw [hv7705] at hS
      refine doneG (by kernel_rfl) ?_
      refine wpIn_exit ?_
      have hS := hS.pk (.c 1 rfl (.c 2 rfl (.c 0 rfl .n))) rfl
      exact ⟨v7704, D6648, hE.weak (by kernel_rfl), hS, Snap.le.refl _, hf⟩
     ·replace hf := cond_f hb hf
      clear hb
      refine wpIn_skip ?_
      refine wpIn_seq ?_
      refine region_draw (fun j => Keeps (mfOf [] j)) (by kernel_rfl) ?_
      have hS := hS.drew
      first | generalize w.drew = w at hS ⊢ | generalize w0.drew = w at hS ⊢
      refine wP 0 1 9 (.int .i64 (y6647.1)) hE (fun a hE => ?_)
      refine wP 1 3 8 (.int .i64 ((IntKind.wrap .i64 (y6647.1 - (15 : Int))))) hE (fun a hE => ?_)
      refine wP 4 19 7 (.int .i64 (y6647.1)) hE (fun a hE => ?_)
      refine wP 5 51 6 (.int .i64 ((IntKind.wrap .i64 (y6647.1 - (2 : Int))))) hE (fun a hE => ?_)
      obtain ⟨hm7708, hf⟩ := chk_some hf
      refine tW 2 55 (fuel := 5) (by kernel_rfl) hE (fun M => tk_indexPA (N := 64) (k := .u64) (m := (IntKind.wrap .i64 (y6647.1 - (15 : Int)))) rfl rfl rfl rfl hE rfl rfl rfl (by kernel_rfl) hm7708 (fun a hE => ?_))
      refine tT 3 63 (fuel := 4) (by kernel_rfl) hE (tk_loadPA 2 (N := 64) (k := .u64) (v := y6647.2) (m := (IntKind.wrap .i64 (y6647.1 - (15 : Int)))) rfl rfl rfl rfl hE rfl hS rfl rfl (by kernel_rfl) hm7708 (kL (j := 2) hS rfl List.not_mem_nil) (fun a hE => ?_))
      refine wP 8 319 3 (.int .u64 ((vget (y6647.2) (Int.toNat ((IntKind.wrap .i64 (y6647.1 - (15 : Int)))))))) hE (fun a hE => ?_)
      obtain ⟨hm7709, hf⟩ := chk_some hf
      refine tW 6 383 (fuel := 2) (by kernel_rfl) hE (fun M => tk_indexPA (N := 64) (k := .u64) (m := (IntKind.wrap .i64 (y6647.1 - (2 : Int)))) rfl rfl rfl rfl hE rfl rfl rfl (by kernel_rfl) hm7709 (fun a hE => ?_))
      refine tT 7 511 (fuel := 1) (by kernel_rfl) hE (tk_loadPA 2 (N := 64) (k := .u64) (v := y6647.2) (m := (IntKind.wrap .i64 (y6647.1 - (2 : Int)))) rfl rfl rfl rfl hE rfl hS rfl rfl (by kernel_rfl) hm7709 (kL (j := 2) hS rfl List.not_mem_nil) (fun a hE => ?_))
      refine wP 9 1023 0 (.int .u64 ((vget (y6647.2) (Int.toNat ((IntKind.wrap .i64 (y6647.1 - (2 : Int)))))))) hE (fun a hE => ?_)
      refine doneG (by kernel_rfl) ?_
      refine region_draw (fun j => Keeps (mfOf [(30, [b4396])] j)) (by kernel_rfl) ?_
      have hS := hS.drew
      first | generalize w.drew = w at hS ⊢ | generalize w0.drew = w at hS ⊢
      refine wP 0 1 30 (.int .i64 (y6647.1)) hE (fun a hE => ?_)
      refine wP 1 3 29 (.int .u64 ((vget (y6647.2) (Int.toNat ((IntKind.wrap .i64 (y6647.1 - (2 : Int)))))))) hE (fun a hE => ?_)
      refine wP 3 11 28 (.int .u64 ((vget (y6647.2) (Int.toNat ((IntKind.wrap .i64 (y6647.1 - (2 : Int)))))))) hE (fun a hE => ?_)
      refine wP 6 75 27 (.int .u64 ((vget (y6647.2) (Int.toNat ((IntKind.wrap .i64 (y6647.1 - (2 : Int)))))))) hE (fun a hE => ?_)
      refine wP 9 587 26 (.int .i64 (y6647.1)) hE (fun a hE => ?_)
      refine wP 10 1611 25 (.int .i64 ((IntKind.wrap .i64 (y6647.1 - (7 : Int))))) hE (fun a hE => ?_)
      refine wP 14 17995 24 (.int .u64 ((vget (y6647.2) (Int.toNat ((IntKind.wrap .i64 (y6647.1 - (15 : Int)))))))) hE (fun a hE => ?_)
      refine wP 16 83531 23 (.int .u64 ((vget (y6647.2) (Int.toNat ((IntKind.wrap .i64 (y6647.1 - (15 : Int)))))))) hE (fun a hE => ?_)
      refine wP 19 607819 22 (.int .u64 ((vget (y6647.2) (Int.toNat ((IntKind.wrap .i64 (y6647.1 - (15 : Int)))))))) hE (fun a hE => ?_)
      refine wP 23 8996427 21 (.int .i64 (y6647.1)) hE (fun a hE => ?_)
      refine wP 24 25773643 20 (.int .i64 ((IntKind.wrap .i64 (y6647.1 - (16 : Int))))) hE (fun a hE => ?_)
      obtain ⟨hm7745, hf⟩ := chk_some hf
      refine tW 11 25775691 (fuel := 19) (by kernel_rfl) hE (fun M => tk_indexPA (N := 64) (k := .u64) (m := (IntKind.wrap .i64 (y6647.1 - (7 : Int)))) rfl rfl rfl rfl hE rfl rfl rfl (by kernel_rfl) hm7745 (fun a hE => ?_))
      refine tT 12 25779787 (fuel := 18) (by kernel_rfl) hE (tk_loadPA 2 (N := 64) (k := .u64) (v := y6647.2) (m := (IntKind.wrap .i64 (y6647.1 - (7 : Int)))) rfl rfl rfl rfl hE rfl hS rfl rfl (by kernel_rfl) hm7745 (kL (j := 2) hS rfl List.not_mem_nil) (fun a hE => ?_))
      obtain ⟨hm7746, hf⟩ := chk_some hf
      refine tW 25 59334219 (fuel := 17) (by kernel_rfl) hE (fun M => tk_indexPA (N := 64) (k := .u64) (m := (IntKind.wrap .i64 (y6647.1 - (16 : Int)))) rfl rfl rfl rfl hE rfl rfl rfl (by kernel_rfl) hm7746 (fun a hE => ?_))
      refine tT 26 126443083 (fuel := 16) (by kernel_rfl) hE (tk_loadPA 2 (N := 64) (k := .u64) (v := y6647.2) (m := (IntKind.wrap .i64 (y6647.1 - (16 : Int)))) rfl rfl rfl rfl hE rfl hS rfl rfl (by kernel_rfl) hm7746 (kL (j := 2) hS rfl List.not_mem_nil) (fun a hE => ?_))
      obtain ⟨r7747, h7748, hf⟩ := bind_some hf
      refine oG 2 126443087 (fuel := 15) (by kernel_rfl) (op_call rfl rfl rfl rfl hE rfl rfl rfl rfl (by kernel_rfl) (inspeximusref01_right.calls (g := g) h7748 (hS.st.fore (L := [])) ) (fun a v w hR hE => ?_))
      obtain ⟨D7749, rfl, hS1⟩ := hR
      refine ⟨(hS1.keeps.sub (M' := []) trivial).mono (fun _ h => h), ?_⟩
      have le7751 := hS1.dle
      have hS := hS.callR hS1 rfl .n
      clear hS1
      obtain ⟨r7752, h7753, hf⟩ := bind_some hf
      refine oG 4 126443103 (fuel := 14) (by kernel_rfl) (op_call rfl rfl rfl rfl hE rfl rfl rfl rfl (by kernel_rfl) (inspeximusref01_right.calls (g := g) h7753 (hS.st.fore (L := [])) ) (fun a v w hR hE => ?_))
      obtain ⟨D7754, rfl, hS1⟩ := hR
      refine ⟨(hS1.keeps.sub (M' := []) trivial).mono (fun _ h => h), ?_⟩
      have le7756 := hS1.dle
      have hS := hS.callR hS1 rfl .n
      clear hS1
      refine wP 5 126443135 13 (.int .u64 ((bxor .u64 r7747 r7752))) hE (fun a hE => ?_)
      obtain ⟨r7757, h7758, hf⟩ := bind_some hf
      refine oG 7 126443263 (fuel := 12) (by kernel_rfl) (op_call rfl rfl rfl rfl hE rfl rfl rfl rfl (by kernel_rfl) (inspeximusref01_shift.calls (g := g) h7758 (hS.st.fore (L := [])) ) (fun a v w hR hE => ?_))
      obtain ⟨D7759, rfl, hS1⟩ := hR
      refine ⟨(hS1.keeps.sub (M' := []) trivial).mono (fun _ h => h), ?_⟩
      have le7761 := hS1.dle
      have hS := hS.callR hS1 rfl .n
      clear hS1
      refine wP 8 126443519 11 (.int .u64 ((bxor .u64 (bxor .u64 r7747 r7752) r7757))) hE (fun a hE => ?_)
      refine wP 13 126451711 10 (.int .u64 ((IntKind.wrap .u64 ((bxor .u64 (bxor .u64 r7747 r7752) r7757) + (vget (y6647.2) (Int.toNat ((IntKind.wrap .i64 (y6647.1 - (7 : Int)))))))))) hE (fun a hE => ?_)
      obtain ⟨r7762, h7763, hf⟩ := bind_some hf
      refine oG 15 126484479 (fuel := 9) (by kernel_rfl) (op_call rfl rfl rfl rfl hE rfl rfl rfl rfl (by kernel_rfl) (inspeximusref01_right.calls (g := g) h7763 (hS.st.fore (L := [])) ) (fun a v w hR hE => ?_))
      obtain ⟨D7764, rfl, hS1⟩ := hR
      refine ⟨(hS1.keeps.sub (M' := []) trivial).mono (fun _ h => h), ?_⟩
      have le7766 := hS1.dle
      have hS := hS.callR hS1 rfl .n
      clear hS1
      obtain ⟨r7767, h7768, hf⟩ := bind_some hf
      refine oG 17 126615551 (fuel := 8) (by kernel_rfl) (op_call rfl rfl rfl rfl hE rfl rfl rfl rfl (by kernel_rfl) (inspeximusref01_right.calls (g := g) h7768 (hS.st.fore (L := [])) ) (fun a v w hR hE => ?_))
      obtain ⟨D7769, rfl, hS1⟩ := hR
      refine ⟨(hS1.keeps.sub (M' := []) trivial).mono (fun _ h => h), ?_⟩
      have le7771 := hS1.dle
      have hS := hS.callR hS1 rfl .n
      clear hS1
      refine wP 18 126877695 7 (.int .u64 ((bxor .u64 r7762 r7767))) hE (fun a hE => ?_)
      obtain ⟨r7772, h7773, hf⟩ := bind_some hf
      refine oG 20 127926271 (fuel := 6) (by kernel_rfl) (op_call rfl rfl rfl rfl hE rfl rfl rfl rfl (by kernel_rfl) (inspeximusref01_shift.calls (g := g) h7773 (hS.st.fore (L := [])) ) (fun a v w hR hE => ?_))
      obtain ⟨D7774, rfl, hS1⟩ := hR
      refine ⟨(hS1.keeps.sub (M' := []) trivial).mono (fun _ h => h), ?_⟩
      have le7776 := hS1.dle
      have hS := hS.callR hS1 rfl .n
      clear hS1
      refine wP 21 130023423 5 (.int .u64 ((bxor .u64 (bxor .u64 r7762 r7767) r7772))) hE (fun a hE => ?_)
      refine wP 22 134217727 4 (.int .u64 ((IntKind.wrap .u64 ((IntKind.wrap .u64 ((bxor .u64 (bxor .u64 r7747 r7752) r7757) + (vget (y6647.2) (Int.toNat ((IntKind.wrap .i64 (y6647.1 - (7 : Int)))))))) + (bxor .u64 (bxor .u64 r7762 r7767) r7772))))) hE (fun a hE => ?_)
      refine wP 27 268435455 3 (.int .u64 ((IntKind.wrap .u64 ((IntKind.wrap .u64 ((IntKind.wrap .u64 ((bxor .u64 (bxor .u64 r7747 r7752) r7757) + (vget (y6647.2) (Int.toNat ((IntKind.wrap .i64 (y6647.1 - (7 : Int)))))))) + (bxor .u64 (bxor .u64 r7762 r7767) r7772))) + (vget (y6647.2) (Int.toNat ((IntKind.wrap .i64 (y6647.1 - (16 : Int)))))))))) hE (fun a hE => ?_)
      refine wP 28 536870911 2 (.int .u64 ((Int.tmod (IntKind.wrap .u64 ((IntKind.wrap .u64 ((IntKind.wrap .u64 ((bxor .u64 (bxor .u64 r7747 r7752) r7757) + (vget (y6647.2) (Int.toNat ((IntKind.wrap .i64 (y6647.1 - (7 : Int)))))))) + (bxor .u64 (bxor .u64 r7762 r7767) r7772))) + (vget (y6647.2) (Int.toNat ((IntKind.wrap .i64 (y6647.1 - (16 : Int)))))))) 4294967296))) hE (fun a hE => ?_)
      obtain ⟨hm7777, hf⟩ := chk_some hf
      refine tW 29 1073741823 (fuel := 1) (by kernel_rfl) hE (fun M => tk_indexPA (N := 64) (k := .u64) (m := y6647.1) rfl rfl rfl rfl hE rfl rfl rfl (by kernel_rfl) hm7777 (fun a hE => ?_))
      have hS := hS.pk (.c 2 rfl (.c 0 rfl (.c 1 rfl .n))) rfl
      obtain ⟨v7778, hv7779, hf⟩ := bind_some hf
      replace hv7779 := Option.some.inj hv7779
      refine oG 30 2147483647 (fuel := 0) (by kernel_rfl) (op_storePA (N := 64) (k := .u64) (v := y6647.2) (m := y6647.1) (z := (Int.tmod (IntKind.wrap .u64 ((IntKind.wrap .u64 ((IntKind.wrap .u64 ((bxor .u64 (bxor .u64 r7747 r7752) r7757) + (vget (y6647.2) (Int.toNat ((IntKind.wrap .i64 (y6647.1 - (7 : Int)))))))) + (bxor .u64 (bxor .u64 r7762 r7767) r7772))) + (vget (y6647.2) (Int.toNat ((IntKind.wrap .i64 (y6647.1 - (16 : Int)))))))) 4294967296)) rfl rfl rfl rfl hE hS rfl rfl (by kernel_rfl) hm7777 (fun a w hkp hE hS => ⟨hkp.mono (fun _ h => h), ?_⟩))
      clear hkp
      rw [hv7779] at hS
      refine doneG (by kernel_rfl) ?_
      have hS := hS.pk (.c 1 rfl (.c 2 rfl (.c 0 rfl .n))) rfl
      exact ⟨v7778, D7774, hE.weak (by kernel_rfl), hS, (le2 (le2 (le2 (le2 (le2 le7751 le7756) le7761) le7766) le7771) le7776), hf⟩
    ·clear hE hS
     rintro a w ⟨y7497, D7498, hE, hS, le7499, hf⟩
     replace hf := hj7501 _ hf
     clear hj7501
     refine region_at ?_
     refine sN 3 3 [(6, .int .i64 ((IntKind.wrap .i64 (y6647.1 + (1 : Int)))))] hE (fun a hE => ?_)
     refine at_end rfl ?_
     exact ⟨((IntKind.wrap .i64 (y6647.1 + (1 : Int))), y7497), D7498, hE.weak (by kernel_rfl), hS, (le2 le6649 le7499), hf⟩
   ·replace hf := cond_f hb hf
    clear hb
    refine wpIn_exit ?_
    obtain rfl := Option.some.inj hf
    exact ⟨y6647.2, D6648, hE.weak (by kernel_rfl), hS, le6649, rfl⟩
set_option maxRecDepth 100000 in
set_option maxHeartbeats 4000000 in
theorem inspeximusref01_Sum.calls {K : Nat} {g w0 : World} {D0 : Snap} {x1 : (List Int)} {A2 : Option Addr} {c3 : Nat} {r : ((Vector Int 32))} (hf : inspeximusref01_Sum.f K x1 = some r) (hS0 : St g w0 D0 []) (h4 : Sl (kdInt .u8) D0 A2 c3 (x1)) (hG0 : Cell (kdArr .u32 8) D0 0 0 gl_First) (hG1 : Cell (kdArr .u32 64) D0 1 0 gl_K) :
  CallsIn (Fw none) 0 Tryd.prog 64 (List.toArray [.slice A2 (List.length (x1)) c3]) w0 (fun e w' => ∃ v, e = .returned v ∧ ∃ (D1 : Snap), v = .agg (List.toArray (acells .u8 32 (r))) ∧ Stp g w0 D0 [] w' D1 []) := by
 unfold inspeximusref01_Sum.f at hf
 have hS := Stp.refl hS0
 clear hS0
 refine calls_body (n := 54) Tryd.func64 rfl Tryd.ntmps64 rfl (fun a hE => ?_)
 have hE : Env a 54 [] [(0, .slice A2 (List.length (x1)) c3)] := hE
 refine wpIn_seq ?_
 refine region_at ?_
 refine at_op (op_alloc (z := .agg (List.toArray (acells .u8 32 ((Vector.replicate 32 (0 : Int)))))) rfl rfl rfl rfl hE rfl hS (by kernel_rfl) (fun a b971 w _ hE hS => ?_)) rfl
 refine at_end rfl ?_
 refine wpIn_seq ?_
 refine region_at ?_
 refine at_op (op_buildSlice (K := (kdInt .u8)) (e := 5) (cs := []) ([] : List Int) rfl rfl rfl rfl hE rfl hS rfl (by kernel_rfl) rfl rfl (by exact (show RL (kdInt .u8) D0 ([] : List Int) ([]) from rfl)) (fun a A973 q974 w _ hE h975 hS => ?_)) rfl
 refine sN 1 2 [(11, .slice A2 (List.length (x1)) c3)] hE (fun a hE => ?_)
 obtain ⟨l977, h978, hf⟩ := bind_some hf
 refine at_op (g_append (K := (kdInt .u8)) (e := 5) (bytes := 1) (l := ([] : List Int)) (m := x1) rfl rfl rfl rfl hE rfl hS rfl rfl (by kernel_rfl) rfl rfl h975 h4 h978 (fun a A979 c980 q981 w _ hE h982 hS => ?_)) rfl
 refine sN 2 5 [(14, .int .i64 (((List.length (x1) : Nat) : Int)))] hE (fun a hE => ?_)
 obtain ⟨r984, h985, hf⟩ := bind_some hf
 refine aC rfl rfl rfl rfl hE rfl rfl rfl rfl (inspeximusref01_Fill.calls (g := g) h985 (hS.st.fore (L := [])) ) (fun a v w hR hE => ?_)
 obtain ⟨D986, A988, c989, q990, rfl, hS1, h991⟩ := hR
 have le993 := hS1.dle
 have hS := hS.callR hS1 rfl (.c .n)
 clear hS1
 obtain ⟨D994, q997, le995, hS, h998, h996⟩ := hS.lent h991
 have hS := hS.pk (.c 1 rfl (.c 0 rfl (.c 2 rfl .n))) rfl
 obtain ⟨l999, h1000, hf⟩ := bind_some hf
 refine at_op (g_append (K := (kdInt .u8)) (e := 5) (bytes := 1) (l := l977) (m := r984) rfl rfl rfl rfl hE rfl hS rfl rfl (by kernel_rfl) rfl rfl (h982.mono (le2 le993 le995)) h996 h1000 (fun a A1001 c1002 q1003 w _ hE h1004 hS => ?_)) rfl
 refine sN 1 8 [(3, .slice A1001 (List.length (l999)) c1002)] hE (fun a hE => ?_)
 refine at_end rfl ?_
 refine wpIn_seq ?_
 refine region_at ?_
 obtain ⟨cs1006, C1007, T1008, fr1009, hr1010, hb1011, hc1012⟩ := (hG0.mono (le2 le993 le995))
 obtain rfl := hr1010
 refine at_op (op_tk hE (tk_loadX (off0 := 0) (off := 0) (c := acells .u32 8 (gl_First)) (.agg (List.toArray (acells .u32 8 (gl_First)))) rfl rfl rfl rfl hE rfl hS rfl hb1011 hc1012 (by kernel_rfl) (by kernel_rfl) (kD hS dn_nil) (fun a hE => ?_))) rfl
 refine at_op (op_alloc (z := .agg (List.toArray (acells .u32 8 ((Vector.replicate 8 (0 : Int)))))) rfl rfl rfl rfl hE rfl hS (by kernel_rfl) (fun a b1013 w _ hE hS => ?_)) rfl
 refine at_op (op_store (v := .agg (List.toArray (acells .u32 8 (gl_First)))) (acells .u32 8 (gl_First)) rfl rfl rfl rfl hE hS rfl rfl (by kernel_rfl) (by kernel_rfl) (by kernel_rfl) (by kernel_rfl) (by kernel_rfl) (fun a w _ hE hS => ?_)) rfl
 refine at_end rfl ?_
 refine wpIn_seq ?_
 refine wpIn_seq ?_
 refine region_at ?_
 refine sN 1 1 [(5, .int .i64 ((0 : Int)))] hE (fun a hE => ?_)
 refine at_end rfl ?_
 have hS := hS.pk (.c 1 rfl (.c 0 rfl (.c 2 rfl (.c 3 rfl .n)))) rfl
 obtain ⟨D1286, q1289, le1287, hS, h1290, h1288⟩ := hS.lent h1004
 obtain ⟨s1389, hf, hs1390⟩ := bind_some hf
 have hS := hS.pk (.c 3 rfl (.c 1 rfl (.c 0 rfl .n))) rfl
 refine block_loop (fun a w => ∃ (z1386 : (Vector Int 8)), ∃ (D1387 : Snap), Env a 54 [] [(2, .pointer (some ⟨b971, 0, none⟩)), (4, .pointer (some ⟨b1013, 0, none⟩))] ∧ Stp g w0 D0 [] w D1387 [bx b971 23 (acells .u8 32 ((Vector.replicate 32 (0 : Int)))), bx b1013 94 (acells .u32 8 (z1386))] ∧ Snap.le D1286 D1387 ∧ z1386 = s1389) (fun k a w => ∃ (y1340 : Int × (Vector Int 8)), ∃ (D1341 : Snap), Env a 54 [] [(2, .pointer (some ⟨b971, 0, none⟩)), (3, .slice A1001 (List.length (l999)) c1002), (4, .pointer (some ⟨b1013, 0, none⟩)), (5, .int .i64 (y1340.1))] ∧ Stp g w0 D0 [] w D1341 [bx b971 23 (acells .u8 32 ((Vector.replicate 32 (0 : Int)))), bx b1013 94 (acells .u32 8 (y1340.2)), q1289] ∧ Snap.le D1286 D1341 ∧ inspeximusref01_Sum_l1.l K l999 k y1340 = some s1389) K ?_ ?_ ?_
 ·exact ⟨((0 : Int), gl_First), D1286, hE.weak (by kernel_rfl), hS, Snap.le.refl _, hf⟩
 ·clear hE hS hf
  rintro a w ⟨z1386, D1387, hE, hS, le1388, rfl⟩
  have hf := hs1390
  clear hs1390
  refine wpIn_seq ?_
  refine region_at ?_
  refine at_op (op_alloc (z := .agg (List.toArray (acells .u8 32 ((Vector.replicate 32 (0 : Int)))))) rfl rfl rfl rfl hE rfl hS (by kernel_rfl) (fun a b1431 w _ hE hS => ?_)) rfl
  refine at_end rfl ?_
  refine wpIn_seq ?_
  refine wpIn_seq ?_
  refine region_at ?_
  refine sN 1 1 [(7, .int .i64 ((0 : Int)))] hE (fun a hE => ?_)
  refine at_end rfl ?_
  obtain ⟨s1857, hf, hs1858⟩ := bind_some hf
  have hS := hS.pk (.c 1 rfl (.c 2 rfl (.c 0 rfl .n))) rfl
  refine block_loop (fun a w => ∃ (z1854 : (Vector Int 32)), ∃ (D1855 : Snap), Env a 54 [] [(2, .pointer (some ⟨b971, 0, none⟩)), (6, .pointer (some ⟨b1431, 0, none⟩))] ∧ Stp g w0 D0 [] w D1855 [bx b971 23 (acells .u8 32 ((Vector.replicate 32 (0 : Int)))), bx b1431 23 (acells .u8 32 (z1854))] ∧ Snap.le D1387 D1855 ∧ z1854 = s1857) (fun k a w => ∃ (y1770 : Int × (Vector Int 32)), ∃ (D1771 : Snap), Env a 54 [] [(2, .pointer (some ⟨b971, 0, none⟩)), (4, .pointer (some ⟨b1013, 0, none⟩)), (6, .pointer (some ⟨b1431, 0, none⟩)), (7, .int .i64 (y1770.1))] ∧ Stp g w0 D0 [] w D1771 [bx b971 23 (acells .u8 32 ((Vector.replicate 32 (0 : Int)))), bx b1013 94 (acells .u32 8 (z1386)), bx b1431 23 (acells .u8 32 (y1770.2))] ∧ Snap.le D1387 D1771 ∧ inspeximusref01_Sum_l2.l K z1386 k y1770 = some s1857) K ?_ ?_ ?_
  ·exact ⟨((0 : Int), (Vector.replicate 32 (0 : Int))), D1387, hE.weak (by kernel_rfl), hS, Snap.le.refl _, hf⟩
  ·clear hE hS hf
   rintro a w ⟨z1854, D1855, hE, hS, le1856, rfl⟩
   have hf := hs1858
   clear hs1858
   refine wpIn_seq ?_
   refine region_at ?_
   refine aL 1 (.agg (List.toArray (acells .u8 32 (z1854)))) hE hS (fun a hE => ?_)
   refine at_op (op_store (v := .agg (List.toArray (acells .u8 32 (z1854)))) (acells .u8 32 (z1854)) rfl rfl rfl rfl hE hS rfl rfl (by kernel_rfl) (by kernel_rfl) (by kernel_rfl) (by kernel_rfl) (by kernel_rfl) (fun a w _ hE hS => ?_)) rfl
   refine at_end rfl ?_
   refine wpIn_ret ?_
   obtain rfl := Option.some.inj hf
   repeat (with_reducible first | refine then_ret ?_ | refine block_ret ?_ | refine qx_ret ?_)
   refine ret_gen ([.agg (List.toArray (acells .u8 32 (z1854)))]) hE (by rw [show Tryd.f64.results.toList = [.cell 2 23] from rfl]; exact ⟨_, _, _, 0, _, _, rfl, rfl, hS.heapAt (j := 0) rfl, by kernel_rfl, rfl⟩) ?_
   have hS := hS.pk .n rfl
   exact ⟨_, rfl, D1855, rfl, hS⟩
  ·clear hE hS hf
   rintro k a w ⟨y1770, D1771, hE, hS, le1772, hf⟩
   obtain ⟨k, rfl, hf⟩ := inspeximusref01_Sum_l2.some _ hf
   refine ⟨k, rfl, ?_⟩
   unfold inspeximusref01_Sum_l2.b at hf
   refine wpIn_seq ?_
   refine wpIn_seq ?_
   refine region_at ?_
   refine sN 2 2 [(33, .bool ((decide (y1770.1 < (8 : Int)))))] hE (fun a hE => ?_)
   refine at_end rfl ?_
   refine cond_split hE (b := (decide (y1770.1 < (8 : Int)))) rfl (fun hb => ?_) (fun hb => ?_)
   ·replace hf := cond_t hb hf
    clear hb
    refine wpIn_skip ?_
    refine wpIn_seq ?_
    refine wpIn_block ?_
    refine wpIn_seq ?_
    refine region_at ?_
    refine sN 1 1 [(36, .int .i64 (y1770.1))] hE (fun a hE => ?_)
    obtain ⟨hm1898, hf⟩ := chk_some hf
    refine at_op (op_tk hE (tk_indexPA (N := 8) (k := .u32) (m := y1770.1) rfl rfl rfl rfl hE rfl rfl rfl (by kernel_rfl) hm1898 (fun a hE => ?_))) rfl
    refine at_op (op_tk hE (tk_loadPA 1 (N := 8) (k := .u32) (v := z1386) (m := y1770.1) rfl rfl rfl rfl hE rfl hS rfl rfl (by kernel_rfl) hm1898 (kL (j := 1) hS rfl List.not_mem_nil) (fun a hE => ?_))) rfl
    refine sN 1 4 [(8, .int .u32 ((vget (z1386) (Int.toNat (y1770.1)))))] hE (fun a hE => ?_)
    refine at_end rfl ?_
    refine wpIn_seq ?_
    refine region_at ?_
    refine sN 1 1 [(9, .int .i64 ((3 : Int)))] hE (fun a hE => ?_)
    refine at_end rfl ?_
    obtain ⟨s1929, hf, hs1930⟩ := bind_some hf
    refine block_loop (fun a w => ∃ (z1926 : (Vector Int 32)), ∃ (D1927 : Snap), Env a 54 [] [(2, .pointer (some ⟨b971, 0, none⟩)), (4, .pointer (some ⟨b1013, 0, none⟩)), (6, .pointer (some ⟨b1431, 0, none⟩)), (7, .int .i64 (y1770.1))] ∧ Stp g w0 D0 [] w D1927 [bx b971 23 (acells .u8 32 ((Vector.replicate 32 (0 : Int)))), bx b1013 94 (acells .u32 8 (z1386)), bx b1431 23 (acells .u8 32 (z1926))] ∧ Snap.le D1771 D1927 ∧ z1926 = s1929) (fun k a w => ∃ (y1914 : Int × Int × (Vector Int 32)), ∃ (D1915 : Snap), Env a 54 [] [(2, .pointer (some ⟨b971, 0, none⟩)), (4, .pointer (some ⟨b1013, 0, none⟩)), (6, .pointer (some ⟨b1431, 0, none⟩)), (7, .int .i64 (y1770.1)), (8, .int .u32 (y1914.1)), (9, .int .i64 (y1914.2.1))] ∧ Stp g w0 D0 [] w D1915 [bx b971 23 (acells .u8 32 ((Vector.replicate 32 (0 : Int)))), bx b1013 94 (acells .u32 8 (z1386)), bx b1431 23 (acells .u8 32 (y1914.2.2))] ∧ Snap.le D1771 D1915 ∧ inspeximusref01_Sum_l3.l K y1770 k y1914 = some s1929) K ?_ ?_ ?_
    ·exact ⟨((vget (z1386) (Int.toNat (y1770.1))), (3 : Int), y1770.2), D1771, hE.weak (by kernel_rfl), hS, Snap.le.refl _, hf⟩
    ·clear hE hS hf
     rintro a w ⟨z1926, D1927, hE, hS, le1928, rfl⟩
     have hf := hs1930
     clear hs1930
     refine region_at ?_
     refine sN 3 3 [(7, .int .i64 ((IntKind.wrap .i64 (y1770.1 + (1 : Int)))))] hE (fun a hE => ?_)
     refine at_end rfl ?_
     exact ⟨((IntKind.wrap .i64 (y1770.1 + (1 : Int))), z1926), D1927, hE.weak (by kernel_rfl), hS, (le2 le1772 le1928), hf⟩
    ·clear hE hS hf
     rintro k a w ⟨y1914, D1915, hE, hS, le1916, hf⟩
     obtain ⟨k, rfl, hf⟩ := inspeximusref01_Sum_l3.some _ hf
     refine ⟨k, rfl, ?_⟩
     unfold inspeximusref01_Sum_l3.b at hf
     refine wpIn_seq ?_
     refine wpIn_seq ?_
     refine region_at ?_
     refine sN 2 2 [(40, .bool ((decide ((0 : Int) ≤ y1914.2.1))))] hE (fun a hE => ?_)
     refine at_end rfl ?_
     refine cond_split hE (b := (decide ((0 : Int) ≤ y1914.2.1))) rfl (fun hb => ?_) (fun hb => ?_)
     ·replace hf := cond_t hb hf
      clear hb
      refine wpIn_skip ?_
      refine wpIn_seq ?_
      refine wpIn_block ?_
      refine wpIn_seq ?_
      refine region_at ?_
      refine sN 7 7 [(46, .int .i64 ((IntKind.wrap .i64 ((IntKind.wrap .i64 ((4 : Int) * y1770.1)) + y1914.2.1)))), (49, .int .u8 ((IntKind.wrap .u8 (Int.tmod y1914.1 256))))] hE (fun a hE => ?_)
      obtain ⟨hm1934, hf⟩ := chk_some hf
      refine at_op (op_tk hE (tk_indexPA (N := 32) (k := .u8) (m := (IntKind.wrap .i64 ((IntKind.wrap .i64 ((4 : Int) * y1770.1)) + y1914.2.1))) rfl rfl rfl rfl hE rfl rfl rfl (by kernel_rfl) hm1934 (fun a hE => ?_))) rfl
      have hS := hS.pk (.c 2 rfl (.c 0 rfl (.c 1 rfl .n))) rfl
      obtain ⟨v1935, hv1936, hf⟩ := bind_some hf
      replace hv1936 := Option.some.inj hv1936
      refine at_op (op_storePA (N := 32) (k := .u8) (v := y1914.2.2) (m := (IntKind.wrap .i64 ((IntKind.wrap .i64 ((4 : Int) * y1770.1)) + y1914.2.1))) (z := (IntKind.wrap .u8 (Int.tmod y1914.1 256))) rfl rfl rfl rfl hE hS rfl rfl (by kernel_rfl) hm1934 (fun a w _ hE hS => ?_)) rfl
      rw [hv1936] at hS
      refine at_end rfl ?_
      refine region_at ?_
      refine sN 3 3 [(8, .int .u32 ((IntKind.wrap .u32 (Int.tdiv y1914.1 256))))] hE (fun a hE => ?_)
      refine at_end rfl ?_
      refine region_at ?_
      refine sN 3 3 [(9, .int .i64 ((IntKind.wrap .i64 (y1914.2.1 - (1 : Int)))))] hE (fun a hE => ?_)
      refine at_end rfl ?_
      have hS := hS.pk (.c 1 rfl (.c 2 rfl (.c 0 rfl .n))) rfl
      exact ⟨((IntKind.wrap .u32 (Int.tdiv y1914.1 256)), (IntKind.wrap .i64 (y1914.2.1 - (1 : Int))), v1935), D1915, hE.weak (by kernel_rfl), hS, le1916, hf⟩
     ·replace hf := cond_f hb hf
      clear hb
      refine wpIn_exit ?_
      obtain rfl := Option.some.inj hf
      exact ⟨y1914.2.2, D1915, hE.weak (by kernel_rfl), hS, le1916, rfl⟩
   ·replace hf := cond_f hb hf
    clear hb
    refine wpIn_exit ?_
    obtain rfl := Option.some.inj hf
    have hS := hS.pk (.c 0 rfl (.c 2 rfl .n)) rfl
    exact ⟨y1770.2, D1771, hE.weak (by kernel_rfl), hS, le1772, rfl⟩
 ·clear hE hS hf
  rintro k a w ⟨y1340, D1341, hE, hS, le1342, hf⟩
  obtain ⟨k, rfl, hf⟩ := inspeximusref01_Sum_l1.some _ hf
  refine ⟨k, rfl, ?_⟩
  unfold inspeximusref01_Sum_l1.b at hf
  refine wpIn_seq ?_
  refine wpIn_seq ?_
  refine region_at ?_
  refine sN 5 5 [(22, .bool ((decide ((IntKind.wrap .i64 (y1340.1 + (64 : Int))) ≤ ((List.length (l999) : Nat) : Int)))))] hE (fun a hE => ?_)
  refine at_end rfl ?_
  refine cond_split hE (b := (decide ((IntKind.wrap .i64 (y1340.1 + (64 : Int))) ≤ ((List.length (l999) : Nat) : Int)))) rfl (fun hb => ?_) (fun hb => ?_)
  ·replace hf := cond_t hb hf
   clear hb
   refine wpIn_skip ?_
   refine wpIn_seq ?_
   refine wpIn_block ?_
   refine region_draw (fun j => Keeps (mfOf [(7, [b1013])] j)) (by kernel_rfl) ?_
   have hS := hS.drew
   first | generalize w.drew = w at hS ⊢ | generalize w0.drew = w at hS ⊢
   refine wP 1 2 7 (.slice A1001 (List.length (l999)) c1002) hE (fun a hE => ?_)
   refine wP 2 6 6 (.int .i64 (y1340.1)) hE (fun a hE => ?_)
   refine wP 3 14 5 (.int .i64 (y1340.1)) hE (fun a hE => ?_)
   refine wP 4 30 4 (.int .i64 ((IntKind.wrap .i64 (y1340.1 + (64 : Int))))) hE (fun a hE => ?_)
   refine tT 0 31 (fuel := 3) (by kernel_rfl) hE (tk_load 1 (.agg (List.toArray (acells .u32 8 (y1340.2)))) rfl rfl rfl rfl hE rfl hS rfl rfl (by kernel_rfl) (kL (j := 1) hS rfl List.not_mem_nil) (fun a hE => ?_))
   obtain ⟨l1421, h1422, hf⟩ := bind_some hf
   refine tW 5 63 (fuel := 2) (by kernel_rfl) hE (fun M => g_slice (K := (kdInt .u8)) (e := 5) (by_ := 1) (zl := 1) rfl rfl rfl rfl hE rfl rfl (by kernel_rfl) ⟨_, rfl⟩ ⟨_, rfl⟩ (h1288.mono le1342) h1422 (fun a A1423 c1424 hE h1425 => ?_))
   obtain ⟨r1426, h1427, hf⟩ := bind_some hf
   refine oG 6 127 (fuel := 1) (by kernel_rfl) (op_call rfl rfl rfl rfl hE rfl rfl rfl rfl (by kernel_rfl) (inspeximusref01_Turn.calls (g := g) h1427 (hS.st.fore (L := [])) h1425 (hG1.mono (le2 (le2 (le2 le993 le995) le1287) le1342))) (fun a v w hR hE => ?_))
   obtain ⟨D1428, rfl, hS1⟩ := hR
   refine ⟨(hS1.keeps.sub (M' := []) trivial).mono (fun _ h => h), ?_⟩
   have le1430 := hS1.dle
   have hS := hS.callR hS1 rfl .n
   clear hS1
   have hS := hS.pk (.c 1 rfl (.c 0 rfl (.c 2 rfl .n))) rfl
   refine oG 7 255 (fuel := 0) (by kernel_rfl) (op_store (v := .agg (List.toArray (acells .u32 8 (r1426)))) (acells .u32 8 (r1426)) rfl rfl rfl rfl hE hS rfl rfl (by kernel_rfl) (by kernel_rfl) (by kernel_rfl) (by kernel_rfl) (by kernel_rfl) (fun a w hkp hE hS => ⟨hkp.mono (fun _ h => h), ?_⟩))
   clear hkp
   refine doneG (by kernel_rfl) ?_
   refine region_at ?_
   refine sN 3 3 [(5, .int .i64 ((IntKind.wrap .i64 (y1340.1 + (64 : Int)))))] hE (fun a hE => ?_)
   refine at_end rfl ?_
   have hS := hS.pk (.c 1 rfl (.c 0 rfl (.c 2 rfl .n))) rfl
   exact ⟨((IntKind.wrap .i64 (y1340.1 + (64 : Int))), r1426), D1428, hE.weak (by kernel_rfl), hS, (le2 le1342 le1430), hf⟩
  ·replace hf := cond_f hb hf
   clear hb
   refine wpIn_exit ?_
   obtain rfl := Option.some.inj hf
   have hS := hS.pk (.c 0 rfl (.c 1 rfl .n)) rfl
   exact ⟨y1340.2, D1341, hE.weak (by kernel_rfl), hS, le1342, rfl⟩
set_option maxRecDepth 100000 in
set_option maxHeartbeats 4000000 in
theorem inspeximusref02_Of.calls {K : Nat} {g w0 : World} {D0 : Snap} {x1 : Int} {x2 : (List (List Int))} {A3 : Option Addr} {c4 : Nat} {r : ((Vector Int 32))} (hf : inspeximusref02_Of.f K x1 x2 = some r) (hS0 : St g w0 D0 []) (h5 : Sl (kdSlice (kdInt .u8)) D0 A3 c4 (x2)) (hG0 : Cell (kdArr .u32 8) D0 0 0 gl_First) (hG1 : Cell (kdArr .u32 64) D0 1 0 gl_K) :
  CallsIn (Fw none) 0 Tryd.prog 32 (List.toArray [.int .i64 (x1), .slice A3 (List.length (x2)) c4]) w0 (fun e w' => ∃ v, e = .returned v ∧ ∃ (D1 : Snap), v = .agg (List.toArray (acells .u8 32 (r))) ∧ Stp g w0 D0 [] w' D1 []) := by
 unfold inspeximusref02_Of.f at hf
 have hS := Stp.refl hS0
 clear hS0
 refine calls_body (n := 9) Tryd.func32 rfl Tryd.ntmps32 rfl (fun a hE => ?_)
 have hE : Env a 9 [] [(0, .int .i64 (x1)), (1, .slice A3 (List.length (x2)) c4)] := hE
 refine wpIn_seq ?_
 refine region_at ?_
 refine at_op (op_alloc (z := .agg (List.toArray (acells .u8 32 ((Vector.replicate 32 (0 : Int)))))) rfl rfl rfl rfl hE rfl hS (by kernel_rfl) (fun a b28 w _ hE hS => ?_)) rfl
 refine at_end rfl ?_
 refine wpIn_seq ?_
 refine region_at ?_
 refine sN 2 2 [(5, .int .i64 (x1)), (6, .slice A3 (List.length (x2)) c4)] hE (fun a hE => ?_)
 obtain ⟨r30, h31, hf⟩ := bind_some hf
 refine aC rfl rfl rfl rfl hE rfl rfl rfl rfl (inspeximusref02_Text.calls (g := g) h31 (hS.st.fore (L := [])) h5) (fun a v w hR hE => ?_)
 obtain ⟨D32, A34, c35, q36, rfl, hS1, h37⟩ := hR
 have le39 := hS1.dle
 have hS := hS.callR hS1 rfl (.c .n)
 clear hS1
 obtain ⟨D40, q43, le41, hS, h44, h42⟩ := hS.lent h37
 obtain ⟨r45, h46, hf⟩ := bind_some hf
 refine aC rfl rfl rfl rfl hE rfl rfl rfl rfl (inspeximusref01_Sum.calls (g := g) h46 (hS.st.fore (L := [])) h42 (hG0.mono (le2 le39 le41)) (hG1.mono (le2 le39 le41))) (fun a v w hR hE => ?_)
 obtain ⟨D47, rfl, hS1⟩ := hR
 have le49 := hS1.dle
 have hS := hS.callR hS1 rfl .n
 clear hS1
 have hS := hS.pk (.c 1 rfl (.c 0 rfl .n)) rfl
 refine at_op (op_store (v := .agg (List.toArray (acells .u8 32 (r45)))) (acells .u8 32 (r45)) rfl rfl rfl rfl hE hS rfl rfl (by kernel_rfl) (by kernel_rfl) (by kernel_rfl) (by kernel_rfl) (by kernel_rfl) (fun a w _ hE hS => ?_)) rfl
 refine at_end rfl ?_
 refine wpIn_ret ?_
 obtain rfl := Option.some.inj hf
 repeat (with_reducible first | refine then_ret ?_ | refine block_ret ?_ | refine qx_ret ?_)
 refine ret_gen ([.agg (List.toArray (acells .u8 32 (r45)))]) hE (by rw [show Tryd.f32.results.toList = [.cell 4 23] from rfl]; exact ⟨_, _, _, 0, _, _, rfl, rfl, hS.heapAt (j := 0) rfl, by kernel_rfl, rfl⟩) ?_
 have hS := hS.pk .n rfl
 exact ⟨_, rfl, D47, rfl, hS⟩
set_option maxRecDepth 100000 in
set_option maxHeartbeats 4000000 in
theorem inspeximusref04_Com.calls {K : Nat} {g w0 : World} {D0 : Snap} {x1 : T_api_Rec} {A2 : Option Addr} {c3 : Nat} {A5 : Option Addr} {c6 : Nat} {r : ((Vector Int 32))} (hf : inspeximusref04_Com.f K x1 = some r) (hS0 : St g w0 D0 []) (h4 : Sl kd_T_api_Step D0 A2 c3 (x1.fSteps)) (h7 : Sl (kdInt .u8) D0 A5 c6 (x1.fData)) (hG0 : Cell (kdArr .u32 8) D0 0 0 gl_First) (hG1 : Cell (kdArr .u32 64) D0 1 0 gl_K) :
  CallsIn (Fw none) 0 Tryd.prog 14 (List.toArray [.agg (List.toArray (c_T_api_Rec (x1) A2 c3 A5 c6))]) w0 (fun e w' => ∃ v, e = .returned v ∧ ∃ (D1 : Snap), v = .agg (List.toArray (acells .u8 32 (r))) ∧ Stp g w0 D0 [] w' D1 []) := by
 unfold inspeximusref04_Com.f at hf
 have hS := Stp.refl hS0
 clear hS0
 refine calls_body (n := 22) Tryd.func14 rfl Tryd.ntmps14 rfl (fun a hE => ?_)
 have hE : Env a 22 [] [(0, .agg (List.toArray (c_T_api_Rec (x1) A2 c3 A5 c6)))] := hE
 refine wpIn_seq ?_
 refine region_at ?_
 refine at_op (op_box rfl rfl rfl rfl hE rfl hS rfl (fun a b114 w _ hE hS => ?_)) rfl
 refine at_op (op_alloc (z := .agg (List.toArray (acells .u8 32 ((Vector.replicate 32 (0 : Int)))))) rfl rfl rfl rfl hE rfl hS (by kernel_rfl) (fun a b116 w _ hE hS => ?_)) rfl
 refine at_end rfl ?_
 refine wpIn_seq ?_
 obtain ⟨j213, hj214, hf⟩ := jn_elim hf
 refine seq_join (fun a w => ∃ (y138 : Bool), ∃ (D139 : Snap), Env a 22 [] [(1, .pointer (some ⟨b114, 0, none⟩)), (2, .pointer (some ⟨b116, 0, none⟩)), (10, .bool (y138))] ∧ Stp g w0 D0 [] w D139 [bx b114 27 (c_T_api_Rec (x1) A2 c3 A5 c6), bx b116 23 (acells .u8 32 ((Vector.replicate 32 (0 : Int))))] ∧ Snap.le D0 D139 ∧ j213 y138 = some r) ?_ ?_
 ·clear hj214
  refine region_at ?_
  refine aL 1 (.agg (List.toArray (c_T_api_Rec (x1) A2 c3 A5 c6))) hE hS (fun a hE => ?_)
  obtain ⟨r215, h216, hf⟩ := bind_some hf
  refine aC rfl rfl rfl rfl hE rfl rfl rfl rfl (inspeximusref04_Right.calls (g := g) h216 (hS.st.fore (L := [])) h4 h7) (fun a v w hR hE => ?_)
  obtain ⟨D217, rfl, hS1⟩ := hR
  have le219 := hS1.dle
  have hS := hS.callR hS1 rfl .n
  clear hS1
  refine sN 2 4 [(6, .bool ((!r215)))] hE (fun a hE => ?_)
  refine Or.elim (Bool.eq_false_or_eq_true ((!r215))).symm (fun hb => ?_) (fun hb => ?_)
  ·replace hf := cond_f hb hf
   have hE := hE.know (t := 6) (b := (!r215)) (b' := false) rfl hb
   clear hb
   refine aF 0 3 0 hE (fun a hE => ?_)
   refine aL 1 (.int .i64 (x1.fKind)) hE hS (fun a hE => ?_)
   refine sN 2 8 [(10, .bool ((!decide (x1.fKind = (1 : Int)))))] hE (fun a hE => ?_)
   refine at_end rfl ?_
   have hS := hS.pk (.c 1 rfl (.c 0 rfl .n)) rfl
   exact ⟨(!decide (x1.fKind = (1 : Int))), D217, hE.weak (by kernel_rfl), hS, le219, hf⟩
  ·replace hf := cond_t hb hf
   have hE := hE.know (t := 6) (b := (!r215)) (b' := true) rfl hb
   clear hb
   refine sN 4 8 [(10, .bool true)] hE (fun a hE => ?_)
   refine at_end rfl ?_
   have hS := hS.pk (.c 1 rfl (.c 0 rfl .n)) rfl
   exact ⟨true, D217, hE.weak (by kernel_rfl), hS, le219, hf⟩
 ·clear hE hS
  rintro a w ⟨y138, D139, hE, hS, le140, hf⟩
  replace hf := hj214 _ hf
  clear hj214
  refine cond_split hE (b := y138) rfl (fun hb => ?_) (fun hb => ?_)
  ·replace hf := cond_t hb hf
   clear hb
   refine wpIn_seq ?_
   refine region_at ?_
   refine at_op (op_tk hE (tk_build (acells .u8 32 ((vofL 32 [(0 : Int), (0 : Int), (0 : Int), (0 : Int), (0 : Int), (0 : Int), (0 : Int), (0 : Int), (0 : Int), (0 : Int), (0 : Int), (0 : Int), (0 : Int), (0 : Int), (0 : Int), (0 : Int), (0 : Int), (0 : Int), (0 : Int), (0 : Int), (0 : Int), (0 : Int), (0 : Int), (0 : Int), (0 : Int), (0 : Int), (0 : Int), (0 : Int), (0 : Int), (0 : Int), (0 : Int), (0 : Int)]))) rfl rfl rfl rfl hE rfl rfl (by kernel_rfl) (fun a hE => ?_))) rfl
   have hS := hS.pk (.c 1 rfl (.c 0 rfl .n)) rfl
   refine at_op (op_store (v := .agg (List.toArray (acells .u8 32 ((vofL 32 [(0 : Int), (0 : Int), (0 : Int), (0 : Int), (0 : Int), (0 : Int), (0 : Int), (0 : Int), (0 : Int), (0 : Int), (0 : Int), (0 : Int), (0 : Int), (0 : Int), (0 : Int), (0 : Int), (0 : Int), (0 : Int), (0 : Int), (0 : Int), (0 : Int), (0 : Int), (0 : Int), (0 : Int), (0 : Int), (0 : Int), (0 : Int), (0 : Int), (0 : Int), (0 : Int), (0 : Int), (0 : Int)]))))) (acells .u8 32 ((vofL 32 [(0 : Int), (0 : Int), (0 : Int), (0 : Int), (0 : Int), (0 : Int), (0 : Int), (0 : Int), (0 : Int), (0 : Int), (0 : Int), (0 : Int), (0 : Int), (0 : Int), (0 : Int), (0 : Int), (0 : Int), (0 : Int), (0 : Int), (0 : Int), (0 : Int), (0 : Int), (0 : Int), (0 : Int), (0 : Int), (0 : Int), (0 : Int), (0 : Int), (0 : Int), (0 : Int), (0 : Int), (0 : Int)]))) rfl rfl rfl rfl hE hS rfl rfl (by kernel_rfl) (by kernel_rfl) (by kernel_rfl) (by kernel_rfl) (by kernel_rfl) (fun a w _ hE hS => ?_)) rfl
   refine at_end rfl ?_
   refine wpIn_ret ?_
   obtain rfl := Option.some.inj hf
   repeat (with_reducible first | refine then_ret ?_ | refine block_ret ?_ | refine qx_ret ?_)
   refine ret_gen ([.agg (List.toArray (acells .u8 32 ((vofL 32 [(0 : Int), (0 : Int), (0 : Int), (0 : Int), (0 : Int), (0 : Int), (0 : Int), (0 : Int), (0 : Int), (0 : Int), (0 : Int), (0 : Int), (0 : Int), (0 : Int), (0 : Int), (0 : Int), (0 : Int), (0 : Int), (0 : Int), (0 : Int), (0 : Int), (0 : Int), (0 : Int), (0 : Int), (0 : Int), (0 : Int), (0 : Int), (0 : Int), (0 : Int), (0 : Int), (0 : Int), (0 : Int)]))))]) hE (by rw [show Tryd.f14.results.toList = [.cell 2 23] from rfl]; exact ⟨_, _, _, 0, _, _, rfl, rfl, hS.heapAt (j := 0) rfl, by kernel_rfl, rfl⟩) ?_
   have hS := hS.pk .n rfl
   exact ⟨_, rfl, D139, rfl, hS⟩
  ·replace hf := cond_f hb hf
   clear hb
   refine wpIn_skip ?_
   refine wpIn_seq ?_
   refine wpIn_seq ?_
   refine region_at ?_
   refine aF 76 4 76 hE (fun a hE => ?_)
   refine aL 0 (.bool (x1.fGone)) hE hS (fun a hE => ?_)
   refine at_end rfl ?_
   refine cond_split hE (b := x1.fGone) rfl (fun hb => ?_) (fun hb => ?_)
   ·replace hf := cond_t hb hf
    clear hb
    refine wpIn_seq ?_
    refine region_at ?_
    refine aF 77 23 77 hE (fun a hE => ?_)
    refine aL 0 (.agg (List.toArray (acells .u8 32 (x1.fCom)))) hE hS (fun a hE => ?_)
    have hS := hS.pk (.c 1 rfl (.c 0 rfl .n)) rfl
    refine at_op (op_store (v := .agg (List.toArray (acells .u8 32 (x1.fCom)))) (acells .u8 32 (x1.fCom)) rfl rfl rfl rfl hE hS rfl rfl (by kernel_rfl) (by kernel_rfl) (by kernel_rfl) (by kernel_rfl) (by kernel_rfl) (fun a w _ hE hS => ?_)) rfl
    refine at_end rfl ?_
    refine wpIn_ret ?_
    obtain rfl := Option.some.inj hf
    repeat (with_reducible first | refine then_ret ?_ | refine block_ret ?_ | refine qx_ret ?_)
    refine ret_gen ([.agg (List.toArray (acells .u8 32 (x1.fCom)))]) hE (by rw [show Tryd.f14.results.toList = [.cell 2 23] from rfl]; exact ⟨_, _, _, 0, _, _, rfl, rfl, hS.heapAt (j := 0) rfl, by kernel_rfl, rfl⟩) ?_
    have hS := hS.pk .n rfl
    exact ⟨_, rfl, D139, rfl, hS⟩
   ·replace hf := cond_f hb hf
    clear hb
    refine wpIn_skip ?_
    refine wpIn_seq ?_
    refine region_draw (fun j => Keeps (mfOf [(6, [b116])] j)) (by kernel_rfl) ?_
    have hS := hS.drew
    first | generalize w.drew = w at hS ⊢ | generalize w0.drew = w at hS ⊢
    refine wF 0 1 6 44 23 44 hE (fun a hE => ?_)
    obtain ⟨D177, le178, e179, hS⟩ := hS.freezeB
    have hc180 : Cell kd_T_api_Rec D177 b114 0 (x1) := ⟨c_T_api_Rec (x1) A2 c3 A5 c6, _, _, _, (kd_T_api_Rec_mk (D := D177) (x := x1) rfl rfl rfl rfl rfl rfl rfl rfl rfl rfl rfl (kslice (h4.mono (le2 le140 le178))) (kslice (h7.mono (le2 le140 le178))) rfl rfl rfl), e179, fun j u hu => by show (List.toArray (c_T_api_Rec (x1) A2 c3 A5 c6))[0 + j]? = some u; simpa using hu⟩
    obtain ⟨l181, h182, hf⟩ := bind_some hf
    refine tW 1 3 (fuel := 5) (by kernel_rfl) hE (fun M => tk_sliceArrAt (kk := .u8) (e := 5) (v := x1.fSalt) (off := 44) (cs := c_T_api_Rec (x1) A2 c3 A5 c6) rfl rfl rfl rfl hE rfl rfl (by kernel_rfl) rfl rfl e179 (by kernel_rfl) rfl h182 (fun a A183 c184 hE h185 => ?_))
    refine tW 2 7 (fuel := 4) (by kernel_rfl) hE (fun M => g_fieldAddr (fo := 43) (ft := 25) (0 + 43) rfl rfl rfl rfl hE rfl rfl (by kernel_rfl) rfl (fun a hE => ?_))
    obtain ⟨cs186, C187, T188, fr189, hr190, hb191, hc192⟩ := hc180
    obtain ⟨A193, c194, A196, c197, rfl, h195, h198⟩ := kd_T_api_Rec_el hr190
    refine tT 3 15 (fuel := 3) (by kernel_rfl) hE (tk_loadX (off0 := 0) (off := 43) (c := c_T_api_Rec (x1) A193 c194 A196 c197) (.slice A196 (List.length (x1.fData)) c197) rfl rfl rfl rfl hE rfl hS rfl hb191 hc192 (by kernel_rfl) (by kernel_rfl) (kD hS dn_nil) (fun a hE => ?_))
    refine oG 4 31 (fuel := 2) (by kernel_rfl) (op_buildSlice (K := (kdSlice (kdInt .u8))) (e := 25) (cs := [.slice A183 (List.length (l181)) c184] ++ ([.slice A196 (List.length (x1.fData)) c197] ++ [])) ([l181, x1.fData] : List (List Int)) rfl rfl rfl rfl hE rfl hS rfl (by kernel_rfl) rfl rfl (by exact (show RL (kdSlice (kdInt .u8)) D177 ([l181, x1.fData] : List (List Int)) ([.slice A183 (List.length (l181)) c184] ++ ([.slice A196 (List.length (x1.fData)) c197] ++ [])) from ⟨_, _, rfl, (kslice h185), ⟨_, _, rfl, (kslice h198), rfl⟩⟩)) (fun a A199 q200 w hkp hE h201 hS => ⟨hkp.mono (fun _ h => absurd h List.not_mem_nil), ?_⟩))
    clear hkp
    obtain ⟨D203, q206, le204, hS, h207, h205⟩ := hS.lent h201
    obtain ⟨r208, h209, hf⟩ := bind_some hf
    refine oG 5 63 (fuel := 1) (by kernel_rfl) (op_call rfl rfl rfl rfl hE rfl rfl rfl rfl (by kernel_rfl) (inspeximusref02_Of.calls (g := g) h209 (hS.st.fore (L := [])) h205 (hG0.mono (le2 (le2 le140 le178) le204)) (hG1.mono (le2 (le2 le140 le178) le204))) (fun a v w hR hE => ?_))
    obtain ⟨D210, rfl, hS1⟩ := hR
    refine ⟨(hS1.keeps.sub (M' := []) trivial).mono (fun _ h => h), ?_⟩
    have le212 := hS1.dle
    have hS := hS.callR hS1 rfl .n
    clear hS1
    have hS := hS.pk (.c 1 rfl (.c 0 rfl .n)) rfl
    refine oG 6 127 (fuel := 0) (by kernel_rfl) (op_store (v := .agg (List.toArray (acells .u8 32 (r208)))) (acells .u8 32 (r208)) rfl rfl rfl rfl hE hS rfl rfl (by kernel_rfl) (by kernel_rfl) (by kernel_rfl) (by kernel_rfl) (by kernel_rfl) (fun a w hkp hE hS => ⟨hkp.mono (fun _ h => h), ?_⟩))
    clear hkp
    refine doneG (by kernel_rfl) ?_
    refine wpIn_ret ?_
    obtain rfl := Option.some.inj hf
    repeat (with_reducible first | refine then_ret ?_ | refine block_ret ?_ | refine qx_ret ?_)
    refine ret_gen ([.agg (List.toArray (acells .u8 32 (r208)))]) hE (by rw [show Tryd.f14.results.toList = [.cell 2 23] from rfl]; exact ⟨_, _, _, 0, _, _, rfl, rfl, hS.heapAt (j := 0) rfl, by kernel_rfl, rfl⟩) ?_
    have hS := hS.pk .n rfl
    exact ⟨_, rfl, D210, rfl, hS⟩
set_option maxRecDepth 100000 in
set_option maxHeartbeats 4000000 in
theorem inspeximusref04_flag.calls {K : Nat} {g w0 : World} {D0 : Snap} {x1 : Bool} {r : (Int)} (hf : inspeximusref04_flag.f K x1 = some r) (hS0 : St g w0 D0 []) :
  CallsIn (Fw none) 0 Tryd.prog 42 (List.toArray [.bool (x1)]) w0 (fun e w' => ∃ v, e = .returned v ∧ ∃ (D1 : Snap), v = .int .u8 (r) ∧ Stp g w0 D0 [] w' D1 []) := by
 unfold inspeximusref04_flag.f at hf
 have hS := Stp.refl hS0
 clear hS0
 refine calls_body (n := 4) Tryd.func42 rfl Tryd.ntmps42 rfl (fun a hE => ?_)
 have hE : Env a 4 [] [(0, .bool (x1))] := hE
 refine wpIn_seq ?_
 refine region_at ?_
 refine sN 1 1 [(2, .int .u8 ((0 : Int)))] hE (fun a hE => ?_)
 refine at_end rfl ?_
 refine wpIn_seq ?_
 refine wpIn_seq ?_
 refine region_at ?_
 refine sN 1 1 [(3, .bool (x1))] hE (fun a hE => ?_)
 refine at_end rfl ?_
 refine cond_split hE (b := x1) rfl (fun hb => ?_) (fun hb => ?_)
 ·replace hf := cond_t hb hf
  clear hb
  refine wpIn_seq ?_
  refine region_at ?_
  refine sN 1 1 [(2, .int .u8 ((1 : Int)))] hE (fun a hE => ?_)
  refine at_end rfl ?_
  refine wpIn_ret ?_
  obtain rfl := Option.some.inj hf
  repeat (with_reducible first | refine then_ret ?_ | refine block_ret ?_ | refine qx_ret ?_)
  refine ret_gen ([.int .u8 ((1 : Int))]) hE (by rw [show Tryd.f42.results.toList = [.tmp 2] from rfl]; exact ⟨_, _, rfl, rfl, rfl⟩) ?_
  exact ⟨_, rfl, D0, rfl, hS⟩
 ·replace hf := cond_f hb hf
  clear hb
  refine wpIn_skip ?_
  refine wpIn_seq ?_
  refine region_at ?_
  refine sN 1 1 [(2, .int .u8 ((0 : Int)))] hE (fun a hE => ?_)
  refine at_end rfl ?_
  refine wpIn_ret ?_
  obtain rfl := Option.some.inj hf
  repeat (with_reducible first | refine then_ret ?_ | refine block_ret ?_ | refine qx_ret ?_)
  refine ret_gen ([.int .u8 ((0 : Int))]) hE (by rw [show Tryd.f42.results.toList = [.tmp 2] from rfl]; exact ⟨_, _, rfl, rfl, rfl⟩) ?_
  exact ⟨_, rfl, D0, rfl, hS⟩
set_option maxRecDepth 100000 in
set_option maxHeartbeats 4000000 in
theorem inspeximusref03_Bytes.calls {K : Nat} {g w0 : World} {D0 : Snap} {x1 : (List Int)} {A2 : Option Addr} {c3 : Nat} {r : ((List Int))} (hf : inspeximusref03_Bytes.f K x1 = some r) (hS0 : St g w0 D0 []) (h4 : Sl (kdInt .u8) D0 A2 c3 (x1)) :
  CallsIn (Fw none) 0 Tryd.prog 43 (List.toArray [.slice A2 (List.length (x1)) c3]) w0 (fun e w' => ∃ v, e = .returned v ∧ ∃ (D1 : Snap) (A22 : Option Addr) (c23 : Nat) (q24 : Blk), v = .slice A22 (List.length (r)) c23 ∧ Stp g w0 D0 [] w' D1 [q24] ∧ OwnD (kdInt .u8) 5 D1 A22 c23 (r) q24) := by
 unfold inspeximusref03_Bytes.f at hf
 have hS := Stp.refl hS0
 clear hS0
 refine calls_body (n := 8) Tryd.func43 rfl Tryd.ntmps43 rfl (fun a hE => ?_)
 have hE : Env a 8 [] [(0, .slice A2 (List.length (x1)) c3)] := hE
 refine wpIn_seq ?_
 refine region_at ?_
 refine sN 1 1 [(2, .slice none 0 0)] hE (fun a hE => ?_)
 refine at_end rfl ?_
 refine wpIn_seq ?_
 refine region_at ?_
 refine sN 2 2 [(4, .int .i64 (((List.length (x1) : Nat) : Int)))] hE (fun a hE => ?_)
 obtain ⟨r27, h28, hf⟩ := bind_some hf
 refine aC rfl rfl rfl rfl hE rfl rfl rfl rfl (inspeximusref03_Num.calls (g := g) h28 (hS.st.fore (L := [])) ) (fun a v w hR hE => ?_)
 obtain ⟨D29, A31, c32, q33, rfl, hS1, h34⟩ := hR
 have le36 := hS1.dle
 have hS := hS.callR hS1 rfl (.c .n)
 clear hS1
 refine sN 1 4 [(6, .slice A2 (List.length (x1)) c3)] hE (fun a hE => ?_)
 obtain ⟨l37, h38, hf⟩ := bind_some hf
 refine at_op (g_append (K := (kdInt .u8)) (e := 5) (bytes := 1) (l := r27) (m := x1) rfl rfl rfl rfl hE rfl hS rfl rfl (by kernel_rfl) rfl rfl h34 (h4.mono le36) h38 (fun a A39 c40 q41 w _ hE h42 hS => ?_)) rfl
 refine sN 1 6 [(2, .slice A39 (List.length (l37)) c40)] hE (fun a hE => ?_)
 refine at_end rfl ?_
 refine wpIn_ret ?_
 obtain rfl := Option.some.inj hf
 repeat (with_reducible first | refine then_ret ?_ | refine block_ret ?_ | refine qx_ret ?_)
 refine ret_gen ([.slice A39 (List.length (l37)) c40]) hE (by rw [show Tryd.f43.results.toList = [.tmp 2] from rfl]; exact ⟨_, _, rfl, rfl, rfl⟩) ?_
 exact ⟨_, rfl, D29, A39, c40, q41, rfl, hS, h42⟩
set_option maxRecDepth 100000 in
set_option maxHeartbeats 4000000 in
theorem inspeximusref04_Put.calls {K : Nat} {g w0 : World} {D0 : Snap} {x1 : T_api_Rec} {x8 : Bool} {A2 : Option Addr} {c3 : Nat} {A5 : Option Addr} {c6 : Nat} {r : ((List Int))} (hf : inspeximusref04_Put.f K x1 x8 = some r) (hS0 : St g w0 D0 []) (h4 : Sl kd_T_api_Step D0 A2 c3 (x1.fSteps)) (h7 : Sl (kdInt .u8) D0 A5 c6 (x1.fData)) (hG0 : Cell (kdArr .u32 8) D0 0 0 gl_First) (hG1 : Cell (kdArr .u32 64) D0 1 0 gl_K) :
  CallsIn (Fw none) 0 Tryd.prog 21 (List.toArray [.agg (List.toArray (c_T_api_Rec (x1) A2 c3 A5 c6)), .bool (x8)]) w0 (fun e w' => ∃ v, e = .returned v ∧ ∃ (D1 : Snap) (A2923 : Option Addr) (c2924 : Nat) (q2925 : Blk), v = .slice A2923 (List.length (r)) c2924 ∧ Stp g w0 D0 [] w' D1 [q2925] ∧ OwnD (kdInt .u8) 5 D1 A2923 c2924 (r) q2925) := by
 unfold inspeximusref04_Put.f at hf
 have hS := Stp.refl hS0
 clear hS0
 refine calls_body (n := 162) Tryd.func21 rfl Tryd.ntmps21 rfl (fun a hE => ?_)
 have hE : Env a 162 [] [(0, .agg (List.toArray (c_T_api_Rec (x1) A2 c3 A5 c6))), (1, .bool (x8))] := hE
 refine wpIn_seq ?_
 refine region_at ?_
 refine at_op (op_box rfl rfl rfl rfl hE rfl hS rfl (fun a b2928 w _ hE hS => ?_)) rfl
 refine sN 1 2 [(4, .slice none 0 0)] hE (fun a hE => ?_)
 refine at_end rfl ?_
 refine wpIn_seq ?_
 refine wpIn_seq ?_
 refine region_at ?_
 refine aL 0 (.agg (List.toArray (c_T_api_Rec (x1) A2 c3 A5 c6))) hE hS (fun a hE => ?_)
 obtain ⟨r2935, h2936, hf⟩ := bind_some hf
 refine aC rfl rfl rfl rfl hE rfl rfl rfl rfl (inspeximusref04_Right.calls (g := g) h2936 (hS.st.fore (L := [])) h4 h7) (fun a v w hR hE => ?_)
 obtain ⟨D2937, rfl, hS1⟩ := hR
 have le2939 := hS1.dle
 have hS := hS.callR hS1 rfl .n
 clear hS1
 refine sN 1 3 [(10, .bool ((!r2935)))] hE (fun a hE => ?_)
 refine at_end rfl ?_
 refine cond_split hE (b := (!r2935)) rfl (fun hb => ?_) (fun hb => ?_)
 ·replace hf := cond_t hb hf
  clear hb
  refine wpIn_seq ?_
  refine region_at ?_
  refine sN 1 1 [(4, .slice none 0 0)] hE (fun a hE => ?_)
  refine at_end rfl ?_
  refine wpIn_ret ?_
  have hS := hS.nils
  obtain rfl := Option.some.inj hf
  repeat (with_reducible first | refine then_ret ?_ | refine block_ret ?_ | refine qx_ret ?_)
  refine ret_gen ([.slice none 0 0]) hE (by rw [show Tryd.f21.results.toList = [.tmp 4] from rfl]; exact ⟨_, _, rfl, rfl, rfl⟩) ?_
  have hS := hS.pk (.c 0 rfl .n) rfl
  exact ⟨_, rfl, D2937, none, 0, none, rfl, hS, (OwnD.nil (kdInt .u8) 5 D2937)⟩
 ·replace hf := cond_f hb hf
  clear hb
  refine wpIn_skip ?_
  refine wpIn_seq ?_
  refine region_at ?_
  refine aF 0 3 0 hE (fun a hE => ?_)
  refine aL 0 (.int .i64 (x1.fKind)) hE hS (fun a hE => ?_)
  obtain ⟨r2941, h2942, hf⟩ := bind_some hf
  refine aC rfl rfl rfl rfl hE rfl rfl rfl rfl (inspeximusref03_Num.calls (g := g) h2942 (hS.st.fore (L := [])) ) (fun a v w hR hE => ?_)
  obtain ⟨D2943, A2945, c2946, q2947, rfl, hS1, h2948⟩ := hR
  have le2950 := hS1.dle
  have hS := hS.callR hS1 rfl (.c .n)
  clear hS1
  refine sN 1 4 [(5, .slice A2945 (List.length (r2941)) c2946)] hE (fun a hE => ?_)
  refine at_end rfl ?_
  obtain ⟨j4400, hj4401, hf⟩ := jn_elim hf
  refine seq_join (fun a w => ∃ (y4392 : (List Int)), ∃ (A4395 : Option Addr), ∃ (c4396 : Nat), ∃ (q4397 : Blk), ∃ (D4393 : Snap), Env a 162 [] [(5, .slice A4395 (List.length (y4392)) c4396)] ∧ Stp g w0 D0 [] w D4393 [q4397] ∧ Snap.le D2943 D4393 ∧ OwnD (kdInt .u8) 5 D4393 A4395 c4396 (y4392) q4397 ∧ j4400 y4392 = some r) ?_ ?_
  ·clear hj4401
   refine wpIn_seq ?_
   refine region_at ?_
   refine aF 0 3 0 hE (fun a hE => ?_)
   refine aL 1 (.int .i64 (x1.fKind)) hE hS (fun a hE => ?_)
   refine at_end rfl ?_
   refine wpIn_block ?_
   refine wpIn_seq ?_
   refine region_at ?_
   refine sN 2 2 [(26, .bool ((decide (x1.fKind = (1 : Int)))))] hE (fun a hE => ?_)
   refine at_end rfl ?_
   refine cond_split hE (b := (decide (x1.fKind = (1 : Int)))) rfl (fun hb => ?_) (fun hb => ?_)
   ·replace hf := cond_t hb hf
    clear hb
    refine wpIn_seq ?_
    refine region_at ?_
    refine sN 1 1 [(28, .slice A2945 (List.length (r2941)) c2946)] hE (fun a hE => ?_)
    refine aF 1 3 1 hE (fun a hE => ?_)
    refine aL 1 (.int .i64 (x1.fSaga)) hE hS (fun a hE => ?_)
    obtain ⟨r4402, h4403, hf⟩ := bind_some hf
    refine aC rfl rfl rfl rfl hE rfl rfl rfl rfl (inspeximusref03_Num.calls (g := g) h4403 (hS.st.fore (L := [])) ) (fun a v w hR hE => ?_)
    obtain ⟨D4404, A4406, c4407, q4408, rfl, hS1, h4409⟩ := hR
    have le4411 := hS1.dle
    have hS := hS.callR hS1 rfl (.c .n)
    clear hS1
    obtain ⟨D4412, q4415, le4413, hS, h4416, h4414⟩ := hS.lent h4409
    have hS := hS.pk (.c 1 rfl (.c 0 rfl (.c 2 rfl .n))) rfl
    obtain ⟨l4417, h4418, hf⟩ := bind_some hf
    refine at_op (g_append (K := (kdInt .u8)) (e := 5) (bytes := 1) (l := r2941) (m := r4402) rfl rfl rfl rfl hE rfl hS rfl rfl (by kernel_rfl) rfl rfl (h2948.mono (le2 le4411 le4413)) h4414 h4418 (fun a A4419 c4420 q4421 w _ hE h4422 hS => ?_)) rfl
    refine sN 1 6 [(5, .slice A4419 (List.length (l4417)) c4420)] hE (fun a hE => ?_)
    refine at_end rfl ?_
    refine wpIn_seq ?_
    refine region_at ?_
    refine sN 1 1 [(33, .slice A4419 (List.length (l4417)) c4420)] hE (fun a hE => ?_)
    refine aF 42 24 42 hE (fun a hE => ?_)
    refine aL 2 (.slice A2 (List.length (x1.fSteps)) c3) hE hS (fun a hE => ?_)
    refine sN 1 4 [(36, .int .i64 (((List.length (x1.fSteps) : Nat) : Int)))] hE (fun a hE => ?_)
    have hS := hS.pk (.c 0 rfl (.c 2 rfl .n)) rfl
    obtain ⟨r4424, h4425, hf⟩ := bind_some hf
    refine aC rfl rfl rfl rfl hE rfl rfl rfl rfl (inspeximusref03_Num.calls (g := g) h4425 (hS.st.fore (L := [])) ) (fun a v w hR hE => ?_)
    obtain ⟨D4426, A4428, c4429, q4430, rfl, hS1, h4431⟩ := hR
    have le4433 := hS1.dle
    have hS := hS.callR hS1 rfl (.c .n)
    clear hS1
    obtain ⟨D4434, q4437, le4435, hS, h4438, h4436⟩ := hS.lent h4431
    have hS := hS.pk (.c 1 rfl (.c 0 rfl (.c 2 rfl .n))) rfl
    obtain ⟨l4439, h4440, hf⟩ := bind_some hf
    refine at_op (g_append (K := (kdInt .u8)) (e := 5) (bytes := 1) (l := l4417) (m := r4424) rfl rfl rfl rfl hE rfl hS rfl rfl (by kernel_rfl) rfl rfl (h4422.mono (le2 le4433 le4435)) h4436 h4440 (fun a A4441 c4442 q4443 w _ hE h4444 hS => ?_)) rfl
    refine sN 1 7 [(5, .slice A4441 (List.length (l4439)) c4442)] hE (fun a hE => ?_)
    refine at_end rfl ?_
    refine wpIn_seq ?_
    refine wpIn_seq ?_
    refine region_at ?_
    refine sN 1 1 [(6, .int .i64 ((0 : Int)))] hE (fun a hE => ?_)
    refine at_end rfl ?_
    obtain ⟨s5214, hf, hs5215⟩ := bind_some hf
    have hS := hS.pk (.c 2 rfl (.c 0 rfl .n)) rfl
    refine block_loop (fun a w => ∃ (z5206 : (List Int)), ∃ (A5209 : Option Addr), ∃ (c5210 : Nat), ∃ (q5211 : Blk), ∃ (D5207 : Snap), Env a 162 [] [(1, .bool (x8)), (2, .pointer (some ⟨b2928, 0, none⟩)), (5, .slice A5209 (List.length (z5206)) c5210)] ∧ Stp g w0 D0 [] w D5207 [bx b2928 27 (c_T_api_Rec (x1) A2 c3 A5 c6), q5211] ∧ Snap.le D4434 D5207 ∧ OwnD (kdInt .u8) 5 D5207 A5209 c5210 (z5206) q5211 ∧ z5206 = s5214) (fun k a w => ∃ (y5054 : (List Int) × Int), ∃ (A5057 : Option Addr), ∃ (c5058 : Nat), ∃ (q5059 : Blk), ∃ (D5055 : Snap), Env a 162 [] [(1, .bool (x8)), (2, .pointer (some ⟨b2928, 0, none⟩)), (5, .slice A5057 (List.length (y5054.1)) c5058), (6, .int .i64 (y5054.2))] ∧ Stp g w0 D0 [] w D5055 [bx b2928 27 (c_T_api_Rec (x1) A2 c3 A5 c6), q5059] ∧ Snap.le D4434 D5055 ∧ OwnD (kdInt .u8) 5 D5055 A5057 c5058 (y5054.1) q5059 ∧ inspeximusref04_Put_l1.l K x1 k y5054 = some s5214) K ?_ ?_ ?_
    ·exact ⟨(l4439, (0 : Int)), A4441, c4442, q4443, D4434, hE.weak (by kernel_rfl), hS, Snap.le.refl _, h4444, hf⟩
    ·clear hE hS hf
     rintro a w ⟨z5206, A5209, c5210, q5211, D5207, hE, hS, le5208, h5212, rfl⟩
     have hf := hs5215
     clear hs5215
     refine wpIn_seq ?_
     refine region_at ?_
     refine aL 0 (.agg (List.toArray (c_T_api_Rec (x1) A2 c3 A5 c6))) hE hS (fun a hE => ?_)
     obtain ⟨r5352, h5353, hf⟩ := bind_some hf
     refine aC rfl rfl rfl rfl hE rfl rfl rfl rfl (inspeximusref04_Com.calls (g := g) h5353 (hS.st.fore (L := [])) (h4.mono (le2 (le2 (le2 (le2 (le2 (le2 le2939 le2950) le4411) le4413) le4433) le4435) le5208)) (h7.mono (le2 (le2 (le2 (le2 (le2 (le2 le2939 le2950) le4411) le4413) le4433) le4435) le5208)) (hG0.mono (le2 (le2 (le2 (le2 (le2 (le2 le2939 le2950) le4411) le4413) le4433) le4435) le5208)) (hG1.mono (le2 (le2 (le2 (le2 (le2 (le2 le2939 le2950) le4411) le4413) le4433) le4435) le5208))) (fun a v w hR hE => ?_)
     obtain ⟨D5354, rfl, hS1⟩ := hR
     have le5356 := hS1.dle
     have hS := hS.callR hS1 rfl .n
     clear hS1
     refine at_op (op_alloc (z := .agg (List.toArray (acells .u8 32 ((Vector.replicate 32 (0 : Int)))))) rfl rfl rfl rfl hE rfl hS (by kernel_rfl) (fun a b5357 w _ hE hS => ?_)) rfl
     refine at_op (op_store (v := .agg (List.toArray (acells .u8 32 (r5352)))) (acells .u8 32 (r5352)) rfl rfl rfl rfl hE hS rfl rfl (by kernel_rfl) (by kernel_rfl) (by kernel_rfl) (by kernel_rfl) (by kernel_rfl) (fun a w _ hE hS => ?_)) rfl
     refine at_end rfl ?_
     obtain ⟨j5515, hj5516, hf⟩ := jn_elim hf
     refine seq_join (fun a w => ∃ (y5380 : (List Int)), ∃ (A5383 : Option Addr), ∃ (c5384 : Nat), ∃ (q5385 : Blk), ∃ (D5381 : Snap), Env a 162 [] [(1, .bool (x8)), (2, .pointer (some ⟨b2928, 0, none⟩)), (5, .slice A5383 (List.length (y5380)) c5384), (7, .pointer (some ⟨b5357, 0, none⟩))] ∧ Stp g w0 D0 [] w D5381 [bx b2928 27 (c_T_api_Rec (x1) A2 c3 A5 c6), bx b5357 23 (acells .u8 32 (r5352)), q5385] ∧ Snap.le D5354 D5381 ∧ OwnD (kdInt .u8) 5 D5381 A5383 c5384 (y5380) q5385 ∧ j5515 y5380 = some r) ?_ ?_
     ·clear hj5516
      refine wpIn_seq ?_
      refine region_at ?_
      refine sN 1 1 [(66, .bool (x8))] hE (fun a hE => ?_)
      refine at_end rfl ?_
      refine cond_split hE (b := x8) rfl (fun hb => ?_) (fun hb => ?_)
      ·replace hf := cond_t hb hf
       clear hb
       refine region_at ?_
       refine sN 1 1 [(67, .slice A5209 (List.length (z5206)) c5210)] hE (fun a hE => ?_)
       refine aF 76 4 76 hE (fun a hE => ?_)
       refine aL 1 (.bool (x1.fGone)) hE hS (fun a hE => ?_)
       obtain ⟨r5517, h5518, hf⟩ := bind_some hf
       refine aC rfl rfl rfl rfl hE rfl rfl rfl rfl (inspeximusref04_flag.calls (g := g) h5518 (hS.st.fore (L := [])) ) (fun a v w hR hE => ?_)
       obtain ⟨D5519, rfl, hS1⟩ := hR
       have le5521 := hS1.dle
       have hS := hS.callR hS1 rfl .n
       clear hS1
       refine at_op (op_buildSlice (K := (kdInt .u8)) (e := 5) (cs := [.int .u8 (r5517)] ++ []) ([r5517] : List Int) rfl rfl rfl rfl hE rfl hS rfl (by kernel_rfl) rfl rfl (by exact (show RL (kdInt .u8) D5519 ([r5517] : List Int) ([.int .u8 (r5517)] ++ []) from ⟨_, _, rfl, rfl, rfl⟩)) (fun a A5522 q5523 w _ hE h5524 hS => ?_)) rfl
       obtain ⟨D5526, q5529, le5527, hS, h5530, h5528⟩ := hS.lent h5524
       have hS := hS.pk (.c 3 rfl (.c 0 rfl (.c 1 rfl (.c 2 rfl .n)))) rfl
       obtain ⟨l5531, h5532, hf⟩ := bind_some hf
       refine at_op (g_append (K := (kdInt .u8)) (e := 5) (bytes := 1) (l := z5206) (m := ([r5517] : List Int)) rfl rfl rfl rfl hE rfl hS rfl rfl (by kernel_rfl) rfl rfl (h5212.mono (le2 (le2 le5356 le5521) le5527)) h5528 h5532 (fun a A5533 c5534 q5535 w _ hE h5536 hS => ?_)) rfl
       refine sN 1 7 [(5, .slice A5533 (List.length (l5531)) c5534)] hE (fun a hE => ?_)
       refine at_end rfl ?_
       have hS := hS.pk (.c 3 rfl (.c 2 rfl (.c 0 rfl .n))) rfl
       exact ⟨l5531, A5533, c5534, q5535, D5526, hE.weak (by kernel_rfl), hS, (le2 le5521 le5527), h5536, hf⟩
      ·replace hf := cond_f hb hf
       clear hb
       refine wpIn_skip ?_
       have hS := hS.pk (.c 1 rfl (.c 0 rfl (.c 2 rfl .n))) rfl
       exact ⟨z5206, A5209, c5210, q5211, D5354, hE.weak (by kernel_rfl), hS, Snap.le.refl _, (h5212.mono le5356), hf⟩
     ·clear hE hS
      rintro a w ⟨y5380, A5383, c5384, q5385, D5381, hE, hS, le5382, h5386, hf⟩
      replace hf := hj5516 _ hf
      clear hj5516
      refine wpIn_seq ?_
      obtain ⟨j5513, hj5514, hf⟩ := jn_elim hf
      refine seq_join (fun a w => ∃ (y5444 : Bool), ∃ (D5445 : Snap), Env a 162 [] [(2, .pointer (some ⟨b2928, 0, none⟩)), (5, .slice A5383 (List.length (y5380)) c5384), (7, .pointer (some ⟨b5357, 0, none⟩)), (78, .bool (y5444))] ∧ Stp g w0 D0 [] w D5445 [bx b2928 27 (c_T_api_Rec (x1) A2 c3 A5 c6), bx b5357 23 (acells .u8 32 (r5352)), q5385] ∧ Snap.le D5381 D5445 ∧ j5513 y5444 = some r) ?_ ?_
      ·clear hj5514
       refine region_at ?_
       refine sN 2 2 [(74, .bool (x8))] hE (fun a hE => ?_)
       refine Or.elim (Bool.eq_false_or_eq_true (x8)).symm (fun hb => ?_) (fun hb => ?_)
       ·replace hf := cond_f hb hf
        have hE := hE.know (t := 74) (b := x8) (b' := false) rfl hb
        clear hb
        refine sN 4 6 [(78, .bool false)] hE (fun a hE => ?_)
        refine at_end rfl ?_
        exact ⟨false, D5381, hE.weak (by kernel_rfl), hS, Snap.le.refl _, hf⟩
       ·replace hf := cond_t hb hf
        have hE := hE.know (t := 74) (b := x8) (b' := true) rfl hb
        clear hb
        refine aF 76 4 76 hE (fun a hE => ?_)
        refine aL 0 (.bool (x1.fGone)) hE hS (fun a hE => ?_)
        refine sN 2 6 [(78, .bool ((!x1.fGone)))] hE (fun a hE => ?_)
        refine at_end rfl ?_
        exact ⟨(!x1.fGone), D5381, hE.weak (by kernel_rfl), hS, Snap.le.refl _, hf⟩
      ·clear hE hS
       rintro a w ⟨y5444, D5445, hE, hS, le5446, hf⟩
       replace hf := hj5514 _ hf
       clear hj5514
       refine cond_split hE (b := y5444) rfl (fun hb => ?_) (fun hb => ?_)
       ·replace hf := cond_t hb hf
        clear hb
        refine wpIn_seq ?_
        refine region_at ?_
        refine sN 1 1 [(79, .slice A5383 (List.length (y5380)) c5384)] hE (fun a hE => ?_)
        refine aF 44 23 44 hE (fun a hE => ?_)
        obtain ⟨D5447, le5448, e5449, hS⟩ := hS.freezeB
        have hc5450 : Cell kd_T_api_Rec D5447 b2928 0 (x1) := ⟨c_T_api_Rec (x1) A2 c3 A5 c6, _, _, _, (kd_T_api_Rec_mk (D := D5447) (x := x1) rfl rfl rfl rfl rfl rfl rfl rfl rfl rfl rfl (kslice (h4.mono (le2 (le2 (le2 (le2 (le2 (le2 (le2 (le2 (le2 (le2 le2939 le2950) le4411) le4413) le4433) le4435) le5208) le5356) le5382) le5446) le5448))) (kslice (h7.mono (le2 (le2 (le2 (le2 (le2 (le2 (le2 (le2 (le2 (le2 le2939 le2950) le4411) le4413) le4433) le4435) le5208) le5356) le5382) le5446) le5448))) rfl rfl rfl), e5449, fun j u hu => by show (List.toArray (c_T_api_Rec (x1) A2 c3 A5 c6))[0 + j]? = some u; simpa using hu⟩
        obtain ⟨l5451, h5452, hf⟩ := bind_some hf
        refine at_op (op_tk hE (tk_sliceArrAt (kk := .u8) (e := 5) (v := x1.fSalt) (off := 44) (cs := c_T_api_Rec (x1) A2 c3 A5 c6) rfl rfl rfl rfl hE rfl rfl (by kernel_rfl) rfl rfl e5449 (by kernel_rfl) rfl h5452 (fun a A5453 c5454 hE h5455 => ?_))) rfl
        have hS := hS.pk (.c 1 rfl (.c 0 rfl .n)) rfl
        obtain ⟨l5456, h5457, hf⟩ := bind_some hf
        refine at_op (g_append (K := (kdInt .u8)) (e := 5) (bytes := 1) (l := y5380) (m := l5451) rfl rfl rfl rfl hE rfl hS rfl rfl (by kernel_rfl) rfl rfl (h5386.mono (le2 le5446 le5448)) h5455 h5457 (fun a A5458 c5459 q5460 w _ hE h5461 hS => ?_)) rfl
        refine sN 1 5 [(5, .slice A5458 (List.length (l5456)) c5459)] hE (fun a hE => ?_)
        refine at_end rfl ?_
        refine wpIn_seq ?_
        refine region_at ?_
        refine sN 1 1 [(83, .slice A5458 (List.length (l5456)) c5459)] hE (fun a hE => ?_)
        refine at_op (op_tk hE (g_fieldAddr (fo := 43) (ft := 25) (0 + 43) rfl rfl rfl rfl hE rfl rfl (by kernel_rfl) rfl (fun a hE => ?_))) rfl
        obtain ⟨cs5463, C5464, T5465, fr5466, hr5467, hb5468, hc5469⟩ := hc5450
        obtain ⟨A5470, c5471, A5473, c5474, rfl, h5472, h5475⟩ := kd_T_api_Rec_el hr5467
        refine at_op (op_tk hE (tk_loadX (off0 := 0) (off := 43) (c := c_T_api_Rec (x1) A5470 c5471 A5473 c5474) (.slice A5473 (List.length (x1.fData)) c5474) rfl rfl rfl rfl hE rfl hS rfl hb5468 hc5469 (by kernel_rfl) (by kernel_rfl) (kD hS dn_nil) (fun a hE => ?_))) rfl
        obtain ⟨r5476, h5477, hf⟩ := bind_some hf
        refine aC rfl rfl rfl rfl hE rfl rfl rfl rfl (inspeximusref03_Bytes.calls (g := g) h5477 (hS.st.fore (L := [])) h5475) (fun a v w hR hE => ?_)
        obtain ⟨D5478, A5480, c5481, q5482, rfl, hS1, h5483⟩ := hR
        have le5485 := hS1.dle
        have hS := hS.callR hS1 rfl (.c .n)
        clear hS1
        obtain ⟨D5486, q5489, le5487, hS, h5490, h5488⟩ := hS.lent h5483
        have hS := hS.pk (.c 1 rfl (.c 0 rfl (.c 2 rfl .n))) rfl
        obtain ⟨l5491, h5492, hf⟩ := bind_some hf
        refine at_op (g_append (K := (kdInt .u8)) (e := 5) (bytes := 1) (l := l5456) (m := r5476) rfl rfl rfl rfl hE rfl hS rfl rfl (by kernel_rfl) rfl rfl (h5461.mono (le2 le5485 le5487)) h5488 h5492 (fun a A5493 c5494 q5495 w _ hE h5496 hS => ?_)) rfl
        refine sN 1 6 [(4, .slice A5493 (List.length (l5491)) c5494)] hE (fun a hE => ?_)
        refine at_end rfl ?_
        refine wpIn_ret ?_
        obtain rfl := Option.some.inj hf
        repeat (with_reducible first | refine then_ret ?_ | refine block_ret ?_ | refine qx_ret ?_)
        refine ret_gen ([.slice A5493 (List.length (l5491)) c5494]) hE (by rw [show Tryd.f21.results.toList = [.tmp 4] from rfl]; exact ⟨_, _, rfl, rfl, rfl⟩) ?_
        have hS := hS.pk (.c 0 rfl .n) rfl
        exact ⟨_, rfl, D5486, A5493, c5494, q5495, rfl, hS, h5496⟩
       ·replace hf := cond_f hb hf
        clear hb
        refine wpIn_skip ?_
        refine region_at ?_
        refine sN 1 1 [(88, .slice A5383 (List.length (y5380)) c5384)] hE (fun a hE => ?_)
        have hS := hS.pk (.c 1 rfl (.c 0 rfl (.c 2 rfl .n))) rfl
        obtain ⟨D5498, le5499, e5500, hS⟩ := hS.freezeB
        obtain ⟨l5501, h5502, hf⟩ := bind_some hf
        refine at_op (op_tk hE (g_sliceArr (kk := .u8) (e := 5) (v := r5352) rfl rfl rfl rfl hE rfl rfl (by kernel_rfl) rfl rfl e5500 rfl h5502 (fun a A5503 c5504 hE h5505 => ?_))) rfl
        have hS := hS.pk (.c 1 rfl (.c 0 rfl .n)) rfl
        obtain ⟨l5506, h5507, hf⟩ := bind_some hf
        refine at_op (g_append (K := (kdInt .u8)) (e := 5) (bytes := 1) (l := y5380) (m := l5501) rfl rfl rfl rfl hE rfl hS rfl rfl (by kernel_rfl) rfl rfl (h5386.mono (le2 le5446 le5499)) h5505 h5507 (fun a A5508 c5509 q5510 w _ hE h5511 hS => ?_)) rfl
        refine sN 1 4 [(5, .slice A5508 (List.length (l5506)) c5509)] hE (fun a hE => ?_)
        refine at_end rfl ?_
        have hS := hS.pk (.c 0 rfl .n) rfl
        exact ⟨l5506, A5508, c5509, q5510, D5498, hE.weak (by kernel_rfl), hS, (le2 (le2 (le2 (le2 (le2 (le2 (le2 (le2 le4411 le4413) le4433) le4435) le5208) le5356) le5382) le5446) le5499), h5511, hf⟩
    ·clear hE hS hf
     rintro k a w ⟨y5054, A5057, c5058, q5059, D5055, hE, hS, le5056, h5060, hf⟩
     obtain ⟨k, rfl, hf⟩ := inspeximusref04_Put_l1.some _ hf
     refine ⟨k, rfl, ?_⟩
     unfold inspeximusref04_Put_l1.b at hf
     refine wpIn_seq ?_
     refine wpIn_seq ?_
     refine region_at ?_
     refine sN 1 1 [(39, .int .i64 (y5054.2))] hE (fun a hE => ?_)
     refine aF 42 24 42 hE (fun a hE => ?_)
     refine aL 0 (.slice A2 (List.length (x1.fSteps)) c3) hE hS (fun a hE => ?_)
     refine sN 2 5 [(43, .bool ((decide (y5054.2 < ((List.length (x1.fSteps) : Nat) : Int)))))] hE (fun a hE => ?_)
     refine at_end rfl ?_
     refine cond_split hE (b := (decide (y5054.2 < ((List.length (x1.fSteps) : Nat) : Int)))) rfl (fun hb => ?_) (fun hb => ?_)
     ·replace hf := cond_t hb hf
      clear hb
      refine wpIn_skip ?_
      refine wpIn_seq ?_
      refine wpIn_block ?_
      refine wpIn_seq ?_
      refine region_at ?_
      refine sN 1 1 [(46, .slice A5057 (List.length (y5054.1)) c5058)] hE (fun a hE => ?_)
      refine aF 42 24 42 hE (fun a hE => ?_)
      refine aL 0 (.slice A2 (List.length (x1.fSteps)) c3) hE hS (fun a hE => ?_)
      refine sN 1 4 [(49, .int .i64 (y5054.2))] hE (fun a hE => ?_)
      obtain ⟨x5284, h5285, hf⟩ := bind_some hf
      refine at_op (op_tk hE (g_index (K := kd_T_api_Step) (e := 37) (by_ := 16) (zl := 2) rfl rfl rfl rfl hE rfl rfl rfl (by kernel_rfl) rfl (h4.mono (le2 (le2 (le2 (le2 (le2 (le2 le2939 le2950) le4411) le4413) le4433) le4435) le5056)) h5285 (fun a b5286 o5287 hE h5288 => ?_))) rfl
      refine at_op (op_tk hE (g_fieldAddr (fo := 0) (ft := 3) (o5287 + 0) rfl rfl rfl rfl hE rfl rfl (by kernel_rfl) rfl (fun a hE => ?_))) rfl
      obtain ⟨cs5289, C5290, T5291, fr5292, hr5293, hb5294, hc5295⟩ := h5288
      obtain ⟨rfl⟩ := kd_T_api_Step_el hr5293
      refine at_op (op_tk hE (tk_loadX (off0 := o5287) (off := 0) (c := c_T_api_Step (x5284)) (.int .i64 (x5284.fPart)) rfl rfl rfl rfl hE rfl hS rfl hb5294 hc5295 (by kernel_rfl) (by kernel_rfl) (kD hS dn_nil) (fun a hE => ?_))) rfl
      obtain ⟨r5296, h5297, hf⟩ := bind_some hf
      refine aC rfl rfl rfl rfl hE rfl rfl rfl rfl (inspeximusref03_Num.calls (g := g) h5297 (hS.st.fore (L := [])) ) (fun a v w hR hE => ?_)
      obtain ⟨D5298, A5300, c5301, q5302, rfl, hS1, h5303⟩ := hR
      have le5305 := hS1.dle
      have hS := hS.callR hS1 rfl (.c .n)
      clear hS1
      obtain ⟨D5306, q5309, le5307, hS, h5310, h5308⟩ := hS.lent h5303
      have hS := hS.pk (.c 2 rfl (.c 0 rfl (.c 1 rfl .n))) rfl
      obtain ⟨l5311, h5312, hf⟩ := bind_some hf
      refine at_op (g_append (K := (kdInt .u8)) (e := 5) (bytes := 1) (l := y5054.1) (m := r5296) rfl rfl rfl rfl hE rfl hS rfl rfl (by kernel_rfl) rfl rfl (h5060.mono (le2 le5305 le5307)) h5308 h5312 (fun a A5313 c5314 q5315 w _ hE h5316 hS => ?_)) rfl
      refine sN 1 10 [(5, .slice A5313 (List.length (l5311)) c5314)] hE (fun a hE => ?_)
      refine at_end rfl ?_
      refine region_at ?_
      refine sN 1 1 [(55, .slice A5313 (List.length (l5311)) c5314)] hE (fun a hE => ?_)
      refine aF 42 24 42 hE (fun a hE => ?_)
      refine aL 2 (.slice A2 (List.length (x1.fSteps)) c3) hE hS (fun a hE => ?_)
      refine sN 1 4 [(58, .int .i64 (y5054.2))] hE (fun a hE => ?_)
      obtain ⟨x5318, h5319, hf⟩ := bind_some hf
      refine at_op (op_tk hE (g_index (K := kd_T_api_Step) (e := 37) (by_ := 16) (zl := 2) rfl rfl rfl rfl hE rfl rfl rfl (by kernel_rfl) rfl (h4.mono (le2 (le2 (le2 (le2 (le2 (le2 (le2 (le2 le2939 le2950) le4411) le4413) le4433) le4435) le5056) le5305) le5307)) h5319 (fun a b5320 o5321 hE h5322 => ?_))) rfl
      refine at_op (op_tk hE (g_fieldAddr (fo := 1) (ft := 3) (o5321 + 1) rfl rfl rfl rfl hE rfl rfl (by kernel_rfl) rfl (fun a hE => ?_))) rfl
      obtain ⟨cs5323, C5324, T5325, fr5326, hr5327, hb5328, hc5329⟩ := h5322
      obtain ⟨rfl⟩ := kd_T_api_Step_el hr5327
      refine at_op (op_tk hE (tk_loadX (off0 := o5321) (off := 1) (c := c_T_api_Step (x5318)) (.int .i64 (x5318.fKind)) rfl rfl rfl rfl hE rfl hS rfl hb5328 hc5329 (by kernel_rfl) (by kernel_rfl) (kD hS dn_nil) (fun a hE => ?_))) rfl
      have hS := hS.pk (.c 0 rfl (.c 2 rfl .n)) rfl
      obtain ⟨r5330, h5331, hf⟩ := bind_some hf
      refine aC rfl rfl rfl rfl hE rfl rfl rfl rfl (inspeximusref03_Num.calls (g := g) h5331 (hS.st.fore (L := [])) ) (fun a v w hR hE => ?_)
      obtain ⟨D5332, A5334, c5335, q5336, rfl, hS1, h5337⟩ := hR
      have le5339 := hS1.dle
      have hS := hS.callR hS1 rfl (.c .n)
      clear hS1
      obtain ⟨D5340, q5343, le5341, hS, h5344, h5342⟩ := hS.lent h5337
      have hS := hS.pk (.c 1 rfl (.c 0 rfl (.c 2 rfl .n))) rfl
      obtain ⟨l5345, h5346, hf⟩ := bind_some hf
      refine at_op (g_append (K := (kdInt .u8)) (e := 5) (bytes := 1) (l := l5311) (m := r5330) rfl rfl rfl rfl hE rfl hS rfl rfl (by kernel_rfl) rfl rfl (h5316.mono (le2 le5339 le5341)) h5342 h5346 (fun a A5347 c5348 q5349 w _ hE h5350 hS => ?_)) rfl
      refine sN 1 10 [(5, .slice A5347 (List.length (l5345)) c5348)] hE (fun a hE => ?_)
      refine at_end rfl ?_
      refine region_at ?_
      refine sN 3 3 [(6, .int .i64 ((IntKind.wrap .i64 (y5054.2 + (1 : Int)))))] hE (fun a hE => ?_)
      refine at_end rfl ?_
      have hS := hS.pk (.c 2 rfl (.c 0 rfl .n)) rfl
      exact ⟨(l5345, (IntKind.wrap .i64 (y5054.2 + (1 : Int)))), A5347, c5348, q5349, D5340, hE.weak (by kernel_rfl), hS, (le2 (le2 (le2 (le2 le5056 le5305) le5307) le5339) le5341), h5350, hf⟩
     ·replace hf := cond_f hb hf
      clear hb
      refine wpIn_exit ?_
      obtain rfl := Option.some.inj hf
      exact ⟨y5054.1, A5057, c5058, q5059, D5055, hE.weak (by kernel_rfl), hS, le5056, h5060, rfl⟩
   ·replace hf := cond_f hb hf
    clear hb
    obtain ⟨j5841, hj5842, hf⟩ := jn_elim hf
    refine seq_join (fun a w => ∃ (y5538 : Bool), ∃ (D5539 : Snap), Env a 162 [] [(2, .pointer (some ⟨b2928, 0, none⟩)), (5, .slice A2945 (List.length (r2941)) c2946), (15, .int .i64 (x1.fKind)), (91, .bool (y5538))] ∧ Stp g w0 D0 [] w D5539 [bx b2928 27 (c_T_api_Rec (x1) A2 c3 A5 c6), q2947] ∧ Snap.le D2943 D5539 ∧ j5841 y5538 = some r) ?_ ?_
    ·clear hj5842
     refine wpIn_seq ?_
     refine region_at ?_
     refine sN 2 2 [(91, .bool ((decide (x1.fKind = (2 : Int)))))] hE (fun a hE => ?_)
     refine at_end rfl ?_
     refine cond_split hE (b := (decide (x1.fKind = (2 : Int)))) rfl (fun hb => ?_) (fun hb => ?_)
     ·replace hf := cond_t hb hf
      clear hb
      refine wpIn_skip ?_
      have hS := hS.pk (.c 1 rfl (.c 0 rfl .n)) rfl
      exact ⟨(decide (x1.fKind = (2 : Int))), D2943, hE.weak (by kernel_rfl), hS, Snap.le.refl _, hf⟩
     ·replace hf := cond_f hb hf
      clear hb
      refine wpIn_seq ?_
      refine region_at ?_
      refine sN 2 2 [(91, .bool ((decide (x1.fKind = (3 : Int)))))] hE (fun a hE => ?_)
      refine at_end rfl ?_
      refine cond_split hE (b := (decide (x1.fKind = (3 : Int)))) rfl (fun hb => ?_) (fun hb => ?_)
      ·replace hf := cond_t hb hf
       clear hb
       refine wpIn_skip ?_
       have hS := hS.pk (.c 1 rfl (.c 0 rfl .n)) rfl
       exact ⟨(decide (x1.fKind = (3 : Int))), D2943, hE.weak (by kernel_rfl), hS, Snap.le.refl _, hf⟩
      ·replace hf := cond_f hb hf
       clear hb
       refine region_at ?_
       refine sN 2 2 [(91, .bool ((decide (x1.fKind = (4 : Int)))))] hE (fun a hE => ?_)
       refine at_end rfl ?_
       have hS := hS.pk (.c 1 rfl (.c 0 rfl .n)) rfl
       exact ⟨(decide (x1.fKind = (4 : Int))), D2943, hE.weak (by kernel_rfl), hS, Snap.le.refl _, hf⟩
    ·clear hE hS
     rintro a w ⟨y5538, D5539, hE, hS, le5540, hf⟩
     replace hf := hj5842 _ hf
     clear hj5842
     refine cond_split hE (b := y5538) rfl (fun hb => ?_) (fun hb => ?_)
     ·replace hf := cond_t hb hf
      clear hb
      refine wpIn_seq ?_
      refine region_at ?_
      refine sN 1 1 [(95, .slice A2945 (List.length (r2941)) c2946)] hE (fun a hE => ?_)
      refine aF 1 3 1 hE (fun a hE => ?_)
      refine aL 0 (.int .i64 (x1.fSaga)) hE hS (fun a hE => ?_)
      obtain ⟨r5541, h5542, hf⟩ := bind_some hf
      refine aC rfl rfl rfl rfl hE rfl rfl rfl rfl (inspeximusref03_Num.calls (g := g) h5542 (hS.st.fore (L := [])) ) (fun a v w hR hE => ?_)
      obtain ⟨D5543, A5545, c5546, q5547, rfl, hS1, h5548⟩ := hR
      have le5550 := hS1.dle
      have hS := hS.callR hS1 rfl (.c .n)
      clear hS1
      obtain ⟨D5551, q5554, le5552, hS, h5555, h5553⟩ := hS.lent h5548
      have hS := hS.pk (.c 2 rfl (.c 0 rfl (.c 1 rfl .n))) rfl
      obtain ⟨l5556, h5557, hf⟩ := bind_some hf
      refine at_op (g_append (K := (kdInt .u8)) (e := 5) (bytes := 1) (l := r2941) (m := r5541) rfl rfl rfl rfl hE rfl hS rfl rfl (by kernel_rfl) rfl rfl (h2948.mono (le2 (le2 le5540 le5550) le5552)) h5553 h5557 (fun a A5558 c5559 q5560 w _ hE h5561 hS => ?_)) rfl
      refine sN 1 6 [(5, .slice A5558 (List.length (l5556)) c5559)] hE (fun a hE => ?_)
      refine at_end rfl ?_
      refine wpIn_seq ?_
      refine region_at ?_
      refine sN 1 1 [(100, .slice A5558 (List.length (l5556)) c5559)] hE (fun a hE => ?_)
      refine aF 2 3 2 hE (fun a hE => ?_)
      refine aL 2 (.int .i64 (x1.fSeq)) hE hS (fun a hE => ?_)
      have hS := hS.pk (.c 0 rfl (.c 2 rfl .n)) rfl
      obtain ⟨r5563, h5564, hf⟩ := bind_some hf
      refine aC rfl rfl rfl rfl hE rfl rfl rfl rfl (inspeximusref03_Num.calls (g := g) h5564 (hS.st.fore (L := [])) ) (fun a v w hR hE => ?_)
      obtain ⟨D5565, A5567, c5568, q5569, rfl, hS1, h5570⟩ := hR
      have le5572 := hS1.dle
      have hS := hS.callR hS1 rfl (.c .n)
      clear hS1
      obtain ⟨D5573, q5576, le5574, hS, h5577, h5575⟩ := hS.lent h5570
      have hS := hS.pk (.c 1 rfl (.c 0 rfl (.c 2 rfl .n))) rfl
      obtain ⟨l5578, h5579, hf⟩ := bind_some hf
      refine at_op (g_append (K := (kdInt .u8)) (e := 5) (bytes := 1) (l := l5556) (m := r5563) rfl rfl rfl rfl hE rfl hS rfl rfl (by kernel_rfl) rfl rfl (h5561.mono (le2 le5572 le5574)) h5575 h5579 (fun a A5580 c5581 q5582 w _ hE h5583 hS => ?_)) rfl
      refine sN 1 6 [(5, .slice A5580 (List.length (l5578)) c5581)] hE (fun a hE => ?_)
      refine at_end rfl ?_
      refine wpIn_seq ?_
      refine region_at ?_
      refine sN 1 1 [(105, .slice A5580 (List.length (l5578)) c5581)] hE (fun a hE => ?_)
      refine aF 3 3 3 hE (fun a hE => ?_)
      refine aL 2 (.int .i64 (x1.fStep)) hE hS (fun a hE => ?_)
      have hS := hS.pk (.c 0 rfl (.c 2 rfl .n)) rfl
      obtain ⟨r5585, h5586, hf⟩ := bind_some hf
      refine aC rfl rfl rfl rfl hE rfl rfl rfl rfl (inspeximusref03_Num.calls (g := g) h5586 (hS.st.fore (L := [])) ) (fun a v w hR hE => ?_)
      obtain ⟨D5587, A5589, c5590, q5591, rfl, hS1, h5592⟩ := hR
      have le5594 := hS1.dle
      have hS := hS.callR hS1 rfl (.c .n)
      clear hS1
      obtain ⟨D5595, q5598, le5596, hS, h5599, h5597⟩ := hS.lent h5592
      have hS := hS.pk (.c 1 rfl (.c 0 rfl (.c 2 rfl .n))) rfl
      obtain ⟨l5600, h5601, hf⟩ := bind_some hf
      refine at_op (g_append (K := (kdInt .u8)) (e := 5) (bytes := 1) (l := l5578) (m := r5585) rfl rfl rfl rfl hE rfl hS rfl rfl (by kernel_rfl) rfl rfl (h5583.mono (le2 le5594 le5596)) h5597 h5601 (fun a A5602 c5603 q5604 w _ hE h5605 hS => ?_)) rfl
      refine sN 1 6 [(5, .slice A5602 (List.length (l5600)) c5603)] hE (fun a hE => ?_)
      refine at_end rfl ?_
      refine wpIn_seq ?_
      refine region_at ?_
      refine sN 1 1 [(110, .slice A5602 (List.length (l5600)) c5603)] hE (fun a hE => ?_)
      refine aF 4 3 4 hE (fun a hE => ?_)
      refine aL 2 (.int .i64 (x1.fTry)) hE hS (fun a hE => ?_)
      have hS := hS.pk (.c 0 rfl (.c 2 rfl .n)) rfl
      obtain ⟨r5607, h5608, hf⟩ := bind_some hf
      refine aC rfl rfl rfl rfl hE rfl rfl rfl rfl (inspeximusref03_Num.calls (g := g) h5608 (hS.st.fore (L := [])) ) (fun a v w hR hE => ?_)
      obtain ⟨D5609, A5611, c5612, q5613, rfl, hS1, h5614⟩ := hR
      have le5616 := hS1.dle
      have hS := hS.callR hS1 rfl (.c .n)
      clear hS1
      obtain ⟨D5617, q5620, le5618, hS, h5621, h5619⟩ := hS.lent h5614
      have hS := hS.pk (.c 1 rfl (.c 0 rfl (.c 2 rfl .n))) rfl
      obtain ⟨l5622, h5623, hf⟩ := bind_some hf
      refine at_op (g_append (K := (kdInt .u8)) (e := 5) (bytes := 1) (l := l5600) (m := r5607) rfl rfl rfl rfl hE rfl hS rfl rfl (by kernel_rfl) rfl rfl (h5605.mono (le2 le5616 le5618)) h5619 h5623 (fun a A5624 c5625 q5626 w _ hE h5627 hS => ?_)) rfl
      refine sN 1 6 [(5, .slice A5624 (List.length (l5622)) c5625)] hE (fun a hE => ?_)
      refine at_end rfl ?_
      refine wpIn_seq ?_
      refine region_at ?_
      refine sN 1 1 [(115, .slice A5624 (List.length (l5622)) c5625)] hE (fun a hE => ?_)
      refine aF 5 4 5 hE (fun a hE => ?_)
      refine aL 2 (.bool (x1.fBack)) hE hS (fun a hE => ?_)
      have hS := hS.pk (.c 0 rfl (.c 2 rfl .n)) rfl
      obtain ⟨r5629, h5630, hf⟩ := bind_some hf
      refine aC rfl rfl rfl rfl hE rfl rfl rfl rfl (inspeximusref04_flag.calls (g := g) h5630 (hS.st.fore (L := [])) ) (fun a v w hR hE => ?_)
      obtain ⟨D5631, rfl, hS1⟩ := hR
      have le5633 := hS1.dle
      have hS := hS.callR hS1 rfl .n
      clear hS1
      refine at_op (op_buildSlice (K := (kdInt .u8)) (e := 5) (cs := [.int .u8 (r5629)] ++ []) ([r5629] : List Int) rfl rfl rfl rfl hE rfl hS rfl (by kernel_rfl) rfl rfl (by exact (show RL (kdInt .u8) D5631 ([r5629] : List Int) ([.int .u8 (r5629)] ++ []) from ⟨_, _, rfl, rfl, rfl⟩)) (fun a A5634 q5635 w _ hE h5636 hS => ?_)) rfl
      obtain ⟨D5638, q5641, le5639, hS, h5642, h5640⟩ := hS.lent h5636
      have hS := hS.pk (.c 1 rfl (.c 0 rfl (.c 2 rfl .n))) rfl
      obtain ⟨l5643, h5644, hf⟩ := bind_some hf
      refine at_op (g_append (K := (kdInt .u8)) (e := 5) (bytes := 1) (l := l5622) (m := ([r5629] : List Int)) rfl rfl rfl rfl hE rfl hS rfl rfl (by kernel_rfl) rfl rfl (h5627.mono (le2 le5633 le5639)) h5640 h5644 (fun a A5645 c5646 q5647 w _ hE h5648 hS => ?_)) rfl
      refine sN 1 7 [(5, .slice A5645 (List.length (l5643)) c5646)] hE (fun a hE => ?_)
      refine at_end rfl ?_
      refine wpIn_seq ?_
      refine region_at ?_
      refine aF 0 3 0 hE (fun a hE => ?_)
      refine aL 2 (.int .i64 (x1.fKind)) hE hS (fun a hE => ?_)
      refine sN 1 3 [(123, .bool ((decide (x1.fKind = (3 : Int)))))] hE (fun a hE => ?_)
      refine at_end rfl ?_
      refine cond_split hE (b := (decide (x1.fKind = (3 : Int)))) rfl (fun hb => ?_) (fun hb => ?_)
      ·replace hf := cond_t hb hf
       clear hb
       refine wpIn_seq ?_
       refine region_at ?_
       refine sN 1 1 [(124, .slice A5645 (List.length (l5643)) c5646)] hE (fun a hE => ?_)
       refine aF 6 4 6 hE (fun a hE => ?_)
       refine aL 2 (.bool (x1.fGood)) hE hS (fun a hE => ?_)
       have hS := hS.pk (.c 0 rfl (.c 2 rfl .n)) rfl
       obtain ⟨r5650, h5651, hf⟩ := bind_some hf
       refine aC rfl rfl rfl rfl hE rfl rfl rfl rfl (inspeximusref04_flag.calls (g := g) h5651 (hS.st.fore (L := [])) ) (fun a v w hR hE => ?_)
       obtain ⟨D5652, rfl, hS1⟩ := hR
       have le5654 := hS1.dle
       have hS := hS.callR hS1 rfl .n
       clear hS1
       refine at_op (op_buildSlice (K := (kdInt .u8)) (e := 5) (cs := [.int .u8 (r5650)] ++ []) ([r5650] : List Int) rfl rfl rfl rfl hE rfl hS rfl (by kernel_rfl) rfl rfl (by exact (show RL (kdInt .u8) D5652 ([r5650] : List Int) ([.int .u8 (r5650)] ++ []) from ⟨_, _, rfl, rfl, rfl⟩)) (fun a A5655 q5656 w _ hE h5657 hS => ?_)) rfl
       obtain ⟨D5659, q5662, le5660, hS, h5663, h5661⟩ := hS.lent h5657
       have hS := hS.pk (.c 1 rfl (.c 0 rfl (.c 2 rfl .n))) rfl
       obtain ⟨l5664, h5665, hf⟩ := bind_some hf
       refine at_op (g_append (K := (kdInt .u8)) (e := 5) (bytes := 1) (l := l5643) (m := ([r5650] : List Int)) rfl rfl rfl rfl hE rfl hS rfl rfl (by kernel_rfl) rfl rfl (h5648.mono (le2 le5654 le5660)) h5661 h5665 (fun a A5666 c5667 q5668 w _ hE h5669 hS => ?_)) rfl
       refine sN 1 7 [(5, .slice A5666 (List.length (l5664)) c5667)] hE (fun a hE => ?_)
       refine at_end rfl ?_
       refine wpIn_seq ?_
       refine region_at ?_
       refine sN 1 1 [(130, .slice A5666 (List.length (l5664)) c5667)] hE (fun a hE => ?_)
       refine aF 8 3 8 hE (fun a hE => ?_)
       refine aL 2 (.int .i64 (x1.fPart)) hE hS (fun a hE => ?_)
       have hS := hS.pk (.c 0 rfl (.c 2 rfl .n)) rfl
       obtain ⟨r5671, h5672, hf⟩ := bind_some hf
       refine aC rfl rfl rfl rfl hE rfl rfl rfl rfl (inspeximusref03_Num.calls (g := g) h5672 (hS.st.fore (L := [])) ) (fun a v w hR hE => ?_)
       obtain ⟨D5673, A5675, c5676, q5677, rfl, hS1, h5678⟩ := hR
       have le5680 := hS1.dle
       have hS := hS.callR hS1 rfl (.c .n)
       clear hS1
       obtain ⟨D5681, q5684, le5682, hS, h5685, h5683⟩ := hS.lent h5678
       have hS := hS.pk (.c 1 rfl (.c 0 rfl (.c 2 rfl .n))) rfl
       obtain ⟨l5686, h5687, hf⟩ := bind_some hf
       refine at_op (g_append (K := (kdInt .u8)) (e := 5) (bytes := 1) (l := l5664) (m := r5671) rfl rfl rfl rfl hE rfl hS rfl rfl (by kernel_rfl) rfl rfl (h5669.mono (le2 le5680 le5682)) h5683 h5687 (fun a A5688 c5689 q5690 w _ hE h5691 hS => ?_)) rfl
       refine sN 1 6 [(5, .slice A5688 (List.length (l5686)) c5689)] hE (fun a hE => ?_)
       refine at_end rfl ?_
       refine wpIn_seq ?_
       refine region_at ?_
       refine sN 1 1 [(135, .slice A5688 (List.length (l5686)) c5689)] hE (fun a hE => ?_)
       refine aF 9 3 9 hE (fun a hE => ?_)
       refine aL 2 (.int .i64 (x1.fEpoch)) hE hS (fun a hE => ?_)
       have hS := hS.pk (.c 0 rfl (.c 2 rfl .n)) rfl
       obtain ⟨r5693, h5694, hf⟩ := bind_some hf
       refine aC rfl rfl rfl rfl hE rfl rfl rfl rfl (inspeximusref03_Num.calls (g := g) h5694 (hS.st.fore (L := [])) ) (fun a v w hR hE => ?_)
       obtain ⟨D5695, A5697, c5698, q5699, rfl, hS1, h5700⟩ := hR
       have le5702 := hS1.dle
       have hS := hS.callR hS1 rfl (.c .n)
       clear hS1
       obtain ⟨D5703, q5706, le5704, hS, h5707, h5705⟩ := hS.lent h5700
       have hS := hS.pk (.c 1 rfl (.c 0 rfl (.c 2 rfl .n))) rfl
       obtain ⟨l5708, h5709, hf⟩ := bind_some hf
       refine at_op (g_append (K := (kdInt .u8)) (e := 5) (bytes := 1) (l := l5686) (m := r5693) rfl rfl rfl rfl hE rfl hS rfl rfl (by kernel_rfl) rfl rfl (h5691.mono (le2 le5702 le5704)) h5705 h5709 (fun a A5710 c5711 q5712 w _ hE h5713 hS => ?_)) rfl
       refine sN 1 6 [(5, .slice A5710 (List.length (l5708)) c5711)] hE (fun a hE => ?_)
       refine at_end rfl ?_
       refine region_at ?_
       refine sN 1 1 [(140, .slice A5710 (List.length (l5708)) c5711)] hE (fun a hE => ?_)
       refine aF 10 23 10 hE (fun a hE => ?_)
       have hS := hS.pk (.c 2 rfl (.c 0 rfl (.c 1 rfl .n))) rfl
       obtain ⟨D5715, le5716, e5717, hS⟩ := hS.freezeB
       have hc5718 : Cell kd_T_api_Rec D5715 b2928 0 (x1) := ⟨c_T_api_Rec (x1) A2 c3 A5 c6, _, _, _, (kd_T_api_Rec_mk (D := D5715) (x := x1) rfl rfl rfl rfl rfl rfl rfl rfl rfl rfl rfl (kslice (h4.mono (le2 (le2 (le2 (le2 (le2 (le2 (le2 (le2 (le2 (le2 (le2 (le2 (le2 (le2 (le2 (le2 (le2 (le2 (le2 le2939 le2950) le5540) le5550) le5552) le5572) le5574) le5594) le5596) le5616) le5618) le5633) le5639) le5654) le5660) le5680) le5682) le5702) le5704) le5716))) (kslice (h7.mono (le2 (le2 (le2 (le2 (le2 (le2 (le2 (le2 (le2 (le2 (le2 (le2 (le2 (le2 (le2 (le2 (le2 (le2 (le2 le2939 le2950) le5540) le5550) le5552) le5572) le5574) le5594) le5596) le5616) le5618) le5633) le5639) le5654) le5660) le5680) le5682) le5702) le5704) le5716))) rfl rfl rfl), e5717, fun j u hu => by show (List.toArray (c_T_api_Rec (x1) A2 c3 A5 c6))[0 + j]? = some u; simpa using hu⟩
       obtain ⟨l5719, h5720, hf⟩ := bind_some hf
       refine at_op (op_tk hE (tk_sliceArrAt (kk := .u8) (e := 5) (v := x1.fTag) (off := 10) (cs := c_T_api_Rec (x1) A2 c3 A5 c6) rfl rfl rfl rfl hE rfl rfl (by kernel_rfl) rfl rfl e5717 (by kernel_rfl) rfl h5720 (fun a A5721 c5722 hE h5723 => ?_))) rfl
       obtain ⟨l5724, h5725, hf⟩ := bind_some hf
       refine at_op (g_append (K := (kdInt .u8)) (e := 5) (bytes := 1) (l := l5708) (m := l5719) rfl rfl rfl rfl hE rfl hS rfl rfl (by kernel_rfl) rfl rfl (h5713.mono le5716) h5723 h5725 (fun a A5726 c5727 q5728 w _ hE h5729 hS => ?_)) rfl
       refine sN 1 5 [(5, .slice A5726 (List.length (l5724)) c5727)] hE (fun a hE => ?_)
       refine at_end rfl ?_
       have hS := hS.pk (.c 0 rfl .n) rfl
       exact ⟨l5724, A5726, c5727, q5728, D5715, hE.weak (by kernel_rfl), hS, (le2 (le2 (le2 (le2 (le2 (le2 (le2 (le2 (le2 (le2 (le2 (le2 (le2 (le2 (le2 (le2 (le2 le5540 le5550) le5552) le5572) le5574) le5594) le5596) le5616) le5618) le5633) le5639) le5654) le5660) le5680) le5682) le5702) le5704) le5716), h5729, hf⟩
      ·replace hf := cond_f hb hf
       clear hb
       refine wpIn_skip ?_
       have hS := hS.pk (.c 0 rfl .n) rfl
       exact ⟨l5643, A5645, c5646, q5647, D5638, hE.weak (by kernel_rfl), hS, (le2 (le2 (le2 (le2 (le2 (le2 (le2 (le2 (le2 (le2 le5540 le5550) le5552) le5572) le5574) le5594) le5596) le5616) le5618) le5633) le5639), h5648, hf⟩
     ·replace hf := cond_f hb hf
      clear hb
      refine wpIn_seq ?_
      refine region_at ?_
      refine sN 2 2 [(144, .bool ((decide (x1.fKind = (5 : Int)))))] hE (fun a hE => ?_)
      refine at_end rfl ?_
      refine cond_split hE (b := (decide (x1.fKind = (5 : Int)))) rfl (fun hb => ?_) (fun hb => ?_)
      ·replace hf := cond_t hb hf
       clear hb
       refine wpIn_seq ?_
       refine region_at ?_
       refine sN 1 1 [(146, .slice A2945 (List.length (r2941)) c2946)] hE (fun a hE => ?_)
       refine aF 1 3 1 hE (fun a hE => ?_)
       refine aL 0 (.int .i64 (x1.fSaga)) hE hS (fun a hE => ?_)
       obtain ⟨r5731, h5732, hf⟩ := bind_some hf
       refine aC rfl rfl rfl rfl hE rfl rfl rfl rfl (inspeximusref03_Num.calls (g := g) h5732 (hS.st.fore (L := [])) ) (fun a v w hR hE => ?_)
       obtain ⟨D5733, A5735, c5736, q5737, rfl, hS1, h5738⟩ := hR
       have le5740 := hS1.dle
       have hS := hS.callR hS1 rfl (.c .n)
       clear hS1
       obtain ⟨D5741, q5744, le5742, hS, h5745, h5743⟩ := hS.lent h5738
       have hS := hS.pk (.c 2 rfl (.c 0 rfl (.c 1 rfl .n))) rfl
       obtain ⟨l5746, h5747, hf⟩ := bind_some hf
       refine at_op (g_append (K := (kdInt .u8)) (e := 5) (bytes := 1) (l := r2941) (m := r5731) rfl rfl rfl rfl hE rfl hS rfl rfl (by kernel_rfl) rfl rfl (h2948.mono (le2 (le2 le5540 le5740) le5742)) h5743 h5747 (fun a A5748 c5749 q5750 w _ hE h5751 hS => ?_)) rfl
       refine sN 1 6 [(5, .slice A5748 (List.length (l5746)) c5749)] hE (fun a hE => ?_)
       refine at_end rfl ?_
       refine wpIn_seq ?_
       refine region_at ?_
       refine sN 1 1 [(151, .slice A5748 (List.length (l5746)) c5749)] hE (fun a hE => ?_)
       refine aF 2 3 2 hE (fun a hE => ?_)
       refine aL 2 (.int .i64 (x1.fSeq)) hE hS (fun a hE => ?_)
       have hS := hS.pk (.c 0 rfl (.c 2 rfl .n)) rfl
       obtain ⟨r5753, h5754, hf⟩ := bind_some hf
       refine aC rfl rfl rfl rfl hE rfl rfl rfl rfl (inspeximusref03_Num.calls (g := g) h5754 (hS.st.fore (L := [])) ) (fun a v w hR hE => ?_)
       obtain ⟨D5755, A5757, c5758, q5759, rfl, hS1, h5760⟩ := hR
       have le5762 := hS1.dle
       have hS := hS.callR hS1 rfl (.c .n)
       clear hS1
       obtain ⟨D5763, q5766, le5764, hS, h5767, h5765⟩ := hS.lent h5760
       have hS := hS.pk (.c 1 rfl (.c 0 rfl (.c 2 rfl .n))) rfl
       obtain ⟨l5768, h5769, hf⟩ := bind_some hf
       refine at_op (g_append (K := (kdInt .u8)) (e := 5) (bytes := 1) (l := l5746) (m := r5753) rfl rfl rfl rfl hE rfl hS rfl rfl (by kernel_rfl) rfl rfl (h5751.mono (le2 le5762 le5764)) h5765 h5769 (fun a A5770 c5771 q5772 w _ hE h5773 hS => ?_)) rfl
       refine sN 1 6 [(5, .slice A5770 (List.length (l5768)) c5771)] hE (fun a hE => ?_)
       refine at_end rfl ?_
       refine region_at ?_
       refine sN 1 1 [(156, .slice A5770 (List.length (l5768)) c5771)] hE (fun a hE => ?_)
       refine aF 7 3 7 hE (fun a hE => ?_)
       refine aL 2 (.int .i64 (x1.fEnd)) hE hS (fun a hE => ?_)
       have hS := hS.pk (.c 0 rfl (.c 2 rfl .n)) rfl
       obtain ⟨r5775, h5776, hf⟩ := bind_some hf
       refine aC rfl rfl rfl rfl hE rfl rfl rfl rfl (inspeximusref03_Num.calls (g := g) h5776 (hS.st.fore (L := [])) ) (fun a v w hR hE => ?_)
       obtain ⟨D5777, A5779, c5780, q5781, rfl, hS1, h5782⟩ := hR
       have le5784 := hS1.dle
       have hS := hS.callR hS1 rfl (.c .n)
       clear hS1
       obtain ⟨D5785, q5788, le5786, hS, h5789, h5787⟩ := hS.lent h5782
       have hS := hS.pk (.c 1 rfl (.c 0 rfl (.c 2 rfl .n))) rfl
       obtain ⟨l5790, h5791, hf⟩ := bind_some hf
       refine at_op (g_append (K := (kdInt .u8)) (e := 5) (bytes := 1) (l := l5768) (m := r5775) rfl rfl rfl rfl hE rfl hS rfl rfl (by kernel_rfl) rfl rfl (h5773.mono (le2 le5784 le5786)) h5787 h5791 (fun a A5792 c5793 q5794 w _ hE h5795 hS => ?_)) rfl
       refine sN 1 6 [(5, .slice A5792 (List.length (l5790)) c5793)] hE (fun a hE => ?_)
       refine at_end rfl ?_
       have hS := hS.pk (.c 0 rfl .n) rfl
       exact ⟨l5790, A5792, c5793, q5794, D5785, hE.weak (by kernel_rfl), hS, (le2 (le2 (le2 (le2 (le2 (le2 le5540 le5740) le5742) le5762) le5764) le5784) le5786), h5795, hf⟩
      ·replace hf := cond_f hb hf
       clear hb
       refine wpIn_seq ?_
       refine region_at ?_
       refine sN 1 1 [(16, .slice A2945 (List.length (r2941)) c2946)] hE (fun a hE => ?_)
       refine aF 8 3 8 hE (fun a hE => ?_)
       refine aL 0 (.int .i64 (x1.fPart)) hE hS (fun a hE => ?_)
       obtain ⟨r5797, h5798, hf⟩ := bind_some hf
       refine aC rfl rfl rfl rfl hE rfl rfl rfl rfl (inspeximusref03_Num.calls (g := g) h5798 (hS.st.fore (L := [])) ) (fun a v w hR hE => ?_)
       obtain ⟨D5799, A5801, c5802, q5803, rfl, hS1, h5804⟩ := hR
       have le5806 := hS1.dle
       have hS := hS.callR hS1 rfl (.c .n)
       clear hS1
       obtain ⟨D5807, q5810, le5808, hS, h5811, h5809⟩ := hS.lent h5804
       have hS := hS.pk (.c 2 rfl (.c 0 rfl (.c 1 rfl .n))) rfl
       obtain ⟨l5812, h5813, hf⟩ := bind_some hf
       refine at_op (g_append (K := (kdInt .u8)) (e := 5) (bytes := 1) (l := r2941) (m := r5797) rfl rfl rfl rfl hE rfl hS rfl rfl (by kernel_rfl) rfl rfl (h2948.mono (le2 (le2 le5540 le5806) le5808)) h5809 h5813 (fun a A5814 c5815 q5816 w _ hE h5817 hS => ?_)) rfl
       refine sN 1 6 [(5, .slice A5814 (List.length (l5812)) c5815)] hE (fun a hE => ?_)
       refine at_end rfl ?_
       refine region_at ?_
       refine sN 1 1 [(21, .slice A5814 (List.length (l5812)) c5815)] hE (fun a hE => ?_)
       refine aF 9 3 9 hE (fun a hE => ?_)
       refine aL 2 (.int .i64 (x1.fEpoch)) hE hS (fun a hE => ?_)
       have hS := hS.pk (.c 0 rfl (.c 2 rfl .n)) rfl
       obtain ⟨r5819, h5820, hf⟩ := bind_some hf
       refine aC rfl rfl rfl rfl hE rfl rfl rfl rfl (inspeximusref03_Num.calls (g := g) h5820 (hS.st.fore (L := [])) ) (fun a v w hR hE => ?_)
       obtain ⟨D5821, A5823, c5824, q5825, rfl, hS1, h5826⟩ := hR
       have le5828 := hS1.dle
       have hS := hS.callR hS1 rfl (.c .n)
       clear hS1
       obtain ⟨D5829, q5832, le5830, hS, h5833, h5831⟩ := hS.lent h5826
       have hS := hS.pk (.c 1 rfl (.c 0 rfl (.c 2 rfl .n))) rfl
       obtain ⟨l5834, h5835, hf⟩ := bind_some hf
       refine at_op (g_append (K := (kdInt .u8)) (e := 5) (bytes := 1) (l := l5812) (m := r5819) rfl rfl rfl rfl hE rfl hS rfl rfl (by kernel_rfl) rfl rfl (h5817.mono (le2 le5828 le5830)) h5831 h5835 (fun a A5836 c5837 q5838 w _ hE h5839 hS => ?_)) rfl
       refine sN 1 6 [(5, .slice A5836 (List.length (l5834)) c5837)] hE (fun a hE => ?_)
       refine at_end rfl ?_
       have hS := hS.pk (.c 0 rfl .n) rfl
       exact ⟨l5834, A5836, c5837, q5838, D5829, hE.weak (by kernel_rfl), hS, (le2 (le2 (le2 (le2 le5540 le5806) le5808) le5828) le5830), h5839, hf⟩
  ·clear hE hS
   rintro a w ⟨y4392, A4395, c4396, q4397, D4393, hE, hS, le4394, h4398, hf⟩
   replace hf := hj4401 _ hf
   clear hj4401
   refine wpIn_seq ?_
   refine region_at ?_
   refine sN 2 2 [(4, .slice A4395 (List.length (y4392)) c4396)] hE (fun a hE => ?_)
   refine at_end rfl ?_
   refine wpIn_ret ?_
   obtain rfl := Option.some.inj hf
   repeat (with_reducible first | refine then_ret ?_ | refine block_ret ?_ | refine qx_ret ?_)
   refine ret_gen ([.slice A4395 (List.length (y4392)) c4396]) hE (by rw [show Tryd.f21.results.toList = [.tmp 4] from rfl]; exact ⟨_, _, rfl, rfl, rfl⟩) ?_
   exact ⟨_, rfl, D4393, A4395, c4396, q4397, rfl, hS, h4398⟩
set_option maxRecDepth 100000 in
set_option maxHeartbeats 4000000 in
theorem inspeximuslaw04_RecPuts.calls {K : Nat} {g w0 : World} {D0 : Snap} {x1 : T_api_Rec} {A2 : Option Addr} {c3 : Nat} {A5 : Option Addr} {c6 : Nat} {r : (Bool)} (hf : inspeximuslaw04_RecPuts.f K x1 = some r) (hS0 : St g w0 D0 []) (h4 : Sl kd_T_api_Step D0 A2 c3 (x1.fSteps)) (h7 : Sl (kdInt .u8) D0 A5 c6 (x1.fData)) (hG0 : Cell (kdArr .u32 8) D0 0 0 gl_First) (hG1 : Cell (kdArr .u32 64) D0 1 0 gl_K) :
  CallsIn (Fw none) 0 Tryd.prog 4 (List.toArray [.agg (List.toArray (c_T_api_Rec (x1) A2 c3 A5 c6))]) w0 (fun e w' => ∃ v, e = .returned v ∧ ∃ (D1 : Snap), v = .bool (r) ∧ Stp g w0 D0 [] w' D1 []) := by
 unfold inspeximuslaw04_RecPuts.f at hf
 have hS := Stp.refl hS0
 clear hS0
 refine calls_body (n := 19) Tryd.func4 rfl Tryd.ntmps4 rfl (fun a hE => ?_)
 have hE : Env a 19 [] [(0, .agg (List.toArray (c_T_api_Rec (x1) A2 c3 A5 c6)))] := hE
 refine wpIn_seq ?_
 refine region_at ?_
 refine at_op (op_box rfl rfl rfl rfl hE rfl hS rfl (fun a b310 w _ hE hS => ?_)) rfl
 refine sN 1 2 [(2, .bool false)] hE (fun a hE => ?_)
 refine at_end rfl ?_
 refine wpIn_seq ?_
 refine wpIn_seq ?_
 refine region_at ?_
 obtain ⟨r317, h318, hf⟩ := bind_some hf
 refine aC rfl rfl rfl rfl hE rfl rfl rfl rfl (inspeximuslaw04_alive.calls (g := g) h318 (hS.st.fore (L := [])) hG0 hG1) (fun a v w hR hE => ?_)
 obtain ⟨D319, rfl, hS1⟩ := hR
 have le321 := hS1.dle
 have hS := hS.callR hS1 rfl .n
 clear hS1
 refine sN 1 2 [(4, .bool ((!r317)))] hE (fun a hE => ?_)
 refine at_end rfl ?_
 refine cond_split hE (b := (!r317)) rfl (fun hb => ?_) (fun hb => ?_)
 ·replace hf := cond_t hb hf
  clear hb
  refine wpIn_seq ?_
  refine region_at ?_
  refine sN 1 1 [(2, .bool false)] hE (fun a hE => ?_)
  refine at_end rfl ?_
  refine wpIn_ret ?_
  obtain rfl := Option.some.inj hf
  repeat (with_reducible first | refine then_ret ?_ | refine block_ret ?_ | refine qx_ret ?_)
  refine ret_gen ([.bool false]) hE (by rw [show Tryd.f4.results.toList = [.tmp 2] from rfl]; exact ⟨_, _, rfl, rfl, rfl⟩) ?_
  have hS := hS.pk .n rfl
  exact ⟨_, rfl, D319, rfl, hS⟩
 ·replace hf := cond_f hb hf
  clear hb
  refine wpIn_skip ?_
  refine wpIn_seq ?_
  refine wpIn_seq ?_
  refine region_at ?_
  refine aL 0 (.agg (List.toArray (c_T_api_Rec (x1) A2 c3 A5 c6))) hE hS (fun a hE => ?_)
  obtain ⟨r327, h328, hf⟩ := bind_some hf
  refine aC rfl rfl rfl rfl hE rfl rfl rfl rfl (inspeximusref04_Great.calls (g := g) h328 (hS.st.fore (L := [])) (h4.mono le321) (h7.mono le321)) (fun a v w hR hE => ?_)
  obtain ⟨D329, rfl, hS1⟩ := hR
  have le331 := hS1.dle
  have hS := hS.callR hS1 rfl .n
  clear hS1
  refine at_end rfl ?_
  refine cond_split hE (b := r327) rfl (fun hb => ?_) (fun hb => ?_)
  ·replace hf := cond_t hb hf
   clear hb
   refine wpIn_seq ?_
   refine region_at ?_
   refine sN 1 1 [(2, .bool true)] hE (fun a hE => ?_)
   refine at_end rfl ?_
   refine wpIn_ret ?_
   obtain rfl := Option.some.inj hf
   repeat (with_reducible first | refine then_ret ?_ | refine block_ret ?_ | refine qx_ret ?_)
   refine ret_gen ([.bool true]) hE (by rw [show Tryd.f4.results.toList = [.tmp 2] from rfl]; exact ⟨_, _, rfl, rfl, rfl⟩) ?_
   have hS := hS.pk .n rfl
   exact ⟨_, rfl, D329, rfl, hS⟩
  ·replace hf := cond_f hb hf
   clear hb
   refine wpIn_skip ?_
   refine wpIn_seq ?_
   refine region_draw (fun j => Keeps (mfOf [] j)) (by kernel_rfl) ?_
   have hS := hS.drew
   first | generalize w.drew = w at hS ⊢ | generalize w0.drew = w at hS ⊢
   refine tT 0 1 (fuel := 12) (by kernel_rfl) hE (tk_load 0 (.agg (List.toArray (c_T_api_Rec (x1) A2 c3 A5 c6))) rfl rfl rfl rfl hE rfl hS rfl rfl (by kernel_rfl) (kL (j := 0) hS rfl List.not_mem_nil) (fun a hE => ?_))
   refine tT 2 5 (fuel := 11) (by kernel_rfl) hE (tk_load 0 (.agg (List.toArray (c_T_api_Rec (x1) A2 c3 A5 c6))) rfl rfl rfl rfl hE rfl hS rfl rfl (by kernel_rfl) (kL (j := 0) hS rfl List.not_mem_nil) (fun a hE => ?_))
   obtain ⟨r542, h543, hf⟩ := bind_some hf
   refine oG 1 7 (fuel := 10) (by kernel_rfl) (op_call rfl rfl rfl rfl hE rfl rfl rfl rfl (by kernel_rfl) (rec_Sealed.calls (g := g) h543 (hS.st.fore (L := [])) (h4.mono (le2 le321 le331)) (h7.mono (le2 le321 le331)) (hG0.mono (le2 le321 le331)) (hG1.mono (le2 le321 le331))) (fun a v w hR hE => ?_))
   obtain ⟨D544, A546, c547, q548, rfl, hS1, h549⟩ := hR
   refine ⟨(hS1.keeps.sub (M' := []) trivial).mono (fun _ h => h), ?_⟩
   have le551 := hS1.dle
   have hS := hS.callR hS1 rfl (.c .n)
   clear hS1
   obtain ⟨r552, h553, hf⟩ := bind_some hf
   refine oG 3 15 (fuel := 9) (by kernel_rfl) (op_call rfl rfl rfl rfl hE rfl rfl rfl rfl (by kernel_rfl) (inspeximusref04_Put.calls (g := g) h553 (hS.st.fore (L := [])) (h4.mono (le2 (le2 le321 le331) le551)) (h7.mono (le2 (le2 le321 le331) le551)) (hG0.mono (le2 (le2 le321 le331) le551)) (hG1.mono (le2 (le2 le321 le331) le551))) (fun a v w hR hE => ?_))
   obtain ⟨D554, A556, c557, q558, rfl, hS1, h559⟩ := hR
   refine ⟨(hS1.keeps.sub (M' := []) trivial).mono (fun _ h => h), ?_⟩
   have le561 := hS1.dle
   have hS := hS.callR hS1 rfl (.c .n)
   clear hS1
   have hS := hS.pk (.c 1 rfl (.c 0 rfl (.c 2 rfl .n))) rfl
   obtain ⟨D562, q565, le563, hS, h566, h564⟩ := hS.lent (h549.mono le561)
   have hS := hS.pk (.c 1 rfl (.c 0 rfl (.c 2 rfl .n))) rfl
   obtain ⟨D567, q570, le568, hS, h571, h569⟩ := hS.lent (h559.mono le563)
   obtain ⟨r572, h573, hf⟩ := bind_some hf
   refine oG 4 31 (fuel := 8) (by kernel_rfl) (op_call rfl rfl rfl rfl hE rfl rfl rfl rfl (by kernel_rfl) (inspeximusref01_Bytes.calls (g := g) h573 (hS.st.fore (L := [])) (h564.mono le568) h569) (fun a v w hR hE => ?_))
   obtain ⟨D574, rfl, hS1⟩ := hR
   refine ⟨(hS1.keeps.sub (M' := []) trivial).mono (fun _ h => h), ?_⟩
   have le576 := hS1.dle
   have hS := hS.callR hS1 rfl .n
   clear hS1
   refine wP 5 63 7 (.bool (r572)) hE (fun a hE => ?_)
   refine Or.elim (Bool.eq_false_or_eq_true (r572)).symm (fun hb => ?_) (fun hb => ?_)
   ·replace hf := cond_f hb hf
    have hE := hE.know (t := 12) (b := r572) (b' := false) rfl hb
    clear hb
    refine wS 6 127 6 hE (fun a hE => ?_)
    refine wS 7 255 5 hE (fun a hE => ?_)
    refine wS 8 511 4 hE (fun a hE => ?_)
    refine wS 9 1023 3 hE (fun a hE => ?_)
    refine wS 10 2047 2 hE (fun a hE => ?_)
    refine wP 11 4095 1 (.bool false) hE (fun a hE => ?_)
    refine wP 12 8191 0 (.bool false) hE (fun a hE => ?_)
    refine doneG (by kernel_rfl) ?_
    refine wpIn_ret ?_
    obtain rfl := Option.some.inj hf
    repeat (with_reducible first | refine then_ret ?_ | refine block_ret ?_ | refine qx_ret ?_)
    refine ret_gen ([.bool false]) hE (by rw [show Tryd.f4.results.toList = [.tmp 2] from rfl]; exact ⟨_, _, rfl, rfl, rfl⟩) ?_
    have hS := hS.pk .n rfl
    exact ⟨_, rfl, D574, rfl, hS⟩
   ·replace hf := cond_t hb hf
    have hE := hE.know (t := 12) (b := r572) (b' := true) rfl hb
    clear hb
    refine tT 6 127 (fuel := 6) (by kernel_rfl) hE (tk_load 2 (.agg (List.toArray (c_T_api_Rec (x1) A2 c3 A5 c6))) rfl rfl rfl rfl hE rfl hS rfl rfl (by kernel_rfl) (kL (j := 2) hS rfl List.not_mem_nil) (fun a hE => ?_))
    refine tT 8 383 (fuel := 5) (by kernel_rfl) hE (tk_load 2 (.agg (List.toArray (c_T_api_Rec (x1) A2 c3 A5 c6))) rfl rfl rfl rfl hE rfl hS rfl rfl (by kernel_rfl) (kL (j := 2) hS rfl List.not_mem_nil) (fun a hE => ?_))
    obtain ⟨r577, h578, hf⟩ := bind_some hf
    refine oG 7 511 (fuel := 4) (by kernel_rfl) (op_call rfl rfl rfl rfl hE rfl rfl rfl rfl (by kernel_rfl) (rec_Open.calls (g := g) h578 (hS.st.fore (L := [])) (h4.mono (le2 (le2 (le2 (le2 (le2 (le2 le321 le331) le551) le561) le563) le568) le576)) (h7.mono (le2 (le2 (le2 (le2 (le2 (le2 le321 le331) le551) le561) le563) le568) le576))) (fun a v w hR hE => ?_))
    obtain ⟨D579, A581, c582, q583, rfl, hS1, h584⟩ := hR
    refine ⟨(hS1.keeps.sub (M' := []) trivial).mono (fun _ h => h), ?_⟩
    have le586 := hS1.dle
    have hS := hS.callR hS1 rfl (.c .n)
    clear hS1
    obtain ⟨r587, h588, hf⟩ := bind_some hf
    refine oG 9 1023 (fuel := 3) (by kernel_rfl) (op_call rfl rfl rfl rfl hE rfl rfl rfl rfl (by kernel_rfl) (inspeximusref04_Put.calls (g := g) h588 (hS.st.fore (L := [])) (h4.mono (le2 (le2 (le2 (le2 (le2 (le2 (le2 le321 le331) le551) le561) le563) le568) le576) le586)) (h7.mono (le2 (le2 (le2 (le2 (le2 (le2 (le2 le321 le331) le551) le561) le563) le568) le576) le586)) (hG0.mono (le2 (le2 (le2 (le2 (le2 (le2 (le2 le321 le331) le551) le561) le563) le568) le576) le586)) (hG1.mono (le2 (le2 (le2 (le2 (le2 (le2 (le2 le321 le331) le551) le561) le563) le568) le576) le586))) (fun a v w hR hE => ?_))
    obtain ⟨D589, A591, c592, q593, rfl, hS1, h594⟩ := hR
    refine ⟨(hS1.keeps.sub (M' := []) trivial).mono (fun _ h => h), ?_⟩
    have le596 := hS1.dle
    have hS := hS.callR hS1 rfl (.c .n)
    clear hS1
    have hS := hS.pk (.c 1 rfl (.c 0 rfl (.c 2 rfl (.c 3 rfl (.c 4 rfl .n))))) rfl
    obtain ⟨D597, q600, le598, hS, h601, h599⟩ := hS.lent (h584.mono le596)
    have hS := hS.pk (.c 1 rfl (.c 0 rfl (.c 2 rfl (.c 3 rfl (.c 4 rfl .n))))) rfl
    obtain ⟨D602, q605, le603, hS, h606, h604⟩ := hS.lent (h594.mono le598)
    obtain ⟨r607, h608, hf⟩ := bind_some hf
    refine oG 10 2047 (fuel := 2) (by kernel_rfl) (op_call rfl rfl rfl rfl hE rfl rfl rfl rfl (by kernel_rfl) (inspeximusref01_Bytes.calls (g := g) h608 (hS.st.fore (L := [])) (h599.mono le603) h604) (fun a v w hR hE => ?_))
    obtain ⟨D609, rfl, hS1⟩ := hR
    refine ⟨(hS1.keeps.sub (M' := []) trivial).mono (fun _ h => h), ?_⟩
    have le611 := hS1.dle
    have hS := hS.callR hS1 rfl .n
    clear hS1
    refine wP 11 4095 1 (.bool (r607)) hE (fun a hE => ?_)
    refine wP 12 8191 0 (.bool (r607)) hE (fun a hE => ?_)
    refine doneG (by kernel_rfl) ?_
    refine wpIn_ret ?_
    obtain rfl := Option.some.inj hf
    repeat (with_reducible first | refine then_ret ?_ | refine block_ret ?_ | refine qx_ret ?_)
    refine ret_gen ([.bool (r607)]) hE (by rw [show Tryd.f4.results.toList = [.tmp 2] from rfl]; exact ⟨_, _, rfl, rfl, rfl⟩) ?_
    have hS := hS.pk .n rfl
    exact ⟨_, rfl, D609, rfl, hS⟩
end Go.Proofs.YtlcnliiampfigaaDoor
