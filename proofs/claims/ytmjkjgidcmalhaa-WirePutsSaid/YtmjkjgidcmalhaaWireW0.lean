/-
  Proved, text by text: a call of a function of the cut comes to what its plain function computes.
  Conditions: those that each theorem names.
-/
import Derived.Test.YtmjkjgidcmalhaaProg
import Derived.Test.YtmjkjgidcmalhaaWireDef
set_option linter.unusedVariables false
namespace Go.Proofs.Ytmjkjgidcmalhaa
open Go Go.Sep

set_option maxRecDepth 100000 in
set_option maxHeartbeats 4000000 in
theorem slices_Reverse_byte_byte.calls {K : Nat} {g w0 : World} {D0 : Snap} {x1 : (List Int)} {A2 : Option Addr} {c3 : Nat} {q4 : Blk} {r : ((List Int))} (hf : slices_Reverse_byte_byte.f K x1 = some r) (hS0 : St g w0 D0 [q4]) (h5 : OwnD (kdInt .u8) 5 D0 A2 c3 (x1) q4) :
    CallsIn (Fw none) 0 Try.prog 27 (List.toArray [.slice A2 (List.length (x1)) c3]) w0 (fun e w' => ∃ v, e = .returned v ∧ ∃ (D1 : Snap) (q436 : Blk), v = .tuple #[] ∧ Stp g w0 D0 [q4] w' D1 [q436] ∧ OwnD (kdInt .u8) 5 D1 A2 c3 (r) q436) := by
  unfold slices_Reverse_byte_byte.f at hf
  have hS := Stp.refl hS0
  clear hS0
  refine calls_body (n := 28) Try.func27 rfl Try.ntmps27 rfl (fun a hE => ?_)
  have hE : Env a 28 [] [(0, .slice A2 (List.length (x1)) c3)] := hE
  refine wpIn_seq ?_
  refine region_at ?_
  refine seg 5 (j := 5) [(0, .slice A2 (List.length (x1)) c3), (2, .int .i64 ((0 : Int))), (3, .int .i64 ((IntKind.wrap .i64 (((List.length (x1) : Nat) : Int) - (1 : Int)))))] hE (by kernel_rfl) rfl (fun a hE => ?_)
  refine at_end rfl ?_
  obtain ⟨s738, hf, hs739⟩ := bind_some hf
  refine block_loop (fun a w => ∃ (z730 : (List Int)), ∃ (q735 : Blk), ∃ (D731 : Snap), Env a 28 [] [] ∧ Stp g w0 D0 [q4] w D731 [q735] ∧ Snap.le D0 D731 ∧ OwnD (kdInt .u8) 5 D731 A2 c3 (z730) q735 ∧ z730 = s738) (fun k a w => ∃ (y586 : (List Int) × Int × Int), ∃ (q591 : Blk), ∃ (D587 : Snap), Env a 28 [] [(0, .slice A2 (List.length (y586.1)) c3), (2, .int .i64 (y586.2.1)), (3, .int .i64 (y586.2.2))] ∧ Stp g w0 D0 [q4] w D587 [q591] ∧ Snap.le D0 D587 ∧ OwnD (kdInt .u8) 5 D587 A2 c3 (y586.1) q591 ∧ slices_Reverse_byte_byte_l1.l K k y586 = some s738) K ?_ ?_ ?_
  · exact ⟨(x1, (0 : Int), (IntKind.wrap .i64 (((List.length (x1) : Nat) : Int) - (1 : Int)))), q4, D0, hE.weak (by kernel_rfl), hS, Snap.le.refl _, h5, hf⟩
  · clear hE hS hf
    rintro a w ⟨z730, q735, D731, hE, hS, le732, h736, rfl⟩
    have hf := hs739
    clear hs739
    obtain rfl := Option.some.inj hf
    repeat (with_reducible first | refine then_ret ?_ | refine block_ret ?_ | refine qx_ret ?_)
    refine ret_genN ([]) hE (by rw [show Try.f27.results.toList = [] from rfl]; exact rfl) ?_
    exact ⟨_, rfl, D731, q735, rfl, hS, h736⟩
  · clear hE hS hf
    rintro k a w ⟨y586, q591, D587, hE, hS, le588, h592, hf⟩
    obtain ⟨k, rfl, hf⟩ := slices_Reverse_byte_byte_l1.some hf
    refine ⟨k, rfl, ?_⟩
    unfold slices_Reverse_byte_byte_l1.b at hf
    refine wpIn_seq ?_
    refine wpIn_seq ?_
    refine region_at ?_
    refine seg 3 (j := 3) [(0, .slice A2 (List.length (y586.1)) c3), (2, .int .i64 (y586.2.1)), (3, .int .i64 (y586.2.2)), (9, .bool ((decide (y586.2.1 < y586.2.2))))] hE (by kernel_rfl) rfl (fun a hE => ?_)
    refine at_end rfl ?_
    refine cond_split hE (b := (decide (y586.2.1 < y586.2.2))) rfl (fun hb => ?_) (fun hb => ?_)
    · replace hf := cond_t hb hf
      clear hb
      refine wpIn_skip ?_
      refine wpIn_seq ?_
      refine wpIn_block ?_
      refine region_draw (mfOf [(13, ids [q591]), (15, ids [q591])]) (by kernel_rfl) ?_
      have hS := hS.drew
      generalize w.drew = w at hS ⊢
      refine takeW 0 (fuel := 15) #[true, false, false, false, false, false, false, false, false, false, false, false, false, false, false, false] (by kernel_rfl) (by kernel_rfl) (by kernel_rfl) (by kernel_rfl) hE (fun M => tk_pure (.slice A2 (List.length (y586.1)) c3) hE rfl rfl rfl rfl (fun _ _ _ e => by cases e) (by kernel_rfl) (fun a hE => ?_))
      refine takeW 1 (fuel := 14) #[true, true, false, false, false, false, false, false, false, false, false, false, false, false, false, false] (by kernel_rfl) (by kernel_rfl) (by kernel_rfl) (by kernel_rfl) hE (fun M => tk_pure (.int .i64 (y586.2.1)) hE rfl rfl rfl rfl (fun _ _ _ e => by cases e) (by kernel_rfl) (fun a hE => ?_))
      refine takeW 2 (fuel := 13) #[true, true, true, false, false, false, false, false, false, false, false, false, false, false, false, false] (by kernel_rfl) (by kernel_rfl) (by kernel_rfl) (by kernel_rfl) hE (fun M => tk_pure (.slice A2 (List.length (y586.1)) c3) hE rfl rfl rfl rfl (fun _ _ _ e => by cases e) (by kernel_rfl) (fun a hE => ?_))
      refine takeW 3 (fuel := 12) #[true, true, true, true, false, false, false, false, false, false, false, false, false, false, false, false] (by kernel_rfl) (by kernel_rfl) (by kernel_rfl) (by kernel_rfl) hE (fun M => tk_pure (.int .i64 (y586.2.2)) hE rfl rfl rfl rfl (fun _ _ _ e => by cases e) (by kernel_rfl) (fun a hE => ?_))
      refine takeW 4 (fuel := 11) #[true, true, true, true, true, false, false, false, false, false, false, false, false, false, false, false] (by kernel_rfl) (by kernel_rfl) (by kernel_rfl) (by kernel_rfl) hE (fun M => tk_pure (.slice A2 (List.length (y586.1)) c3) hE rfl rfl rfl rfl (fun _ _ _ e => by cases e) (by kernel_rfl) (fun a hE => ?_))
      refine takeW 5 (fuel := 10) #[true, true, true, true, true, true, false, false, false, false, false, false, false, false, false, false] (by kernel_rfl) (by kernel_rfl) (by kernel_rfl) (by kernel_rfl) hE (fun M => tk_pure (.int .i64 (y586.2.2)) hE rfl rfl rfl rfl (fun _ _ _ e => by cases e) (by kernel_rfl) (fun a hE => ?_))
      refine takeW 8 (fuel := 9) #[true, true, true, true, true, true, false, false, true, false, false, false, false, false, false, false] (by kernel_rfl) (by kernel_rfl) (by kernel_rfl) (by kernel_rfl) hE (fun M => tk_pure (.slice A2 (List.length (y586.1)) c3) hE rfl rfl rfl rfl (fun _ _ _ e => by cases e) (by kernel_rfl) (fun a hE => ?_))
      refine takeW 9 (fuel := 8) #[true, true, true, true, true, true, false, false, true, true, false, false, false, false, false, false] (by kernel_rfl) (by kernel_rfl) (by kernel_rfl) (by kernel_rfl) hE (fun M => tk_pure (.int .i64 (y586.2.1)) hE rfl rfl rfl rfl (fun _ _ _ e => by cases e) (by kernel_rfl) (fun a hE => ?_))
      obtain ⟨x836, h837, hf⟩ := bind_some hf
      refine takeW 6 (fuel := 7) #[true, true, true, true, true, true, true, false, true, true, false, false, false, false, false, false] (by kernel_rfl) (by kernel_rfl) (by kernel_rfl) (by kernel_rfl) hE (fun M => tk_indexO (K := (kdInt .u8)) (T := 5) (by_ := 1) (zl := 1) rfl rfl rfl rfl hE rfl rfl rfl (by kernel_rfl) h592 h837 (fun a b838 u839 hq hE => ?_))
      subst hq
      obtain ⟨cs840, C841, hr842, hb843, hc844⟩ := OwnD.cell h592 h837
      obtain rfl := hr842
      refine takeT 7 (fuel := 6) #[true, true, true, true, true, true, true, true, true, true, false, false, false, false, false, false] (by kernel_rfl) (by kernel_rfl) (by kernel_rfl) (by kernel_rfl) (by kernel_rfl) hE (tk_loadO 0 (off0 := Int.toNat (y586.2.2) * 1) (off := 0) (c := [.int .u8 (x836)]) (Cl := C841) (T := 5) (fr := (0, 0)) (.int .u8 (x836)) rfl rfl rfl rfl hE rfl hS rfl (by rw [hb843]; rfl) hc844 (by kernel_rfl) List.not_mem_nil (fun a hE => ?_))
      obtain ⟨x845, h846, hf⟩ := bind_some hf
      refine takeW 10 (fuel := 5) #[true, true, true, true, true, true, true, true, true, true, true, false, false, false, false, false] (by kernel_rfl) (by kernel_rfl) (by kernel_rfl) (by kernel_rfl) hE (fun M => tk_indexO (K := (kdInt .u8)) (T := 5) (by_ := 1) (zl := 1) rfl rfl rfl rfl hE rfl rfl rfl (by kernel_rfl) h592 h846 (fun a b847 u848 hq hE => ?_))
      obtain ⟨rfl, rfl⟩ := some_pair hq
      obtain ⟨cs849, C850, hr851, hb852, hc853⟩ := OwnD.cell h592 h846
      obtain rfl := hr851
      refine takeT 11 (fuel := 4) #[true, true, true, true, true, true, true, true, true, true, true, true, false, false, false, false] (by kernel_rfl) (by kernel_rfl) (by kernel_rfl) (by kernel_rfl) (by kernel_rfl) hE (tk_loadO 0 (off0 := Int.toNat (y586.2.1) * 1) (off := 0) (c := [.int .u8 (x845)]) (Cl := C850) (T := 5) (fr := (0, 0)) (.int .u8 (x845)) rfl rfl rfl rfl hE rfl hS rfl (by rw [hb852]; rfl) hc853 (by kernel_rfl) List.not_mem_nil (fun a hE => ?_))
      obtain ⟨x854, h855, hf⟩ := bind_some hf
      refine takeW 12 (fuel := 3) #[true, true, true, true, true, true, true, true, true, true, true, true, true, false, false, false] (by kernel_rfl) (by kernel_rfl) (by kernel_rfl) (by kernel_rfl) hE (fun M => tk_indexO (K := (kdInt .u8)) (T := 5) (by_ := 1) (zl := 1) rfl rfl rfl rfl hE rfl rfl rfl (by kernel_rfl) h592 h855 (fun a b856 u857 hq hE => ?_))
      obtain ⟨rfl, rfl⟩ := some_pair hq
      refine onlyG (i := 13) (fuel := 2) (listed' := #[true, true, true, true, true, true, true, true, true, true, true, true, true, true, false, false]) (by kernel_rfl) (by kernel_rfl) (op_storeO (K := (kdInt .u8)) (T := 5) (l := y586.1) (x836) rfl rfl rfl rfl hE hS h592 rfl rfl (inI_of h855) (rfl) (by kernel_rfl) (by kernel_rfl) (fun a u858 w hkp hE h859 hS => ⟨hkp.mono (fun _ h => h), ?_⟩))
      clear hkp
      have hE : Env a 28 [] [(0, .slice A2 (List.length ((List.set (y586.1) (Int.toNat (y586.2.1)) (x836)))) c3), (2, .int .i64 (y586.2.1)), (3, .int .i64 (y586.2.2)), (9, .bool ((decide (y586.2.1 < y586.2.2)))), (14, .slice A2 (List.length ((List.set (y586.1) (Int.toNat (y586.2.1)) (x836)))) c3), (15, .int .i64 (y586.2.1)), (16, .slice A2 (List.length ((List.set (y586.1) (Int.toNat (y586.2.1)) (x836)))) c3), (17, .int .i64 (y586.2.2)), (18, .slice A2 (List.length ((List.set (y586.1) (Int.toNat (y586.2.1)) (x836)))) c3), (19, .int .i64 (y586.2.2)), (20, .pointer (some ⟨b838, Int.toNat (y586.2.2) * 1, none⟩)), (21, .int .u8 (x836)), (22, .slice A2 (List.length ((List.set (y586.1) (Int.toNat (y586.2.1)) (x836)))) c3), (23, .int .i64 (y586.2.1)), (24, .pointer (some ⟨b838, Int.toNat (y586.2.1) * 1, none⟩)), (25, .int .u8 (x845)), (26, .pointer (some ⟨b838, Int.toNat (y586.2.1) * 1, none⟩))] := by have h := hE.weak (E' := [(0, .slice A2 (List.length (y586.1)) c3), (2, .int .i64 (y586.2.1)), (3, .int .i64 (y586.2.2)), (9, .bool ((decide (y586.2.1 < y586.2.2)))), (14, .slice A2 (List.length (y586.1)) c3), (15, .int .i64 (y586.2.1)), (16, .slice A2 (List.length (y586.1)) c3), (17, .int .i64 (y586.2.2)), (18, .slice A2 (List.length (y586.1)) c3), (19, .int .i64 (y586.2.2)), (20, .pointer (some ⟨b838, Int.toNat (y586.2.2) * 1, none⟩)), (21, .int .u8 (x836)), (22, .slice A2 (List.length (y586.1)) c3), (23, .int .i64 (y586.2.1)), (24, .pointer (some ⟨b838, Int.toNat (y586.2.1) * 1, none⟩)), (25, .int .u8 (x845)), (26, .pointer (some ⟨b838, Int.toNat (y586.2.1) * 1, none⟩))]) (by kernel_rfl); simpa only [List.length_set] using h
      have hS : Stp g w0 D0 [q4] w D587 [(some (b838, u858))] := hS
      obtain ⟨x861, h862, hf⟩ := bind_some hf
      refine takeW 14 (fuel := 1) #[true, true, true, true, true, true, true, true, true, true, true, true, true, true, true, false] (by kernel_rfl) (by kernel_rfl) (by kernel_rfl) (by kernel_rfl) hE (fun M => tk_indexO (K := (kdInt .u8)) (T := 5) (by_ := 1) (zl := 1) rfl rfl rfl rfl hE rfl rfl rfl (by kernel_rfl) h859 h862 (fun a b863 u864 hq hE => ?_))
      obtain ⟨rfl, rfl⟩ := some_pair hq
      refine onlyG (i := 15) (fuel := 0) (listed' := #[true, true, true, true, true, true, true, true, true, true, true, true, true, true, true, true]) (by kernel_rfl) (by kernel_rfl) (op_storeO (K := (kdInt .u8)) (T := 5) (l := (List.set (y586.1) (Int.toNat (y586.2.1)) (x836))) (x845) rfl rfl rfl rfl hE hS h859 rfl rfl (inI_of h862) (rfl) (by kernel_rfl) (by kernel_rfl) (fun a u865 w hkp hE h866 hS => ⟨hkp.mono (fun _ h => h), ?_⟩))
      clear hkp
      have hE : Env a 28 [] [(0, .slice A2 (List.length ((List.set ((List.set (y586.1) (Int.toNat (y586.2.1)) (x836))) (Int.toNat (y586.2.2)) (x845)))) c3), (2, .int .i64 (y586.2.1)), (3, .int .i64 (y586.2.2)), (9, .bool ((decide (y586.2.1 < y586.2.2)))), (14, .slice A2 (List.length ((List.set ((List.set (y586.1) (Int.toNat (y586.2.1)) (x836))) (Int.toNat (y586.2.2)) (x845)))) c3), (15, .int .i64 (y586.2.1)), (16, .slice A2 (List.length ((List.set ((List.set (y586.1) (Int.toNat (y586.2.1)) (x836))) (Int.toNat (y586.2.2)) (x845)))) c3), (17, .int .i64 (y586.2.2)), (18, .slice A2 (List.length ((List.set ((List.set (y586.1) (Int.toNat (y586.2.1)) (x836))) (Int.toNat (y586.2.2)) (x845)))) c3), (19, .int .i64 (y586.2.2)), (20, .pointer (some ⟨b838, Int.toNat (y586.2.2) * 1, none⟩)), (21, .int .u8 (x836)), (22, .slice A2 (List.length ((List.set ((List.set (y586.1) (Int.toNat (y586.2.1)) (x836))) (Int.toNat (y586.2.2)) (x845)))) c3), (23, .int .i64 (y586.2.1)), (24, .pointer (some ⟨b838, Int.toNat (y586.2.1) * 1, none⟩)), (25, .int .u8 (x845)), (26, .pointer (some ⟨b838, Int.toNat (y586.2.1) * 1, none⟩)), (27, .pointer (some ⟨b838, Int.toNat (y586.2.2) * 1, none⟩))] := by have h := hE.weak (E' := [(0, .slice A2 (List.length ((List.set (y586.1) (Int.toNat (y586.2.1)) (x836)))) c3), (2, .int .i64 (y586.2.1)), (3, .int .i64 (y586.2.2)), (9, .bool ((decide (y586.2.1 < y586.2.2)))), (14, .slice A2 (List.length ((List.set (y586.1) (Int.toNat (y586.2.1)) (x836)))) c3), (15, .int .i64 (y586.2.1)), (16, .slice A2 (List.length ((List.set (y586.1) (Int.toNat (y586.2.1)) (x836)))) c3), (17, .int .i64 (y586.2.2)), (18, .slice A2 (List.length ((List.set (y586.1) (Int.toNat (y586.2.1)) (x836)))) c3), (19, .int .i64 (y586.2.2)), (20, .pointer (some ⟨b838, Int.toNat (y586.2.2) * 1, none⟩)), (21, .int .u8 (x836)), (22, .slice A2 (List.length ((List.set (y586.1) (Int.toNat (y586.2.1)) (x836)))) c3), (23, .int .i64 (y586.2.1)), (24, .pointer (some ⟨b838, Int.toNat (y586.2.1) * 1, none⟩)), (25, .int .u8 (x845)), (26, .pointer (some ⟨b838, Int.toNat (y586.2.1) * 1, none⟩)), (27, .pointer (some ⟨b838, Int.toNat (y586.2.2) * 1, none⟩))]) (by kernel_rfl); simpa only [List.length_set] using h
      have hS : Stp g w0 D0 [q4] w D587 [(some (b838, u865))] := hS
      have hE := hE.weak (E' := [(0, .slice A2 (List.length ((List.set ((List.set (y586.1) (Int.toNat (y586.2.1)) (x836))) (Int.toNat (y586.2.2)) (x845)))) c3), (2, .int .i64 (y586.2.1)), (3, .int .i64 (y586.2.2)), (9, .bool ((decide (y586.2.1 < y586.2.2))))]) (by kernel_rfl)
      refine doneG (by kernel_rfl) ?_
      refine region_at ?_
      refine seg 6 (j := 6) [(0, .slice A2 (List.length ((List.set ((List.set (y586.1) (Int.toNat (y586.2.1)) (x836))) (Int.toNat (y586.2.2)) (x845)))) c3), (2, .int .i64 ((IntKind.wrap .i64 (y586.2.1 + (1 : Int))))), (3, .int .i64 ((IntKind.wrap .i64 (y586.2.2 - (1 : Int))))), (9, .bool ((decide (y586.2.1 < y586.2.2))))] hE (by kernel_rfl) rfl (fun a hE => ?_)
      refine at_end rfl ?_
      exact ⟨((List.set ((List.set (y586.1) (Int.toNat (y586.2.1)) (x836))) (Int.toNat (y586.2.2)) (x845)), (IntKind.wrap .i64 (y586.2.1 + (1 : Int))), (IntKind.wrap .i64 (y586.2.2 - (1 : Int)))), (some (b838, u865)), D587, hE.weak (by kernel_rfl), hS, le588, h866, hf⟩
    · replace hf := cond_f hb hf
      clear hb
      refine wpIn_exit ?_
      obtain rfl := Option.some.inj hf
      exact ⟨y586.1, q591, D587, hE.weak (by kernel_rfl), hS, le588, h592, rfl⟩

set_option maxRecDepth 100000 in
set_option maxHeartbeats 4000000 in
theorem wire_Num.calls {K : Nat} {g w0 : World} {D0 : Snap} {x1 : Int} {r : ((List Int))} (hf : wire_Num.f K x1 = some r) (hS0 : St g w0 D0 []) :
    CallsIn (Fw none) 0 Try.prog 11 (List.toArray [.int .i64 (x1)]) w0 (fun e w' => ∃ v, e = .returned v ∧ ∃ (D1 : Snap) (A282 : Option Addr) (c283 : Nat) (q284 : Blk), v = .slice A282 (List.length (r)) c283 ∧ Stp g w0 D0 [] w' D1 [q284] ∧ OwnD (kdInt .u8) 5 D1 A282 c283 (r) q284) := by
  unfold wire_Num.f at hf
  have hS := Stp.refl hS0
  clear hS0
  refine calls_body (n := 30) Try.func11 rfl Try.ntmps11 rfl (fun a hE => ?_)
  have hE : Env a 30 [] [(0, .int .i64 (x1))] := hE
  refine wpIn_seq ?_
  refine region_at ?_
  refine seg 1 (j := 1) [(0, .int .i64 (x1)), (2, .slice none 0 0)] hE (by kernel_rfl) rfl (fun a hE => ?_)
  refine at_end rfl ?_
  refine wpIn_seq ?_
  obtain ⟨j566, hj567, hf⟩ := jn_elim hf
  refine seq_join (fun a w => ∃ (y292 : Bool), ∃ (D293 : Snap), Env a 30 [] [(0, .int .i64 (x1)), (9, .bool (y292))] ∧ Stp g w0 D0 [] w D293 [] ∧ Snap.le D0 D293 ∧ j566 y292 = some r) ?_ ?_
  · clear hj567
    refine region_at ?_
    refine seg 3 (j := 3) [(0, .int .i64 (x1)), (2, .slice none 0 0), (6, .bool ((decide (x1 < (0 : Int)))))] hE (by kernel_rfl) rfl (fun a hE => ?_)
    cases hb : (decide (x1 < (0 : Int)))
    · replace hf := cond_f hb hf
      have hE := hE.know (t := 6) (b := (decide (x1 < (0 : Int)))) (b' := false) rfl hb
      clear hb
      refine seg 3 (j := 6) [(0, .int .i64 (x1)), (2, .slice none 0 0), (9, .bool ((decide ((2147483647 : Int) < x1))))] hE (by kernel_rfl) rfl (fun a hE => ?_)
      refine at_end rfl ?_
      exact ⟨(decide ((2147483647 : Int) < x1)), D0, hE.weak (by kernel_rfl), hS, Snap.le.refl _, hf⟩
    · replace hf := cond_t hb hf
      have hE := hE.know (t := 6) (b := (decide (x1 < (0 : Int)))) (b' := true) rfl hb
      clear hb
      refine seg 3 (j := 6) [(0, .int .i64 (x1)), (2, .slice none 0 0), (9, .bool true)] hE (by kernel_rfl) rfl (fun a hE => ?_)
      refine at_end rfl ?_
      exact ⟨true, D0, hE.weak (by kernel_rfl), hS, Snap.le.refl _, hf⟩
  · clear hE hS
    rintro a w ⟨y292, D293, hE, hS, le294, hf⟩
    replace hf := hj567 _ hf
    clear hj567
    refine cond_split hE (b := y292) rfl (fun hb => ?_) (fun hb => ?_)
    · replace hf := cond_t hb hf
      clear hb
      refine wpIn_seq ?_
      refine region_at ?_
      refine seg 1 (j := 1) [(0, .int .i64 (x1)), (2, .slice none 0 0), (9, .bool (y292))] hE (by kernel_rfl) rfl (fun a hE => ?_)
      refine at_end rfl ?_
      refine wpIn_ret ?_
      have hS := hS.nils
      obtain rfl := Option.some.inj hf
      repeat (with_reducible first | refine then_ret ?_ | refine block_ret ?_ | refine qx_ret ?_)
      refine ret_gen ([.slice none 0 0]) hE (by rw [show Try.f11.results.toList = [.tmp 2] from rfl]; exact ⟨_, _, rfl, rfl, rfl⟩) ?_
      exact ⟨_, rfl, D293, none, 0, none, rfl, hS, (OwnD.nil (kdInt .u8) 5 D293)⟩
    · replace hf := cond_f hb hf
      clear hb
      refine wpIn_skip ?_
      refine wpIn_seq ?_
      refine region_at ?_
      refine seg 3 (j := 3) [(0, .int .i64 (x1)), (9, .bool (y292)), (12, .int .u8 ((IntKind.wrap .u8 (Int.tmod x1 128))))] hE (by kernel_rfl) rfl (fun a hE => ?_)
      refine at_op (op_buildSlice (K := (kdInt .u8)) (e := 5) (cs := [.int .u8 ((IntKind.wrap .u8 (Int.tmod x1 128)))] ++ []) ([(IntKind.wrap .u8 (Int.tmod x1 128))] : List Int) rfl rfl rfl rfl hE rfl hS rfl (by kernel_rfl) rfl rfl (by exact (show RL (kdInt .u8) D293 ([(IntKind.wrap .u8 (Int.tmod x1 128))] : List Int) ([.int .u8 ((IntKind.wrap .u8 (Int.tmod x1 128)))] ++ []) from ⟨_, _, rfl, rfl, rfl⟩)) (fun a A296 q297 w _ hE h298 hS => ?_)) rfl
      have hS : Stp g w0 D0 [] w D293 [q297] := hS
      refine seg 1 (j := 5) [(0, .int .i64 (x1)), (3, .slice A296 (List.length (([(IntKind.wrap .u8 (Int.tmod x1 128))] : List Int))) 1), (9, .bool (y292))] hE (by kernel_rfl) rfl (fun a hE => ?_)
      refine at_end rfl ?_
      refine wpIn_seq ?_
      refine wpIn_seq ?_
      refine region_at ?_
      refine seg 3 (j := 3) [(0, .int .i64 ((Int.fdiv x1 (2 ^ 7)))), (3, .slice A296 (List.length (([(IntKind.wrap .u8 (Int.tmod x1 128))] : List Int))) 1), (9, .bool (y292))] hE (by kernel_rfl) rfl (fun a hE => ?_)
      refine at_end rfl ?_
      obtain ⟨s528, hf, hs529⟩ := bind_some hf
      refine block_loop (fun a w => ∃ (z520 : (List Int)), ∃ (A523 : Option Addr), ∃ (c524 : Nat), ∃ (q525 : Blk), ∃ (D521 : Snap), Env a 30 [] [(3, .slice A523 (List.length (z520)) c524)] ∧ Stp g w0 D0 [] w D521 [q525] ∧ Snap.le D293 D521 ∧ OwnD (kdInt .u8) 5 D521 A523 c524 (z520) q525 ∧ z520 = s528) (fun k a w => ∃ (y476 : Int × (List Int)), ∃ (A479 : Option Addr), ∃ (c480 : Nat), ∃ (q481 : Blk), ∃ (D477 : Snap), Env a 30 [] [(0, .int .i64 (y476.1)), (3, .slice A479 (List.length (y476.2)) c480)] ∧ Stp g w0 D0 [] w D477 [q481] ∧ Snap.le D293 D477 ∧ OwnD (kdInt .u8) 5 D477 A479 c480 (y476.2) q481 ∧ wire_Num_l1.l K k y476 = some s528) K ?_ ?_ ?_
      · exact ⟨((Int.fdiv x1 (2 ^ 7)), ([(IntKind.wrap .u8 (Int.tmod x1 128))] : List Int)), A296, 1, q297, D293, hE.weak (by kernel_rfl), hS, Snap.le.refl _, h298, hf⟩
      · clear hE hS hf
        rintro a w ⟨z520, A523, c524, q525, D521, hE, hS, le522, h526, rfl⟩
        have hf := hs529
        clear hs529
        refine wpIn_seq ?_
        refine region_at ?_
        refine seg 1 (j := 1) [(3, .slice A523 (List.length (z520)) c524), (27, .slice A523 (List.length (z520)) c524)] hE (by kernel_rfl) rfl (fun a hE => ?_)
        obtain ⟨r558, h559, hf⟩ := bind_some hf
        refine at_op (op_call rfl rfl rfl rfl hE rfl rfl rfl rfl (by kernel_rfl) (slices_Reverse_byte_byte.calls (g := g) h559 (hS.st.fore (L := [q525])) h526) (fun a v w hR hE => ?_)) rfl
        obtain ⟨D560, q562, rfl, hS1, h563⟩ := hR
        have le565 := hS1.dle
        have hS : Stp g w0 D0 [] w D560 [q562] := hS.call (L := [q525]) (R := []) hS1
        clear hS1
        have hl564 := slices_Reverse_byte_byte.len h559
        have hE : Env a 30 [] [(3, .slice A523 (List.length (r558)) c524), (27, .slice A523 (List.length (r558)) c524), (28, .tuple #[])] := by have h := hE.weak (E' := [(3, .slice A523 (List.length (z520)) c524), (27, .slice A523 (List.length (z520)) c524), (28, .tuple #[])]) (by kernel_rfl); simpa only [hl564] using h
        clear hl564
        refine at_end rfl ?_
        refine wpIn_seq ?_
        refine region_at ?_
        refine seg 2 (j := 2) [(2, .slice A523 (List.length (r558)) c524), (3, .slice A523 (List.length (r558)) c524)] hE (by kernel_rfl) rfl (fun a hE => ?_)
        refine at_end rfl ?_
        refine wpIn_ret ?_
        obtain rfl := Option.some.inj hf
        repeat (with_reducible first | refine then_ret ?_ | refine block_ret ?_ | refine qx_ret ?_)
        refine ret_gen ([.slice A523 (List.length (r558)) c524]) hE (by rw [show Try.f11.results.toList = [.tmp 2] from rfl]; exact ⟨_, _, rfl, rfl, rfl⟩) ?_
        exact ⟨_, rfl, D560, A523, c524, q562, rfl, hS, h563⟩
      · clear hE hS hf
        rintro k a w ⟨y476, A479, c480, q481, D477, hE, hS, le478, h482, hf⟩
        obtain ⟨k, rfl, hf⟩ := wire_Num_l1.some hf
        refine ⟨k, rfl, ?_⟩
        unfold wire_Num_l1.b at hf
        refine wpIn_seq ?_
        refine wpIn_seq ?_
        refine region_at ?_
        refine seg 2 (j := 2) [(0, .int .i64 (y476.1)), (3, .slice A479 (List.length (y476.2)) c480), (17, .bool ((decide ((0 : Int) < y476.1))))] hE (by kernel_rfl) rfl (fun a hE => ?_)
        refine at_end rfl ?_
        refine cond_split hE (b := (decide ((0 : Int) < y476.1))) rfl (fun hb => ?_) (fun hb => ?_)
        · replace hf := cond_t hb hf
          clear hb
          refine wpIn_skip ?_
          refine wpIn_seq ?_
          refine wpIn_block ?_
          refine region_at ?_
          refine seg 5 (j := 5) [(0, .int .i64 (y476.1)), (3, .slice A479 (List.length (y476.2)) c480), (17, .bool ((decide ((0 : Int) < y476.1)))), (20, .slice A479 (List.length (y476.2)) c480), (24, .int .u8 ((bor .u8 (IntKind.wrap .u8 (Int.tmod y476.1 128)) (128 : Int))))] hE (by kernel_rfl) rfl (fun a hE => ?_)
          refine at_op (op_buildSlice (K := (kdInt .u8)) (e := 5) (cs := [.int .u8 ((bor .u8 (IntKind.wrap .u8 (Int.tmod y476.1 128)) (128 : Int)))] ++ []) ([(bor .u8 (IntKind.wrap .u8 (Int.tmod y476.1 128)) (128 : Int))] : List Int) rfl rfl rfl rfl hE rfl hS rfl (by kernel_rfl) rfl rfl (by exact (show RL (kdInt .u8) D477 ([(bor .u8 (IntKind.wrap .u8 (Int.tmod y476.1 128)) (128 : Int))] : List Int) ([.int .u8 ((bor .u8 (IntKind.wrap .u8 (Int.tmod y476.1 128)) (128 : Int)))] ++ []) from ⟨_, _, rfl, rfl, rfl⟩)) (fun a A544 q545 w _ hE h546 hS => ?_)) rfl
          have hS : Stp g w0 D0 [] w D477 [q545, q481] := hS
          obtain ⟨D548, le549, hS, h550⟩ := hS.frozen h546
          have hS : Stp g w0 D0 [] w D548 [q481] := hS
          obtain ⟨l551, h552, hf⟩ := bind_some hf
          refine at_op (g_append (K := (kdInt .u8)) (e := 5) (bytes := 1) (l := y476.2) (m := ([(bor .u8 (IntKind.wrap .u8 (Int.tmod y476.1 128)) (128 : Int))] : List Int)) rfl rfl rfl rfl hE rfl hS rfl rfl (by kernel_rfl) rfl rfl (h482.mono le549) h550 h552 (fun a A553 c554 q555 w _ hE h556 hS => ?_)) rfl
          have hS : Stp g w0 D0 [] w D548 [q555] := hS
          refine seg 1 (j := 8) [(0, .int .i64 (y476.1)), (3, .slice A553 (List.length (l551)) c554), (17, .bool ((decide ((0 : Int) < y476.1))))] hE (by kernel_rfl) rfl (fun a hE => ?_)
          refine at_end rfl ?_
          refine region_at ?_
          refine seg 3 (j := 3) [(0, .int .i64 ((Int.fdiv y476.1 (2 ^ 7)))), (3, .slice A553 (List.length (l551)) c554), (17, .bool ((decide ((0 : Int) < y476.1))))] hE (by kernel_rfl) rfl (fun a hE => ?_)
          refine at_end rfl ?_
          exact ⟨((Int.fdiv y476.1 (2 ^ 7)), l551), A553, c554, q555, D548, hE.weak (by kernel_rfl), hS, (Snap.le.trans le478 le549), h556, hf⟩
        · replace hf := cond_f hb hf
          clear hb
          refine wpIn_exit ?_
          obtain rfl := Option.some.inj hf
          exact ⟨y476.2, A479, c480, q481, D477, hE.weak (by kernel_rfl), hS, le478, h482, rfl⟩

set_option maxRecDepth 100000 in
set_option maxHeartbeats 4000000 in
theorem wire_Flag.calls {K : Nat} {g w0 : World} {D0 : Snap} {x1 : Bool} {r : ((List Int))} (hf : wire_Flag.f K x1 = some r) (hS0 : St g w0 D0 []) :
    CallsIn (Fw none) 0 Try.prog 13 (List.toArray [.bool (x1)]) w0 (fun e w' => ∃ v, e = .returned v ∧ ∃ (D1 : Snap) (A14 : Option Addr) (c15 : Nat) (q16 : Blk), v = .slice A14 (List.length (r)) c15 ∧ Stp g w0 D0 [] w' D1 [q16] ∧ OwnD (kdInt .u8) 5 D1 A14 c15 (r) q16) := by
  unfold wire_Flag.f at hf
  have hS := Stp.refl hS0
  clear hS0
  refine calls_body (n := 6) Try.func13 rfl Try.ntmps13 rfl (fun a hE => ?_)
  have hE : Env a 6 [] [(0, .bool (x1))] := hE
  refine wpIn_seq ?_
  refine region_at ?_
  refine seg 1 (j := 1) [(0, .bool (x1)), (2, .slice none 0 0)] hE (by kernel_rfl) rfl (fun a hE => ?_)
  refine at_end rfl ?_
  refine wpIn_seq ?_
  refine wpIn_seq ?_
  refine region_at ?_
  refine seg 1 (j := 1) [(0, .bool (x1)), (2, .slice none 0 0), (3, .bool (x1))] hE (by kernel_rfl) rfl (fun a hE => ?_)
  refine at_end rfl ?_
  refine cond_split hE (b := x1) rfl (fun hb => ?_) (fun hb => ?_)
  · replace hf := cond_t hb hf
    clear hb
    refine wpIn_seq ?_
    refine region_at ?_
    refine at_op (op_buildSlice (K := (kdInt .u8)) (e := 5) (cs := [.int .u8 ((1 : Int))] ++ []) ([(1 : Int)] : List Int) rfl rfl rfl rfl hE rfl hS rfl (by kernel_rfl) rfl rfl (by exact (show RL (kdInt .u8) D0 ([(1 : Int)] : List Int) ([.int .u8 ((1 : Int))] ++ []) from ⟨_, _, rfl, rfl, rfl⟩)) (fun a A23 q24 w _ hE h25 hS => ?_)) rfl
    have hS : Stp g w0 D0 [] w D0 [q24] := hS
    refine seg 1 (j := 2) [(0, .bool (x1)), (2, .slice A23 (List.length (([(1 : Int)] : List Int))) 1), (3, .bool (x1))] hE (by kernel_rfl) rfl (fun a hE => ?_)
    refine at_end rfl ?_
    refine wpIn_ret ?_
    obtain rfl := Option.some.inj hf
    repeat (with_reducible first | refine then_ret ?_ | refine block_ret ?_ | refine qx_ret ?_)
    refine ret_gen ([.slice A23 (List.length (([(1 : Int)] : List Int))) 1]) hE (by rw [show Try.f13.results.toList = [.tmp 2] from rfl]; exact ⟨_, _, rfl, rfl, rfl⟩) ?_
    exact ⟨_, rfl, D0, A23, 1, q24, rfl, hS, h25⟩
  · replace hf := cond_f hb hf
    clear hb
    refine wpIn_skip ?_
    refine wpIn_seq ?_
    refine region_at ?_
    refine at_op (op_buildSlice (K := (kdInt .u8)) (e := 5) (cs := [.int .u8 ((0 : Int))] ++ []) ([(0 : Int)] : List Int) rfl rfl rfl rfl hE rfl hS rfl (by kernel_rfl) rfl rfl (by exact (show RL (kdInt .u8) D0 ([(0 : Int)] : List Int) ([.int .u8 ((0 : Int))] ++ []) from ⟨_, _, rfl, rfl, rfl⟩)) (fun a A27 q28 w _ hE h29 hS => ?_)) rfl
    have hS : Stp g w0 D0 [] w D0 [q28] := hS
    refine seg 1 (j := 2) [(0, .bool (x1)), (2, .slice A27 (List.length (([(0 : Int)] : List Int))) 1), (3, .bool (x1))] hE (by kernel_rfl) rfl (fun a hE => ?_)
    refine at_end rfl ?_
    refine wpIn_ret ?_
    obtain rfl := Option.some.inj hf
    repeat (with_reducible first | refine then_ret ?_ | refine block_ret ?_ | refine qx_ret ?_)
    refine ret_gen ([.slice A27 (List.length (([(0 : Int)] : List Int))) 1]) hE (by rw [show Try.f13.results.toList = [.tmp 2] from rfl]; exact ⟨_, _, rfl, rfl, rfl⟩) ?_
    exact ⟨_, rfl, D0, A27, 1, q28, rfl, hS, h29⟩

set_option maxRecDepth 100000 in
set_option maxHeartbeats 4000000 in
theorem wire_Bytes.calls {K : Nat} {g w0 : World} {D0 : Snap} {x1 : (List Int)} {A2 : Option Addr} {c3 : Nat} {r : ((List Int))} (hf : wire_Bytes.f K x1 = some r) (hS0 : St g w0 D0 []) (h4 : Sl (kdInt .u8) D0 A2 c3 (x1)) :
    CallsIn (Fw none) 0 Try.prog 14 (List.toArray [.slice A2 (List.length (x1)) c3]) w0 (fun e w' => ∃ v, e = .returned v ∧ ∃ (D1 : Snap) (A22 : Option Addr) (c23 : Nat) (q24 : Blk), v = .slice A22 (List.length (r)) c23 ∧ Stp g w0 D0 [] w' D1 [q24] ∧ OwnD (kdInt .u8) 5 D1 A22 c23 (r) q24) := by
  unfold wire_Bytes.f at hf
  have hS := Stp.refl hS0
  clear hS0
  refine calls_body (n := 8) Try.func14 rfl Try.ntmps14 rfl (fun a hE => ?_)
  have hE : Env a 8 [] [(0, .slice A2 (List.length (x1)) c3)] := hE
  refine wpIn_seq ?_
  refine region_at ?_
  refine seg 1 (j := 1) [(0, .slice A2 (List.length (x1)) c3), (2, .slice none 0 0)] hE (by kernel_rfl) rfl (fun a hE => ?_)
  refine at_end rfl ?_
  refine wpIn_seq ?_
  refine region_at ?_
  refine seg 2 (j := 2) [(0, .slice A2 (List.length (x1)) c3), (2, .slice none 0 0), (4, .int .i64 (((List.length (x1) : Nat) : Int)))] hE (by kernel_rfl) rfl (fun a hE => ?_)
  obtain ⟨r27, h28, hf⟩ := bind_some hf
  refine at_op (op_call rfl rfl rfl rfl hE rfl rfl rfl rfl (by kernel_rfl) (wire_Num.calls (g := g) h28 (hS.st.fore (L := [])) ) (fun a v w hR hE => ?_)) rfl
  obtain ⟨D29, A31, c32, q33, rfl, hS1, h34⟩ := hR
  have le36 := hS1.dle
  have hS : Stp g w0 D0 [] w D29 [q33] := hS.call (L := []) (R := []) hS1
  clear hS1
  refine seg 1 (j := 4) [(0, .slice A2 (List.length (x1)) c3), (2, .slice none 0 0), (5, .slice A31 (List.length (r27)) c32), (6, .slice A2 (List.length (x1)) c3)] hE (by kernel_rfl) rfl (fun a hE => ?_)
  obtain ⟨l37, h38, hf⟩ := bind_some hf
  refine at_op (g_append (K := (kdInt .u8)) (e := 5) (bytes := 1) (l := r27) (m := x1) rfl rfl rfl rfl hE rfl hS rfl rfl (by kernel_rfl) rfl rfl h34 (h4.mono le36) h38 (fun a A39 c40 q41 w _ hE h42 hS => ?_)) rfl
  have hS : Stp g w0 D0 [] w D29 [q41] := hS
  refine seg 1 (j := 6) [(0, .slice A2 (List.length (x1)) c3), (2, .slice A39 (List.length (l37)) c40)] hE (by kernel_rfl) rfl (fun a hE => ?_)
  refine at_end rfl ?_
  refine wpIn_ret ?_
  obtain rfl := Option.some.inj hf
  repeat (with_reducible first | refine then_ret ?_ | refine block_ret ?_ | refine qx_ret ?_)
  refine ret_gen ([.slice A39 (List.length (l37)) c40]) hE (by rw [show Try.f14.results.toList = [.tmp 2] from rfl]; exact ⟨_, _, rfl, rfl, rfl⟩) ?_
  exact ⟨_, rfl, D29, A39, c40, q41, rfl, hS, h42⟩

set_option maxRecDepth 100000 in
set_option maxHeartbeats 4000000 in
theorem slices_Clone_byte_byte.calls {K : Nat} {g w0 : World} {D0 : Snap} {x1 : (List Int)} {A2 : Option Addr} {c3 : Nat} {r : ((List Int))} (hf : slices_Clone_byte_byte.f K x1 = some r) (hS0 : St g w0 D0 []) (h4 : Sl (kdInt .u8) D0 A2 c3 (x1)) :
    CallsIn (Fw none) 0 Try.prog 28 (List.toArray [.slice A2 (List.length (x1)) c3]) w0 (fun e w' => ∃ v, e = .returned v ∧ ∃ (D1 : Snap) (A16 : Option Addr) (c17 : Nat) (q18 : Blk), v = .slice A16 (List.length (r)) c17 ∧ Stp g w0 D0 [] w' D1 [q18] ∧ OwnD (kdInt .u8) 5 D1 A16 c17 (r) q18) := by
  unfold slices_Clone_byte_byte.f at hf
  have hS := Stp.refl hS0
  clear hS0
  refine calls_body (n := 8) Try.func28 rfl Try.ntmps28 rfl (fun a hE => ?_)
  have hE : Env a 8 [] [(0, .slice A2 (List.length (x1)) c3)] := hE
  refine wpIn_seq ?_
  refine region_at ?_
  refine seg 1 (j := 1) [(0, .slice A2 (List.length (x1)) c3), (2, .slice none 0 0)] hE (by kernel_rfl) rfl (fun a hE => ?_)
  refine at_end rfl ?_
  refine wpIn_seq ?_
  refine wpIn_seq ?_
  refine region_at ?_
  refine seg 1 (j := 1) [(0, .slice A2 (List.length (x1)) c3), (2, .slice none 0 0), (3, .slice A2 (List.length (x1)) c3)] hE (by kernel_rfl) rfl (fun a hE => ?_)
  refine at_op (op_tk hE (tk_bin (r := .bool ((Option.isNone A2))) rfl rfl rfl rfl hE rfl rfl rfl (eqnil_run (by kernel_rfl) _ _ _) (fun a hE => ?_))) rfl
  refine at_end rfl ?_
  refine cond_split hE (b := (Option.isNone A2)) rfl (fun hb => ?_) (fun hb => ?_)
  · have hx := Sl.of_none h4 hb rfl
    clear hb
    rw [hx] at hf
    replace hf : (some ([] : List Int)) = some r := hf
    refine wpIn_seq ?_
    refine region_at ?_
    refine seg 1 (j := 1) [(0, .slice A2 (List.length (x1)) c3), (2, .slice none 0 0), (4, .bool ((Option.isNone A2)))] hE (by kernel_rfl) rfl (fun a hE => ?_)
    refine at_end rfl ?_
    refine wpIn_ret ?_
    have hS := hS.nils
    obtain rfl := Option.some.inj hf
    repeat (with_reducible first | refine then_ret ?_ | refine block_ret ?_ | refine qx_ret ?_)
    refine ret_gen ([.slice none 0 0]) hE (by rw [show Try.f28.results.toList = [.tmp 2] from rfl]; exact ⟨_, _, rfl, rfl, rfl⟩) ?_
    exact ⟨_, rfl, D0, none, 0, none, rfl, hS, (OwnD.nil (kdInt .u8) 5 D0)⟩
  · clear hb
    refine wpIn_skip ?_
    refine wpIn_seq ?_
    refine region_at ?_
    refine at_op (op_buildSlice (K := (kdInt .u8)) (e := 5) (cs := []) ([] : List Int) rfl rfl rfl rfl hE rfl hS rfl (by kernel_rfl) rfl rfl (by exact (show RL (kdInt .u8) D0 ([] : List Int) ([]) from rfl)) (fun a A22 q23 w _ hE h24 hS => ?_)) rfl
    have hS : Stp g w0 D0 [] w D0 [q23] := hS
    refine seg 1 (j := 2) [(0, .slice A2 (List.length (x1)) c3), (2, .slice none 0 0), (4, .bool ((Option.isNone A2))), (5, .slice A22 (List.length (([] : List Int))) 0), (6, .slice A2 (List.length (x1)) c3)] hE (by kernel_rfl) rfl (fun a hE => ?_)
    obtain ⟨l26, h27, hf⟩ := bind_some hf
    refine at_op (g_append (K := (kdInt .u8)) (e := 5) (bytes := 1) (l := ([] : List Int)) (m := x1) rfl rfl rfl rfl hE rfl hS rfl rfl (by kernel_rfl) rfl rfl h24 h4 h27 (fun a A28 c29 q30 w _ hE h31 hS => ?_)) rfl
    have hS : Stp g w0 D0 [] w D0 [q30] := hS
    refine seg 1 (j := 4) [(0, .slice A2 (List.length (x1)) c3), (2, .slice A28 (List.length (l26)) c29), (4, .bool ((Option.isNone A2)))] hE (by kernel_rfl) rfl (fun a hE => ?_)
    refine at_end rfl ?_
    refine wpIn_ret ?_
    obtain rfl := Option.some.inj hf
    repeat (with_reducible first | refine then_ret ?_ | refine block_ret ?_ | refine qx_ret ?_)
    refine ret_gen ([.slice A28 (List.length (l26)) c29]) hE (by rw [show Try.f28.results.toList = [.tmp 2] from rfl]; exact ⟨_, _, rfl, rfl, rfl⟩) ?_
    exact ⟨_, rfl, D0, A28, c29, q30, rfl, hS, h31⟩

set_option maxRecDepth 100000 in
set_option maxHeartbeats 4000000 in
theorem wire_Hash.calls {K : Nat} {g w0 : World} {D0 : Snap} {x1 : (Vector Int 32)} {r : ((List Int))} (hf : wire_Hash.f K x1 = some r) (hS0 : St g w0 D0 []) :
    CallsIn (Fw none) 0 Try.prog 16 (List.toArray [.agg (List.toArray (acells .u8 32 (x1)))]) w0 (fun e w' => ∃ v, e = .returned v ∧ ∃ (D1 : Snap) (A22 : Option Addr) (c23 : Nat) (q24 : Blk), v = .slice A22 (List.length (r)) c23 ∧ Stp g w0 D0 [] w' D1 [q24] ∧ OwnD (kdInt .u8) 5 D1 A22 c23 (r) q24) := by
  unfold wire_Hash.f at hf
  have hS := Stp.refl hS0
  clear hS0
  refine calls_body (n := 5) Try.func16 rfl Try.ntmps16 rfl (fun a hE => ?_)
  have hE : Env a 5 [] [(0, .agg (List.toArray (acells .u8 32 (x1))))] := hE
  refine wpIn_seq ?_
  refine region_at ?_
  refine at_op (op_box rfl rfl rfl rfl hE rfl hS rfl (fun a b27 w _ hE hS => ?_)) rfl
  have hS : Stp g w0 D0 [] w D0 [bx b27 24 (acells .u8 32 (x1))] := hS
  refine seg 1 (j := 2) [(0, .agg (List.toArray (acells .u8 32 (x1)))), (1, .pointer (some ⟨b27, 0, none⟩)), (2, .slice none 0 0)] hE (by kernel_rfl) rfl (fun a hE => ?_)
  refine at_end rfl ?_
  refine wpIn_seq ?_
  refine region_at ?_
  obtain ⟨D29, le30, e31, hS⟩ := hS.freezeB
  have hS : Stp g w0 D0 [] w D29 [] := hS
  obtain ⟨l32, h33, hf⟩ := bind_some hf
  refine at_op (op_tk hE (g_sliceArr (kk := .u8) (e := 5) (v := x1) rfl rfl rfl rfl hE rfl rfl (by kernel_rfl) rfl rfl e31 rfl h33 (fun a A34 c35 hE h36 => ?_))) rfl
  obtain ⟨r37, h38, hf⟩ := bind_some hf
  refine at_op (op_call rfl rfl rfl rfl hE rfl rfl rfl rfl (by kernel_rfl) (slices_Clone_byte_byte.calls (g := g) h38 (hS.st.fore (L := [])) h36) (fun a v w hR hE => ?_)) rfl
  obtain ⟨D39, A41, c42, q43, rfl, hS1, h44⟩ := hR
  have le46 := hS1.dle
  have hS : Stp g w0 D0 [] w D39 [q43] := hS.call (L := []) (R := []) hS1
  clear hS1
  refine seg 1 (j := 3) [(0, .agg (List.toArray (acells .u8 32 (x1)))), (2, .slice A41 (List.length (r37)) c42)] hE (by kernel_rfl) rfl (fun a hE => ?_)
  refine at_end rfl ?_
  refine wpIn_ret ?_
  obtain rfl := Option.some.inj hf
  repeat (with_reducible first | refine then_ret ?_ | refine block_ret ?_ | refine qx_ret ?_)
  refine ret_gen ([.slice A41 (List.length (r37)) c42]) hE (by rw [show Try.f16.results.toList = [.tmp 2] from rfl]; exact ⟨_, _, rfl, rfl, rfl⟩) ?_
  exact ⟨_, rfl, D39, A41, c42, q43, rfl, hS, h44⟩

set_option maxRecDepth 100000 in
set_option maxHeartbeats 4000000 in
theorem slices_Grow_byte_byte.calls {K : Nat} {g w0 : World} {D0 : Snap} {x1 : Int} {r : ((List Int))} (hf : slices_Grow_byte_byte.f K x1 = some r) (hS0 : St g w0 D0 []) :
    CallsIn (Fw none) 0 Try.prog 38 (List.toArray [.slice none 0 0, .int .i64 (x1)]) w0 (fun e w' => ∃ v, e = .returned v ∧ ∃ (D1 : Snap) (A22 : Option Addr) (c23 : Nat) (q24 : Blk), v = .slice A22 (List.length (r)) c23 ∧ Stp g w0 D0 [] w' D1 [q24] ∧ OwnD (kdInt .u8) 5 D1 A22 c23 (r) q24) := by
  unfold slices_Grow_byte_byte.f at hf
  have hS := Stp.refl hS0
  clear hS0
  refine calls_body (n := 27) Try.func38 rfl Try.ntmps38 rfl (fun a hE => ?_)
  have hE : Env a 27 [] [(0, .slice none 0 0), (1, .int .i64 (x1))] := hE
  refine wpIn_seq ?_
  refine region_at ?_
  refine seg 1 (j := 1) [(0, .slice none 0 0), (1, .int .i64 (x1)), (4, .slice none 0 0)] hE (by kernel_rfl) rfl (fun a hE => ?_)
  refine at_end rfl ?_
  refine wpIn_seq ?_
  refine wpIn_seq ?_
  refine region_at ?_
  refine seg 2 (j := 2) [(0, .slice none 0 0), (1, .int .i64 (x1)), (4, .slice none 0 0), (6, .bool ((decide (x1 < (0 : Int)))))] hE (by kernel_rfl) rfl (fun a hE => ?_)
  refine at_end rfl ?_
  refine cond_split hE (b := (decide (x1 < (0 : Int)))) rfl (fun hb => ?_) (fun hb => ?_)
  · replace hf := cond_t hb hf
    clear hb
    refine region_at ?_
    cases hf
  · replace hf := cond_f hb hf
    clear hb
    refine wpIn_skip ?_
    refine wpIn_seq ?_
    refine wpIn_seq ?_
    refine region_at ?_
    refine seg 2 (j := 2) [(0, .slice none 0 0), (1, .int .i64 (x1)), (4, .slice none 0 0), (6, .bool ((decide (x1 < (0 : Int))))), (8, .int .i64 (x1)), (9, .slice none 0 0)] hE (by kernel_rfl) rfl (fun a hE => ?_)
    refine at_op (op_tk hE (tk_capNil rfl rfl rfl rfl hE rfl rfl (by kernel_rfl) (fun a hE => ?_))) rfl
    refine seg 5 (j := 8) [(0, .slice none 0 0), (1, .int .i64 ((IntKind.wrap .i64 (x1 - (IntKind.wrap .i64 (((0 : Nat) : Int) - ((0 : Nat) : Int))))))), (4, .slice none 0 0), (6, .bool ((decide (x1 < (0 : Int)))))] hE (by kernel_rfl) rfl (fun a hE => ?_)
    refine at_end rfl ?_
    refine wpIn_seq ?_
    refine region_at ?_
    refine seg 2 (j := 2) [(0, .slice none 0 0), (1, .int .i64 ((IntKind.wrap .i64 (x1 - (IntKind.wrap .i64 (((0 : Nat) : Int) - ((0 : Nat) : Int))))))), (4, .slice none 0 0), (6, .bool ((decide (x1 < (0 : Int))))), (16, .bool ((decide ((0 : Int) < (IntKind.wrap .i64 (x1 - (IntKind.wrap .i64 (((0 : Nat) : Int) - ((0 : Nat) : Int)))))))))] hE (by kernel_rfl) rfl (fun a hE => ?_)
    refine at_end rfl ?_
    refine cond_split hE (b := (decide ((0 : Int) < (IntKind.wrap .i64 (x1 - (IntKind.wrap .i64 (((0 : Nat) : Int) - ((0 : Nat) : Int)))))))) rfl (fun hb => ?_) (fun hb => ?_)
    · replace hf := cond_t hb hf
      clear hb
      refine region_at ?_
      refine seg 2 (j := 2) [(0, .slice none 0 0), (1, .int .i64 ((IntKind.wrap .i64 (x1 - (IntKind.wrap .i64 (((0 : Nat) : Int) - ((0 : Nat) : Int))))))), (4, .slice none 0 0), (6, .bool ((decide (x1 < (0 : Int))))), (16, .bool ((decide ((0 : Int) < (IntKind.wrap .i64 (x1 - (IntKind.wrap .i64 (((0 : Nat) : Int) - ((0 : Nat) : Int))))))))), (17, .slice none 0 0), (18, .slice none 0 0)] hE (by kernel_rfl) rfl (fun a hE => ?_)
      refine at_op (op_tk hE (tk_capNil rfl rfl rfl rfl hE rfl rfl (by kernel_rfl) (fun a hE => ?_))) rfl
      refine at_op (op_tk hE (tk_sliceNil (e := 5) (sz := 1) (by_ := 1) (zl := 1) rfl rfl rfl rfl hE rfl rfl (by kernel_rfl) rfl ⟨_, rfl⟩ (fun a hE => ?_))) rfl
      refine seg 1 (j := 5) [(0, .slice none 0 0), (1, .int .i64 ((IntKind.wrap .i64 (x1 - (IntKind.wrap .i64 (((0 : Nat) : Int) - ((0 : Nat) : Int))))))), (4, .slice none 0 0), (6, .bool ((decide (x1 < (0 : Int))))), (16, .bool ((decide ((0 : Int) < (IntKind.wrap .i64 (x1 - (IntKind.wrap .i64 (((0 : Nat) : Int) - ((0 : Nat) : Int))))))))), (20, .slice none 0 0), (21, .int .i64 ((IntKind.wrap .i64 (x1 - (IntKind.wrap .i64 (((0 : Nat) : Int) - ((0 : Nat) : Int)))))))] hE (by kernel_rfl) rfl (fun a hE => ?_)
      obtain ⟨l37, h38, hf⟩ := bind_some hf
      refine at_op (op_appendZ (K := (kdInt .u8)) (e := 5) (bytes := 1) (z := (0 : Int)) (cz := [.int .u8 ((0 : Int))]) rfl rfl rfl rfl hE rfl hS rfl rfl (by kernel_rfl) (by kernel_rfl) (by kernel_rfl) rfl rfl rfl h38 (fun a A39 c40 q41 w _ hE h42 hS => ?_)) rfl
      have hS : Stp g w0 D0 [] w D0 [q41] := hS
      refine seg 2 (j := 8) [(0, .slice none 0 0), (1, .int .i64 ((IntKind.wrap .i64 (x1 - (IntKind.wrap .i64 (((0 : Nat) : Int) - ((0 : Nat) : Int))))))), (4, .slice none 0 0), (6, .bool ((decide (x1 < (0 : Int))))), (16, .bool ((decide ((0 : Int) < (IntKind.wrap .i64 (x1 - (IntKind.wrap .i64 (((0 : Nat) : Int) - ((0 : Nat) : Int))))))))), (22, .slice A39 (List.length (l37)) c40), (24, .int .i64 (((0 : Nat) : Int)))] hE (by kernel_rfl) rfl (fun a hE => ?_)
      obtain ⟨l44, h45, hf⟩ := bind_some hf
      refine at_op (op_tk hE (op_prefixO (K := (kdInt .u8)) (T := 5) (by_ := 1) (zl := 1) rfl rfl rfl rfl hE rfl rfl (by kernel_rfl) ⟨_, rfl⟩ h42 h45 (fun a hE h46 => ?_))) rfl
      refine seg 1 (j := 10) [(0, .slice A39 (List.length (l44)) c40), (1, .int .i64 ((IntKind.wrap .i64 (x1 - (IntKind.wrap .i64 (((0 : Nat) : Int) - ((0 : Nat) : Int))))))), (4, .slice none 0 0), (6, .bool ((decide (x1 < (0 : Int))))), (16, .bool ((decide ((0 : Int) < (IntKind.wrap .i64 (x1 - (IntKind.wrap .i64 (((0 : Nat) : Int) - ((0 : Nat) : Int)))))))))] hE (by kernel_rfl) rfl (fun a hE => ?_)
      refine at_end rfl ?_
      refine wpIn_seq ?_
      refine region_at ?_
      refine seg 2 (j := 2) [(0, .slice A39 (List.length (l44)) c40), (1, .int .i64 ((IntKind.wrap .i64 (x1 - (IntKind.wrap .i64 (((0 : Nat) : Int) - ((0 : Nat) : Int))))))), (4, .slice A39 (List.length (l44)) c40), (6, .bool ((decide (x1 < (0 : Int))))), (16, .bool ((decide ((0 : Int) < (IntKind.wrap .i64 (x1 - (IntKind.wrap .i64 (((0 : Nat) : Int) - ((0 : Nat) : Int)))))))))] hE (by kernel_rfl) rfl (fun a hE => ?_)
      refine at_end rfl ?_
      refine wpIn_ret ?_
      obtain rfl := Option.some.inj hf
      repeat (with_reducible first | refine then_ret ?_ | refine block_ret ?_ | refine qx_ret ?_)
      refine ret_gen ([.slice A39 (List.length (l44)) c40]) hE (by rw [show Try.f38.results.toList = [.tmp 4] from rfl]; exact ⟨_, _, rfl, rfl, rfl⟩) ?_
      exact ⟨_, rfl, D0, A39, c40, q41, rfl, hS, h46⟩
    · replace hf := cond_f hb hf
      clear hb
      refine wpIn_skip ?_
      refine wpIn_seq ?_
      refine region_at ?_
      refine seg 2 (j := 2) [(0, .slice none 0 0), (1, .int .i64 ((IntKind.wrap .i64 (x1 - (IntKind.wrap .i64 (((0 : Nat) : Int) - ((0 : Nat) : Int))))))), (4, .slice none 0 0), (6, .bool ((decide (x1 < (0 : Int))))), (16, .bool ((decide ((0 : Int) < (IntKind.wrap .i64 (x1 - (IntKind.wrap .i64 (((0 : Nat) : Int) - ((0 : Nat) : Int)))))))))] hE (by kernel_rfl) rfl (fun a hE => ?_)
      refine at_end rfl ?_
      refine wpIn_ret ?_
      have hS := hS.nils
      obtain rfl := Option.some.inj hf
      repeat (with_reducible first | refine then_ret ?_ | refine block_ret ?_ | refine qx_ret ?_)
      refine ret_gen ([.slice none 0 0]) hE (by rw [show Try.f38.results.toList = [.tmp 4] from rfl]; exact ⟨_, _, rfl, rfl, rfl⟩) ?_
      exact ⟨_, rfl, D0, none, 0, none, rfl, hS, (OwnD.nil (kdInt .u8) 5 D0)⟩

set_option maxRecDepth 100000 in
set_option maxHeartbeats 4000000 in
theorem slices_Concat_byte_byte.calls {K : Nat} {g w0 : World} {D0 : Snap} {x1 : (List (List Int))} {A2 : Option Addr} {c3 : Nat} {r : ((List Int))} (hf : slices_Concat_byte_byte.f K x1 = some r) (hS0 : St g w0 D0 []) (h4 : Sl (kdSlice (kdInt .u8)) D0 A2 c3 (x1)) :
    CallsIn (Fw none) 0 Try.prog 29 (List.toArray [.slice A2 (List.length (x1)) c3]) w0 (fun e w' => ∃ v, e = .returned v ∧ ∃ (D1 : Snap) (A589 : Option Addr) (c590 : Nat) (q591 : Blk), v = .slice A589 (List.length (r)) c590 ∧ Stp g w0 D0 [] w' D1 [q591] ∧ OwnD (kdInt .u8) 5 D1 A589 c590 (r) q591) := by
  unfold slices_Concat_byte_byte.f at hf
  have hS := Stp.refl hS0
  clear hS0
  refine calls_body (n := 36) Try.func29 rfl Try.ntmps29 rfl (fun a hE => ?_)
  have hE : Env a 36 [] [(0, .slice A2 (List.length (x1)) c3)] := hE
  refine wpIn_seq ?_
  refine region_at ?_
  refine seg 1 (j := 1) [(0, .slice A2 (List.length (x1)) c3), (2, .slice none 0 0)] hE (by kernel_rfl) rfl (fun a hE => ?_)
  refine at_end rfl ?_
  refine wpIn_seq ?_
  refine region_at ?_
  refine seg 1 (j := 1) [(0, .slice A2 (List.length (x1)) c3), (2, .slice none 0 0), (3, .int .i64 ((0 : Int)))] hE (by kernel_rfl) rfl (fun a hE => ?_)
  refine at_end rfl ?_
  refine wpIn_seq ?_
  refine wpIn_seq ?_
  refine region_at ?_
  refine seg 3 (j := 3) [(0, .slice A2 (List.length (x1)) c3), (2, .slice none 0 0), (3, .int .i64 ((0 : Int))), (9, .slice A2 (List.length (x1)) c3), (10, .int .i64 (((List.length (x1) : Nat) : Int))), (11, .int .i64 ((0 : Int)))] hE (by kernel_rfl) rfl (fun a hE => ?_)
  refine at_end rfl ?_
  obtain ⟨s782, hf, hs783⟩ := bind_some hf
  refine block_loop (fun a w => ∃ (z779 : Int), ∃ (D780 : Snap), Env a 36 [] [(0, .slice A2 (List.length (x1)) c3), (3, .int .i64 (z779))] ∧ Stp g w0 D0 [] w D780 [] ∧ Snap.le D0 D780 ∧ z779 = s782) (fun k a w => ∃ (y743 : Int × Int), ∃ (D744 : Snap), Env a 36 [] [(0, .slice A2 (List.length (x1)) c3), (3, .int .i64 (y743.1)), (9, .slice A2 (List.length (x1)) c3), (10, .int .i64 (((List.length (x1) : Nat) : Int))), (11, .int .i64 (y743.2))] ∧ Stp g w0 D0 [] w D744 [] ∧ Snap.le D0 D744 ∧ slices_Concat_byte_byte_l1.l K x1 k y743 = some s782) K ?_ ?_ ?_
  · exact ⟨((0 : Int), (0 : Int)), D0, hE.weak (by kernel_rfl), hS, Snap.le.refl _, hf⟩
  · clear hE hS hf
    rintro a w ⟨z779, D780, hE, hS, le781, rfl⟩
    have hf := hs783
    clear hs783
    refine wpIn_seq ?_
    refine region_at ?_
    refine seg 1 (j := 1) [(0, .slice A2 (List.length (x1)) c3), (3, .int .i64 (z779)), (23, .int .i64 (z779))] hE (by kernel_rfl) rfl (fun a hE => ?_)
    obtain ⟨r814, h815, hf⟩ := bind_some hf
    refine at_op (op_call rfl rfl rfl rfl hE rfl rfl rfl rfl (by kernel_rfl) (slices_Grow_byte_byte.calls (g := g) h815 (hS.st.fore (L := [])) ) (fun a v w hR hE => ?_)) rfl
    obtain ⟨D816, A818, c819, q820, rfl, hS1, h821⟩ := hR
    have le823 := hS1.dle
    have hS : Stp g w0 D0 [] w D816 [q820] := hS.call (L := []) (R := []) hS1
    clear hS1
    refine seg 1 (j := 3) [(0, .slice A2 (List.length (x1)) c3), (3, .int .i64 (z779)), (6, .slice A818 (List.length (r814)) c819)] hE (by kernel_rfl) rfl (fun a hE => ?_)
    refine at_end rfl ?_
    refine wpIn_seq ?_
    refine wpIn_seq ?_
    refine region_at ?_
    refine seg 3 (j := 3) [(0, .slice A2 (List.length (x1)) c3), (3, .int .i64 (z779)), (6, .slice A818 (List.length (r814)) c819), (25, .slice A2 (List.length (x1)) c3), (26, .int .i64 (((List.length (x1) : Nat) : Int))), (27, .int .i64 ((0 : Int)))] hE (by kernel_rfl) rfl (fun a hE => ?_)
    refine at_end rfl ?_
    obtain ⟨s1132, hf, hs1133⟩ := bind_some hf
    refine block_loop (fun a w => ∃ (z1124 : (List Int)), ∃ (A1127 : Option Addr), ∃ (c1128 : Nat), ∃ (q1129 : Blk), ∃ (D1125 : Snap), Env a 36 [] [(6, .slice A1127 (List.length (z1124)) c1128)] ∧ Stp g w0 D0 [] w D1125 [q1129] ∧ Snap.le D816 D1125 ∧ OwnD (kdInt .u8) 5 D1125 A1127 c1128 (z1124) q1129 ∧ z1124 = s1132) (fun k a w => ∃ (y1064 : (List Int) × Int), ∃ (A1067 : Option Addr), ∃ (c1068 : Nat), ∃ (q1069 : Blk), ∃ (D1065 : Snap), Env a 36 [] [(6, .slice A1067 (List.length (y1064.1)) c1068), (25, .slice A2 (List.length (x1)) c3), (26, .int .i64 (((List.length (x1) : Nat) : Int))), (27, .int .i64 (y1064.2))] ∧ Stp g w0 D0 [] w D1065 [q1069] ∧ Snap.le D816 D1065 ∧ OwnD (kdInt .u8) 5 D1065 A1067 c1068 (y1064.1) q1069 ∧ slices_Concat_byte_byte_l2.l K x1 k y1064 = some s1132) K ?_ ?_ ?_
    · exact ⟨(r814, (0 : Int)), A818, c819, q820, D816, hE.weak (by kernel_rfl), hS, Snap.le.refl _, h821, hf⟩
    · clear hE hS hf
      rintro a w ⟨z1124, A1127, c1128, q1129, D1125, hE, hS, le1126, h1130, rfl⟩
      have hf := hs1133
      clear hs1133
      refine wpIn_seq ?_
      refine region_at ?_
      refine seg 2 (j := 2) [(2, .slice A1127 (List.length (z1124)) c1128), (6, .slice A1127 (List.length (z1124)) c1128)] hE (by kernel_rfl) rfl (fun a hE => ?_)
      refine at_end rfl ?_
      refine wpIn_ret ?_
      obtain rfl := Option.some.inj hf
      repeat (with_reducible first | refine then_ret ?_ | refine block_ret ?_ | refine qx_ret ?_)
      refine ret_gen ([.slice A1127 (List.length (z1124)) c1128]) hE (by rw [show Try.f29.results.toList = [.tmp 2] from rfl]; exact ⟨_, _, rfl, rfl, rfl⟩) ?_
      exact ⟨_, rfl, D1125, A1127, c1128, q1129, rfl, hS, h1130⟩
    · clear hE hS hf
      rintro k a w ⟨y1064, A1067, c1068, q1069, D1065, hE, hS, le1066, h1070, hf⟩
      obtain ⟨k, rfl, hf⟩ := slices_Concat_byte_byte_l2.some _ hf
      refine ⟨k, rfl, ?_⟩
      unfold slices_Concat_byte_byte_l2.b at hf
      refine wpIn_seq ?_
      refine region_at ?_
      refine seg 1 (j := 1) [(6, .slice A1067 (List.length (y1064.1)) c1068), (25, .slice A2 (List.length (x1)) c3), (26, .int .i64 (((List.length (x1) : Nat) : Int))), (27, .int .i64 (y1064.2)), (28, .bool ((decide (y1064.2 < ((List.length (x1) : Nat) : Int)))))] hE (by kernel_rfl) rfl (fun a hE => ?_)
      refine at_end rfl ?_
      refine wpIn_seq ?_
      refine cond_split hE (b := (decide (y1064.2 < ((List.length (x1) : Nat) : Int)))) rfl (fun hb => ?_) (fun hb => ?_)
      · replace hf := cond_t hb hf
        clear hb
        refine wpIn_skip ?_
        refine wpIn_seq ?_
        refine wpIn_block ?_
        refine wpIn_seq ?_
        refine region_at ?_
        obtain ⟨x1156, h1157, hf⟩ := bind_some hf
        refine at_op (op_tk hE (g_index (K := (kdSlice (kdInt .u8))) (e := 22) (by_ := 24) (zl := 1) rfl rfl rfl rfl hE rfl rfl rfl (by kernel_rfl) rfl (h4.mono (Snap.le.trans (Snap.le.trans le781 le823) le1066)) h1157 (fun a b1158 o1159 hE h1160 => ?_))) rfl
        obtain ⟨cs1161, C1162, T1163, fr1164, hr1165, hb1166, hc1167⟩ := h1160
        obtain ⟨A1168, c1169, rfl, h1170⟩ := hr1165
        refine at_op (op_tk hE (tk_loadX (off0 := o1159) (off := 0) (c := [.slice A1168 (List.length (x1156)) c1169]) (.slice A1168 (List.length (x1156)) c1169) rfl rfl rfl rfl hE rfl hS rfl hb1166 hc1167 (by kernel_rfl) (fun _ h => absurd h List.not_mem_nil) (fun a hE => ?_))) rfl
        refine seg 1 (j := 3) [(6, .slice A1067 (List.length (y1064.1)) c1068), (8, .slice A1168 (List.length (x1156)) c1169), (25, .slice A2 (List.length (x1)) c3), (26, .int .i64 (((List.length (x1) : Nat) : Int))), (27, .int .i64 (y1064.2)), (28, .bool ((decide (y1064.2 < ((List.length (x1) : Nat) : Int)))))] hE (by kernel_rfl) rfl (fun a hE => ?_)
        refine at_end rfl ?_
        refine region_at ?_
        refine seg 2 (j := 2) [(6, .slice A1067 (List.length (y1064.1)) c1068), (8, .slice A1168 (List.length (x1156)) c1169), (25, .slice A2 (List.length (x1)) c3), (26, .int .i64 (((List.length (x1) : Nat) : Int))), (27, .int .i64 (y1064.2)), (28, .bool ((decide (y1064.2 < ((List.length (x1) : Nat) : Int))))), (31, .slice A1067 (List.length (y1064.1)) c1068), (32, .slice A1168 (List.length (x1156)) c1169)] hE (by kernel_rfl) rfl (fun a hE => ?_)
        obtain ⟨l1171, h1172, hf⟩ := bind_some hf
        refine at_op (g_append (K := (kdInt .u8)) (e := 5) (bytes := 1) (l := y1064.1) (m := x1156) rfl rfl rfl rfl hE rfl hS rfl rfl (by kernel_rfl) rfl rfl h1070 h1170 h1172 (fun a A1173 c1174 q1175 w _ hE h1176 hS => ?_)) rfl
        have hS : Stp g w0 D0 [] w D1065 [q1175] := hS
        refine seg 1 (j := 4) [(6, .slice A1173 (List.length (l1171)) c1174), (8, .slice A1168 (List.length (x1156)) c1169), (25, .slice A2 (List.length (x1)) c3), (26, .int .i64 (((List.length (x1) : Nat) : Int))), (27, .int .i64 (y1064.2)), (28, .bool ((decide (y1064.2 < ((List.length (x1) : Nat) : Int)))))] hE (by kernel_rfl) rfl (fun a hE => ?_)
        refine at_end rfl ?_
        refine region_at ?_
        refine seg 2 (j := 2) [(6, .slice A1173 (List.length (l1171)) c1174), (8, .slice A1168 (List.length (x1156)) c1169), (25, .slice A2 (List.length (x1)) c3), (26, .int .i64 (((List.length (x1) : Nat) : Int))), (27, .int .i64 ((IntKind.wrap .i64 (y1064.2 + (1 : Int))))), (28, .bool ((decide (y1064.2 < ((List.length (x1) : Nat) : Int)))))] hE (by kernel_rfl) rfl (fun a hE => ?_)
        refine at_end rfl ?_
        exact ⟨(l1171, (IntKind.wrap .i64 (y1064.2 + (1 : Int)))), A1173, c1174, q1175, D1065, hE.weak (by kernel_rfl), hS, le1066, h1176, hf⟩
      · replace hf := cond_f hb hf
        clear hb
        refine wpIn_exit ?_
        obtain rfl := Option.some.inj hf
        exact ⟨y1064.1, A1067, c1068, q1069, D1065, hE.weak (by kernel_rfl), hS, le1066, h1070, rfl⟩
  · clear hE hS hf
    rintro k a w ⟨y743, D744, hE, hS, le745, hf⟩
    obtain ⟨k, rfl, hf⟩ := slices_Concat_byte_byte_l1.some _ hf
    refine ⟨k, rfl, ?_⟩
    unfold slices_Concat_byte_byte_l1.b at hf
    refine wpIn_seq ?_
    refine region_at ?_
    refine seg 1 (j := 1) [(0, .slice A2 (List.length (x1)) c3), (3, .int .i64 (y743.1)), (9, .slice A2 (List.length (x1)) c3), (10, .int .i64 (((List.length (x1) : Nat) : Int))), (11, .int .i64 (y743.2)), (12, .bool ((decide (y743.2 < ((List.length (x1) : Nat) : Int)))))] hE (by kernel_rfl) rfl (fun a hE => ?_)
    refine at_end rfl ?_
    refine wpIn_seq ?_
    refine cond_split hE (b := (decide (y743.2 < ((List.length (x1) : Nat) : Int)))) rfl (fun hb => ?_) (fun hb => ?_)
    · replace hf := cond_t hb hf
      clear hb
      refine wpIn_skip ?_
      refine wpIn_seq ?_
      refine wpIn_block ?_
      refine wpIn_seq ?_
      refine region_at ?_
      obtain ⟨x799, h800, hf⟩ := bind_some hf
      refine at_op (op_tk hE (g_index (K := (kdSlice (kdInt .u8))) (e := 22) (by_ := 24) (zl := 1) rfl rfl rfl rfl hE rfl rfl rfl (by kernel_rfl) rfl (h4.mono le745) h800 (fun a b801 o802 hE h803 => ?_))) rfl
      obtain ⟨cs804, C805, T806, fr807, hr808, hb809, hc810⟩ := h803
      obtain ⟨A811, c812, rfl, h813⟩ := hr808
      refine at_op (op_tk hE (tk_loadX (off0 := o802) (off := 0) (c := [.slice A811 (List.length (x799)) c812]) (.slice A811 (List.length (x799)) c812) rfl rfl rfl rfl hE rfl hS rfl hb809 hc810 (by kernel_rfl) (fun _ h => absurd h List.not_mem_nil) (fun a hE => ?_))) rfl
      refine seg 1 (j := 3) [(0, .slice A2 (List.length (x1)) c3), (3, .int .i64 (y743.1)), (5, .slice A811 (List.length (x799)) c812), (9, .slice A2 (List.length (x1)) c3), (10, .int .i64 (((List.length (x1) : Nat) : Int))), (11, .int .i64 (y743.2)), (12, .bool ((decide (y743.2 < ((List.length (x1) : Nat) : Int)))))] hE (by kernel_rfl) rfl (fun a hE => ?_)
      refine at_end rfl ?_
      refine wpIn_seq ?_
      refine region_at ?_
      refine seg 5 (j := 5) [(0, .slice A2 (List.length (x1)) c3), (3, .int .i64 ((IntKind.wrap .i64 (y743.1 + ((List.length (x799) : Nat) : Int))))), (5, .slice A811 (List.length (x799)) c812), (9, .slice A2 (List.length (x1)) c3), (10, .int .i64 (((List.length (x1) : Nat) : Int))), (11, .int .i64 (y743.2)), (12, .bool ((decide (y743.2 < ((List.length (x1) : Nat) : Int)))))] hE (by kernel_rfl) rfl (fun a hE => ?_)
      refine at_end rfl ?_
      refine wpIn_seq ?_
      refine region_at ?_
      refine seg 2 (j := 2) [(0, .slice A2 (List.length (x1)) c3), (3, .int .i64 ((IntKind.wrap .i64 (y743.1 + ((List.length (x799) : Nat) : Int))))), (5, .slice A811 (List.length (x799)) c812), (9, .slice A2 (List.length (x1)) c3), (10, .int .i64 (((List.length (x1) : Nat) : Int))), (11, .int .i64 (y743.2)), (12, .bool ((decide (y743.2 < ((List.length (x1) : Nat) : Int))))), (20, .bool ((decide ((IntKind.wrap .i64 (y743.1 + ((List.length (x799) : Nat) : Int))) < (0 : Int)))))] hE (by kernel_rfl) rfl (fun a hE => ?_)
      refine at_end rfl ?_
      refine cond_split hE (b := (decide ((IntKind.wrap .i64 (y743.1 + ((List.length (x799) : Nat) : Int))) < (0 : Int)))) rfl (fun hb => ?_) (fun hb => ?_)
      · replace hf := cond_t hb hf
        clear hb
        refine region_at ?_
        cases hf
      · replace hf := cond_f hb hf
        clear hb
        refine wpIn_skip ?_
        refine region_at ?_
        refine seg 2 (j := 2) [(0, .slice A2 (List.length (x1)) c3), (3, .int .i64 ((IntKind.wrap .i64 (y743.1 + ((List.length (x799) : Nat) : Int))))), (5, .slice A811 (List.length (x799)) c812), (9, .slice A2 (List.length (x1)) c3), (10, .int .i64 (((List.length (x1) : Nat) : Int))), (11, .int .i64 ((IntKind.wrap .i64 (y743.2 + (1 : Int))))), (12, .bool ((decide (y743.2 < ((List.length (x1) : Nat) : Int))))), (20, .bool ((decide ((IntKind.wrap .i64 (y743.1 + ((List.length (x799) : Nat) : Int))) < (0 : Int)))))] hE (by kernel_rfl) rfl (fun a hE => ?_)
        refine at_end rfl ?_
        exact ⟨((IntKind.wrap .i64 (y743.1 + ((List.length (x799) : Nat) : Int))), (IntKind.wrap .i64 (y743.2 + (1 : Int)))), D744, hE.weak (by kernel_rfl), hS, le745, hf⟩
    · replace hf := cond_f hb hf
      clear hb
      refine wpIn_exit ?_
      obtain rfl := Option.some.inj hf
      exact ⟨y743.1, D744, hE.weak (by kernel_rfl), hS, le745, rfl⟩

set_option maxRecDepth 100000 in
set_option maxHeartbeats 4000000 in
theorem wire_All.calls {K : Nat} {g w0 : World} {D0 : Snap} {x1 : (List (List Int))} {A2 : Option Addr} {c3 : Nat} {r : ((List Int))} (hf : wire_All.f K x1 = some r) (hS0 : St g w0 D0 []) (h4 : Sl (kdSlice (kdInt .u8)) D0 A2 c3 (x1)) :
    CallsIn (Fw none) 0 Try.prog 18 (List.toArray [.slice A2 (List.length (x1)) c3]) w0 (fun e w' => ∃ v, e = .returned v ∧ ∃ (D1 : Snap) (A15 : Option Addr) (c16 : Nat) (q17 : Blk), v = .slice A15 (List.length (r)) c16 ∧ Stp g w0 D0 [] w' D1 [q17] ∧ OwnD (kdInt .u8) 5 D1 A15 c16 (r) q17) := by
  unfold wire_All.f at hf
  have hS := Stp.refl hS0
  clear hS0
  refine calls_body (n := 5) Try.func18 rfl Try.ntmps18 rfl (fun a hE => ?_)
  have hE : Env a 5 [] [(0, .slice A2 (List.length (x1)) c3)] := hE
  refine wpIn_seq ?_
  refine region_at ?_
  refine seg 1 (j := 1) [(0, .slice A2 (List.length (x1)) c3), (2, .slice none 0 0)] hE (by kernel_rfl) rfl (fun a hE => ?_)
  refine at_end rfl ?_
  refine wpIn_seq ?_
  refine region_at ?_
  refine seg 1 (j := 1) [(0, .slice A2 (List.length (x1)) c3), (2, .slice none 0 0), (3, .slice A2 (List.length (x1)) c3)] hE (by kernel_rfl) rfl (fun a hE => ?_)
  obtain ⟨r20, h21, hf⟩ := bind_some hf
  refine at_op (op_call rfl rfl rfl rfl hE rfl rfl rfl rfl (by kernel_rfl) (slices_Concat_byte_byte.calls (g := g) h21 (hS.st.fore (L := [])) h4) (fun a v w hR hE => ?_)) rfl
  obtain ⟨D22, A24, c25, q26, rfl, hS1, h27⟩ := hR
  have le29 := hS1.dle
  have hS : Stp g w0 D0 [] w D22 [q26] := hS.call (L := []) (R := []) hS1
  clear hS1
  refine seg 1 (j := 3) [(0, .slice A2 (List.length (x1)) c3), (2, .slice A24 (List.length (r20)) c25)] hE (by kernel_rfl) rfl (fun a hE => ?_)
  refine at_end rfl ?_
  refine wpIn_ret ?_
  obtain rfl := Option.some.inj hf
  repeat (with_reducible first | refine then_ret ?_ | refine block_ret ?_ | refine qx_ret ?_)
  refine ret_gen ([.slice A24 (List.length (r20)) c25]) hE (by rw [show Try.f18.results.toList = [.tmp 2] from rfl]; exact ⟨_, _, rfl, rfl, rfl⟩) ?_
  exact ⟨_, rfl, D22, A24, c25, q26, rfl, hS, h27⟩

set_option maxRecDepth 100000 in
set_option maxHeartbeats 4000000 in
theorem wire_Read.calls {K : Nat} {g w0 : World} {D0 : Snap} {x1 : (List Int)} {A2 : Option Addr} {c3 : Nat} {r : (T_inspeximus_wire_Reader)} (hf : wire_Read.f K x1 = some r) (hS0 : St g w0 D0 []) (h4 : Sl (kdInt .u8) D0 A2 c3 (x1)) :
    CallsIn (Fw none) 0 Try.prog 17 (List.toArray [.slice A2 (List.length (x1)) c3]) w0 (fun e w' => ∃ v, e = .returned v ∧ ∃ (D1 : Snap) (b20 : Nat) (A22 : Option Addr) (c23 : Nat), v = .pointer (some ⟨b20, 0, none⟩) ∧ Stp g w0 D0 [] w' D1 [bx b20 49 ([.slice A22 (List.length (r.fB)) c23] ++ ([.int .i64 (r.fBad)]))] ∧ Sl (kdInt .u8) D1 A22 c23 (r.fB)) := by
  unfold wire_Read.f at hf
  have hS := Stp.refl hS0
  clear hS0
  refine calls_body (n := 7) Try.func17 rfl Try.ntmps17 rfl (fun a hE => ?_)
  have hE : Env a 7 [] [(0, .slice A2 (List.length (x1)) c3)] := hE
  refine wpIn_seq ?_
  refine region_at ?_
  refine seg 1 (j := 1) [(0, .slice A2 (List.length (x1)) c3), (2, .pointer none)] hE (by kernel_rfl) rfl (fun a hE => ?_)
  refine at_end rfl ?_
  refine wpIn_seq ?_
  refine region_at ?_
  refine seg 1 (j := 1) [(0, .slice A2 (List.length (x1)) c3), (2, .pointer none), (3, .slice A2 (List.length (x1)) c3)] hE (by kernel_rfl) rfl (fun a hE => ?_)
  obtain ⟨r25, h26, hf⟩ := bind_some hf
  refine at_op (op_call rfl rfl rfl rfl hE rfl rfl rfl rfl (by kernel_rfl) (slices_Clone_byte_byte.calls (g := g) h26 (hS.st.fore (L := [])) h4) (fun a v w hR hE => ?_)) rfl
  obtain ⟨D27, A29, c30, q31, rfl, hS1, h32⟩ := hR
  have le34 := hS1.dle
  have hS : Stp g w0 D0 [] w D27 [q31] := hS.call (L := []) (R := []) hS1
  clear hS1
  obtain ⟨D35, le36, hS, h37⟩ := hS.frozen h32
  have hS : Stp g w0 D0 [] w D35 [] := hS
  refine at_op (op_tk hE (tk_build ([.slice A29 (List.length (r25)) c30] ++ ([.int .i64 ((0 : Int))])) rfl rfl rfl rfl hE rfl rfl (by kernel_rfl) (fun a hE => ?_))) rfl
  refine at_op (op_box rfl rfl rfl rfl hE rfl hS rfl (fun a b38 w _ hE hS => ?_)) rfl
  have hS : Stp g w0 D0 [] w D35 [bx b38 49 ([.slice A29 (List.length (r25)) c30] ++ ([.int .i64 ((0 : Int))]))] := hS
  refine seg 1 (j := 5) [(0, .slice A2 (List.length (x1)) c3), (2, .pointer (some ⟨b38, 0, none⟩))] hE (by kernel_rfl) rfl (fun a hE => ?_)
  refine at_end rfl ?_
  refine wpIn_ret ?_
  obtain rfl := Option.some.inj hf
  repeat (with_reducible first | refine then_ret ?_ | refine block_ret ?_ | refine qx_ret ?_)
  refine ret_gen ([.pointer (some ⟨b38, 0, none⟩)]) hE (by rw [show Try.f17.results.toList = [.tmp 2] from rfl]; exact ⟨_, _, rfl, rfl, rfl⟩) ?_
  exact ⟨_, rfl, D35, b38, A29, c30, rfl, hS, h37⟩

set_option maxRecDepth 100000 in
set_option maxHeartbeats 4000000 in
theorem wire_Reader_Bad.calls {K : Nat} {g w0 : World} {D0 : Snap} {x3 : T_inspeximus_wire_Reader} {b1 : Nat} {A4 : Option Addr} {c5 : Nat} {r : (Int)} (hf : wire_Reader_Bad.f K x3 = some r) (hS0 : St g w0 D0 [bx b1 49 ([.slice A4 (List.length (x3.fB)) c5] ++ ([.int .i64 (x3.fBad)]))]) (h6 : Sl (kdInt .u8) D0 A4 c5 (x3.fB)) :
    CallsIn (Fw none) 0 Try.prog 24 (List.toArray [.pointer (some ⟨b1, 0, none⟩)]) w0 (fun e w' => ∃ v, e = .returned v ∧ ∃ (D1 : Snap), v = .int .i64 (r) ∧ Stp g w0 D0 [bx b1 49 ([.slice A4 (List.length (x3.fB)) c5] ++ ([.int .i64 (x3.fBad)]))] w' D1 [bx b1 49 ([.slice A4 (List.length (x3.fB)) c5] ++ ([.int .i64 (x3.fBad)]))]) := by
  unfold wire_Reader_Bad.f at hf
  have hS := Stp.refl hS0
  clear hS0
  refine calls_body (n := 9) Try.func24 rfl Try.ntmps24 rfl (fun a hE => ?_)
  have hE : Env a 9 [] [(0, .pointer (some ⟨b1, 0, none⟩))] := hE
  refine wpIn_seq ?_
  refine region_at ?_
  refine seg 1 (j := 1) [(0, .pointer (some ⟨b1, 0, none⟩)), (2, .int .i64 ((0 : Int)))] hE (by kernel_rfl) rfl (fun a hE => ?_)
  refine at_end rfl ?_
  refine wpIn_seq ?_
  refine wpIn_seq ?_
  refine region_at ?_
  refine seg 1 (j := 1) [(0, .pointer (some ⟨b1, 0, none⟩)), (2, .int .i64 ((0 : Int))), (3, .pointer (some ⟨b1, 0, none⟩))] hE (by kernel_rfl) rfl (fun a hE => ?_)
  refine at_op (op_tk hE (tk_bin (r := .bool false) rfl rfl rfl rfl hE rfl rfl rfl (eqptr_run (by kernel_rfl) _) (fun a hE => ?_))) rfl
  refine at_end rfl ?_
  refine wpIn_cond_false (hE.eval rfl) ?_
  refine wpIn_skip ?_
  refine wpIn_seq ?_
  refine region_at ?_
  refine seg 2 (j := 2) [(0, .pointer (some ⟨b1, 0, none⟩)), (2, .int .i64 ((0 : Int))), (4, .bool false), (6, .pointer (some ⟨b1, 0, none⟩))] hE (by kernel_rfl) rfl (fun a hE => ?_)
  refine at_op (op_tk hE (g_fieldAddr (fo := 1) (ft := 37) 1 rfl rfl rfl rfl hE rfl rfl (by kernel_rfl) rfl (fun a hE => ?_))) rfl
  refine at_op (op_tk hE (tk_load 0 (.int .i64 (x3.fBad)) rfl rfl rfl rfl hE rfl hS rfl rfl (by kernel_rfl) List.not_mem_nil (fun a hE => ?_))) rfl
  refine seg 1 (j := 5) [(0, .pointer (some ⟨b1, 0, none⟩)), (2, .int .i64 (x3.fBad)), (4, .bool false)] hE (by kernel_rfl) rfl (fun a hE => ?_)
  refine at_end rfl ?_
  refine wpIn_ret ?_
  obtain rfl := Option.some.inj hf
  repeat (with_reducible first | refine then_ret ?_ | refine block_ret ?_ | refine qx_ret ?_)
  refine ret_gen ([.int .i64 (x3.fBad)]) hE (by rw [show Try.f24.results.toList = [.tmp 2] from rfl]; exact ⟨_, _, rfl, rfl, rfl⟩) ?_
  exact ⟨_, rfl, D0, rfl, hS⟩

set_option maxRecDepth 100000 in
set_option maxHeartbeats 4000000 in
theorem wire_number.calls {K : Nat} {g w0 : World} {D0 : Snap} {x1 : (List Int)} {A2 : Option Addr} {c3 : Nat} {r : (Int × Int × Int)} (hf : wire_number.f K x1 = some r) (hS0 : St g w0 D0 []) (h4 : Sl (kdInt .u8) D0 A2 c3 (x1)) :
    CallsIn (Fw none) 0 Try.prog 31 (List.toArray [.slice A2 (List.length (x1)) c3]) w0 (fun e w' => ∃ v, e = .returned v ∧ ∃ (D1 : Snap), v = .tuple #[.int .i64 (r.1), .int .i64 (r.2.1), .int .i64 (r.2.2)] ∧ Stp g w0 D0 [] w' D1 []) := by
  unfold wire_number.f at hf
  have hS := Stp.refl hS0
  clear hS0
  refine calls_body (n := 39) Try.func31 rfl Try.ntmps31 rfl (fun a hE => ?_)
  have hE : Env a 39 [] [(0, .slice A2 (List.length (x1)) c3)] := hE
  refine wpIn_seq ?_
  refine region_at ?_
  refine seg 3 (j := 3) [(0, .slice A2 (List.length (x1)) c3), (2, .int .i64 ((0 : Int))), (3, .int .i64 ((0 : Int))), (4, .int .i64 ((0 : Int)))] hE (by kernel_rfl) rfl (fun a hE => ?_)
  refine at_end rfl ?_
  refine wpIn_seq ?_
  refine region_at ?_
  refine seg 1 (j := 1) [(0, .slice A2 (List.length (x1)) c3), (2, .int .i64 ((0 : Int))), (3, .int .i64 ((0 : Int))), (4, .int .i64 ((0 : Int))), (5, .int .i64 ((0 : Int)))] hE (by kernel_rfl) rfl (fun a hE => ?_)
  refine at_end rfl ?_
  refine wpIn_seq ?_
  refine wpIn_seq ?_
  refine region_at ?_
  refine seg 3 (j := 3) [(0, .slice A2 (List.length (x1)) c3), (2, .int .i64 ((0 : Int))), (3, .int .i64 ((0 : Int))), (4, .int .i64 ((0 : Int))), (5, .int .i64 ((0 : Int))), (8, .slice A2 (List.length (x1)) c3), (9, .int .i64 (((List.length (x1) : Nat) : Int))), (10, .int .i64 ((0 : Int)))] hE (by kernel_rfl) rfl (fun a hE => ?_)
  refine at_end rfl ?_
  obtain ⟨s576, hf, hs577⟩ := bind_some hf
  refine block_loop (fun a w => ∃ (z573 : Unit), ∃ (D574 : Snap), Env a 39 [] [] ∧ Stp g w0 D0 [] w D574 [] ∧ Snap.le D0 D574 ∧ (Sum.inr z573) = s576) (fun k a w => ∃ (y523 : Int × Int), ∃ (D524 : Snap), Env a 39 [] [(5, .int .i64 (y523.1)), (8, .slice A2 (List.length (x1)) c3), (9, .int .i64 (((List.length (x1) : Nat) : Int))), (10, .int .i64 (y523.2))] ∧ Stp g w0 D0 [] w D524 [] ∧ Snap.le D0 D524 ∧ wire_number_l1.l K x1 k y523 = some s576) K ?_ ?_ ?_
  · exact ⟨((0 : Int), (0 : Int)), D0, hE.weak (by kernel_rfl), hS, Snap.le.refl _, hf⟩
  · clear hE hS hf
    rintro a w ⟨z573, D574, hE, hS, le575, rfl⟩
    have hf := hs577
    clear hs577
    refine wpIn_seq ?_
    refine region_at ?_
    refine seg 3 (j := 3) [(2, .int .i64 ((0 : Int))), (3, .int .i64 ((0 : Int))), (4, .int .i64 ((3 : Int)))] hE (by kernel_rfl) rfl (fun a hE => ?_)
    refine at_end rfl ?_
    refine wpIn_ret ?_
    obtain rfl := Option.some.inj hf
    repeat (with_reducible first | refine then_ret ?_ | refine block_ret ?_ | refine qx_ret ?_)
    refine ret_gen ([.int .i64 ((0 : Int)), .int .i64 ((0 : Int)), .int .i64 ((3 : Int))]) hE (by rw [show Try.f31.results.toList = [.tmp 2, .tmp 3, .tmp 4] from rfl]; exact ⟨_, _, rfl, rfl, ⟨_, _, rfl, rfl, ⟨_, _, rfl, rfl, rfl⟩⟩⟩) ?_
    exact ⟨_, rfl, D574, rfl, hS⟩
  · clear hE hS hf
    rintro k a w ⟨y523, D524, hE, hS, le525, hf⟩
    obtain ⟨k, rfl, hf⟩ := wire_number_l1.some _ hf
    refine ⟨k, rfl, ?_⟩
    unfold wire_number_l1.b at hf
    refine wpIn_seq ?_
    refine region_at ?_
    refine seg 1 (j := 1) [(5, .int .i64 (y523.1)), (8, .slice A2 (List.length (x1)) c3), (9, .int .i64 (((List.length (x1) : Nat) : Int))), (10, .int .i64 (y523.2)), (11, .bool ((decide (y523.2 < ((List.length (x1) : Nat) : Int)))))] hE (by kernel_rfl) rfl (fun a hE => ?_)
    refine at_end rfl ?_
    refine wpIn_seq ?_
    refine cond_split hE (b := (decide (y523.2 < ((List.length (x1) : Nat) : Int)))) rfl (fun hb => ?_) (fun hb => ?_)
    · replace hf := cond_t hb hf
      clear hb
      refine wpIn_skip ?_
      refine wpIn_seq ?_
      refine wpIn_block ?_
      refine wpIn_seq ?_
      refine region_at ?_
      refine seg 1 (j := 1) [(5, .int .i64 (y523.1)), (8, .slice A2 (List.length (x1)) c3), (9, .int .i64 (((List.length (x1) : Nat) : Int))), (10, .int .i64 (y523.2)), (11, .bool ((decide (y523.2 < ((List.length (x1) : Nat) : Int))))), (12, .int .i64 (y523.2))] hE (by kernel_rfl) rfl (fun a hE => ?_)
      obtain ⟨x600, h601, hf⟩ := bind_some hf
      refine at_op (op_tk hE (g_index (K := (kdInt .u8)) (e := 5) (by_ := 1) (zl := 1) rfl rfl rfl rfl hE rfl rfl rfl (by kernel_rfl) rfl (h4.mono le525) h601 (fun a b602 o603 hE h604 => ?_))) rfl
      obtain ⟨cs605, C606, T607, fr608, hr609, hb610, hc611⟩ := h604
      obtain rfl := hr609
      refine at_op (op_tk hE (tk_loadX (off0 := o603) (off := 0) (c := [.int .u8 (x600)]) (.int .u8 (x600)) rfl rfl rfl rfl hE rfl hS rfl hb610 hc611 (by kernel_rfl) (fun _ h => absurd h List.not_mem_nil) (fun a hE => ?_))) rfl
      refine seg 2 (j := 5) [(5, .int .i64 (y523.1)), (6, .int .i64 (y523.2)), (7, .int .u8 (x600)), (8, .slice A2 (List.length (x1)) c3), (9, .int .i64 (((List.length (x1) : Nat) : Int))), (10, .int .i64 (y523.2)), (11, .bool ((decide (y523.2 < ((List.length (x1) : Nat) : Int)))))] hE (by kernel_rfl) rfl (fun a hE => ?_)
      refine at_end rfl ?_
      refine wpIn_seq ?_
      obtain ⟨j620, hj621, hf⟩ := jn_elim hf
      refine seq_join (fun a w => ∃ (y617 : Bool), ∃ (D618 : Snap), Env a 39 [] [(5, .int .i64 (y523.1)), (6, .int .i64 (y523.2)), (7, .int .u8 (x600)), (8, .slice A2 (List.length (x1)) c3), (9, .int .i64 (((List.length (x1) : Nat) : Int))), (10, .int .i64 (y523.2)), (24, .bool (y617))] ∧ Stp g w0 D0 [] w D618 [] ∧ Snap.le D524 D618 ∧ j620 y617 = some s576) ?_ ?_
      · clear hj621
        refine region_at ?_
        refine seg 3 (j := 3) [(5, .int .i64 (y523.1)), (6, .int .i64 (y523.2)), (7, .int .u8 (x600)), (8, .slice A2 (List.length (x1)) c3), (9, .int .i64 (((List.length (x1) : Nat) : Int))), (10, .int .i64 (y523.2)), (11, .bool ((decide (y523.2 < ((List.length (x1) : Nat) : Int))))), (17, .bool ((decide (y523.2 = (0 : Int)))))] hE (by kernel_rfl) rfl (fun a hE => ?_)
        cases hb : (decide (y523.2 = (0 : Int)))
        · replace hf := cond_f hb hf
          have hE := hE.know (t := 17) (b := (decide (y523.2 = (0 : Int)))) (b' := false) rfl hb
          clear hb
          refine seg 7 (j := 10) [(5, .int .i64 (y523.1)), (6, .int .i64 (y523.2)), (7, .int .u8 (x600)), (8, .slice A2 (List.length (x1)) c3), (9, .int .i64 (((List.length (x1) : Nat) : Int))), (10, .int .i64 (y523.2)), (11, .bool ((decide (y523.2 < ((List.length (x1) : Nat) : Int))))), (24, .bool ((decide (y523.2 = (5 : Int)))))] hE (by kernel_rfl) rfl (fun a hE => ?_)
          refine at_end rfl ?_
          exact ⟨(decide (y523.2 = (5 : Int))), D524, hE.weak (by kernel_rfl), hS, Snap.le.refl _, hf⟩
        · replace hf := cond_t hb hf
          have hE := hE.know (t := 17) (b := (decide (y523.2 = (0 : Int)))) (b' := true) rfl hb
          clear hb
          refine seg 4 (j := 7) [(5, .int .i64 (y523.1)), (6, .int .i64 (y523.2)), (7, .int .u8 (x600)), (8, .slice A2 (List.length (x1)) c3), (9, .int .i64 (((List.length (x1) : Nat) : Int))), (10, .int .i64 (y523.2)), (11, .bool ((decide (y523.2 < ((List.length (x1) : Nat) : Int))))), (21, .bool ((decide (x600 = (128 : Int)))))] hE (by kernel_rfl) rfl (fun a hE => ?_)
          cases hb : (decide (x600 = (128 : Int)))
          · replace hf := cond_f hb hf
            have hE := hE.know (t := 21) (b := (decide (x600 = (128 : Int)))) (b' := false) rfl hb
            clear hb
            refine seg 3 (j := 10) [(5, .int .i64 (y523.1)), (6, .int .i64 (y523.2)), (7, .int .u8 (x600)), (8, .slice A2 (List.length (x1)) c3), (9, .int .i64 (((List.length (x1) : Nat) : Int))), (10, .int .i64 (y523.2)), (11, .bool ((decide (y523.2 < ((List.length (x1) : Nat) : Int))))), (24, .bool ((decide (y523.2 = (5 : Int)))))] hE (by kernel_rfl) rfl (fun a hE => ?_)
            refine at_end rfl ?_
            exact ⟨(decide (y523.2 = (5 : Int))), D524, hE.weak (by kernel_rfl), hS, Snap.le.refl _, hf⟩
          · replace hf := cond_t hb hf
            have hE := hE.know (t := 21) (b := (decide (x600 = (128 : Int)))) (b' := true) rfl hb
            clear hb
            refine seg 3 (j := 10) [(5, .int .i64 (y523.1)), (6, .int .i64 (y523.2)), (7, .int .u8 (x600)), (8, .slice A2 (List.length (x1)) c3), (9, .int .i64 (((List.length (x1) : Nat) : Int))), (10, .int .i64 (y523.2)), (11, .bool ((decide (y523.2 < ((List.length (x1) : Nat) : Int))))), (24, .bool true)] hE (by kernel_rfl) rfl (fun a hE => ?_)
            refine at_end rfl ?_
            exact ⟨true, D524, hE.weak (by kernel_rfl), hS, Snap.le.refl _, hf⟩
      · clear hE hS
        rintro a w ⟨y617, D618, hE, hS, le619, hf⟩
        replace hf := hj621 _ hf
        clear hj621
        refine cond_split hE (b := y617) rfl (fun hb => ?_) (fun hb => ?_)
        · replace hf := cond_t hb hf
          clear hb
          refine wpIn_seq ?_
          refine region_at ?_
          refine seg 3 (j := 3) [(2, .int .i64 ((0 : Int))), (3, .int .i64 ((0 : Int))), (4, .int .i64 ((2 : Int))), (5, .int .i64 (y523.1)), (6, .int .i64 (y523.2)), (7, .int .u8 (x600)), (8, .slice A2 (List.length (x1)) c3), (9, .int .i64 (((List.length (x1) : Nat) : Int))), (10, .int .i64 (y523.2)), (24, .bool (y617))] hE (by kernel_rfl) rfl (fun a hE => ?_)
          refine at_end rfl ?_
          refine wpIn_ret ?_
          obtain rfl := Option.some.inj hf
          replace hf := hs577
          obtain rfl := Option.some.inj hf
          repeat (with_reducible first | refine then_ret ?_ | refine block_ret ?_ | refine qx_ret ?_)
          refine ret_gen ([.int .i64 ((0 : Int)), .int .i64 ((0 : Int)), .int .i64 ((2 : Int))]) hE (by rw [show Try.f31.results.toList = [.tmp 2, .tmp 3, .tmp 4] from rfl]; exact ⟨_, _, rfl, rfl, ⟨_, _, rfl, rfl, ⟨_, _, rfl, rfl, rfl⟩⟩⟩) ?_
          exact ⟨_, rfl, D618, rfl, hS⟩
        · replace hf := cond_f hb hf
          clear hb
          refine wpIn_skip ?_
          refine wpIn_seq ?_
          refine region_at ?_
          refine seg 7 (j := 7) [(5, .int .i64 ((bor .i64 (IntKind.wrap .i64 (y523.1 * 2 ^ 7)) (IntKind.wrap .i64 (Int.tmod x600 128))))), (6, .int .i64 (y523.2)), (7, .int .u8 (x600)), (8, .slice A2 (List.length (x1)) c3), (9, .int .i64 (((List.length (x1) : Nat) : Int))), (10, .int .i64 (y523.2)), (24, .bool (y617))] hE (by kernel_rfl) rfl (fun a hE => ?_)
          refine at_end rfl ?_
          refine wpIn_seq ?_
          refine region_at ?_
          refine seg 2 (j := 2) [(5, .int .i64 ((bor .i64 (IntKind.wrap .i64 (y523.1 * 2 ^ 7)) (IntKind.wrap .i64 (Int.tmod x600 128))))), (6, .int .i64 (y523.2)), (7, .int .u8 (x600)), (8, .slice A2 (List.length (x1)) c3), (9, .int .i64 (((List.length (x1) : Nat) : Int))), (10, .int .i64 (y523.2)), (24, .bool (y617)), (32, .bool ((decide (x600 < (128 : Int)))))] hE (by kernel_rfl) rfl (fun a hE => ?_)
          refine at_end rfl ?_
          refine cond_split hE (b := (decide (x600 < (128 : Int)))) rfl (fun hb => ?_) (fun hb => ?_)
          · replace hf := cond_t hb hf
            clear hb
            refine wpIn_seq ?_
            refine wpIn_seq ?_
            refine region_at ?_
            refine seg 2 (j := 2) [(5, .int .i64 ((bor .i64 (IntKind.wrap .i64 (y523.1 * 2 ^ 7)) (IntKind.wrap .i64 (Int.tmod x600 128))))), (6, .int .i64 (y523.2)), (7, .int .u8 (x600)), (8, .slice A2 (List.length (x1)) c3), (9, .int .i64 (((List.length (x1) : Nat) : Int))), (10, .int .i64 (y523.2)), (24, .bool (y617)), (32, .bool ((decide (x600 < (128 : Int))))), (34, .bool ((decide ((2147483647 : Int) < (bor .i64 (IntKind.wrap .i64 (y523.1 * 2 ^ 7)) (IntKind.wrap .i64 (Int.tmod x600 128)))))))] hE (by kernel_rfl) rfl (fun a hE => ?_)
            refine at_end rfl ?_
            refine cond_split hE (b := (decide ((2147483647 : Int) < (bor .i64 (IntKind.wrap .i64 (y523.1 * 2 ^ 7)) (IntKind.wrap .i64 (Int.tmod x600 128)))))) rfl (fun hb => ?_) (fun hb => ?_)
            · replace hf := cond_t hb hf
              clear hb
              refine wpIn_seq ?_
              refine region_at ?_
              refine seg 3 (j := 3) [(2, .int .i64 ((0 : Int))), (3, .int .i64 ((0 : Int))), (4, .int .i64 ((2 : Int))), (5, .int .i64 ((bor .i64 (IntKind.wrap .i64 (y523.1 * 2 ^ 7)) (IntKind.wrap .i64 (Int.tmod x600 128))))), (6, .int .i64 (y523.2)), (7, .int .u8 (x600)), (8, .slice A2 (List.length (x1)) c3), (9, .int .i64 (((List.length (x1) : Nat) : Int))), (10, .int .i64 (y523.2)), (24, .bool (y617)), (32, .bool ((decide (x600 < (128 : Int))))), (34, .bool ((decide ((2147483647 : Int) < (bor .i64 (IntKind.wrap .i64 (y523.1 * 2 ^ 7)) (IntKind.wrap .i64 (Int.tmod x600 128)))))))] hE (by kernel_rfl) rfl (fun a hE => ?_)
              refine at_end rfl ?_
              refine wpIn_ret ?_
              obtain rfl := Option.some.inj hf
              replace hf := hs577
              obtain rfl := Option.some.inj hf
              repeat (with_reducible first | refine then_ret ?_ | refine block_ret ?_ | refine qx_ret ?_)
              refine ret_gen ([.int .i64 ((0 : Int)), .int .i64 ((0 : Int)), .int .i64 ((2 : Int))]) hE (by rw [show Try.f31.results.toList = [.tmp 2, .tmp 3, .tmp 4] from rfl]; exact ⟨_, _, rfl, rfl, ⟨_, _, rfl, rfl, ⟨_, _, rfl, rfl, rfl⟩⟩⟩) ?_
              exact ⟨_, rfl, D618, rfl, hS⟩
            · replace hf := cond_f hb hf
              clear hb
              refine wpIn_skip ?_
              refine wpIn_seq ?_
              refine region_at ?_
              refine seg 6 (j := 6) [(2, .int .i64 ((bor .i64 (IntKind.wrap .i64 (y523.1 * 2 ^ 7)) (IntKind.wrap .i64 (Int.tmod x600 128))))), (3, .int .i64 ((IntKind.wrap .i64 (y523.2 + (1 : Int))))), (4, .int .i64 ((0 : Int))), (5, .int .i64 ((bor .i64 (IntKind.wrap .i64 (y523.1 * 2 ^ 7)) (IntKind.wrap .i64 (Int.tmod x600 128))))), (6, .int .i64 (y523.2)), (7, .int .u8 (x600)), (8, .slice A2 (List.length (x1)) c3), (9, .int .i64 (((List.length (x1) : Nat) : Int))), (10, .int .i64 (y523.2)), (24, .bool (y617)), (32, .bool ((decide (x600 < (128 : Int))))), (34, .bool ((decide ((2147483647 : Int) < (bor .i64 (IntKind.wrap .i64 (y523.1 * 2 ^ 7)) (IntKind.wrap .i64 (Int.tmod x600 128)))))))] hE (by kernel_rfl) rfl (fun a hE => ?_)
              refine at_end rfl ?_
              refine wpIn_ret ?_
              obtain rfl := Option.some.inj hf
              replace hf := hs577
              obtain rfl := Option.some.inj hf
              repeat (with_reducible first | refine then_ret ?_ | refine block_ret ?_ | refine qx_ret ?_)
              refine ret_gen ([.int .i64 ((bor .i64 (IntKind.wrap .i64 (y523.1 * 2 ^ 7)) (IntKind.wrap .i64 (Int.tmod x600 128)))), .int .i64 ((IntKind.wrap .i64 (y523.2 + (1 : Int)))), .int .i64 ((0 : Int))]) hE (by rw [show Try.f31.results.toList = [.tmp 2, .tmp 3, .tmp 4] from rfl]; exact ⟨_, _, rfl, rfl, ⟨_, _, rfl, rfl, ⟨_, _, rfl, rfl, rfl⟩⟩⟩) ?_
              exact ⟨_, rfl, D618, rfl, hS⟩
          · replace hf := cond_f hb hf
            clear hb
            refine wpIn_skip ?_
            refine region_at ?_
            refine seg 2 (j := 2) [(5, .int .i64 ((bor .i64 (IntKind.wrap .i64 (y523.1 * 2 ^ 7)) (IntKind.wrap .i64 (Int.tmod x600 128))))), (6, .int .i64 (y523.2)), (7, .int .u8 (x600)), (8, .slice A2 (List.length (x1)) c3), (9, .int .i64 (((List.length (x1) : Nat) : Int))), (10, .int .i64 ((IntKind.wrap .i64 (y523.2 + (1 : Int))))), (24, .bool (y617)), (32, .bool ((decide (x600 < (128 : Int)))))] hE (by kernel_rfl) rfl (fun a hE => ?_)
            refine at_end rfl ?_
            exact ⟨((bor .i64 (IntKind.wrap .i64 (y523.1 * 2 ^ 7)) (IntKind.wrap .i64 (Int.tmod x600 128))), (IntKind.wrap .i64 (y523.2 + (1 : Int)))), D618, hE.weak (by kernel_rfl), hS, (Snap.le.trans le525 le619), hf⟩
    · replace hf := cond_f hb hf
      clear hb
      refine wpIn_exit ?_
      obtain rfl := Option.some.inj hf
      exact ⟨(), D524, hE.weak (by kernel_rfl), hS, le525, rfl⟩

set_option maxRecDepth 100000 in
set_option maxHeartbeats 4000000 in
theorem wire_Reader_Fail.calls {K : Nat} {g w0 : World} {D0 : Snap} {x3 : Int} {x4 : T_inspeximus_wire_Reader} {b1 : Nat} {A5 : Option Addr} {c6 : Nat} {r : (T_inspeximus_wire_Reader)} (hf : wire_Reader_Fail.f K x3 x4 = some r) (hS0 : St g w0 D0 [bx b1 49 ([.slice A5 (List.length (x4.fB)) c6] ++ ([.int .i64 (x4.fBad)]))]) (h7 : Sl (kdInt .u8) D0 A5 c6 (x4.fB)) :
    CallsIn (Fw none) 0 Try.prog 25 (List.toArray [.pointer (some ⟨b1, 0, none⟩), .int .i64 (x3)]) w0 (fun e w' => ∃ v, e = .returned v ∧ ∃ (D1 : Snap) (A13 : Option Addr) (c14 : Nat), v = .tuple #[] ∧ Stp g w0 D0 [bx b1 49 ([.slice A5 (List.length (x4.fB)) c6] ++ ([.int .i64 (x4.fBad)]))] w' D1 [bx b1 49 ([.slice A13 (List.length (r.fB)) c14] ++ ([.int .i64 (r.fBad)]))] ∧ Sl (kdInt .u8) D1 A13 c14 (r.fB)) := by
  unfold wire_Reader_Fail.f at hf
  have hS := Stp.refl hS0
  clear hS0
  refine calls_body (n := 24) Try.func25 rfl Try.ntmps25 rfl (fun a hE => ?_)
  have hE : Env a 24 [] [(0, .pointer (some ⟨b1, 0, none⟩)), (1, .int .i64 (x3))] := hE
  obtain ⟨j19, hj20, hf⟩ := jn_elim hf
  refine seq_join (fun a w => ∃ (y16 : Bool), ∃ (D17 : Snap), Env a 24 [] [(0, .pointer (some ⟨b1, 0, none⟩)), (1, .int .i64 (x3)), (16, .bool (y16))] ∧ Stp g w0 D0 [bx b1 49 ([.slice A5 (List.length (x4.fB)) c6] ++ ([.int .i64 (x4.fBad)]))] w D17 [bx b1 49 ([.slice A5 (List.length (x4.fB)) c6] ++ ([.int .i64 (x4.fBad)]))] ∧ Snap.le D0 D17 ∧ j19 y16 = some r) ?_ ?_
  · clear hj20
    refine region_at ?_
    refine seg 1 (j := 1) [(0, .pointer (some ⟨b1, 0, none⟩)), (1, .int .i64 (x3)), (4, .pointer (some ⟨b1, 0, none⟩))] hE (by kernel_rfl) rfl (fun a hE => ?_)
    refine at_op (op_tk hE (tk_bin (r := .bool true) rfl rfl rfl rfl hE rfl rfl rfl (neptr_run (by kernel_rfl) _) (fun a hE => ?_))) rfl
    refine seg 3 (j := 5) [(0, .pointer (some ⟨b1, 0, none⟩)), (1, .int .i64 (x3)), (6, .bool true), (8, .pointer (some ⟨b1, 0, none⟩))] hE (by kernel_rfl) rfl (fun a hE => ?_)
    refine at_op (op_tk hE (g_fieldAddr (fo := 1) (ft := 37) 1 rfl rfl rfl rfl hE rfl rfl (by kernel_rfl) rfl (fun a hE => ?_))) rfl
    refine at_op (op_tk hE (tk_load 0 (.int .i64 (x4.fBad)) rfl rfl rfl rfl hE rfl hS rfl rfl (by kernel_rfl) List.not_mem_nil (fun a hE => ?_))) rfl
    refine seg 3 (j := 10) [(0, .pointer (some ⟨b1, 0, none⟩)), (1, .int .i64 (x3)), (13, .bool ((decide (x4.fBad = (0 : Int)))))] hE (by kernel_rfl) rfl (fun a hE => ?_)
    cases hb : (decide (x4.fBad = (0 : Int)))
    · replace hf := cond_f hb hf
      have hE := hE.know (t := 13) (b := (decide (x4.fBad = (0 : Int)))) (b' := false) rfl hb
      clear hb
      refine seg 3 (j := 13) [(0, .pointer (some ⟨b1, 0, none⟩)), (1, .int .i64 (x3)), (16, .bool false)] hE (by kernel_rfl) rfl (fun a hE => ?_)
      refine at_end rfl ?_
      exact ⟨false, D0, hE.weak (by kernel_rfl), hS, Snap.le.refl _, hf⟩
    · replace hf := cond_t hb hf
      have hE := hE.know (t := 13) (b := (decide (x4.fBad = (0 : Int)))) (b' := true) rfl hb
      clear hb
      refine seg 3 (j := 13) [(0, .pointer (some ⟨b1, 0, none⟩)), (1, .int .i64 (x3)), (16, .bool ((!decide (x3 = (0 : Int)))))] hE (by kernel_rfl) rfl (fun a hE => ?_)
      refine at_end rfl ?_
      exact ⟨(!decide (x3 = (0 : Int))), D0, hE.weak (by kernel_rfl), hS, Snap.le.refl _, hf⟩
  · clear hE hS
    rintro a w ⟨y16, D17, hE, hS, le18, hf⟩
    replace hf := hj20 _ hf
    clear hj20
    refine cond_split hE (b := y16) rfl (fun hb => ?_) (fun hb => ?_)
    · replace hf := cond_t hb hf
      clear hb
      refine region_at ?_
      refine seg 4 (j := 4) [(0, .pointer (some ⟨b1, 0, none⟩)), (1, .int .i64 (x3)), (16, .bool (y16)), (18, .pointer (some ⟨b1, 0, none⟩)), (19, .int .i64 (x3)), (20, .pointer (some ⟨b1, 0, none⟩))] hE (by kernel_rfl) rfl (fun a hE => ?_)
      refine at_op (op_tk hE (g_fieldAddr (fo := 0) (ft := 22) 0 rfl rfl rfl rfl hE rfl rfl (by kernel_rfl) rfl (fun a hE => ?_))) rfl
      refine at_op (op_store (v := .slice none 0 0) ([.slice none 0 0] ++ ([.int .i64 (x4.fBad)])) rfl rfl rfl rfl hE hS rfl rfl (by kernel_rfl) (by kernel_rfl) (by kernel_rfl) (by kernel_rfl) (by kernel_rfl) (fun a w _ hE hS => ?_)) rfl
      refine seg 1 (j := 7) [(0, .pointer (some ⟨b1, 0, none⟩)), (1, .int .i64 (x3)), (16, .bool (y16)), (19, .int .i64 (x3)), (22, .pointer (some ⟨b1, 0, none⟩))] hE (by kernel_rfl) rfl (fun a hE => ?_)
      refine at_op (op_tk hE (g_fieldAddr (fo := 1) (ft := 37) 1 rfl rfl rfl rfl hE rfl rfl (by kernel_rfl) rfl (fun a hE => ?_))) rfl
      refine at_op (op_store (v := .int .i64 (x3)) ([.slice none 0 0] ++ ([.int .i64 (x3)])) rfl rfl rfl rfl hE hS rfl rfl (by kernel_rfl) (by kernel_rfl) (by kernel_rfl) (by kernel_rfl) (by kernel_rfl) (fun a w _ hE hS => ?_)) rfl
      refine at_end rfl ?_
      obtain rfl := Option.some.inj hf
      repeat (with_reducible first | refine then_ret ?_ | refine block_ret ?_ | refine qx_ret ?_)
      refine ret_genN ([]) hE (by rw [show Try.f25.results.toList = [] from rfl]; exact rfl) ?_
      exact ⟨_, rfl, D17, none, 0, rfl, hS, (Sl.nil (kdInt .u8) D17)⟩
    · replace hf := cond_f hb hf
      clear hb
      refine wpIn_skip ?_
      obtain rfl := Option.some.inj hf
      repeat (with_reducible first | refine then_ret ?_ | refine block_ret ?_ | refine qx_ret ?_)
      refine ret_genN ([]) hE (by rw [show Try.f25.results.toList = [] from rfl]; exact rfl) ?_
      exact ⟨_, rfl, D17, A5, c6, rfl, hS, (h7.mono le18)⟩

set_option maxRecDepth 100000 in
set_option maxHeartbeats 4000000 in
theorem wire_take_int.calls {K : Nat} {g w0 : World} {D0 : Snap} {x3 : T_inspeximus_wire_Reader} {b1 : Nat} {A4 : Option Addr} {c5 : Nat} {r : (Int × T_inspeximus_wire_Reader)} (hf : wire_take_int.f K x3 = some r) (hS0 : St g w0 D0 [bx b1 49 ([.slice A4 (List.length (x3.fB)) c5] ++ ([.int .i64 (x3.fBad)]))]) (h6 : Sl (kdInt .u8) D0 A4 c5 (x3.fB)) :
    CallsIn (Fw none) 0 Try.prog 30 (List.toArray [.pointer (some ⟨b1, 0, none⟩), .func (.func 31) #[] #[]]) w0 (fun e w' => ∃ v, e = .returned v ∧ ∃ (D1 : Snap) (A43 : Option Addr) (c44 : Nat), v = .int .i64 (r.1) ∧ Stp g w0 D0 [bx b1 49 ([.slice A4 (List.length (x3.fB)) c5] ++ ([.int .i64 (x3.fBad)]))] w' D1 [bx b1 49 ([.slice A43 (List.length (r.2.fB)) c44] ++ ([.int .i64 (r.2.fBad)]))] ∧ Sl (kdInt .u8) D1 A43 c44 (r.2.fB)) := by
  unfold wire_take_int.f at hf
  have hS := Stp.refl hS0
  clear hS0
  refine calls_body (n := 39) Try.func30 rfl Try.ntmps30 rfl (fun a hE => ?_)
  have hE : Env a 39 [] [(0, .pointer (some ⟨b1, 0, none⟩)), (1, .func (.func 31) #[] #[])] := hE
  refine wpIn_seq ?_
  refine region_at ?_
  refine seg 1 (j := 1) [(0, .pointer (some ⟨b1, 0, none⟩)), (1, .func (.func 31) #[] #[]), (4, .int .i64 ((0 : Int)))] hE (by kernel_rfl) rfl (fun a hE => ?_)
  refine at_end rfl ?_
  refine wpIn_seq ?_
  refine region_at ?_
  refine seg 1 (j := 1) [(0, .pointer (some ⟨b1, 0, none⟩)), (1, .func (.func 31) #[] #[]), (4, .int .i64 ((0 : Int))), (5, .int .i64 ((0 : Int)))] hE (by kernel_rfl) rfl (fun a hE => ?_)
  refine at_end rfl ?_
  refine wpIn_seq ?_
  refine wpIn_seq ?_
  refine region_at ?_
  refine seg 1 (j := 1) [(0, .pointer (some ⟨b1, 0, none⟩)), (1, .func (.func 31) #[] #[]), (4, .int .i64 ((0 : Int))), (5, .int .i64 ((0 : Int))), (9, .pointer (some ⟨b1, 0, none⟩))] hE (by kernel_rfl) rfl (fun a hE => ?_)
  obtain ⟨r51, h52, hf⟩ := bind_some hf
  refine at_op (op_call rfl rfl rfl rfl hE rfl rfl rfl rfl (by kernel_rfl) (wire_Reader_Bad.calls (g := g) h52 (hS.st.fore (L := [bx b1 49 ([.slice A4 (List.length (x3.fB)) c5] ++ ([.int .i64 (x3.fBad)]))])) h6) (fun a v w hR hE => ?_)) rfl
  obtain ⟨D53, rfl, hS1⟩ := hR
  have le55 := hS1.dle
  have hS : Stp g w0 D0 [bx b1 49 ([.slice A4 (List.length (x3.fB)) c5] ++ ([.int .i64 (x3.fBad)]))] w D53 [bx b1 49 ([.slice A4 (List.length (x3.fB)) c5] ++ ([.int .i64 (x3.fBad)]))] := hS.call (L := [bx b1 49 ([.slice A4 (List.length (x3.fB)) c5] ++ ([.int .i64 (x3.fBad)]))]) (R := []) hS1
  clear hS1
  refine seg 1 (j := 3) [(0, .pointer (some ⟨b1, 0, none⟩)), (1, .func (.func 31) #[] #[]), (4, .int .i64 ((0 : Int))), (5, .int .i64 ((0 : Int))), (11, .bool ((!decide (r51 = (0 : Int)))))] hE (by kernel_rfl) rfl (fun a hE => ?_)
  refine at_end rfl ?_
  refine cond_split hE (b := (!decide (r51 = (0 : Int)))) rfl (fun hb => ?_) (fun hb => ?_)
  · replace hf := cond_t hb hf
    clear hb
    refine wpIn_seq ?_
    refine region_at ?_
    refine seg 2 (j := 2) [(0, .pointer (some ⟨b1, 0, none⟩)), (1, .func (.func 31) #[] #[]), (4, .int .i64 ((0 : Int))), (5, .int .i64 ((0 : Int))), (11, .bool ((!decide (r51 = (0 : Int)))))] hE (by kernel_rfl) rfl (fun a hE => ?_)
    refine at_end rfl ?_
    refine wpIn_ret ?_
    obtain rfl := Option.some.inj hf
    repeat (with_reducible first | refine then_ret ?_ | refine block_ret ?_ | refine qx_ret ?_)
    refine ret_gen ([.int .i64 ((0 : Int))]) hE (by rw [show Try.f30.results.toList = [.tmp 4] from rfl]; exact ⟨_, _, rfl, rfl, rfl⟩) ?_
    exact ⟨_, rfl, D53, A4, c5, rfl, hS, (h6.mono le55)⟩
  · replace hf := cond_f hb hf
    clear hb
    refine wpIn_skip ?_
    refine wpIn_seq ?_
    refine region_at ?_
    refine seg 3 (j := 3) [(0, .pointer (some ⟨b1, 0, none⟩)), (1, .func (.func 31) #[] #[]), (4, .int .i64 ((0 : Int))), (5, .int .i64 ((0 : Int))), (11, .bool ((!decide (r51 = (0 : Int))))), (14, .func (.func 31) #[] #[]), (16, .pointer (some ⟨b1, 0, none⟩))] hE (by kernel_rfl) rfl (fun a hE => ?_)
    refine at_op (op_tk hE (g_fieldAddr (fo := 0) (ft := 22) 0 rfl rfl rfl rfl hE rfl rfl (by kernel_rfl) rfl (fun a hE => ?_))) rfl
    refine at_op (op_tk hE (tk_load 0 (.slice A4 (List.length (x3.fB)) c5) rfl rfl rfl rfl hE rfl hS rfl rfl (by kernel_rfl) List.not_mem_nil (fun a hE => ?_))) rfl
    obtain ⟨r56, h57, hf⟩ := bind_some hf
    refine at_op (op_call rfl rfl rfl rfl hE rfl rfl rfl rfl (by kernel_rfl) (wire_number.calls (g := g) h57 (hS.st.fore (L := [])) (h6.mono le55)) (fun a v w hR hE => ?_)) rfl
    obtain ⟨D58, rfl, hS1⟩ := hR
    have le60 := hS1.dle
    have hS : Stp g w0 D0 [bx b1 49 ([.slice A4 (List.length (x3.fB)) c5] ++ ([.int .i64 (x3.fBad)]))] w D58 [bx b1 49 ([.slice A4 (List.length (x3.fB)) c5] ++ ([.int .i64 (x3.fBad)]))] := hS.call (L := []) (R := [bx b1 49 ([.slice A4 (List.length (x3.fB)) c5] ++ ([.int .i64 (x3.fBad)]))]) hS1
    clear hS1
    refine seg 7 (j := 13) [(0, .pointer (some ⟨b1, 0, none⟩)), (1, .func (.func 31) #[] #[]), (4, .int .i64 ((0 : Int))), (5, .int .i64 ((0 : Int))), (6, .int .i64 (r56.1)), (7, .int .i64 (r56.2.1)), (8, .int .i64 (r56.2.2)), (11, .bool ((!decide (r51 = (0 : Int)))))] hE (by kernel_rfl) rfl (fun a hE => ?_)
    refine at_end rfl ?_
    refine wpIn_seq ?_
    refine wpIn_seq ?_
    refine region_at ?_
    refine seg 2 (j := 2) [(0, .pointer (some ⟨b1, 0, none⟩)), (1, .func (.func 31) #[] #[]), (4, .int .i64 ((0 : Int))), (5, .int .i64 ((0 : Int))), (6, .int .i64 (r56.1)), (7, .int .i64 (r56.2.1)), (8, .int .i64 (r56.2.2)), (11, .bool ((!decide (r51 = (0 : Int))))), (24, .bool ((!decide (r56.2.2 = (0 : Int)))))] hE (by kernel_rfl) rfl (fun a hE => ?_)
    refine at_end rfl ?_
    refine cond_split hE (b := (!decide (r56.2.2 = (0 : Int)))) rfl (fun hb => ?_) (fun hb => ?_)
    · replace hf := cond_t hb hf
      clear hb
      refine wpIn_seq ?_
      refine region_at ?_
      refine seg 2 (j := 2) [(0, .pointer (some ⟨b1, 0, none⟩)), (1, .func (.func 31) #[] #[]), (4, .int .i64 ((0 : Int))), (5, .int .i64 ((0 : Int))), (6, .int .i64 (r56.1)), (7, .int .i64 (r56.2.1)), (8, .int .i64 (r56.2.2)), (11, .bool ((!decide (r51 = (0 : Int))))), (24, .bool ((!decide (r56.2.2 = (0 : Int))))), (25, .pointer (some ⟨b1, 0, none⟩)), (26, .int .i64 (r56.2.2))] hE (by kernel_rfl) rfl (fun a hE => ?_)
      obtain ⟨r69, h70, hf⟩ := bind_some hf
      refine at_op (op_call rfl rfl rfl rfl hE rfl rfl rfl rfl (by kernel_rfl) (wire_Reader_Fail.calls (g := g) h70 (hS.st.fore (L := [bx b1 49 ([.slice A4 (List.length (x3.fB)) c5] ++ ([.int .i64 (x3.fBad)]))])) (h6.mono (Snap.le.trans le55 le60))) (fun a v w hR hE => ?_)) rfl
      obtain ⟨D71, A73, c74, rfl, hS1, h75⟩ := hR
      have le76 := hS1.dle
      have hS : Stp g w0 D0 [bx b1 49 ([.slice A4 (List.length (x3.fB)) c5] ++ ([.int .i64 (x3.fBad)]))] w D71 [bx b1 49 ([.slice A73 (List.length (r69.fB)) c74] ++ ([.int .i64 (r69.fBad)]))] := hS.call (L := [bx b1 49 ([.slice A4 (List.length (x3.fB)) c5] ++ ([.int .i64 (x3.fBad)]))]) (R := []) hS1
      clear hS1
      refine at_end rfl ?_
      refine wpIn_seq ?_
      refine region_at ?_
      refine seg 2 (j := 2) [(0, .pointer (some ⟨b1, 0, none⟩)), (1, .func (.func 31) #[] #[]), (4, .int .i64 ((0 : Int))), (5, .int .i64 ((0 : Int))), (6, .int .i64 (r56.1)), (7, .int .i64 (r56.2.1)), (8, .int .i64 (r56.2.2)), (11, .bool ((!decide (r51 = (0 : Int))))), (24, .bool ((!decide (r56.2.2 = (0 : Int)))))] hE (by kernel_rfl) rfl (fun a hE => ?_)
      refine at_end rfl ?_
      refine wpIn_ret ?_
      obtain rfl := Option.some.inj hf
      repeat (with_reducible first | refine then_ret ?_ | refine block_ret ?_ | refine qx_ret ?_)
      refine ret_gen ([.int .i64 ((0 : Int))]) hE (by rw [show Try.f30.results.toList = [.tmp 4] from rfl]; exact ⟨_, _, rfl, rfl, rfl⟩) ?_
      exact ⟨_, rfl, D71, A73, c74, rfl, hS, h75⟩
    · replace hf := cond_f hb hf
      clear hb
      refine wpIn_skip ?_
      refine wpIn_seq ?_
      refine region_at ?_
      refine seg 3 (j := 3) [(0, .pointer (some ⟨b1, 0, none⟩)), (1, .func (.func 31) #[] #[]), (4, .int .i64 ((0 : Int))), (5, .int .i64 ((0 : Int))), (6, .int .i64 (r56.1)), (7, .int .i64 (r56.2.1)), (8, .int .i64 (r56.2.2)), (11, .bool ((!decide (r51 = (0 : Int))))), (24, .bool ((!decide (r56.2.2 = (0 : Int))))), (29, .pointer (some ⟨b1, 0, none⟩)), (31, .pointer (some ⟨b1, 0, none⟩))] hE (by kernel_rfl) rfl (fun a hE => ?_)
      refine at_op (op_tk hE (g_fieldAddr (fo := 0) (ft := 22) 0 rfl rfl rfl rfl hE rfl rfl (by kernel_rfl) rfl (fun a hE => ?_))) rfl
      refine at_op (op_tk hE (tk_load 0 (.slice A4 (List.length (x3.fB)) c5) rfl rfl rfl rfl hE rfl hS rfl rfl (by kernel_rfl) List.not_mem_nil (fun a hE => ?_))) rfl
      refine seg 1 (j := 6) [(0, .pointer (some ⟨b1, 0, none⟩)), (1, .func (.func 31) #[] #[]), (4, .int .i64 ((0 : Int))), (5, .int .i64 ((0 : Int))), (6, .int .i64 (r56.1)), (7, .int .i64 (r56.2.1)), (8, .int .i64 (r56.2.2)), (11, .bool ((!decide (r51 = (0 : Int))))), (24, .bool ((!decide (r56.2.2 = (0 : Int))))), (29, .pointer (some ⟨b1, 0, none⟩)), (33, .slice A4 (List.length (x3.fB)) c5), (34, .int .i64 (r56.2.1))] hE (by kernel_rfl) rfl (fun a hE => ?_)
      obtain ⟨l77, h78, hf⟩ := bind_some hf
      refine at_op (op_tk hE (g_slice (K := (kdInt .u8)) (e := 5) (by_ := 1) (zl := 1) rfl rfl rfl rfl hE rfl rfl (by kernel_rfl) ⟨_, rfl⟩ rfl (h6.mono (Snap.le.trans le55 le60)) h78 (fun a A79 c80 hE h81 => ?_))) rfl
      refine seg 1 (j := 8) [(0, .pointer (some ⟨b1, 0, none⟩)), (1, .func (.func 31) #[] #[]), (4, .int .i64 ((0 : Int))), (5, .int .i64 ((0 : Int))), (6, .int .i64 (r56.1)), (7, .int .i64 (r56.2.1)), (8, .int .i64 (r56.2.2)), (11, .bool ((!decide (r51 = (0 : Int))))), (24, .bool ((!decide (r56.2.2 = (0 : Int))))), (35, .slice A79 (List.length (l77)) c80), (36, .pointer (some ⟨b1, 0, none⟩))] hE (by kernel_rfl) rfl (fun a hE => ?_)
      refine at_op (op_tk hE (g_fieldAddr (fo := 0) (ft := 22) 0 rfl rfl rfl rfl hE rfl rfl (by kernel_rfl) rfl (fun a hE => ?_))) rfl
      refine at_op (op_store (v := .slice A79 (List.length (l77)) c80) ([.slice A79 (List.length (l77)) c80] ++ ([.int .i64 (x3.fBad)])) rfl rfl rfl rfl hE hS rfl rfl (by kernel_rfl) (by kernel_rfl) (by kernel_rfl) (by kernel_rfl) (by kernel_rfl) (fun a w _ hE hS => ?_)) rfl
      refine at_end rfl ?_
      refine wpIn_seq ?_
      refine region_at ?_
      refine seg 2 (j := 2) [(0, .pointer (some ⟨b1, 0, none⟩)), (1, .func (.func 31) #[] #[]), (4, .int .i64 (r56.1)), (5, .int .i64 ((0 : Int))), (6, .int .i64 (r56.1)), (7, .int .i64 (r56.2.1)), (8, .int .i64 (r56.2.2)), (11, .bool ((!decide (r51 = (0 : Int))))), (24, .bool ((!decide (r56.2.2 = (0 : Int)))))] hE (by kernel_rfl) rfl (fun a hE => ?_)
      refine at_end rfl ?_
      refine wpIn_ret ?_
      obtain rfl := Option.some.inj hf
      repeat (with_reducible first | refine then_ret ?_ | refine block_ret ?_ | refine qx_ret ?_)
      refine ret_gen ([.int .i64 (r56.1)]) hE (by rw [show Try.f30.results.toList = [.tmp 4] from rfl]; exact ⟨_, _, rfl, rfl, rfl⟩) ?_
      exact ⟨_, rfl, D58, A79, c80, rfl, hS, h81⟩

set_option maxRecDepth 100000 in
set_option maxHeartbeats 4000000 in
theorem wire_Reader_Num.calls {K : Nat} {g w0 : World} {D0 : Snap} {x3 : T_inspeximus_wire_Reader} {b1 : Nat} {A4 : Option Addr} {c5 : Nat} {r : (Int × T_inspeximus_wire_Reader)} (hf : wire_Reader_Num.f K x3 = some r) (hS0 : St g w0 D0 [bx b1 49 ([.slice A4 (List.length (x3.fB)) c5] ++ ([.int .i64 (x3.fBad)]))]) (h6 : Sl (kdInt .u8) D0 A4 c5 (x3.fB)) :
    CallsIn (Fw none) 0 Try.prog 19 (List.toArray [.pointer (some ⟨b1, 0, none⟩)]) w0 (fun e w' => ∃ v, e = .returned v ∧ ∃ (D1 : Snap) (A15 : Option Addr) (c16 : Nat), v = .int .i64 (r.1) ∧ Stp g w0 D0 [bx b1 49 ([.slice A4 (List.length (x3.fB)) c5] ++ ([.int .i64 (x3.fBad)]))] w' D1 [bx b1 49 ([.slice A15 (List.length (r.2.fB)) c16] ++ ([.int .i64 (r.2.fBad)]))] ∧ Sl (kdInt .u8) D1 A15 c16 (r.2.fB)) := by
  unfold wire_Reader_Num.f at hf
  have hS := Stp.refl hS0
  clear hS0
  refine calls_body (n := 5) Try.func19 rfl Try.ntmps19 rfl (fun a hE => ?_)
  have hE : Env a 5 [] [(0, .pointer (some ⟨b1, 0, none⟩))] := hE
  refine wpIn_seq ?_
  refine region_at ?_
  refine seg 1 (j := 1) [(0, .pointer (some ⟨b1, 0, none⟩)), (2, .int .i64 ((0 : Int)))] hE (by kernel_rfl) rfl (fun a hE => ?_)
  refine at_end rfl ?_
  refine wpIn_seq ?_
  refine region_at ?_
  refine seg 1 (j := 1) [(0, .pointer (some ⟨b1, 0, none⟩)), (2, .int .i64 ((0 : Int))), (3, .pointer (some ⟨b1, 0, none⟩))] hE (by kernel_rfl) rfl (fun a hE => ?_)
  obtain ⟨r18, h19, hf⟩ := bind_some hf
  refine at_op (op_call rfl rfl rfl rfl hE rfl rfl rfl rfl (by kernel_rfl) (wire_take_int.calls (g := g) h19 (hS.st.fore (L := [bx b1 49 ([.slice A4 (List.length (x3.fB)) c5] ++ ([.int .i64 (x3.fBad)]))])) h6) (fun a v w hR hE => ?_)) rfl
  obtain ⟨D20, A22, c23, rfl, hS1, h24⟩ := hR
  have le25 := hS1.dle
  have hS : Stp g w0 D0 [bx b1 49 ([.slice A4 (List.length (x3.fB)) c5] ++ ([.int .i64 (x3.fBad)]))] w D20 [bx b1 49 ([.slice A22 (List.length (r18.2.fB)) c23] ++ ([.int .i64 (r18.2.fBad)]))] := hS.call (L := [bx b1 49 ([.slice A4 (List.length (x3.fB)) c5] ++ ([.int .i64 (x3.fBad)]))]) (R := []) hS1
  clear hS1
  refine seg 1 (j := 3) [(0, .pointer (some ⟨b1, 0, none⟩)), (2, .int .i64 (r18.1))] hE (by kernel_rfl) rfl (fun a hE => ?_)
  refine at_end rfl ?_
  refine wpIn_ret ?_
  obtain rfl := Option.some.inj hf
  repeat (with_reducible first | refine then_ret ?_ | refine block_ret ?_ | refine qx_ret ?_)
  refine ret_gen ([.int .i64 (r18.1)]) hE (by rw [show Try.f19.results.toList = [.tmp 2] from rfl]; exact ⟨_, _, rfl, rfl, rfl⟩) ?_
  exact ⟨_, rfl, D20, A22, c23, rfl, hS, h24⟩

set_option maxRecDepth 100000 in
set_option maxHeartbeats 4000000 in
theorem wire_Reader_Flag_1.calls {K : Nat} {g w0 : World} {D0 : Snap} {x1 : (List Int)} {A2 : Option Addr} {c3 : Nat} {r : (Bool × Int × Int)} (hf : wire_Reader_Flag_1.f K x1 = some r) (hS0 : St g w0 D0 []) (h4 : Sl (kdInt .u8) D0 A2 c3 (x1)) :
    CallsIn (Fw none) 0 Try.prog 33 (List.toArray [.slice A2 (List.length (x1)) c3]) w0 (fun e w' => ∃ v, e = .returned v ∧ ∃ (D1 : Snap), v = .tuple #[.bool (r.1), .int .i64 (r.2.1), .int .i64 (r.2.2)] ∧ Stp g w0 D0 [] w' D1 []) := by
  unfold wire_Reader_Flag_1.f at hf
  have hS := Stp.refl hS0
  clear hS0
  refine calls_body (n := 18) Try.func33 rfl Try.ntmps33 rfl (fun a hE => ?_)
  have hE : Env a 18 [] [(0, .slice A2 (List.length (x1)) c3)] := hE
  refine wpIn_seq ?_
  refine region_at ?_
  refine seg 3 (j := 3) [(0, .slice A2 (List.length (x1)) c3), (2, .bool false), (3, .int .i64 ((0 : Int))), (4, .int .i64 ((0 : Int)))] hE (by kernel_rfl) rfl (fun a hE => ?_)
  refine at_end rfl ?_
  refine wpIn_seq ?_
  refine wpIn_block ?_
  refine wpIn_seq ?_
  refine region_at ?_
  refine seg 4 (j := 4) [(0, .slice A2 (List.length (x1)) c3), (2, .bool false), (3, .int .i64 ((0 : Int))), (4, .int .i64 ((0 : Int))), (5, .bool ((decide (((List.length (x1) : Nat) : Int) = (0 : Int)))))] hE (by kernel_rfl) rfl (fun a hE => ?_)
  refine at_end rfl ?_
  refine cond_split hE (b := (decide (((List.length (x1) : Nat) : Int) = (0 : Int)))) rfl (fun hb => ?_) (fun hb => ?_)
  · replace hf := cond_t hb hf
    clear hb
    refine wpIn_seq ?_
    refine region_at ?_
    refine seg 3 (j := 3) [(0, .slice A2 (List.length (x1)) c3), (2, .bool false), (3, .int .i64 ((0 : Int))), (4, .int .i64 ((3 : Int))), (5, .bool ((decide (((List.length (x1) : Nat) : Int) = (0 : Int)))))] hE (by kernel_rfl) rfl (fun a hE => ?_)
    refine at_end rfl ?_
    refine wpIn_ret ?_
    obtain rfl := Option.some.inj hf
    repeat (with_reducible first | refine then_ret ?_ | refine block_ret ?_ | refine qx_ret ?_)
    refine ret_gen ([.bool false, .int .i64 ((0 : Int)), .int .i64 ((3 : Int))]) hE (by rw [show Try.f33.results.toList = [.tmp 2, .tmp 3, .tmp 4] from rfl]; exact ⟨_, _, rfl, rfl, ⟨_, _, rfl, rfl, ⟨_, _, rfl, rfl, rfl⟩⟩⟩) ?_
    exact ⟨_, rfl, D0, rfl, hS⟩
  · replace hf := cond_f hb hf
    clear hb
    refine wpIn_seq ?_
    refine region_at ?_
    refine seg 1 (j := 1) [(0, .slice A2 (List.length (x1)) c3), (2, .bool false), (3, .int .i64 ((0 : Int))), (4, .int .i64 ((0 : Int))), (5, .bool ((decide (((List.length (x1) : Nat) : Int) = (0 : Int))))), (10, .slice A2 (List.length (x1)) c3)] hE (by kernel_rfl) rfl (fun a hE => ?_)
    obtain ⟨x53, h54, hf⟩ := bind_some hf
    refine at_op (op_tk hE (g_index (K := (kdInt .u8)) (e := 5) (by_ := 1) (zl := 1) rfl rfl rfl rfl hE rfl rfl rfl (by kernel_rfl) rfl h4 h54 (fun a b55 o56 hE h57 => ?_))) rfl
    obtain ⟨cs58, C59, T60, fr61, hr62, hb63, hc64⟩ := h57
    obtain rfl := hr62
    refine at_op (op_tk hE (tk_loadX (off0 := o56) (off := 0) (c := [.int .u8 (x53)]) (.int .u8 (x53)) rfl rfl rfl rfl hE rfl hS rfl hb63 hc64 (by kernel_rfl) (fun _ h => absurd h List.not_mem_nil) (fun a hE => ?_))) rfl
    refine seg 2 (j := 5) [(0, .slice A2 (List.length (x1)) c3), (2, .bool false), (3, .int .i64 ((0 : Int))), (4, .int .i64 ((0 : Int))), (5, .bool ((decide (((List.length (x1) : Nat) : Int) = (0 : Int))))), (9, .bool ((decide ((1 : Int) < x53))))] hE (by kernel_rfl) rfl (fun a hE => ?_)
    refine at_end rfl ?_
    refine cond_split hE (b := (decide ((1 : Int) < x53))) rfl (fun hb => ?_) (fun hb => ?_)
    · replace hf := cond_t hb hf
      clear hb
      refine wpIn_seq ?_
      refine region_at ?_
      refine seg 3 (j := 3) [(0, .slice A2 (List.length (x1)) c3), (2, .bool false), (3, .int .i64 ((0 : Int))), (4, .int .i64 ((2 : Int))), (5, .bool ((decide (((List.length (x1) : Nat) : Int) = (0 : Int))))), (9, .bool ((decide ((1 : Int) < x53))))] hE (by kernel_rfl) rfl (fun a hE => ?_)
      refine at_end rfl ?_
      refine wpIn_ret ?_
      obtain rfl := Option.some.inj hf
      repeat (with_reducible first | refine then_ret ?_ | refine block_ret ?_ | refine qx_ret ?_)
      refine ret_gen ([.bool false, .int .i64 ((0 : Int)), .int .i64 ((2 : Int))]) hE (by rw [show Try.f33.results.toList = [.tmp 2, .tmp 3, .tmp 4] from rfl]; exact ⟨_, _, rfl, rfl, ⟨_, _, rfl, rfl, ⟨_, _, rfl, rfl, rfl⟩⟩⟩) ?_
      exact ⟨_, rfl, D0, rfl, hS⟩
    · replace hf := cond_f hb hf
      clear hb
      refine wpIn_skip ?_
      refine wpIn_seq ?_
      refine region_at ?_
      refine seg 1 (j := 1) [(0, .slice A2 (List.length (x1)) c3), (2, .bool false), (3, .int .i64 ((0 : Int))), (4, .int .i64 ((0 : Int))), (5, .bool ((decide (((List.length (x1) : Nat) : Int) = (0 : Int))))), (9, .bool ((decide ((1 : Int) < x53)))), (14, .slice A2 (List.length (x1)) c3)] hE (by kernel_rfl) rfl (fun a hE => ?_)
      obtain ⟨x65, h66, hf⟩ := bind_some hf
      refine at_op (op_tk hE (g_index (K := (kdInt .u8)) (e := 5) (by_ := 1) (zl := 1) rfl rfl rfl rfl hE rfl rfl rfl (by kernel_rfl) rfl h4 h66 (fun a b67 o68 hE h69 => ?_))) rfl
      obtain ⟨cs70, C71, T72, fr73, hr74, hb75, hc76⟩ := h69
      obtain rfl := hr74
      refine at_op (op_tk hE (tk_loadX (off0 := o68) (off := 0) (c := [.int .u8 (x65)]) (.int .u8 (x65)) rfl rfl rfl rfl hE rfl hS rfl hb75 hc76 (by kernel_rfl) (fun _ h => absurd h List.not_mem_nil) (fun a hE => ?_))) rfl
      refine seg 4 (j := 7) [(0, .slice A2 (List.length (x1)) c3), (2, .bool ((decide (x65 = (1 : Int))))), (3, .int .i64 ((1 : Int))), (4, .int .i64 ((0 : Int))), (5, .bool ((decide (((List.length (x1) : Nat) : Int) = (0 : Int))))), (9, .bool ((decide ((1 : Int) < x53))))] hE (by kernel_rfl) rfl (fun a hE => ?_)
      refine at_end rfl ?_
      refine wpIn_ret ?_
      obtain rfl := Option.some.inj hf
      repeat (with_reducible first | refine then_ret ?_ | refine block_ret ?_ | refine qx_ret ?_)
      refine ret_gen ([.bool ((decide (x65 = (1 : Int)))), .int .i64 ((1 : Int)), .int .i64 ((0 : Int))]) hE (by rw [show Try.f33.results.toList = [.tmp 2, .tmp 3, .tmp 4] from rfl]; exact ⟨_, _, rfl, rfl, ⟨_, _, rfl, rfl, ⟨_, _, rfl, rfl, rfl⟩⟩⟩) ?_
      exact ⟨_, rfl, D0, rfl, hS⟩

set_option maxRecDepth 100000 in
set_option maxHeartbeats 4000000 in
theorem wire_take_bool.calls {K : Nat} {g w0 : World} {D0 : Snap} {x3 : T_inspeximus_wire_Reader} {b1 : Nat} {A4 : Option Addr} {c5 : Nat} {r : (Bool × T_inspeximus_wire_Reader)} (hf : wire_take_bool.f K x3 = some r) (hS0 : St g w0 D0 [bx b1 49 ([.slice A4 (List.length (x3.fB)) c5] ++ ([.int .i64 (x3.fBad)]))]) (h6 : Sl (kdInt .u8) D0 A4 c5 (x3.fB)) :
    CallsIn (Fw none) 0 Try.prog 32 (List.toArray [.pointer (some ⟨b1, 0, none⟩), .func (.func 33) #[] #[]]) w0 (fun e w' => ∃ v, e = .returned v ∧ ∃ (D1 : Snap) (A43 : Option Addr) (c44 : Nat), v = .bool (r.1) ∧ Stp g w0 D0 [bx b1 49 ([.slice A4 (List.length (x3.fB)) c5] ++ ([.int .i64 (x3.fBad)]))] w' D1 [bx b1 49 ([.slice A43 (List.length (r.2.fB)) c44] ++ ([.int .i64 (r.2.fBad)]))] ∧ Sl (kdInt .u8) D1 A43 c44 (r.2.fB)) := by
  unfold wire_take_bool.f at hf
  have hS := Stp.refl hS0
  clear hS0
  refine calls_body (n := 39) Try.func32 rfl Try.ntmps32 rfl (fun a hE => ?_)
  have hE : Env a 39 [] [(0, .pointer (some ⟨b1, 0, none⟩)), (1, .func (.func 33) #[] #[])] := hE
  refine wpIn_seq ?_
  refine region_at ?_
  refine seg 1 (j := 1) [(0, .pointer (some ⟨b1, 0, none⟩)), (1, .func (.func 33) #[] #[]), (4, .bool false)] hE (by kernel_rfl) rfl (fun a hE => ?_)
  refine at_end rfl ?_
  refine wpIn_seq ?_
  refine region_at ?_
  refine seg 1 (j := 1) [(0, .pointer (some ⟨b1, 0, none⟩)), (1, .func (.func 33) #[] #[]), (4, .bool false), (5, .bool false)] hE (by kernel_rfl) rfl (fun a hE => ?_)
  refine at_end rfl ?_
  refine wpIn_seq ?_
  refine wpIn_seq ?_
  refine region_at ?_
  refine seg 1 (j := 1) [(0, .pointer (some ⟨b1, 0, none⟩)), (1, .func (.func 33) #[] #[]), (4, .bool false), (5, .bool false), (9, .pointer (some ⟨b1, 0, none⟩))] hE (by kernel_rfl) rfl (fun a hE => ?_)
  obtain ⟨r51, h52, hf⟩ := bind_some hf
  refine at_op (op_call rfl rfl rfl rfl hE rfl rfl rfl rfl (by kernel_rfl) (wire_Reader_Bad.calls (g := g) h52 (hS.st.fore (L := [bx b1 49 ([.slice A4 (List.length (x3.fB)) c5] ++ ([.int .i64 (x3.fBad)]))])) h6) (fun a v w hR hE => ?_)) rfl
  obtain ⟨D53, rfl, hS1⟩ := hR
  have le55 := hS1.dle
  have hS : Stp g w0 D0 [bx b1 49 ([.slice A4 (List.length (x3.fB)) c5] ++ ([.int .i64 (x3.fBad)]))] w D53 [bx b1 49 ([.slice A4 (List.length (x3.fB)) c5] ++ ([.int .i64 (x3.fBad)]))] := hS.call (L := [bx b1 49 ([.slice A4 (List.length (x3.fB)) c5] ++ ([.int .i64 (x3.fBad)]))]) (R := []) hS1
  clear hS1
  refine seg 1 (j := 3) [(0, .pointer (some ⟨b1, 0, none⟩)), (1, .func (.func 33) #[] #[]), (4, .bool false), (5, .bool false), (11, .bool ((!decide (r51 = (0 : Int)))))] hE (by kernel_rfl) rfl (fun a hE => ?_)
  refine at_end rfl ?_
  refine cond_split hE (b := (!decide (r51 = (0 : Int)))) rfl (fun hb => ?_) (fun hb => ?_)
  · replace hf := cond_t hb hf
    clear hb
    refine wpIn_seq ?_
    refine region_at ?_
    refine seg 2 (j := 2) [(0, .pointer (some ⟨b1, 0, none⟩)), (1, .func (.func 33) #[] #[]), (4, .bool false), (5, .bool false), (11, .bool ((!decide (r51 = (0 : Int)))))] hE (by kernel_rfl) rfl (fun a hE => ?_)
    refine at_end rfl ?_
    refine wpIn_ret ?_
    obtain rfl := Option.some.inj hf
    repeat (with_reducible first | refine then_ret ?_ | refine block_ret ?_ | refine qx_ret ?_)
    refine ret_gen ([.bool false]) hE (by rw [show Try.f32.results.toList = [.tmp 4] from rfl]; exact ⟨_, _, rfl, rfl, rfl⟩) ?_
    exact ⟨_, rfl, D53, A4, c5, rfl, hS, (h6.mono le55)⟩
  · replace hf := cond_f hb hf
    clear hb
    refine wpIn_skip ?_
    refine wpIn_seq ?_
    refine region_at ?_
    refine seg 3 (j := 3) [(0, .pointer (some ⟨b1, 0, none⟩)), (1, .func (.func 33) #[] #[]), (4, .bool false), (5, .bool false), (11, .bool ((!decide (r51 = (0 : Int))))), (14, .func (.func 33) #[] #[]), (16, .pointer (some ⟨b1, 0, none⟩))] hE (by kernel_rfl) rfl (fun a hE => ?_)
    refine at_op (op_tk hE (g_fieldAddr (fo := 0) (ft := 22) 0 rfl rfl rfl rfl hE rfl rfl (by kernel_rfl) rfl (fun a hE => ?_))) rfl
    refine at_op (op_tk hE (tk_load 0 (.slice A4 (List.length (x3.fB)) c5) rfl rfl rfl rfl hE rfl hS rfl rfl (by kernel_rfl) List.not_mem_nil (fun a hE => ?_))) rfl
    obtain ⟨r56, h57, hf⟩ := bind_some hf
    refine at_op (op_call rfl rfl rfl rfl hE rfl rfl rfl rfl (by kernel_rfl) (wire_Reader_Flag_1.calls (g := g) h57 (hS.st.fore (L := [])) (h6.mono le55)) (fun a v w hR hE => ?_)) rfl
    obtain ⟨D58, rfl, hS1⟩ := hR
    have le60 := hS1.dle
    have hS : Stp g w0 D0 [bx b1 49 ([.slice A4 (List.length (x3.fB)) c5] ++ ([.int .i64 (x3.fBad)]))] w D58 [bx b1 49 ([.slice A4 (List.length (x3.fB)) c5] ++ ([.int .i64 (x3.fBad)]))] := hS.call (L := []) (R := [bx b1 49 ([.slice A4 (List.length (x3.fB)) c5] ++ ([.int .i64 (x3.fBad)]))]) hS1
    clear hS1
    refine seg 7 (j := 13) [(0, .pointer (some ⟨b1, 0, none⟩)), (1, .func (.func 33) #[] #[]), (4, .bool false), (5, .bool false), (6, .bool (r56.1)), (7, .int .i64 (r56.2.1)), (8, .int .i64 (r56.2.2)), (11, .bool ((!decide (r51 = (0 : Int)))))] hE (by kernel_rfl) rfl (fun a hE => ?_)
    refine at_end rfl ?_
    refine wpIn_seq ?_
    refine wpIn_seq ?_
    refine region_at ?_
    refine seg 2 (j := 2) [(0, .pointer (some ⟨b1, 0, none⟩)), (1, .func (.func 33) #[] #[]), (4, .bool false), (5, .bool false), (6, .bool (r56.1)), (7, .int .i64 (r56.2.1)), (8, .int .i64 (r56.2.2)), (11, .bool ((!decide (r51 = (0 : Int))))), (24, .bool ((!decide (r56.2.2 = (0 : Int)))))] hE (by kernel_rfl) rfl (fun a hE => ?_)
    refine at_end rfl ?_
    refine cond_split hE (b := (!decide (r56.2.2 = (0 : Int)))) rfl (fun hb => ?_) (fun hb => ?_)
    · replace hf := cond_t hb hf
      clear hb
      refine wpIn_seq ?_
      refine region_at ?_
      refine seg 2 (j := 2) [(0, .pointer (some ⟨b1, 0, none⟩)), (1, .func (.func 33) #[] #[]), (4, .bool false), (5, .bool false), (6, .bool (r56.1)), (7, .int .i64 (r56.2.1)), (8, .int .i64 (r56.2.2)), (11, .bool ((!decide (r51 = (0 : Int))))), (24, .bool ((!decide (r56.2.2 = (0 : Int))))), (25, .pointer (some ⟨b1, 0, none⟩)), (26, .int .i64 (r56.2.2))] hE (by kernel_rfl) rfl (fun a hE => ?_)
      obtain ⟨r69, h70, hf⟩ := bind_some hf
      refine at_op (op_call rfl rfl rfl rfl hE rfl rfl rfl rfl (by kernel_rfl) (wire_Reader_Fail.calls (g := g) h70 (hS.st.fore (L := [bx b1 49 ([.slice A4 (List.length (x3.fB)) c5] ++ ([.int .i64 (x3.fBad)]))])) (h6.mono (Snap.le.trans le55 le60))) (fun a v w hR hE => ?_)) rfl
      obtain ⟨D71, A73, c74, rfl, hS1, h75⟩ := hR
      have le76 := hS1.dle
      have hS : Stp g w0 D0 [bx b1 49 ([.slice A4 (List.length (x3.fB)) c5] ++ ([.int .i64 (x3.fBad)]))] w D71 [bx b1 49 ([.slice A73 (List.length (r69.fB)) c74] ++ ([.int .i64 (r69.fBad)]))] := hS.call (L := [bx b1 49 ([.slice A4 (List.length (x3.fB)) c5] ++ ([.int .i64 (x3.fBad)]))]) (R := []) hS1
      clear hS1
      refine at_end rfl ?_
      refine wpIn_seq ?_
      refine region_at ?_
      refine seg 2 (j := 2) [(0, .pointer (some ⟨b1, 0, none⟩)), (1, .func (.func 33) #[] #[]), (4, .bool false), (5, .bool false), (6, .bool (r56.1)), (7, .int .i64 (r56.2.1)), (8, .int .i64 (r56.2.2)), (11, .bool ((!decide (r51 = (0 : Int))))), (24, .bool ((!decide (r56.2.2 = (0 : Int)))))] hE (by kernel_rfl) rfl (fun a hE => ?_)
      refine at_end rfl ?_
      refine wpIn_ret ?_
      obtain rfl := Option.some.inj hf
      repeat (with_reducible first | refine then_ret ?_ | refine block_ret ?_ | refine qx_ret ?_)
      refine ret_gen ([.bool false]) hE (by rw [show Try.f32.results.toList = [.tmp 4] from rfl]; exact ⟨_, _, rfl, rfl, rfl⟩) ?_
      exact ⟨_, rfl, D71, A73, c74, rfl, hS, h75⟩
    · replace hf := cond_f hb hf
      clear hb
      refine wpIn_skip ?_
      refine wpIn_seq ?_
      refine region_at ?_
      refine seg 3 (j := 3) [(0, .pointer (some ⟨b1, 0, none⟩)), (1, .func (.func 33) #[] #[]), (4, .bool false), (5, .bool false), (6, .bool (r56.1)), (7, .int .i64 (r56.2.1)), (8, .int .i64 (r56.2.2)), (11, .bool ((!decide (r51 = (0 : Int))))), (24, .bool ((!decide (r56.2.2 = (0 : Int))))), (29, .pointer (some ⟨b1, 0, none⟩)), (31, .pointer (some ⟨b1, 0, none⟩))] hE (by kernel_rfl) rfl (fun a hE => ?_)
      refine at_op (op_tk hE (g_fieldAddr (fo := 0) (ft := 22) 0 rfl rfl rfl rfl hE rfl rfl (by kernel_rfl) rfl (fun a hE => ?_))) rfl
      refine at_op (op_tk hE (tk_load 0 (.slice A4 (List.length (x3.fB)) c5) rfl rfl rfl rfl hE rfl hS rfl rfl (by kernel_rfl) List.not_mem_nil (fun a hE => ?_))) rfl
      refine seg 1 (j := 6) [(0, .pointer (some ⟨b1, 0, none⟩)), (1, .func (.func 33) #[] #[]), (4, .bool false), (5, .bool false), (6, .bool (r56.1)), (7, .int .i64 (r56.2.1)), (8, .int .i64 (r56.2.2)), (11, .bool ((!decide (r51 = (0 : Int))))), (24, .bool ((!decide (r56.2.2 = (0 : Int))))), (29, .pointer (some ⟨b1, 0, none⟩)), (33, .slice A4 (List.length (x3.fB)) c5), (34, .int .i64 (r56.2.1))] hE (by kernel_rfl) rfl (fun a hE => ?_)
      obtain ⟨l77, h78, hf⟩ := bind_some hf
      refine at_op (op_tk hE (g_slice (K := (kdInt .u8)) (e := 5) (by_ := 1) (zl := 1) rfl rfl rfl rfl hE rfl rfl (by kernel_rfl) ⟨_, rfl⟩ rfl (h6.mono (Snap.le.trans le55 le60)) h78 (fun a A79 c80 hE h81 => ?_))) rfl
      refine seg 1 (j := 8) [(0, .pointer (some ⟨b1, 0, none⟩)), (1, .func (.func 33) #[] #[]), (4, .bool false), (5, .bool false), (6, .bool (r56.1)), (7, .int .i64 (r56.2.1)), (8, .int .i64 (r56.2.2)), (11, .bool ((!decide (r51 = (0 : Int))))), (24, .bool ((!decide (r56.2.2 = (0 : Int))))), (35, .slice A79 (List.length (l77)) c80), (36, .pointer (some ⟨b1, 0, none⟩))] hE (by kernel_rfl) rfl (fun a hE => ?_)
      refine at_op (op_tk hE (g_fieldAddr (fo := 0) (ft := 22) 0 rfl rfl rfl rfl hE rfl rfl (by kernel_rfl) rfl (fun a hE => ?_))) rfl
      refine at_op (op_store (v := .slice A79 (List.length (l77)) c80) ([.slice A79 (List.length (l77)) c80] ++ ([.int .i64 (x3.fBad)])) rfl rfl rfl rfl hE hS rfl rfl (by kernel_rfl) (by kernel_rfl) (by kernel_rfl) (by kernel_rfl) (by kernel_rfl) (fun a w _ hE hS => ?_)) rfl
      refine at_end rfl ?_
      refine wpIn_seq ?_
      refine region_at ?_
      refine seg 2 (j := 2) [(0, .pointer (some ⟨b1, 0, none⟩)), (1, .func (.func 33) #[] #[]), (4, .bool (r56.1)), (5, .bool false), (6, .bool (r56.1)), (7, .int .i64 (r56.2.1)), (8, .int .i64 (r56.2.2)), (11, .bool ((!decide (r51 = (0 : Int))))), (24, .bool ((!decide (r56.2.2 = (0 : Int)))))] hE (by kernel_rfl) rfl (fun a hE => ?_)
      refine at_end rfl ?_
      refine wpIn_ret ?_
      obtain rfl := Option.some.inj hf
      repeat (with_reducible first | refine then_ret ?_ | refine block_ret ?_ | refine qx_ret ?_)
      refine ret_gen ([.bool (r56.1)]) hE (by rw [show Try.f32.results.toList = [.tmp 4] from rfl]; exact ⟨_, _, rfl, rfl, rfl⟩) ?_
      exact ⟨_, rfl, D58, A79, c80, rfl, hS, h81⟩

set_option maxRecDepth 100000 in
set_option maxHeartbeats 4000000 in
theorem wire_Reader_Flag.calls {K : Nat} {g w0 : World} {D0 : Snap} {x3 : T_inspeximus_wire_Reader} {b1 : Nat} {A4 : Option Addr} {c5 : Nat} {r : (Bool × T_inspeximus_wire_Reader)} (hf : wire_Reader_Flag.f K x3 = some r) (hS0 : St g w0 D0 [bx b1 49 ([.slice A4 (List.length (x3.fB)) c5] ++ ([.int .i64 (x3.fBad)]))]) (h6 : Sl (kdInt .u8) D0 A4 c5 (x3.fB)) :
    CallsIn (Fw none) 0 Try.prog 20 (List.toArray [.pointer (some ⟨b1, 0, none⟩)]) w0 (fun e w' => ∃ v, e = .returned v ∧ ∃ (D1 : Snap) (A15 : Option Addr) (c16 : Nat), v = .bool (r.1) ∧ Stp g w0 D0 [bx b1 49 ([.slice A4 (List.length (x3.fB)) c5] ++ ([.int .i64 (x3.fBad)]))] w' D1 [bx b1 49 ([.slice A15 (List.length (r.2.fB)) c16] ++ ([.int .i64 (r.2.fBad)]))] ∧ Sl (kdInt .u8) D1 A15 c16 (r.2.fB)) := by
  unfold wire_Reader_Flag.f at hf
  have hS := Stp.refl hS0
  clear hS0
  refine calls_body (n := 5) Try.func20 rfl Try.ntmps20 rfl (fun a hE => ?_)
  have hE : Env a 5 [] [(0, .pointer (some ⟨b1, 0, none⟩))] := hE
  refine wpIn_seq ?_
  refine region_at ?_
  refine seg 1 (j := 1) [(0, .pointer (some ⟨b1, 0, none⟩)), (2, .bool false)] hE (by kernel_rfl) rfl (fun a hE => ?_)
  refine at_end rfl ?_
  refine wpIn_seq ?_
  refine region_at ?_
  refine seg 1 (j := 1) [(0, .pointer (some ⟨b1, 0, none⟩)), (2, .bool false), (3, .pointer (some ⟨b1, 0, none⟩))] hE (by kernel_rfl) rfl (fun a hE => ?_)
  obtain ⟨r18, h19, hf⟩ := bind_some hf
  refine at_op (op_call rfl rfl rfl rfl hE rfl rfl rfl rfl (by kernel_rfl) (wire_take_bool.calls (g := g) h19 (hS.st.fore (L := [bx b1 49 ([.slice A4 (List.length (x3.fB)) c5] ++ ([.int .i64 (x3.fBad)]))])) h6) (fun a v w hR hE => ?_)) rfl
  obtain ⟨D20, A22, c23, rfl, hS1, h24⟩ := hR
  have le25 := hS1.dle
  have hS : Stp g w0 D0 [bx b1 49 ([.slice A4 (List.length (x3.fB)) c5] ++ ([.int .i64 (x3.fBad)]))] w D20 [bx b1 49 ([.slice A22 (List.length (r18.2.fB)) c23] ++ ([.int .i64 (r18.2.fBad)]))] := hS.call (L := [bx b1 49 ([.slice A4 (List.length (x3.fB)) c5] ++ ([.int .i64 (x3.fBad)]))]) (R := []) hS1
  clear hS1
  refine seg 1 (j := 3) [(0, .pointer (some ⟨b1, 0, none⟩)), (2, .bool (r18.1))] hE (by kernel_rfl) rfl (fun a hE => ?_)
  refine at_end rfl ?_
  refine wpIn_ret ?_
  obtain rfl := Option.some.inj hf
  repeat (with_reducible first | refine then_ret ?_ | refine block_ret ?_ | refine qx_ret ?_)
  refine ret_gen ([.bool (r18.1)]) hE (by rw [show Try.f20.results.toList = [.tmp 2] from rfl]; exact ⟨_, _, rfl, rfl, rfl⟩) ?_
  exact ⟨_, rfl, D20, A22, c23, rfl, hS, h24⟩

set_option maxRecDepth 100000 in
set_option maxHeartbeats 4000000 in
theorem wire_Reader_Bytes_1.calls {K : Nat} {g w0 : World} {D0 : Snap} {x3 : (List Int)} {x7 : Int} {b1 : Nat} {A4 : Option Addr} {c5 : Nat} {r : ((List Int) × Int × Int)} (hf : wire_Reader_Bytes_1.f K x3 x7 = some r) (hS0 : St g w0 D0 [bx b1 3 ([.int .i64 (x7)])]) (h6 : Sl (kdInt .u8) D0 A4 c5 (x3)) :
    CallsIn (Fw none) 0 Try.prog 35 (List.toArray [.slice A4 (List.length (x3)) c5, .pointer (some ⟨b1, 0, none⟩)]) w0 (fun e w' => ∃ v, e = .returned v ∧ ∃ (D1 : Snap) (A28 : Option Addr) (c29 : Nat) (q30 : Blk), v = .tuple #[.slice A28 (List.length (r.1)) c29, .int .i64 (r.2.1), .int .i64 (r.2.2)] ∧ Stp g w0 D0 [bx b1 3 ([.int .i64 (x7)])] w' D1 [bx b1 3 ([.int .i64 (x7)]), q30] ∧ OwnD (kdInt .u8) 5 D1 A28 c29 (r.1) q30) := by
  unfold wire_Reader_Bytes_1.f at hf
  have hS := Stp.refl hS0
  clear hS0
  refine calls_body (n := 40) Try.func35 rfl Try.ntmps35 rfl (fun a hE => ?_)
  have hE : Env a 40 [] [(0, .slice A4 (List.length (x3)) c5), (1, .pointer (some ⟨b1, 0, none⟩))] := hE
  refine wpIn_seq ?_
  refine region_at ?_
  refine seg 3 (j := 3) [(0, .slice A4 (List.length (x3)) c5), (1, .pointer (some ⟨b1, 0, none⟩)), (3, .slice none 0 0), (4, .int .i64 ((0 : Int))), (5, .int .i64 ((0 : Int)))] hE (by kernel_rfl) rfl (fun a hE => ?_)
  refine at_end rfl ?_
  refine wpIn_seq ?_
  refine region_at ?_
  refine seg 1 (j := 1) [(0, .slice A4 (List.length (x3)) c5), (1, .pointer (some ⟨b1, 0, none⟩)), (3, .slice none 0 0), (4, .int .i64 ((0 : Int))), (5, .int .i64 ((0 : Int))), (10, .slice A4 (List.length (x3)) c5)] hE (by kernel_rfl) rfl (fun a hE => ?_)
  obtain ⟨r33, h34, hf⟩ := bind_some hf
  refine at_op (op_call rfl rfl rfl rfl hE rfl rfl rfl rfl (by kernel_rfl) (wire_number.calls (g := g) h34 (hS.st.fore (L := [])) h6) (fun a v w hR hE => ?_)) rfl
  obtain ⟨D35, rfl, hS1⟩ := hR
  have le37 := hS1.dle
  have hS : Stp g w0 D0 [bx b1 3 ([.int .i64 (x7)])] w D35 [bx b1 3 ([.int .i64 (x7)])] := hS.call (L := []) (R := [bx b1 3 ([.int .i64 (x7)])]) hS1
  clear hS1
  refine seg 7 (j := 9) [(0, .slice A4 (List.length (x3)) c5), (1, .pointer (some ⟨b1, 0, none⟩)), (3, .slice none 0 0), (4, .int .i64 ((0 : Int))), (5, .int .i64 ((0 : Int))), (6, .int .i64 (r33.1)), (7, .int .i64 (r33.2.1)), (8, .int .i64 (r33.2.2))] hE (by kernel_rfl) rfl (fun a hE => ?_)
  refine at_end rfl ?_
  refine wpIn_seq ?_
  refine wpIn_block ?_
  refine wpIn_seq ?_
  refine region_at ?_
  refine seg 3 (j := 3) [(0, .slice A4 (List.length (x3)) c5), (1, .pointer (some ⟨b1, 0, none⟩)), (3, .slice none 0 0), (4, .int .i64 ((0 : Int))), (5, .int .i64 ((0 : Int))), (6, .int .i64 (r33.1)), (7, .int .i64 (r33.2.1)), (8, .int .i64 (r33.2.2)), (15, .bool ((!decide (r33.2.2 = (0 : Int)))))] hE (by kernel_rfl) rfl (fun a hE => ?_)
  refine at_end rfl ?_
  refine cond_split hE (b := (!decide (r33.2.2 = (0 : Int)))) rfl (fun hb => ?_) (fun hb => ?_)
  · replace hf := cond_t hb hf
    clear hb
    refine wpIn_seq ?_
    refine region_at ?_
    refine seg 4 (j := 4) [(0, .slice A4 (List.length (x3)) c5), (1, .pointer (some ⟨b1, 0, none⟩)), (3, .slice none 0 0), (4, .int .i64 ((0 : Int))), (5, .int .i64 (r33.2.2)), (6, .int .i64 (r33.1)), (7, .int .i64 (r33.2.1)), (8, .int .i64 (r33.2.2)), (15, .bool ((!decide (r33.2.2 = (0 : Int)))))] hE (by kernel_rfl) rfl (fun a hE => ?_)
    refine at_end rfl ?_
    refine wpIn_ret ?_
    have hS := hS.nils
    obtain rfl := Option.some.inj hf
    repeat (with_reducible first | refine then_ret ?_ | refine block_ret ?_ | refine qx_ret ?_)
    refine ret_gen ([.slice none 0 0, .int .i64 ((0 : Int)), .int .i64 (r33.2.2)]) hE (by rw [show Try.f35.results.toList = [.tmp 3, .tmp 4, .tmp 5] from rfl]; exact ⟨_, _, rfl, rfl, ⟨_, _, rfl, rfl, ⟨_, _, rfl, rfl, rfl⟩⟩⟩) ?_
    have hS : Stp g w0 D0 [bx b1 3 ([.int .i64 (x7)])] w D35 [bx b1 3 ([.int .i64 (x7)]), none] := hS.sel [1, 0] rfl (by decide)
    exact ⟨_, rfl, D35, none, 0, none, rfl, hS, (OwnD.nil (kdInt .u8) 5 D35)⟩
  · replace hf := cond_f hb hf
    clear hb
    refine wpIn_seq ?_
    refine region_at ?_
    refine seg 1 (j := 1) [(0, .slice A4 (List.length (x3)) c5), (1, .pointer (some ⟨b1, 0, none⟩)), (3, .slice none 0 0), (4, .int .i64 ((0 : Int))), (5, .int .i64 ((0 : Int))), (6, .int .i64 (r33.1)), (7, .int .i64 (r33.2.1)), (8, .int .i64 (r33.2.2)), (15, .bool ((!decide (r33.2.2 = (0 : Int))))), (20, .int .i64 (r33.1))] hE (by kernel_rfl) rfl (fun a hE => ?_)
    refine at_op (op_tk hE (tk_load 0 (.int .i64 (x7)) rfl rfl rfl rfl hE rfl hS rfl rfl (by kernel_rfl) List.not_mem_nil (fun a hE => ?_))) rfl
    refine seg 2 (j := 4) [(0, .slice A4 (List.length (x3)) c5), (1, .pointer (some ⟨b1, 0, none⟩)), (3, .slice none 0 0), (4, .int .i64 ((0 : Int))), (5, .int .i64 ((0 : Int))), (6, .int .i64 (r33.1)), (7, .int .i64 (r33.2.1)), (8, .int .i64 (r33.2.2)), (15, .bool ((!decide (r33.2.2 = (0 : Int))))), (19, .bool ((decide (x7 < r33.1))))] hE (by kernel_rfl) rfl (fun a hE => ?_)
    refine at_end rfl ?_
    refine cond_split hE (b := (decide (x7 < r33.1))) rfl (fun hb => ?_) (fun hb => ?_)
    · replace hf := cond_t hb hf
      clear hb
      refine wpIn_seq ?_
      refine region_at ?_
      refine seg 3 (j := 3) [(0, .slice A4 (List.length (x3)) c5), (1, .pointer (some ⟨b1, 0, none⟩)), (3, .slice none 0 0), (4, .int .i64 ((0 : Int))), (5, .int .i64 ((4 : Int))), (6, .int .i64 (r33.1)), (7, .int .i64 (r33.2.1)), (8, .int .i64 (r33.2.2)), (15, .bool ((!decide (r33.2.2 = (0 : Int))))), (19, .bool ((decide (x7 < r33.1))))] hE (by kernel_rfl) rfl (fun a hE => ?_)
      refine at_end rfl ?_
      refine wpIn_ret ?_
      have hS := hS.nils
      obtain rfl := Option.some.inj hf
      repeat (with_reducible first | refine then_ret ?_ | refine block_ret ?_ | refine qx_ret ?_)
      refine ret_gen ([.slice none 0 0, .int .i64 ((0 : Int)), .int .i64 ((4 : Int))]) hE (by rw [show Try.f35.results.toList = [.tmp 3, .tmp 4, .tmp 5] from rfl]; exact ⟨_, _, rfl, rfl, ⟨_, _, rfl, rfl, ⟨_, _, rfl, rfl, rfl⟩⟩⟩) ?_
      have hS : Stp g w0 D0 [bx b1 3 ([.int .i64 (x7)])] w D35 [bx b1 3 ([.int .i64 (x7)]), none] := hS.sel [1, 0] rfl (by decide)
      exact ⟨_, rfl, D35, none, 0, none, rfl, hS, (OwnD.nil (kdInt .u8) 5 D35)⟩
    · replace hf := cond_f hb hf
      clear hb
      refine wpIn_seq ?_
      refine region_at ?_
      refine seg 7 (j := 7) [(0, .slice A4 (List.length (x3)) c5), (1, .pointer (some ⟨b1, 0, none⟩)), (3, .slice none 0 0), (4, .int .i64 ((0 : Int))), (5, .int .i64 ((0 : Int))), (6, .int .i64 (r33.1)), (7, .int .i64 (r33.2.1)), (8, .int .i64 (r33.2.2)), (15, .bool ((!decide (r33.2.2 = (0 : Int))))), (19, .bool ((decide (x7 < r33.1)))), (23, .bool ((decide ((IntKind.wrap .i64 (((List.length (x3) : Nat) : Int) - r33.2.1)) < r33.1))))] hE (by kernel_rfl) rfl (fun a hE => ?_)
      refine at_end rfl ?_
      refine cond_split hE (b := (decide ((IntKind.wrap .i64 (((List.length (x3) : Nat) : Int) - r33.2.1)) < r33.1))) rfl (fun hb => ?_) (fun hb => ?_)
      · replace hf := cond_t hb hf
        clear hb
        refine wpIn_seq ?_
        refine region_at ?_
        refine seg 3 (j := 3) [(0, .slice A4 (List.length (x3)) c5), (1, .pointer (some ⟨b1, 0, none⟩)), (3, .slice none 0 0), (4, .int .i64 ((0 : Int))), (5, .int .i64 ((3 : Int))), (6, .int .i64 (r33.1)), (7, .int .i64 (r33.2.1)), (8, .int .i64 (r33.2.2)), (15, .bool ((!decide (r33.2.2 = (0 : Int))))), (19, .bool ((decide (x7 < r33.1)))), (23, .bool ((decide ((IntKind.wrap .i64 (((List.length (x3) : Nat) : Int) - r33.2.1)) < r33.1))))] hE (by kernel_rfl) rfl (fun a hE => ?_)
        refine at_end rfl ?_
        refine wpIn_ret ?_
        have hS := hS.nils
        obtain rfl := Option.some.inj hf
        repeat (with_reducible first | refine then_ret ?_ | refine block_ret ?_ | refine qx_ret ?_)
        refine ret_gen ([.slice none 0 0, .int .i64 ((0 : Int)), .int .i64 ((3 : Int))]) hE (by rw [show Try.f35.results.toList = [.tmp 3, .tmp 4, .tmp 5] from rfl]; exact ⟨_, _, rfl, rfl, ⟨_, _, rfl, rfl, ⟨_, _, rfl, rfl, rfl⟩⟩⟩) ?_
        have hS : Stp g w0 D0 [bx b1 3 ([.int .i64 (x7)])] w D35 [bx b1 3 ([.int .i64 (x7)]), none] := hS.sel [1, 0] rfl (by decide)
        exact ⟨_, rfl, D35, none, 0, none, rfl, hS, (OwnD.nil (kdInt .u8) 5 D35)⟩
      · replace hf := cond_f hb hf
        clear hb
        refine wpIn_skip ?_
        refine wpIn_seq ?_
        refine region_at ?_
        refine seg 5 (j := 5) [(0, .slice A4 (List.length (x3)) c5), (1, .pointer (some ⟨b1, 0, none⟩)), (3, .slice none 0 0), (4, .int .i64 ((0 : Int))), (5, .int .i64 ((0 : Int))), (6, .int .i64 (r33.1)), (7, .int .i64 (r33.2.1)), (8, .int .i64 (r33.2.2)), (15, .bool ((!decide (r33.2.2 = (0 : Int))))), (19, .bool ((decide (x7 < r33.1)))), (23, .bool ((decide ((IntKind.wrap .i64 (((List.length (x3) : Nat) : Int) - r33.2.1)) < r33.1)))), (30, .slice A4 (List.length (x3)) c5), (31, .int .i64 (r33.2.1)), (34, .int .i64 ((IntKind.wrap .i64 (r33.2.1 + r33.1))))] hE (by kernel_rfl) rfl (fun a hE => ?_)
        obtain ⟨l41, h42, hf⟩ := bind_some hf
        refine at_op (op_tk hE (g_slice (K := (kdInt .u8)) (e := 5) (by_ := 1) (zl := 1) rfl rfl rfl rfl hE rfl rfl (by kernel_rfl) ⟨_, rfl⟩ ⟨_, rfl⟩ (h6.mono le37) h42 (fun a A43 c44 hE h45 => ?_))) rfl
        obtain ⟨r46, h47, hf⟩ := bind_some hf
        refine at_op (op_call rfl rfl rfl rfl hE rfl rfl rfl rfl (by kernel_rfl) (slices_Clone_byte_byte.calls (g := g) h47 (hS.st.fore (L := [])) h45) (fun a v w hR hE => ?_)) rfl
        obtain ⟨D48, A50, c51, q52, rfl, hS1, h53⟩ := hR
        have le55 := hS1.dle
        have hS : Stp g w0 D0 [bx b1 3 ([.int .i64 (x7)])] w D48 [q52, bx b1 3 ([.int .i64 (x7)])] := hS.call (L := []) (R := [bx b1 3 ([.int .i64 (x7)])]) hS1
        clear hS1
        refine seg 6 (j := 13) [(0, .slice A4 (List.length (x3)) c5), (1, .pointer (some ⟨b1, 0, none⟩)), (3, .slice A50 (List.length (r46)) c51), (4, .int .i64 ((IntKind.wrap .i64 (r33.2.1 + r33.1)))), (5, .int .i64 ((0 : Int))), (6, .int .i64 (r33.1)), (7, .int .i64 (r33.2.1)), (8, .int .i64 (r33.2.2)), (15, .bool ((!decide (r33.2.2 = (0 : Int))))), (19, .bool ((decide (x7 < r33.1)))), (23, .bool ((decide ((IntKind.wrap .i64 (((List.length (x3) : Nat) : Int) - r33.2.1)) < r33.1))))] hE (by kernel_rfl) rfl (fun a hE => ?_)
        refine at_end rfl ?_
        refine wpIn_ret ?_
        obtain rfl := Option.some.inj hf
        repeat (with_reducible first | refine then_ret ?_ | refine block_ret ?_ | refine qx_ret ?_)
        refine ret_gen ([.slice A50 (List.length (r46)) c51, .int .i64 ((IntKind.wrap .i64 (r33.2.1 + r33.1))), .int .i64 ((0 : Int))]) hE (by rw [show Try.f35.results.toList = [.tmp 3, .tmp 4, .tmp 5] from rfl]; exact ⟨_, _, rfl, rfl, ⟨_, _, rfl, rfl, ⟨_, _, rfl, rfl, rfl⟩⟩⟩) ?_
        have hS : Stp g w0 D0 [bx b1 3 ([.int .i64 (x7)])] w D48 [bx b1 3 ([.int .i64 (x7)]), q52] := hS.sel [1, 0] rfl (by decide)
        exact ⟨_, rfl, D48, A50, c51, q52, rfl, hS, h53⟩

set_option maxRecDepth 100000 in
set_option maxHeartbeats 4000000 in
theorem wire_take_byte.calls {K : Nat} {g w0 : World} {D0 : Snap} {x5 : T_inspeximus_wire_Reader} {x9 : Int} {b1 : Nat} {b2 : Nat} {A6 : Option Addr} {c7 : Nat} {r : ((List Int) × T_inspeximus_wire_Reader)} (hf : wire_take_byte.f K x5 x9 = some r) (hS0 : St g w0 D0 [bx b1 49 ([.slice A6 (List.length (x5.fB)) c7] ++ ([.int .i64 (x5.fBad)])), bx b2 3 ([.int .i64 (x9)])]) (h8 : Sl (kdInt .u8) D0 A6 c7 (x5.fB)) :
    CallsIn (Fw none) 0 Try.prog 34 (List.toArray [.pointer (some ⟨b1, 0, none⟩), .func (.func 35) #[] #[.pointer (some ⟨b2, 0, none⟩)]]) w0 (fun e w' => ∃ v, e = .returned v ∧ ∃ (D1 : Snap) (A51 : Option Addr) (c52 : Nat) (q53 : Blk) (A56 : Option Addr) (c57 : Nat), v = .slice A51 (List.length (r.1)) c52 ∧ Stp g w0 D0 [bx b1 49 ([.slice A6 (List.length (x5.fB)) c7] ++ ([.int .i64 (x5.fBad)])), bx b2 3 ([.int .i64 (x9)])] w' D1 [bx b1 49 ([.slice A56 (List.length (r.2.fB)) c57] ++ ([.int .i64 (r.2.fBad)])), bx b2 3 ([.int .i64 (x9)]), q53] ∧ OwnD (kdInt .u8) 5 D1 A51 c52 (r.1) q53 ∧ Sl (kdInt .u8) D1 A56 c57 (r.2.fB)) := by
  unfold wire_take_byte.f at hf
  have hS := Stp.refl hS0
  clear hS0
  refine calls_body (n := 39) Try.func34 rfl Try.ntmps34 rfl (fun a hE => ?_)
  have hE : Env a 39 [] [(0, .pointer (some ⟨b1, 0, none⟩)), (1, .func (.func 35) #[] #[.pointer (some ⟨b2, 0, none⟩)])] := hE
  refine wpIn_seq ?_
  refine region_at ?_
  refine seg 1 (j := 1) [(0, .pointer (some ⟨b1, 0, none⟩)), (1, .func (.func 35) #[] #[.pointer (some ⟨b2, 0, none⟩)]), (4, .slice none 0 0)] hE (by kernel_rfl) rfl (fun a hE => ?_)
  refine at_end rfl ?_
  refine wpIn_seq ?_
  refine region_at ?_
  refine seg 1 (j := 1) [(0, .pointer (some ⟨b1, 0, none⟩)), (1, .func (.func 35) #[] #[.pointer (some ⟨b2, 0, none⟩)]), (4, .slice none 0 0), (5, .slice none 0 0)] hE (by kernel_rfl) rfl (fun a hE => ?_)
  refine at_end rfl ?_
  refine wpIn_seq ?_
  refine wpIn_seq ?_
  refine region_at ?_
  refine seg 1 (j := 1) [(0, .pointer (some ⟨b1, 0, none⟩)), (1, .func (.func 35) #[] #[.pointer (some ⟨b2, 0, none⟩)]), (4, .slice none 0 0), (5, .slice none 0 0), (9, .pointer (some ⟨b1, 0, none⟩))] hE (by kernel_rfl) rfl (fun a hE => ?_)
  obtain ⟨r64, h65, hf⟩ := bind_some hf
  refine at_op (op_call rfl rfl rfl rfl hE rfl rfl rfl rfl (by kernel_rfl) (wire_Reader_Bad.calls (g := g) h65 (hS.st.fore (L := [bx b1 49 ([.slice A6 (List.length (x5.fB)) c7] ++ ([.int .i64 (x5.fBad)]))])) h8) (fun a v w hR hE => ?_)) rfl
  obtain ⟨D66, rfl, hS1⟩ := hR
  have le68 := hS1.dle
  have hS : Stp g w0 D0 [bx b1 49 ([.slice A6 (List.length (x5.fB)) c7] ++ ([.int .i64 (x5.fBad)])), bx b2 3 ([.int .i64 (x9)])] w D66 [bx b1 49 ([.slice A6 (List.length (x5.fB)) c7] ++ ([.int .i64 (x5.fBad)])), bx b2 3 ([.int .i64 (x9)])] := hS.call (L := [bx b1 49 ([.slice A6 (List.length (x5.fB)) c7] ++ ([.int .i64 (x5.fBad)]))]) (R := [bx b2 3 ([.int .i64 (x9)])]) hS1
  clear hS1
  refine seg 1 (j := 3) [(0, .pointer (some ⟨b1, 0, none⟩)), (1, .func (.func 35) #[] #[.pointer (some ⟨b2, 0, none⟩)]), (4, .slice none 0 0), (5, .slice none 0 0), (11, .bool ((!decide (r64 = (0 : Int)))))] hE (by kernel_rfl) rfl (fun a hE => ?_)
  refine at_end rfl ?_
  refine cond_split hE (b := (!decide (r64 = (0 : Int)))) rfl (fun hb => ?_) (fun hb => ?_)
  · replace hf := cond_t hb hf
    clear hb
    refine wpIn_seq ?_
    refine region_at ?_
    refine seg 2 (j := 2) [(0, .pointer (some ⟨b1, 0, none⟩)), (1, .func (.func 35) #[] #[.pointer (some ⟨b2, 0, none⟩)]), (4, .slice none 0 0), (5, .slice none 0 0), (11, .bool ((!decide (r64 = (0 : Int)))))] hE (by kernel_rfl) rfl (fun a hE => ?_)
    refine at_end rfl ?_
    refine wpIn_ret ?_
    have hS := hS.nils
    obtain rfl := Option.some.inj hf
    repeat (with_reducible first | refine then_ret ?_ | refine block_ret ?_ | refine qx_ret ?_)
    refine ret_gen ([.slice none 0 0]) hE (by rw [show Try.f34.results.toList = [.tmp 4] from rfl]; exact ⟨_, _, rfl, rfl, rfl⟩) ?_
    have hS : Stp g w0 D0 [bx b1 49 ([.slice A6 (List.length (x5.fB)) c7] ++ ([.int .i64 (x5.fBad)])), bx b2 3 ([.int .i64 (x9)])] w D66 [bx b1 49 ([.slice A6 (List.length (x5.fB)) c7] ++ ([.int .i64 (x5.fBad)])), bx b2 3 ([.int .i64 (x9)]), none] := hS.sel [1, 2, 0] rfl (by decide)
    exact ⟨_, rfl, D66, none, 0, none, A6, c7, rfl, hS, (OwnD.nil (kdInt .u8) 5 D66), (h8.mono le68)⟩
  · replace hf := cond_f hb hf
    clear hb
    refine wpIn_skip ?_
    refine wpIn_seq ?_
    refine region_at ?_
    refine seg 3 (j := 3) [(0, .pointer (some ⟨b1, 0, none⟩)), (1, .func (.func 35) #[] #[.pointer (some ⟨b2, 0, none⟩)]), (4, .slice none 0 0), (5, .slice none 0 0), (11, .bool ((!decide (r64 = (0 : Int))))), (14, .func (.func 35) #[] #[.pointer (some ⟨b2, 0, none⟩)]), (16, .pointer (some ⟨b1, 0, none⟩))] hE (by kernel_rfl) rfl (fun a hE => ?_)
    refine at_op (op_tk hE (g_fieldAddr (fo := 0) (ft := 22) 0 rfl rfl rfl rfl hE rfl rfl (by kernel_rfl) rfl (fun a hE => ?_))) rfl
    refine at_op (op_tk hE (tk_load 0 (.slice A6 (List.length (x5.fB)) c7) rfl rfl rfl rfl hE rfl hS rfl rfl (by kernel_rfl) List.not_mem_nil (fun a hE => ?_))) rfl
    have hS : Stp g w0 D0 [bx b1 49 ([.slice A6 (List.length (x5.fB)) c7] ++ ([.int .i64 (x5.fBad)])), bx b2 3 ([.int .i64 (x9)])] w D66 [bx b2 3 ([.int .i64 (x9)]), bx b1 49 ([.slice A6 (List.length (x5.fB)) c7] ++ ([.int .i64 (x5.fBad)]))] := hS.sel [1, 0] rfl (by decide)
    obtain ⟨r70, h71, hf⟩ := bind_some hf
    refine at_op (op_call rfl rfl rfl rfl hE rfl rfl rfl rfl (by kernel_rfl) (wire_Reader_Bytes_1.calls (g := g) h71 (hS.st.fore (L := [bx b2 3 ([.int .i64 (x9)])])) (h8.mono le68)) (fun a v w hR hE => ?_)) rfl
    obtain ⟨D72, A74, c75, q76, rfl, hS1, h77⟩ := hR
    have le79 := hS1.dle
    have hS : Stp g w0 D0 [bx b1 49 ([.slice A6 (List.length (x5.fB)) c7] ++ ([.int .i64 (x5.fBad)])), bx b2 3 ([.int .i64 (x9)])] w D72 [bx b2 3 ([.int .i64 (x9)]), q76, bx b1 49 ([.slice A6 (List.length (x5.fB)) c7] ++ ([.int .i64 (x5.fBad)]))] := hS.call (L := [bx b2 3 ([.int .i64 (x9)])]) (R := [bx b1 49 ([.slice A6 (List.length (x5.fB)) c7] ++ ([.int .i64 (x5.fBad)]))]) hS1
    clear hS1
    refine seg 7 (j := 13) [(0, .pointer (some ⟨b1, 0, none⟩)), (1, .func (.func 35) #[] #[.pointer (some ⟨b2, 0, none⟩)]), (4, .slice none 0 0), (5, .slice none 0 0), (6, .slice A74 (List.length (r70.1)) c75), (7, .int .i64 (r70.2.1)), (8, .int .i64 (r70.2.2)), (11, .bool ((!decide (r64 = (0 : Int)))))] hE (by kernel_rfl) rfl (fun a hE => ?_)
    refine at_end rfl ?_
    refine wpIn_seq ?_
    refine wpIn_seq ?_
    refine region_at ?_
    refine seg 2 (j := 2) [(0, .pointer (some ⟨b1, 0, none⟩)), (1, .func (.func 35) #[] #[.pointer (some ⟨b2, 0, none⟩)]), (4, .slice none 0 0), (5, .slice none 0 0), (6, .slice A74 (List.length (r70.1)) c75), (7, .int .i64 (r70.2.1)), (8, .int .i64 (r70.2.2)), (11, .bool ((!decide (r64 = (0 : Int))))), (24, .bool ((!decide (r70.2.2 = (0 : Int)))))] hE (by kernel_rfl) rfl (fun a hE => ?_)
    refine at_end rfl ?_
    refine cond_split hE (b := (!decide (r70.2.2 = (0 : Int)))) rfl (fun hb => ?_) (fun hb => ?_)
    · replace hf := cond_t hb hf
      clear hb
      refine wpIn_seq ?_
      refine region_at ?_
      refine seg 2 (j := 2) [(0, .pointer (some ⟨b1, 0, none⟩)), (1, .func (.func 35) #[] #[.pointer (some ⟨b2, 0, none⟩)]), (4, .slice none 0 0), (5, .slice none 0 0), (6, .slice A74 (List.length (r70.1)) c75), (7, .int .i64 (r70.2.1)), (8, .int .i64 (r70.2.2)), (11, .bool ((!decide (r64 = (0 : Int))))), (24, .bool ((!decide (r70.2.2 = (0 : Int))))), (25, .pointer (some ⟨b1, 0, none⟩)), (26, .int .i64 (r70.2.2))] hE (by kernel_rfl) rfl (fun a hE => ?_)
      have hS : Stp g w0 D0 [bx b1 49 ([.slice A6 (List.length (x5.fB)) c7] ++ ([.int .i64 (x5.fBad)])), bx b2 3 ([.int .i64 (x9)])] w D72 [bx b1 49 ([.slice A6 (List.length (x5.fB)) c7] ++ ([.int .i64 (x5.fBad)])), bx b2 3 ([.int .i64 (x9)]), q76] := hS.sel [2, 0, 1] rfl (by decide)
      obtain ⟨r88, h89, hf⟩ := bind_some hf
      refine at_op (op_call rfl rfl rfl rfl hE rfl rfl rfl rfl (by kernel_rfl) (wire_Reader_Fail.calls (g := g) h89 (hS.st.fore (L := [bx b1 49 ([.slice A6 (List.length (x5.fB)) c7] ++ ([.int .i64 (x5.fBad)]))])) (h8.mono (Snap.le.trans le68 le79))) (fun a v w hR hE => ?_)) rfl
      obtain ⟨D90, A92, c93, rfl, hS1, h94⟩ := hR
      have le95 := hS1.dle
      have hS : Stp g w0 D0 [bx b1 49 ([.slice A6 (List.length (x5.fB)) c7] ++ ([.int .i64 (x5.fBad)])), bx b2 3 ([.int .i64 (x9)])] w D90 [bx b1 49 ([.slice A92 (List.length (r88.fB)) c93] ++ ([.int .i64 (r88.fBad)])), bx b2 3 ([.int .i64 (x9)]), q76] := hS.call (L := [bx b1 49 ([.slice A6 (List.length (x5.fB)) c7] ++ ([.int .i64 (x5.fBad)]))]) (R := [bx b2 3 ([.int .i64 (x9)]), q76]) hS1
      clear hS1
      refine at_end rfl ?_
      refine wpIn_seq ?_
      refine region_at ?_
      refine seg 2 (j := 2) [(0, .pointer (some ⟨b1, 0, none⟩)), (1, .func (.func 35) #[] #[.pointer (some ⟨b2, 0, none⟩)]), (4, .slice none 0 0), (5, .slice none 0 0), (6, .slice A74 (List.length (r70.1)) c75), (7, .int .i64 (r70.2.1)), (8, .int .i64 (r70.2.2)), (11, .bool ((!decide (r64 = (0 : Int))))), (24, .bool ((!decide (r70.2.2 = (0 : Int)))))] hE (by kernel_rfl) rfl (fun a hE => ?_)
      refine at_end rfl ?_
      refine wpIn_ret ?_
      have hS := hS.nils
      obtain rfl := Option.some.inj hf
      repeat (with_reducible first | refine then_ret ?_ | refine block_ret ?_ | refine qx_ret ?_)
      refine ret_gen ([.slice none 0 0]) hE (by rw [show Try.f34.results.toList = [.tmp 4] from rfl]; exact ⟨_, _, rfl, rfl, rfl⟩) ?_
      have hS : Stp g w0 D0 [bx b1 49 ([.slice A6 (List.length (x5.fB)) c7] ++ ([.int .i64 (x5.fBad)])), bx b2 3 ([.int .i64 (x9)])] w D90 [bx b1 49 ([.slice A92 (List.length (r88.fB)) c93] ++ ([.int .i64 (r88.fBad)])), bx b2 3 ([.int .i64 (x9)]), none] := hS.sel [1, 2, 0] rfl (by decide)
      exact ⟨_, rfl, D90, none, 0, none, A92, c93, rfl, hS, (OwnD.nil (kdInt .u8) 5 D90), h94⟩
    · replace hf := cond_f hb hf
      clear hb
      refine wpIn_skip ?_
      refine wpIn_seq ?_
      refine region_at ?_
      refine seg 3 (j := 3) [(0, .pointer (some ⟨b1, 0, none⟩)), (1, .func (.func 35) #[] #[.pointer (some ⟨b2, 0, none⟩)]), (4, .slice none 0 0), (5, .slice none 0 0), (6, .slice A74 (List.length (r70.1)) c75), (7, .int .i64 (r70.2.1)), (8, .int .i64 (r70.2.2)), (11, .bool ((!decide (r64 = (0 : Int))))), (24, .bool ((!decide (r70.2.2 = (0 : Int))))), (29, .pointer (some ⟨b1, 0, none⟩)), (31, .pointer (some ⟨b1, 0, none⟩))] hE (by kernel_rfl) rfl (fun a hE => ?_)
      refine at_op (op_tk hE (g_fieldAddr (fo := 0) (ft := 22) 0 rfl rfl rfl rfl hE rfl rfl (by kernel_rfl) rfl (fun a hE => ?_))) rfl
      refine at_op (op_tk hE (tk_load 2 (.slice A6 (List.length (x5.fB)) c7) rfl rfl rfl rfl hE rfl hS rfl rfl (by kernel_rfl) List.not_mem_nil (fun a hE => ?_))) rfl
      refine seg 1 (j := 6) [(0, .pointer (some ⟨b1, 0, none⟩)), (1, .func (.func 35) #[] #[.pointer (some ⟨b2, 0, none⟩)]), (4, .slice none 0 0), (5, .slice none 0 0), (6, .slice A74 (List.length (r70.1)) c75), (7, .int .i64 (r70.2.1)), (8, .int .i64 (r70.2.2)), (11, .bool ((!decide (r64 = (0 : Int))))), (24, .bool ((!decide (r70.2.2 = (0 : Int))))), (29, .pointer (some ⟨b1, 0, none⟩)), (33, .slice A6 (List.length (x5.fB)) c7), (34, .int .i64 (r70.2.1))] hE (by kernel_rfl) rfl (fun a hE => ?_)
      obtain ⟨l97, h98, hf⟩ := bind_some hf
      refine at_op (op_tk hE (g_slice (K := (kdInt .u8)) (e := 5) (by_ := 1) (zl := 1) rfl rfl rfl rfl hE rfl rfl (by kernel_rfl) ⟨_, rfl⟩ rfl (h8.mono (Snap.le.trans le68 le79)) h98 (fun a A99 c100 hE h101 => ?_))) rfl
      refine seg 1 (j := 8) [(0, .pointer (some ⟨b1, 0, none⟩)), (1, .func (.func 35) #[] #[.pointer (some ⟨b2, 0, none⟩)]), (4, .slice none 0 0), (5, .slice none 0 0), (6, .slice A74 (List.length (r70.1)) c75), (7, .int .i64 (r70.2.1)), (8, .int .i64 (r70.2.2)), (11, .bool ((!decide (r64 = (0 : Int))))), (24, .bool ((!decide (r70.2.2 = (0 : Int))))), (35, .slice A99 (List.length (l97)) c100), (36, .pointer (some ⟨b1, 0, none⟩))] hE (by kernel_rfl) rfl (fun a hE => ?_)
      refine at_op (op_tk hE (g_fieldAddr (fo := 0) (ft := 22) 0 rfl rfl rfl rfl hE rfl rfl (by kernel_rfl) rfl (fun a hE => ?_))) rfl
      have hS : Stp g w0 D0 [bx b1 49 ([.slice A6 (List.length (x5.fB)) c7] ++ ([.int .i64 (x5.fBad)])), bx b2 3 ([.int .i64 (x9)])] w D72 [bx b1 49 ([.slice A6 (List.length (x5.fB)) c7] ++ ([.int .i64 (x5.fBad)])), bx b2 3 ([.int .i64 (x9)]), q76] := hS.sel [2, 0, 1] rfl (by decide)
      refine at_op (op_store (v := .slice A99 (List.length (l97)) c100) ([.slice A99 (List.length (l97)) c100] ++ ([.int .i64 (x5.fBad)])) rfl rfl rfl rfl hE hS rfl rfl (by kernel_rfl) (by kernel_rfl) (by kernel_rfl) (by kernel_rfl) (by kernel_rfl) (fun a w _ hE hS => ?_)) rfl
      refine at_end rfl ?_
      refine wpIn_seq ?_
      refine region_at ?_
      refine seg 2 (j := 2) [(0, .pointer (some ⟨b1, 0, none⟩)), (1, .func (.func 35) #[] #[.pointer (some ⟨b2, 0, none⟩)]), (4, .slice A74 (List.length (r70.1)) c75), (5, .slice none 0 0), (6, .slice A74 (List.length (r70.1)) c75), (7, .int .i64 (r70.2.1)), (8, .int .i64 (r70.2.2)), (11, .bool ((!decide (r64 = (0 : Int))))), (24, .bool ((!decide (r70.2.2 = (0 : Int)))))] hE (by kernel_rfl) rfl (fun a hE => ?_)
      refine at_end rfl ?_
      refine wpIn_ret ?_
      obtain rfl := Option.some.inj hf
      repeat (with_reducible first | refine then_ret ?_ | refine block_ret ?_ | refine qx_ret ?_)
      refine ret_gen ([.slice A74 (List.length (r70.1)) c75]) hE (by rw [show Try.f34.results.toList = [.tmp 4] from rfl]; exact ⟨_, _, rfl, rfl, rfl⟩) ?_
      exact ⟨_, rfl, D72, A74, c75, q76, A99, c100, rfl, hS, h77, h101⟩

set_option maxRecDepth 100000 in
set_option maxHeartbeats 4000000 in
theorem wire_Reader_Bytes.calls {K : Nat} {g w0 : World} {D0 : Snap} {x3 : Int} {x4 : T_inspeximus_wire_Reader} {b1 : Nat} {A5 : Option Addr} {c6 : Nat} {r : ((List Int) × T_inspeximus_wire_Reader)} (hf : wire_Reader_Bytes.f K x3 x4 = some r) (hS0 : St g w0 D0 [bx b1 49 ([.slice A5 (List.length (x4.fB)) c6] ++ ([.int .i64 (x4.fBad)]))]) (h7 : Sl (kdInt .u8) D0 A5 c6 (x4.fB)) :
    CallsIn (Fw none) 0 Try.prog 21 (List.toArray [.pointer (some ⟨b1, 0, none⟩), .int .i64 (x3)]) w0 (fun e w' => ∃ v, e = .returned v ∧ ∃ (D1 : Snap) (A23 : Option Addr) (c24 : Nat) (q25 : Blk) (A28 : Option Addr) (c29 : Nat), v = .slice A23 (List.length (r.1)) c24 ∧ Stp g w0 D0 [bx b1 49 ([.slice A5 (List.length (x4.fB)) c6] ++ ([.int .i64 (x4.fBad)]))] w' D1 [bx b1 49 ([.slice A28 (List.length (r.2.fB)) c29] ++ ([.int .i64 (r.2.fBad)])), q25] ∧ OwnD (kdInt .u8) 5 D1 A23 c24 (r.1) q25 ∧ Sl (kdInt .u8) D1 A28 c29 (r.2.fB)) := by
  unfold wire_Reader_Bytes.f at hf
  have hS := Stp.refl hS0
  clear hS0
  refine calls_body (n := 8) Try.func21 rfl Try.ntmps21 rfl (fun a hE => ?_)
  have hE : Env a 8 [] [(0, .pointer (some ⟨b1, 0, none⟩)), (1, .int .i64 (x3))] := hE
  refine wpIn_seq ?_
  refine region_at ?_
  refine at_op (op_box rfl rfl rfl rfl hE rfl hS rfl (fun a b31 w _ hE hS => ?_)) rfl
  have hS : Stp g w0 D0 [bx b1 49 ([.slice A5 (List.length (x4.fB)) c6] ++ ([.int .i64 (x4.fBad)]))] w D0 [bx b31 3 ([.int .i64 (x3)]), bx b1 49 ([.slice A5 (List.length (x4.fB)) c6] ++ ([.int .i64 (x4.fBad)]))] := hS
  refine seg 1 (j := 2) [(0, .pointer (some ⟨b1, 0, none⟩)), (1, .int .i64 (x3)), (3, .pointer (some ⟨b31, 0, none⟩)), (4, .slice none 0 0)] hE (by kernel_rfl) rfl (fun a hE => ?_)
  refine at_end rfl ?_
  refine wpIn_seq ?_
  refine region_at ?_
  refine seg 2 (j := 2) [(0, .pointer (some ⟨b1, 0, none⟩)), (1, .int .i64 (x3)), (3, .pointer (some ⟨b31, 0, none⟩)), (4, .slice none 0 0), (5, .pointer (some ⟨b1, 0, none⟩)), (6, .func (.func 35) #[] #[.pointer (some ⟨b31, 0, none⟩)])] hE (by kernel_rfl) rfl (fun a hE => ?_)
  have hS : Stp g w0 D0 [bx b1 49 ([.slice A5 (List.length (x4.fB)) c6] ++ ([.int .i64 (x4.fBad)]))] w D0 [bx b1 49 ([.slice A5 (List.length (x4.fB)) c6] ++ ([.int .i64 (x4.fBad)])), bx b31 3 ([.int .i64 (x3)])] := hS.sel [1, 0] rfl (by decide)
  obtain ⟨r33, h34, hf⟩ := bind_some hf
  refine at_op (op_call rfl rfl rfl rfl hE rfl rfl rfl rfl (by kernel_rfl) (wire_take_byte.calls (g := g) h34 (hS.st.fore (L := [bx b1 49 ([.slice A5 (List.length (x4.fB)) c6] ++ ([.int .i64 (x4.fBad)])), bx b31 3 ([.int .i64 (x3)])])) h7) (fun a v w hR hE => ?_)) rfl
  obtain ⟨D35, A37, c38, q39, A42, c43, rfl, hS1, h40, h44⟩ := hR
  have le45 := hS1.dle
  have hS : Stp g w0 D0 [bx b1 49 ([.slice A5 (List.length (x4.fB)) c6] ++ ([.int .i64 (x4.fBad)]))] w D35 [bx b1 49 ([.slice A42 (List.length (r33.2.fB)) c43] ++ ([.int .i64 (r33.2.fBad)])), bx b31 3 ([.int .i64 (x3)]), q39] := hS.call (L := [bx b1 49 ([.slice A5 (List.length (x4.fB)) c6] ++ ([.int .i64 (x4.fBad)])), bx b31 3 ([.int .i64 (x3)])]) (R := []) hS1
  clear hS1
  refine seg 1 (j := 4) [(0, .pointer (some ⟨b1, 0, none⟩)), (1, .int .i64 (x3)), (3, .pointer (some ⟨b31, 0, none⟩)), (4, .slice A37 (List.length (r33.1)) c38)] hE (by kernel_rfl) rfl (fun a hE => ?_)
  refine at_end rfl ?_
  refine wpIn_ret ?_
  obtain rfl := Option.some.inj hf
  repeat (with_reducible first | refine then_ret ?_ | refine block_ret ?_ | refine qx_ret ?_)
  refine ret_gen ([.slice A37 (List.length (r33.1)) c38]) hE (by rw [show Try.f21.results.toList = [.tmp 4] from rfl]; exact ⟨_, _, rfl, rfl, rfl⟩) ?_
  have hS : Stp g w0 D0 [bx b1 49 ([.slice A5 (List.length (x4.fB)) c6] ++ ([.int .i64 (x4.fBad)]))] w D35 [bx b1 49 ([.slice A42 (List.length (r33.2.fB)) c43] ++ ([.int .i64 (r33.2.fBad)])), q39] := hS.sel [0, 2] rfl (by decide)
  exact ⟨_, rfl, D35, A37, c38, q39, A42, c43, rfl, hS, h40, h44⟩

set_option maxRecDepth 100000 in
set_option maxHeartbeats 4000000 in
theorem wire_Reader_Left.calls {K : Nat} {g w0 : World} {D0 : Snap} {x3 : T_inspeximus_wire_Reader} {b1 : Nat} {A4 : Option Addr} {c5 : Nat} {r : (Int)} (hf : wire_Reader_Left.f K x3 = some r) (hS0 : St g w0 D0 [bx b1 49 ([.slice A4 (List.length (x3.fB)) c5] ++ ([.int .i64 (x3.fBad)]))]) (h6 : Sl (kdInt .u8) D0 A4 c5 (x3.fB)) :
    CallsIn (Fw none) 0 Try.prog 23 (List.toArray [.pointer (some ⟨b1, 0, none⟩)]) w0 (fun e w' => ∃ v, e = .returned v ∧ ∃ (D1 : Snap), v = .int .i64 (r) ∧ Stp g w0 D0 [bx b1 49 ([.slice A4 (List.length (x3.fB)) c5] ++ ([.int .i64 (x3.fBad)]))] w' D1 [bx b1 49 ([.slice A4 (List.length (x3.fB)) c5] ++ ([.int .i64 (x3.fBad)]))]) := by
  unfold wire_Reader_Left.f at hf
  have hS := Stp.refl hS0
  clear hS0
  refine calls_body (n := 10) Try.func23 rfl Try.ntmps23 rfl (fun a hE => ?_)
  have hE : Env a 10 [] [(0, .pointer (some ⟨b1, 0, none⟩))] := hE
  refine wpIn_seq ?_
  refine region_at ?_
  refine seg 1 (j := 1) [(0, .pointer (some ⟨b1, 0, none⟩)), (2, .int .i64 ((0 : Int)))] hE (by kernel_rfl) rfl (fun a hE => ?_)
  refine at_end rfl ?_
  refine wpIn_seq ?_
  refine wpIn_seq ?_
  refine region_at ?_
  refine seg 1 (j := 1) [(0, .pointer (some ⟨b1, 0, none⟩)), (2, .int .i64 ((0 : Int))), (3, .pointer (some ⟨b1, 0, none⟩))] hE (by kernel_rfl) rfl (fun a hE => ?_)
  refine at_op (op_tk hE (tk_bin (r := .bool false) rfl rfl rfl rfl hE rfl rfl rfl (eqptr_run (by kernel_rfl) _) (fun a hE => ?_))) rfl
  refine at_end rfl ?_
  refine wpIn_cond_false (hE.eval rfl) ?_
  refine wpIn_skip ?_
  refine wpIn_seq ?_
  refine region_at ?_
  refine seg 2 (j := 2) [(0, .pointer (some ⟨b1, 0, none⟩)), (2, .int .i64 ((0 : Int))), (4, .bool false), (6, .pointer (some ⟨b1, 0, none⟩))] hE (by kernel_rfl) rfl (fun a hE => ?_)
  refine at_op (op_tk hE (g_fieldAddr (fo := 0) (ft := 22) 0 rfl rfl rfl rfl hE rfl rfl (by kernel_rfl) rfl (fun a hE => ?_))) rfl
  refine at_op (op_tk hE (tk_load 0 (.slice A4 (List.length (x3.fB)) c5) rfl rfl rfl rfl hE rfl hS rfl rfl (by kernel_rfl) List.not_mem_nil (fun a hE => ?_))) rfl
  refine seg 2 (j := 6) [(0, .pointer (some ⟨b1, 0, none⟩)), (2, .int .i64 (((List.length (x3.fB) : Nat) : Int))), (4, .bool false)] hE (by kernel_rfl) rfl (fun a hE => ?_)
  refine at_end rfl ?_
  refine wpIn_ret ?_
  obtain rfl := Option.some.inj hf
  repeat (with_reducible first | refine then_ret ?_ | refine block_ret ?_ | refine qx_ret ?_)
  refine ret_gen ([.int .i64 (((List.length (x3.fB) : Nat) : Int))]) hE (by rw [show Try.f23.results.toList = [.tmp 2] from rfl]; exact ⟨_, _, rfl, rfl, rfl⟩) ?_
  exact ⟨_, rfl, D0, rfl, hS⟩

set_option maxRecDepth 100000 in
set_option maxHeartbeats 4000000 in
theorem wire_Reader_Hash_1.calls {K : Nat} {g w0 : World} {D0 : Snap} {x1 : (List Int)} {A2 : Option Addr} {c3 : Nat} {r : ((Vector Int 32) × Int × Int)} (hf : wire_Reader_Hash_1.f K x1 = some r) (hS0 : St g w0 D0 []) (h4 : Sl (kdInt .u8) D0 A2 c3 (x1)) :
    CallsIn (Fw none) 0 Try.prog 37 (List.toArray [.slice A2 (List.length (x1)) c3]) w0 (fun e w' => ∃ v, e = .returned v ∧ ∃ (D1 : Snap), v = .tuple #[.agg (List.toArray (acells .u8 32 (r.1))), .int .i64 (r.2.1), .int .i64 (r.2.2)] ∧ Stp g w0 D0 [] w' D1 []) := by
  unfold wire_Reader_Hash_1.f at hf
  have hS := Stp.refl hS0
  clear hS0
  refine calls_body (n := 14) Try.func37 rfl Try.ntmps37 rfl (fun a hE => ?_)
  have hE : Env a 14 [] [(0, .slice A2 (List.length (x1)) c3)] := hE
  refine wpIn_seq ?_
  refine region_at ?_
  refine at_op (op_alloc (z := .agg (List.toArray (acells .u8 32 ((Vector.replicate 32 (0 : Int)))))) rfl rfl rfl rfl hE rfl hS (by kernel_rfl) (fun a b25 w _ hE hS => ?_)) rfl
  have hS : Stp g w0 D0 [] w D0 [bx b25 24 (acells .u8 32 ((Vector.replicate 32 (0 : Int))))] := hS
  refine seg 2 (j := 3) [(0, .slice A2 (List.length (x1)) c3), (2, .pointer (some ⟨b25, 0, none⟩)), (3, .int .i64 ((0 : Int))), (4, .int .i64 ((0 : Int)))] hE (by kernel_rfl) rfl (fun a hE => ?_)
  refine at_end rfl ?_
  refine wpIn_seq ?_
  refine region_at ?_
  refine at_op (op_alloc (z := .agg (List.toArray (acells .u8 32 ((Vector.replicate 32 (0 : Int)))))) rfl rfl rfl rfl hE rfl hS (by kernel_rfl) (fun a b27 w _ hE hS => ?_)) rfl
  have hS : Stp g w0 D0 [] w D0 [bx b27 24 (acells .u8 32 ((Vector.replicate 32 (0 : Int)))), bx b25 24 (acells .u8 32 ((Vector.replicate 32 (0 : Int))))] := hS
  refine at_end rfl ?_
  refine wpIn_seq ?_
  refine wpIn_seq ?_
  refine region_at ?_
  refine seg 3 (j := 3) [(0, .slice A2 (List.length (x1)) c3), (2, .pointer (some ⟨b25, 0, none⟩)), (3, .int .i64 ((0 : Int))), (4, .int .i64 ((0 : Int))), (5, .pointer (some ⟨b27, 0, none⟩)), (8, .bool ((decide (((List.length (x1) : Nat) : Int) < (32 : Int)))))] hE (by kernel_rfl) rfl (fun a hE => ?_)
  refine at_end rfl ?_
  refine cond_split hE (b := (decide (((List.length (x1) : Nat) : Int) < (32 : Int)))) rfl (fun hb => ?_) (fun hb => ?_)
  · replace hf := cond_t hb hf
    clear hb
    refine wpIn_seq ?_
    refine region_at ?_
    refine at_op (op_tk hE (tk_load 0 (.agg (List.toArray (acells .u8 32 ((Vector.replicate 32 (0 : Int)))))) rfl rfl rfl rfl hE rfl hS rfl rfl (by kernel_rfl) List.not_mem_nil (fun a hE => ?_))) rfl
    have hS : Stp g w0 D0 [] w D0 [bx b25 24 (acells .u8 32 ((Vector.replicate 32 (0 : Int)))), bx b27 24 (acells .u8 32 ((Vector.replicate 32 (0 : Int))))] := hS.sel [1, 0] rfl (by decide)
    refine at_op (op_store (v := .agg (List.toArray (acells .u8 32 ((Vector.replicate 32 (0 : Int)))))) (acells .u8 32 ((Vector.replicate 32 (0 : Int)))) rfl rfl rfl rfl hE hS rfl rfl (by kernel_rfl) (by kernel_rfl) (by kernel_rfl) (by kernel_rfl) (by kernel_rfl) (fun a w _ hE hS => ?_)) rfl
    refine seg 2 (j := 4) [(0, .slice A2 (List.length (x1)) c3), (2, .pointer (some ⟨b25, 0, none⟩)), (3, .int .i64 ((0 : Int))), (4, .int .i64 ((3 : Int))), (5, .pointer (some ⟨b27, 0, none⟩)), (8, .bool ((decide (((List.length (x1) : Nat) : Int) < (32 : Int)))))] hE (by kernel_rfl) rfl (fun a hE => ?_)
    refine at_end rfl ?_
    refine wpIn_ret ?_
    obtain rfl := Option.some.inj hf
    repeat (with_reducible first | refine then_ret ?_ | refine block_ret ?_ | refine qx_ret ?_)
    refine ret_gen ([.agg (List.toArray (acells .u8 32 ((Vector.replicate 32 (0 : Int))))), .int .i64 ((0 : Int)), .int .i64 ((3 : Int))]) hE (by rw [show Try.f37.results.toList = [.cell 2 24, .tmp 3, .tmp 4] from rfl]; exact ⟨_, _, _, 0, _, _, rfl, rfl, hS.heapAt (j := 0) rfl, by kernel_rfl, ⟨_, _, rfl, rfl, ⟨_, _, rfl, rfl, rfl⟩⟩⟩) ?_
    have hS : Stp g w0 D0 [] w D0 [] := hS.sel [] rfl (by decide)
    exact ⟨_, rfl, D0, rfl, hS⟩
  · replace hf := cond_f hb hf
    clear hb
    refine wpIn_skip ?_
    refine wpIn_seq ?_
    refine region_at ?_
    refine seg 1 (j := 1) [(0, .slice A2 (List.length (x1)) c3), (2, .pointer (some ⟨b25, 0, none⟩)), (3, .int .i64 ((0 : Int))), (4, .int .i64 ((0 : Int))), (5, .pointer (some ⟨b27, 0, none⟩)), (8, .bool ((decide (((List.length (x1) : Nat) : Int) < (32 : Int))))), (10, .slice A2 (List.length (x1)) c3)] hE (by kernel_rfl) rfl (fun a hE => ?_)
    obtain ⟨l29, h30, hf⟩ := bind_some hf
    refine at_op (op_tk hE (g_slice (K := (kdInt .u8)) (e := 5) (by_ := 1) (zl := 1) rfl rfl rfl rfl hE rfl rfl (by kernel_rfl) rfl ⟨_, rfl⟩ h4 h30 (fun a A31 c32 hE h33 => ?_))) rfl
    obtain ⟨h37, hf⟩ := chk_some hf
    refine at_op (op_tk hE (g_s2a (kk := .u8) (e := 5) (N := 32) rfl rfl rfl rfl hE rfl rfl (by kernel_rfl) rfl h33 h37 (fun a b34 o35 hE h36 => ?_))) rfl
    obtain ⟨cs38, C39, T40, fr41, hr42, hb43, hc44⟩ := h36
    obtain rfl := hr42
    refine at_op (op_tk hE (tk_loadX (off0 := o35) (off := 0) (c := acells .u8 32 ((vofL 32 (l29)))) (.agg (List.toArray (acells .u8 32 ((vofL 32 (l29)))))) rfl rfl rfl rfl hE rfl hS rfl hb43 hc44 (by kernel_rfl) (fun _ h => absurd h List.not_mem_nil) (fun a hE => ?_))) rfl
    have hS : Stp g w0 D0 [] w D0 [bx b25 24 (acells .u8 32 ((Vector.replicate 32 (0 : Int)))), bx b27 24 (acells .u8 32 ((Vector.replicate 32 (0 : Int))))] := hS.sel [1, 0] rfl (by decide)
    refine at_op (op_store (v := .agg (List.toArray (acells .u8 32 ((vofL 32 (l29)))))) (acells .u8 32 ((vofL 32 (l29)))) rfl rfl rfl rfl hE hS rfl rfl (by kernel_rfl) (by kernel_rfl) (by kernel_rfl) (by kernel_rfl) (by kernel_rfl) (fun a w _ hE hS => ?_)) rfl
    refine seg 2 (j := 7) [(0, .slice A2 (List.length (x1)) c3), (2, .pointer (some ⟨b25, 0, none⟩)), (3, .int .i64 ((32 : Int))), (4, .int .i64 ((0 : Int))), (5, .pointer (some ⟨b27, 0, none⟩)), (8, .bool ((decide (((List.length (x1) : Nat) : Int) < (32 : Int)))))] hE (by kernel_rfl) rfl (fun a hE => ?_)
    refine at_end rfl ?_
    refine wpIn_ret ?_
    obtain rfl := Option.some.inj hf
    repeat (with_reducible first | refine then_ret ?_ | refine block_ret ?_ | refine qx_ret ?_)
    refine ret_gen ([.agg (List.toArray (acells .u8 32 ((vofL 32 (l29))))), .int .i64 ((32 : Int)), .int .i64 ((0 : Int))]) hE (by rw [show Try.f37.results.toList = [.cell 2 24, .tmp 3, .tmp 4] from rfl]; exact ⟨_, _, _, 0, _, _, rfl, rfl, hS.heapAt (j := 0) rfl, by kernel_rfl, ⟨_, _, rfl, rfl, ⟨_, _, rfl, rfl, rfl⟩⟩⟩) ?_
    have hS : Stp g w0 D0 [] w D0 [] := hS.sel [] rfl (by decide)
    exact ⟨_, rfl, D0, rfl, hS⟩

set_option maxRecDepth 100000 in
set_option maxHeartbeats 4000000 in
theorem wire_take_api_Hash.calls {K : Nat} {g w0 : World} {D0 : Snap} {x3 : T_inspeximus_wire_Reader} {b1 : Nat} {A4 : Option Addr} {c5 : Nat} {r : ((Vector Int 32) × T_inspeximus_wire_Reader)} (hf : wire_take_api_Hash.f K x3 = some r) (hS0 : St g w0 D0 [bx b1 49 ([.slice A4 (List.length (x3.fB)) c5] ++ ([.int .i64 (x3.fBad)]))]) (h6 : Sl (kdInt .u8) D0 A4 c5 (x3.fB)) :
    CallsIn (Fw none) 0 Try.prog 36 (List.toArray [.pointer (some ⟨b1, 0, none⟩), .func (.func 37) #[] #[]]) w0 (fun e w' => ∃ v, e = .returned v ∧ ∃ (D1 : Snap) (A49 : Option Addr) (c50 : Nat), v = .agg (List.toArray (acells .u8 32 (r.1))) ∧ Stp g w0 D0 [bx b1 49 ([.slice A4 (List.length (x3.fB)) c5] ++ ([.int .i64 (x3.fBad)]))] w' D1 [bx b1 49 ([.slice A49 (List.length (r.2.fB)) c50] ++ ([.int .i64 (r.2.fBad)]))] ∧ Sl (kdInt .u8) D1 A49 c50 (r.2.fB)) := by
  unfold wire_take_api_Hash.f at hf
  have hS := Stp.refl hS0
  clear hS0
  refine calls_body (n := 39) Try.func36 rfl Try.ntmps36 rfl (fun a hE => ?_)
  have hE : Env a 39 [] [(0, .pointer (some ⟨b1, 0, none⟩)), (1, .func (.func 37) #[] #[])] := hE
  refine wpIn_seq ?_
  refine region_at ?_
  refine at_op (op_alloc (z := .agg (List.toArray (acells .u8 32 ((Vector.replicate 32 (0 : Int)))))) rfl rfl rfl rfl hE rfl hS (by kernel_rfl) (fun a b52 w _ hE hS => ?_)) rfl
  have hS : Stp g w0 D0 [bx b1 49 ([.slice A4 (List.length (x3.fB)) c5] ++ ([.int .i64 (x3.fBad)]))] w D0 [bx b52 24 (acells .u8 32 ((Vector.replicate 32 (0 : Int)))), bx b1 49 ([.slice A4 (List.length (x3.fB)) c5] ++ ([.int .i64 (x3.fBad)]))] := hS
  refine at_end rfl ?_
  refine wpIn_seq ?_
  refine region_at ?_
  refine at_op (op_alloc (z := .agg (List.toArray (acells .u8 32 ((Vector.replicate 32 (0 : Int)))))) rfl rfl rfl rfl hE rfl hS (by kernel_rfl) (fun a b54 w _ hE hS => ?_)) rfl
  have hS : Stp g w0 D0 [bx b1 49 ([.slice A4 (List.length (x3.fB)) c5] ++ ([.int .i64 (x3.fBad)]))] w D0 [bx b54 24 (acells .u8 32 ((Vector.replicate 32 (0 : Int)))), bx b52 24 (acells .u8 32 ((Vector.replicate 32 (0 : Int)))), bx b1 49 ([.slice A4 (List.length (x3.fB)) c5] ++ ([.int .i64 (x3.fBad)]))] := hS
  refine at_end rfl ?_
  refine wpIn_seq ?_
  refine wpIn_seq ?_
  refine region_at ?_
  refine seg 1 (j := 1) [(0, .pointer (some ⟨b1, 0, none⟩)), (1, .func (.func 37) #[] #[]), (4, .pointer (some ⟨b52, 0, none⟩)), (5, .pointer (some ⟨b54, 0, none⟩)), (9, .pointer (some ⟨b1, 0, none⟩))] hE (by kernel_rfl) rfl (fun a hE => ?_)
  have hS : Stp g w0 D0 [bx b1 49 ([.slice A4 (List.length (x3.fB)) c5] ++ ([.int .i64 (x3.fBad)]))] w D0 [bx b1 49 ([.slice A4 (List.length (x3.fB)) c5] ++ ([.int .i64 (x3.fBad)])), bx b54 24 (acells .u8 32 ((Vector.replicate 32 (0 : Int)))), bx b52 24 (acells .u8 32 ((Vector.replicate 32 (0 : Int))))] := hS.sel [2, 0, 1] rfl (by decide)
  obtain ⟨r61, h62, hf⟩ := bind_some hf
  refine at_op (op_call rfl rfl rfl rfl hE rfl rfl rfl rfl (by kernel_rfl) (wire_Reader_Bad.calls (g := g) h62 (hS.st.fore (L := [bx b1 49 ([.slice A4 (List.length (x3.fB)) c5] ++ ([.int .i64 (x3.fBad)]))])) h6) (fun a v w hR hE => ?_)) rfl
  obtain ⟨D63, rfl, hS1⟩ := hR
  have le65 := hS1.dle
  have hS : Stp g w0 D0 [bx b1 49 ([.slice A4 (List.length (x3.fB)) c5] ++ ([.int .i64 (x3.fBad)]))] w D63 [bx b1 49 ([.slice A4 (List.length (x3.fB)) c5] ++ ([.int .i64 (x3.fBad)])), bx b54 24 (acells .u8 32 ((Vector.replicate 32 (0 : Int)))), bx b52 24 (acells .u8 32 ((Vector.replicate 32 (0 : Int))))] := hS.call (L := [bx b1 49 ([.slice A4 (List.length (x3.fB)) c5] ++ ([.int .i64 (x3.fBad)]))]) (R := [bx b54 24 (acells .u8 32 ((Vector.replicate 32 (0 : Int)))), bx b52 24 (acells .u8 32 ((Vector.replicate 32 (0 : Int))))]) hS1
  clear hS1
  refine seg 1 (j := 3) [(0, .pointer (some ⟨b1, 0, none⟩)), (1, .func (.func 37) #[] #[]), (4, .pointer (some ⟨b52, 0, none⟩)), (5, .pointer (some ⟨b54, 0, none⟩)), (11, .bool ((!decide (r61 = (0 : Int)))))] hE (by kernel_rfl) rfl (fun a hE => ?_)
  refine at_end rfl ?_
  refine cond_split hE (b := (!decide (r61 = (0 : Int)))) rfl (fun hb => ?_) (fun hb => ?_)
  · replace hf := cond_t hb hf
    clear hb
    refine wpIn_seq ?_
    refine region_at ?_
    refine at_op (op_tk hE (tk_load 1 (.agg (List.toArray (acells .u8 32 ((Vector.replicate 32 (0 : Int)))))) rfl rfl rfl rfl hE rfl hS rfl rfl (by kernel_rfl) List.not_mem_nil (fun a hE => ?_))) rfl
    have hS : Stp g w0 D0 [bx b1 49 ([.slice A4 (List.length (x3.fB)) c5] ++ ([.int .i64 (x3.fBad)]))] w D63 [bx b52 24 (acells .u8 32 ((Vector.replicate 32 (0 : Int)))), bx b1 49 ([.slice A4 (List.length (x3.fB)) c5] ++ ([.int .i64 (x3.fBad)])), bx b54 24 (acells .u8 32 ((Vector.replicate 32 (0 : Int))))] := hS.sel [2, 0, 1] rfl (by decide)
    refine at_op (op_store (v := .agg (List.toArray (acells .u8 32 ((Vector.replicate 32 (0 : Int)))))) (acells .u8 32 ((Vector.replicate 32 (0 : Int)))) rfl rfl rfl rfl hE hS rfl rfl (by kernel_rfl) (by kernel_rfl) (by kernel_rfl) (by kernel_rfl) (by kernel_rfl) (fun a w _ hE hS => ?_)) rfl
    refine at_end rfl ?_
    refine wpIn_ret ?_
    obtain rfl := Option.some.inj hf
    repeat (with_reducible first | refine then_ret ?_ | refine block_ret ?_ | refine qx_ret ?_)
    refine ret_gen ([.agg (List.toArray (acells .u8 32 ((Vector.replicate 32 (0 : Int)))))]) hE (by rw [show Try.f36.results.toList = [.cell 4 24] from rfl]; exact ⟨_, _, _, 0, _, _, rfl, rfl, hS.heapAt (j := 0) rfl, by kernel_rfl, rfl⟩) ?_
    have hS : Stp g w0 D0 [bx b1 49 ([.slice A4 (List.length (x3.fB)) c5] ++ ([.int .i64 (x3.fBad)]))] w D63 [bx b1 49 ([.slice A4 (List.length (x3.fB)) c5] ++ ([.int .i64 (x3.fBad)]))] := hS.sel [1] rfl (by decide)
    exact ⟨_, rfl, D63, A4, c5, rfl, hS, (h6.mono le65)⟩
  · replace hf := cond_f hb hf
    clear hb
    refine wpIn_skip ?_
    refine wpIn_seq ?_
    refine region_at ?_
    refine seg 3 (j := 3) [(0, .pointer (some ⟨b1, 0, none⟩)), (1, .func (.func 37) #[] #[]), (4, .pointer (some ⟨b52, 0, none⟩)), (5, .pointer (some ⟨b54, 0, none⟩)), (11, .bool ((!decide (r61 = (0 : Int))))), (14, .func (.func 37) #[] #[]), (16, .pointer (some ⟨b1, 0, none⟩))] hE (by kernel_rfl) rfl (fun a hE => ?_)
    refine at_op (op_tk hE (g_fieldAddr (fo := 0) (ft := 22) 0 rfl rfl rfl rfl hE rfl rfl (by kernel_rfl) rfl (fun a hE => ?_))) rfl
    refine at_op (op_tk hE (tk_load 0 (.slice A4 (List.length (x3.fB)) c5) rfl rfl rfl rfl hE rfl hS rfl rfl (by kernel_rfl) List.not_mem_nil (fun a hE => ?_))) rfl
    obtain ⟨r66, h67, hf⟩ := bind_some hf
    refine at_op (op_call rfl rfl rfl rfl hE rfl rfl rfl rfl (by kernel_rfl) (wire_Reader_Hash_1.calls (g := g) h67 (hS.st.fore (L := [])) (h6.mono le65)) (fun a v w hR hE => ?_)) rfl
    obtain ⟨D68, rfl, hS1⟩ := hR
    have le70 := hS1.dle
    have hS : Stp g w0 D0 [bx b1 49 ([.slice A4 (List.length (x3.fB)) c5] ++ ([.int .i64 (x3.fBad)]))] w D68 [bx b1 49 ([.slice A4 (List.length (x3.fB)) c5] ++ ([.int .i64 (x3.fBad)])), bx b54 24 (acells .u8 32 ((Vector.replicate 32 (0 : Int)))), bx b52 24 (acells .u8 32 ((Vector.replicate 32 (0 : Int))))] := hS.call (L := []) (R := [bx b1 49 ([.slice A4 (List.length (x3.fB)) c5] ++ ([.int .i64 (x3.fBad)])), bx b54 24 (acells .u8 32 ((Vector.replicate 32 (0 : Int)))), bx b52 24 (acells .u8 32 ((Vector.replicate 32 (0 : Int))))]) hS1
    clear hS1
    refine seg 4 (j := 10) [(0, .pointer (some ⟨b1, 0, none⟩)), (1, .func (.func 37) #[] #[]), (4, .pointer (some ⟨b52, 0, none⟩)), (5, .pointer (some ⟨b54, 0, none⟩)), (11, .bool ((!decide (r61 = (0 : Int))))), (20, .agg (List.toArray (acells .u8 32 (r66.1)))), (21, .int .i64 (r66.2.1)), (22, .int .i64 (r66.2.2))] hE (by kernel_rfl) rfl (fun a hE => ?_)
    refine at_op (op_alloc (z := .agg (List.toArray (acells .u8 32 ((Vector.replicate 32 (0 : Int)))))) rfl rfl rfl rfl hE rfl hS (by kernel_rfl) (fun a b71 w _ hE hS => ?_)) rfl
    have hS : Stp g w0 D0 [bx b1 49 ([.slice A4 (List.length (x3.fB)) c5] ++ ([.int .i64 (x3.fBad)]))] w D68 [bx b71 24 (acells .u8 32 ((Vector.replicate 32 (0 : Int)))), bx b1 49 ([.slice A4 (List.length (x3.fB)) c5] ++ ([.int .i64 (x3.fBad)])), bx b54 24 (acells .u8 32 ((Vector.replicate 32 (0 : Int)))), bx b52 24 (acells .u8 32 ((Vector.replicate 32 (0 : Int))))] := hS
    refine at_op (op_store (v := .agg (List.toArray (acells .u8 32 (r66.1)))) (acells .u8 32 (r66.1)) rfl rfl rfl rfl hE hS rfl rfl (by kernel_rfl) (by kernel_rfl) (by kernel_rfl) (by kernel_rfl) (by kernel_rfl) (fun a w _ hE hS => ?_)) rfl
    refine seg 2 (j := 14) [(0, .pointer (some ⟨b1, 0, none⟩)), (1, .func (.func 37) #[] #[]), (4, .pointer (some ⟨b52, 0, none⟩)), (5, .pointer (some ⟨b54, 0, none⟩)), (6, .pointer (some ⟨b71, 0, none⟩)), (7, .int .i64 (r66.2.1)), (8, .int .i64 (r66.2.2)), (11, .bool ((!decide (r61 = (0 : Int)))))] hE (by kernel_rfl) rfl (fun a hE => ?_)
    refine at_end rfl ?_
    refine wpIn_seq ?_
    refine wpIn_seq ?_
    refine region_at ?_
    refine seg 2 (j := 2) [(0, .pointer (some ⟨b1, 0, none⟩)), (1, .func (.func 37) #[] #[]), (4, .pointer (some ⟨b52, 0, none⟩)), (5, .pointer (some ⟨b54, 0, none⟩)), (6, .pointer (some ⟨b71, 0, none⟩)), (7, .int .i64 (r66.2.1)), (8, .int .i64 (r66.2.2)), (11, .bool ((!decide (r61 = (0 : Int))))), (24, .bool ((!decide (r66.2.2 = (0 : Int)))))] hE (by kernel_rfl) rfl (fun a hE => ?_)
    refine at_end rfl ?_
    refine cond_split hE (b := (!decide (r66.2.2 = (0 : Int)))) rfl (fun hb => ?_) (fun hb => ?_)
    · replace hf := cond_t hb hf
      clear hb
      refine wpIn_seq ?_
      refine region_at ?_
      refine seg 2 (j := 2) [(0, .pointer (some ⟨b1, 0, none⟩)), (1, .func (.func 37) #[] #[]), (4, .pointer (some ⟨b52, 0, none⟩)), (5, .pointer (some ⟨b54, 0, none⟩)), (6, .pointer (some ⟨b71, 0, none⟩)), (7, .int .i64 (r66.2.1)), (8, .int .i64 (r66.2.2)), (11, .bool ((!decide (r61 = (0 : Int))))), (24, .bool ((!decide (r66.2.2 = (0 : Int))))), (25, .pointer (some ⟨b1, 0, none⟩)), (26, .int .i64 (r66.2.2))] hE (by kernel_rfl) rfl (fun a hE => ?_)
      have hS : Stp g w0 D0 [bx b1 49 ([.slice A4 (List.length (x3.fB)) c5] ++ ([.int .i64 (x3.fBad)]))] w D68 [bx b1 49 ([.slice A4 (List.length (x3.fB)) c5] ++ ([.int .i64 (x3.fBad)])), bx b71 24 (acells .u8 32 (r66.1)), bx b54 24 (acells .u8 32 ((Vector.replicate 32 (0 : Int)))), bx b52 24 (acells .u8 32 ((Vector.replicate 32 (0 : Int))))] := hS.sel [1, 0, 2, 3] rfl (by decide)
      obtain ⟨r81, h82, hf⟩ := bind_some hf
      refine at_op (op_call rfl rfl rfl rfl hE rfl rfl rfl rfl (by kernel_rfl) (wire_Reader_Fail.calls (g := g) h82 (hS.st.fore (L := [bx b1 49 ([.slice A4 (List.length (x3.fB)) c5] ++ ([.int .i64 (x3.fBad)]))])) (h6.mono (Snap.le.trans le65 le70))) (fun a v w hR hE => ?_)) rfl
      obtain ⟨D83, A85, c86, rfl, hS1, h87⟩ := hR
      have le88 := hS1.dle
      have hS : Stp g w0 D0 [bx b1 49 ([.slice A4 (List.length (x3.fB)) c5] ++ ([.int .i64 (x3.fBad)]))] w D83 [bx b1 49 ([.slice A85 (List.length (r81.fB)) c86] ++ ([.int .i64 (r81.fBad)])), bx b71 24 (acells .u8 32 (r66.1)), bx b54 24 (acells .u8 32 ((Vector.replicate 32 (0 : Int)))), bx b52 24 (acells .u8 32 ((Vector.replicate 32 (0 : Int))))] := hS.call (L := [bx b1 49 ([.slice A4 (List.length (x3.fB)) c5] ++ ([.int .i64 (x3.fBad)]))]) (R := [bx b71 24 (acells .u8 32 (r66.1)), bx b54 24 (acells .u8 32 ((Vector.replicate 32 (0 : Int)))), bx b52 24 (acells .u8 32 ((Vector.replicate 32 (0 : Int))))]) hS1
      clear hS1
      refine at_end rfl ?_
      refine wpIn_seq ?_
      refine region_at ?_
      refine at_op (op_tk hE (tk_load 2 (.agg (List.toArray (acells .u8 32 ((Vector.replicate 32 (0 : Int)))))) rfl rfl rfl rfl hE rfl hS rfl rfl (by kernel_rfl) List.not_mem_nil (fun a hE => ?_))) rfl
      have hS : Stp g w0 D0 [bx b1 49 ([.slice A4 (List.length (x3.fB)) c5] ++ ([.int .i64 (x3.fBad)]))] w D83 [bx b52 24 (acells .u8 32 ((Vector.replicate 32 (0 : Int)))), bx b1 49 ([.slice A85 (List.length (r81.fB)) c86] ++ ([.int .i64 (r81.fBad)])), bx b71 24 (acells .u8 32 (r66.1)), bx b54 24 (acells .u8 32 ((Vector.replicate 32 (0 : Int))))] := hS.sel [3, 0, 1, 2] rfl (by decide)
      refine at_op (op_store (v := .agg (List.toArray (acells .u8 32 ((Vector.replicate 32 (0 : Int)))))) (acells .u8 32 ((Vector.replicate 32 (0 : Int)))) rfl rfl rfl rfl hE hS rfl rfl (by kernel_rfl) (by kernel_rfl) (by kernel_rfl) (by kernel_rfl) (by kernel_rfl) (fun a w _ hE hS => ?_)) rfl
      refine at_end rfl ?_
      refine wpIn_ret ?_
      obtain rfl := Option.some.inj hf
      repeat (with_reducible first | refine then_ret ?_ | refine block_ret ?_ | refine qx_ret ?_)
      refine ret_gen ([.agg (List.toArray (acells .u8 32 ((Vector.replicate 32 (0 : Int)))))]) hE (by rw [show Try.f36.results.toList = [.cell 4 24] from rfl]; exact ⟨_, _, _, 0, _, _, rfl, rfl, hS.heapAt (j := 0) rfl, by kernel_rfl, rfl⟩) ?_
      have hS : Stp g w0 D0 [bx b1 49 ([.slice A4 (List.length (x3.fB)) c5] ++ ([.int .i64 (x3.fBad)]))] w D83 [bx b1 49 ([.slice A85 (List.length (r81.fB)) c86] ++ ([.int .i64 (r81.fBad)]))] := hS.sel [1] rfl (by decide)
      exact ⟨_, rfl, D83, A85, c86, rfl, hS, h87⟩
    · replace hf := cond_f hb hf
      clear hb
      refine wpIn_skip ?_
      refine wpIn_seq ?_
      refine region_at ?_
      refine seg 3 (j := 3) [(0, .pointer (some ⟨b1, 0, none⟩)), (1, .func (.func 37) #[] #[]), (4, .pointer (some ⟨b52, 0, none⟩)), (5, .pointer (some ⟨b54, 0, none⟩)), (6, .pointer (some ⟨b71, 0, none⟩)), (7, .int .i64 (r66.2.1)), (8, .int .i64 (r66.2.2)), (11, .bool ((!decide (r61 = (0 : Int))))), (24, .bool ((!decide (r66.2.2 = (0 : Int))))), (29, .pointer (some ⟨b1, 0, none⟩)), (31, .pointer (some ⟨b1, 0, none⟩))] hE (by kernel_rfl) rfl (fun a hE => ?_)
      refine at_op (op_tk hE (g_fieldAddr (fo := 0) (ft := 22) 0 rfl rfl rfl rfl hE rfl rfl (by kernel_rfl) rfl (fun a hE => ?_))) rfl
      refine at_op (op_tk hE (tk_load 1 (.slice A4 (List.length (x3.fB)) c5) rfl rfl rfl rfl hE rfl hS rfl rfl (by kernel_rfl) List.not_mem_nil (fun a hE => ?_))) rfl
      refine seg 1 (j := 6) [(0, .pointer (some ⟨b1, 0, none⟩)), (1, .func (.func 37) #[] #[]), (4, .pointer (some ⟨b52, 0, none⟩)), (5, .pointer (some ⟨b54, 0, none⟩)), (6, .pointer (some ⟨b71, 0, none⟩)), (7, .int .i64 (r66.2.1)), (8, .int .i64 (r66.2.2)), (11, .bool ((!decide (r61 = (0 : Int))))), (24, .bool ((!decide (r66.2.2 = (0 : Int))))), (29, .pointer (some ⟨b1, 0, none⟩)), (33, .slice A4 (List.length (x3.fB)) c5), (34, .int .i64 (r66.2.1))] hE (by kernel_rfl) rfl (fun a hE => ?_)
      obtain ⟨l89, h90, hf⟩ := bind_some hf
      refine at_op (op_tk hE (g_slice (K := (kdInt .u8)) (e := 5) (by_ := 1) (zl := 1) rfl rfl rfl rfl hE rfl rfl (by kernel_rfl) ⟨_, rfl⟩ rfl (h6.mono (Snap.le.trans le65 le70)) h90 (fun a A91 c92 hE h93 => ?_))) rfl
      refine seg 1 (j := 8) [(0, .pointer (some ⟨b1, 0, none⟩)), (1, .func (.func 37) #[] #[]), (4, .pointer (some ⟨b52, 0, none⟩)), (5, .pointer (some ⟨b54, 0, none⟩)), (6, .pointer (some ⟨b71, 0, none⟩)), (7, .int .i64 (r66.2.1)), (8, .int .i64 (r66.2.2)), (11, .bool ((!decide (r61 = (0 : Int))))), (24, .bool ((!decide (r66.2.2 = (0 : Int))))), (35, .slice A91 (List.length (l89)) c92), (36, .pointer (some ⟨b1, 0, none⟩))] hE (by kernel_rfl) rfl (fun a hE => ?_)
      refine at_op (op_tk hE (g_fieldAddr (fo := 0) (ft := 22) 0 rfl rfl rfl rfl hE rfl rfl (by kernel_rfl) rfl (fun a hE => ?_))) rfl
      have hS : Stp g w0 D0 [bx b1 49 ([.slice A4 (List.length (x3.fB)) c5] ++ ([.int .i64 (x3.fBad)]))] w D68 [bx b1 49 ([.slice A4 (List.length (x3.fB)) c5] ++ ([.int .i64 (x3.fBad)])), bx b71 24 (acells .u8 32 (r66.1)), bx b54 24 (acells .u8 32 ((Vector.replicate 32 (0 : Int)))), bx b52 24 (acells .u8 32 ((Vector.replicate 32 (0 : Int))))] := hS.sel [1, 0, 2, 3] rfl (by decide)
      refine at_op (op_store (v := .slice A91 (List.length (l89)) c92) ([.slice A91 (List.length (l89)) c92] ++ ([.int .i64 (x3.fBad)])) rfl rfl rfl rfl hE hS rfl rfl (by kernel_rfl) (by kernel_rfl) (by kernel_rfl) (by kernel_rfl) (by kernel_rfl) (fun a w _ hE hS => ?_)) rfl
      refine at_end rfl ?_
      refine wpIn_seq ?_
      refine region_at ?_
      refine at_op (op_tk hE (tk_load 1 (.agg (List.toArray (acells .u8 32 (r66.1)))) rfl rfl rfl rfl hE rfl hS rfl rfl (by kernel_rfl) List.not_mem_nil (fun a hE => ?_))) rfl
      have hS : Stp g w0 D0 [bx b1 49 ([.slice A4 (List.length (x3.fB)) c5] ++ ([.int .i64 (x3.fBad)]))] w D68 [bx b52 24 (acells .u8 32 ((Vector.replicate 32 (0 : Int)))), bx b1 49 ([.slice A91 (List.length (l89)) c92] ++ ([.int .i64 (x3.fBad)])), bx b71 24 (acells .u8 32 (r66.1)), bx b54 24 (acells .u8 32 ((Vector.replicate 32 (0 : Int))))] := hS.sel [3, 0, 1, 2] rfl (by decide)
      refine at_op (op_store (v := .agg (List.toArray (acells .u8 32 (r66.1)))) (acells .u8 32 (r66.1)) rfl rfl rfl rfl hE hS rfl rfl (by kernel_rfl) (by kernel_rfl) (by kernel_rfl) (by kernel_rfl) (by kernel_rfl) (fun a w _ hE hS => ?_)) rfl
      refine at_end rfl ?_
      refine wpIn_ret ?_
      obtain rfl := Option.some.inj hf
      repeat (with_reducible first | refine then_ret ?_ | refine block_ret ?_ | refine qx_ret ?_)
      refine ret_gen ([.agg (List.toArray (acells .u8 32 (r66.1)))]) hE (by rw [show Try.f36.results.toList = [.cell 4 24] from rfl]; exact ⟨_, _, _, 0, _, _, rfl, rfl, hS.heapAt (j := 0) rfl, by kernel_rfl, rfl⟩) ?_
      have hS : Stp g w0 D0 [bx b1 49 ([.slice A4 (List.length (x3.fB)) c5] ++ ([.int .i64 (x3.fBad)]))] w D68 [bx b1 49 ([.slice A91 (List.length (l89)) c92] ++ ([.int .i64 (x3.fBad)]))] := hS.sel [1] rfl (by decide)
      exact ⟨_, rfl, D68, A91, c92, rfl, hS, h93⟩

set_option maxRecDepth 100000 in
set_option maxHeartbeats 4000000 in
theorem wire_Reader_Hash.calls {K : Nat} {g w0 : World} {D0 : Snap} {x3 : T_inspeximus_wire_Reader} {b1 : Nat} {A4 : Option Addr} {c5 : Nat} {r : ((Vector Int 32) × T_inspeximus_wire_Reader)} (hf : wire_Reader_Hash.f K x3 = some r) (hS0 : St g w0 D0 [bx b1 49 ([.slice A4 (List.length (x3.fB)) c5] ++ ([.int .i64 (x3.fBad)]))]) (h6 : Sl (kdInt .u8) D0 A4 c5 (x3.fB)) :
    CallsIn (Fw none) 0 Try.prog 22 (List.toArray [.pointer (some ⟨b1, 0, none⟩)]) w0 (fun e w' => ∃ v, e = .returned v ∧ ∃ (D1 : Snap) (A17 : Option Addr) (c18 : Nat), v = .agg (List.toArray (acells .u8 32 (r.1))) ∧ Stp g w0 D0 [bx b1 49 ([.slice A4 (List.length (x3.fB)) c5] ++ ([.int .i64 (x3.fBad)]))] w' D1 [bx b1 49 ([.slice A17 (List.length (r.2.fB)) c18] ++ ([.int .i64 (r.2.fBad)]))] ∧ Sl (kdInt .u8) D1 A17 c18 (r.2.fB)) := by
  unfold wire_Reader_Hash.f at hf
  have hS := Stp.refl hS0
  clear hS0
  refine calls_body (n := 5) Try.func22 rfl Try.ntmps22 rfl (fun a hE => ?_)
  have hE : Env a 5 [] [(0, .pointer (some ⟨b1, 0, none⟩))] := hE
  refine wpIn_seq ?_
  refine region_at ?_
  refine at_op (op_alloc (z := .agg (List.toArray (acells .u8 32 ((Vector.replicate 32 (0 : Int)))))) rfl rfl rfl rfl hE rfl hS (by kernel_rfl) (fun a b20 w _ hE hS => ?_)) rfl
  have hS : Stp g w0 D0 [bx b1 49 ([.slice A4 (List.length (x3.fB)) c5] ++ ([.int .i64 (x3.fBad)]))] w D0 [bx b20 24 (acells .u8 32 ((Vector.replicate 32 (0 : Int)))), bx b1 49 ([.slice A4 (List.length (x3.fB)) c5] ++ ([.int .i64 (x3.fBad)]))] := hS
  refine at_end rfl ?_
  refine wpIn_seq ?_
  refine region_at ?_
  refine seg 1 (j := 1) [(0, .pointer (some ⟨b1, 0, none⟩)), (2, .pointer (some ⟨b20, 0, none⟩)), (3, .pointer (some ⟨b1, 0, none⟩))] hE (by kernel_rfl) rfl (fun a hE => ?_)
  have hS : Stp g w0 D0 [bx b1 49 ([.slice A4 (List.length (x3.fB)) c5] ++ ([.int .i64 (x3.fBad)]))] w D0 [bx b1 49 ([.slice A4 (List.length (x3.fB)) c5] ++ ([.int .i64 (x3.fBad)])), bx b20 24 (acells .u8 32 ((Vector.replicate 32 (0 : Int))))] := hS.sel [1, 0] rfl (by decide)
  obtain ⟨r22, h23, hf⟩ := bind_some hf
  refine at_op (op_call rfl rfl rfl rfl hE rfl rfl rfl rfl (by kernel_rfl) (wire_take_api_Hash.calls (g := g) h23 (hS.st.fore (L := [bx b1 49 ([.slice A4 (List.length (x3.fB)) c5] ++ ([.int .i64 (x3.fBad)]))])) h6) (fun a v w hR hE => ?_)) rfl
  obtain ⟨D24, A26, c27, rfl, hS1, h28⟩ := hR
  have le29 := hS1.dle
  have hS : Stp g w0 D0 [bx b1 49 ([.slice A4 (List.length (x3.fB)) c5] ++ ([.int .i64 (x3.fBad)]))] w D24 [bx b1 49 ([.slice A26 (List.length (r22.2.fB)) c27] ++ ([.int .i64 (r22.2.fBad)])), bx b20 24 (acells .u8 32 ((Vector.replicate 32 (0 : Int))))] := hS.call (L := [bx b1 49 ([.slice A4 (List.length (x3.fB)) c5] ++ ([.int .i64 (x3.fBad)]))]) (R := [bx b20 24 (acells .u8 32 ((Vector.replicate 32 (0 : Int))))]) hS1
  clear hS1
  have hS : Stp g w0 D0 [bx b1 49 ([.slice A4 (List.length (x3.fB)) c5] ++ ([.int .i64 (x3.fBad)]))] w D24 [bx b20 24 (acells .u8 32 ((Vector.replicate 32 (0 : Int)))), bx b1 49 ([.slice A26 (List.length (r22.2.fB)) c27] ++ ([.int .i64 (r22.2.fBad)]))] := hS.sel [1, 0] rfl (by decide)
  refine at_op (op_store (v := .agg (List.toArray (acells .u8 32 (r22.1)))) (acells .u8 32 (r22.1)) rfl rfl rfl rfl hE hS rfl rfl (by kernel_rfl) (by kernel_rfl) (by kernel_rfl) (by kernel_rfl) (by kernel_rfl) (fun a w _ hE hS => ?_)) rfl
  refine at_end rfl ?_
  refine wpIn_ret ?_
  obtain rfl := Option.some.inj hf
  repeat (with_reducible first | refine then_ret ?_ | refine block_ret ?_ | refine qx_ret ?_)
  refine ret_gen ([.agg (List.toArray (acells .u8 32 (r22.1)))]) hE (by rw [show Try.f22.results.toList = [.cell 2 24] from rfl]; exact ⟨_, _, _, 0, _, _, rfl, rfl, hS.heapAt (j := 0) rfl, by kernel_rfl, rfl⟩) ?_
  have hS : Stp g w0 D0 [bx b1 49 ([.slice A4 (List.length (x3.fB)) c5] ++ ([.int .i64 (x3.fBad)]))] w D24 [bx b1 49 ([.slice A26 (List.length (r22.2.fB)) c27] ++ ([.int .i64 (r22.2.fBad)]))] := hS.sel [1] rfl (by decide)
  exact ⟨_, rfl, D24, A26, c27, rfl, hS, h28⟩

set_option maxRecDepth 100000 in
set_option maxHeartbeats 4000000 in
theorem wire_Reader_Done.calls {K : Nat} {g w0 : World} {D0 : Snap} {x3 : T_inspeximus_wire_Reader} {b1 : Nat} {A4 : Option Addr} {c5 : Nat} {r : (Int)} (hf : wire_Reader_Done.f K x3 = some r) (hS0 : St g w0 D0 [bx b1 49 ([.slice A4 (List.length (x3.fB)) c5] ++ ([.int .i64 (x3.fBad)]))]) (h6 : Sl (kdInt .u8) D0 A4 c5 (x3.fB)) :
    CallsIn (Fw none) 0 Try.prog 26 (List.toArray [.pointer (some ⟨b1, 0, none⟩)]) w0 (fun e w' => ∃ v, e = .returned v ∧ ∃ (D1 : Snap), v = .int .i64 (r) ∧ Stp g w0 D0 [bx b1 49 ([.slice A4 (List.length (x3.fB)) c5] ++ ([.int .i64 (x3.fBad)]))] w' D1 [bx b1 49 ([.slice A4 (List.length (x3.fB)) c5] ++ ([.int .i64 (x3.fBad)]))]) := by
  unfold wire_Reader_Done.f at hf
  have hS := Stp.refl hS0
  clear hS0
  refine calls_body (n := 15) Try.func26 rfl Try.ntmps26 rfl (fun a hE => ?_)
  have hE : Env a 15 [] [(0, .pointer (some ⟨b1, 0, none⟩))] := hE
  refine wpIn_seq ?_
  refine region_at ?_
  refine seg 1 (j := 1) [(0, .pointer (some ⟨b1, 0, none⟩)), (2, .int .i64 ((0 : Int)))] hE (by kernel_rfl) rfl (fun a hE => ?_)
  refine at_end rfl ?_
  refine wpIn_seq ?_
  refine wpIn_seq ?_
  refine region_at ?_
  refine seg 1 (j := 1) [(0, .pointer (some ⟨b1, 0, none⟩)), (2, .int .i64 ((0 : Int))), (4, .pointer (some ⟨b1, 0, none⟩))] hE (by kernel_rfl) rfl (fun a hE => ?_)
  obtain ⟨r22, h23, hf⟩ := bind_some hf
  refine at_op (op_call rfl rfl rfl rfl hE rfl rfl rfl rfl (by kernel_rfl) (wire_Reader_Bad.calls (g := g) h23 (hS.st.fore (L := [bx b1 49 ([.slice A4 (List.length (x3.fB)) c5] ++ ([.int .i64 (x3.fBad)]))])) h6) (fun a v w hR hE => ?_)) rfl
  obtain ⟨D24, rfl, hS1⟩ := hR
  have le26 := hS1.dle
  have hS : Stp g w0 D0 [bx b1 49 ([.slice A4 (List.length (x3.fB)) c5] ++ ([.int .i64 (x3.fBad)]))] w D24 [bx b1 49 ([.slice A4 (List.length (x3.fB)) c5] ++ ([.int .i64 (x3.fBad)]))] := hS.call (L := [bx b1 49 ([.slice A4 (List.length (x3.fB)) c5] ++ ([.int .i64 (x3.fBad)]))]) (R := []) hS1
  clear hS1
  refine seg 1 (j := 3) [(0, .pointer (some ⟨b1, 0, none⟩)), (2, .int .i64 ((0 : Int))), (3, .int .i64 (r22))] hE (by kernel_rfl) rfl (fun a hE => ?_)
  refine at_end rfl ?_
  refine wpIn_seq ?_
  refine region_at ?_
  refine seg 2 (j := 2) [(0, .pointer (some ⟨b1, 0, none⟩)), (2, .int .i64 ((0 : Int))), (3, .int .i64 (r22)), (7, .bool ((!decide (r22 = (0 : Int)))))] hE (by kernel_rfl) rfl (fun a hE => ?_)
  refine at_end rfl ?_
  refine cond_split hE (b := (!decide (r22 = (0 : Int)))) rfl (fun hb => ?_) (fun hb => ?_)
  · replace hf := cond_t hb hf
    clear hb
    refine wpIn_seq ?_
    refine region_at ?_
    refine seg 2 (j := 2) [(0, .pointer (some ⟨b1, 0, none⟩)), (2, .int .i64 (r22)), (3, .int .i64 (r22)), (7, .bool ((!decide (r22 = (0 : Int)))))] hE (by kernel_rfl) rfl (fun a hE => ?_)
    refine at_end rfl ?_
    refine wpIn_ret ?_
    obtain rfl := Option.some.inj hf
    repeat (with_reducible first | refine then_ret ?_ | refine block_ret ?_ | refine qx_ret ?_)
    refine ret_gen ([.int .i64 (r22)]) hE (by rw [show Try.f26.results.toList = [.tmp 2] from rfl]; exact ⟨_, _, rfl, rfl, rfl⟩) ?_
    exact ⟨_, rfl, D24, rfl, hS⟩
  · replace hf := cond_f hb hf
    clear hb
    refine wpIn_skip ?_
    refine wpIn_seq ?_
    refine wpIn_seq ?_
    refine region_at ?_
    refine seg 2 (j := 2) [(0, .pointer (some ⟨b1, 0, none⟩)), (2, .int .i64 ((0 : Int))), (3, .int .i64 (r22)), (7, .bool ((!decide (r22 = (0 : Int))))), (10, .pointer (some ⟨b1, 0, none⟩))] hE (by kernel_rfl) rfl (fun a hE => ?_)
    refine at_op (op_tk hE (g_fieldAddr (fo := 0) (ft := 22) 0 rfl rfl rfl rfl hE rfl rfl (by kernel_rfl) rfl (fun a hE => ?_))) rfl
    refine at_op (op_tk hE (tk_load 0 (.slice A4 (List.length (x3.fB)) c5) rfl rfl rfl rfl hE rfl hS rfl rfl (by kernel_rfl) List.not_mem_nil (fun a hE => ?_))) rfl
    refine seg 2 (j := 6) [(0, .pointer (some ⟨b1, 0, none⟩)), (2, .int .i64 ((0 : Int))), (3, .int .i64 (r22)), (7, .bool ((!decide (r22 = (0 : Int))))), (14, .bool ((decide ((0 : Int) < ((List.length (x3.fB) : Nat) : Int)))))] hE (by kernel_rfl) rfl (fun a hE => ?_)
    refine at_end rfl ?_
    refine cond_split hE (b := (decide ((0 : Int) < ((List.length (x3.fB) : Nat) : Int)))) rfl (fun hb => ?_) (fun hb => ?_)
    · replace hf := cond_t hb hf
      clear hb
      refine wpIn_seq ?_
      refine region_at ?_
      refine seg 1 (j := 1) [(0, .pointer (some ⟨b1, 0, none⟩)), (2, .int .i64 ((2 : Int))), (3, .int .i64 (r22)), (7, .bool ((!decide (r22 = (0 : Int))))), (14, .bool ((decide ((0 : Int) < ((List.length (x3.fB) : Nat) : Int)))))] hE (by kernel_rfl) rfl (fun a hE => ?_)
      refine at_end rfl ?_
      refine wpIn_ret ?_
      obtain rfl := Option.some.inj hf
      repeat (with_reducible first | refine then_ret ?_ | refine block_ret ?_ | refine qx_ret ?_)
      refine ret_gen ([.int .i64 ((2 : Int))]) hE (by rw [show Try.f26.results.toList = [.tmp 2] from rfl]; exact ⟨_, _, rfl, rfl, rfl⟩) ?_
      exact ⟨_, rfl, D24, rfl, hS⟩
    · replace hf := cond_f hb hf
      clear hb
      refine wpIn_skip ?_
      refine wpIn_seq ?_
      refine region_at ?_
      refine seg 1 (j := 1) [(0, .pointer (some ⟨b1, 0, none⟩)), (2, .int .i64 ((0 : Int))), (3, .int .i64 (r22)), (7, .bool ((!decide (r22 = (0 : Int))))), (14, .bool ((decide ((0 : Int) < ((List.length (x3.fB) : Nat) : Int)))))] hE (by kernel_rfl) rfl (fun a hE => ?_)
      refine at_end rfl ?_
      refine wpIn_ret ?_
      obtain rfl := Option.some.inj hf
      repeat (with_reducible first | refine then_ret ?_ | refine block_ret ?_ | refine qx_ret ?_)
      refine ret_gen ([.int .i64 ((0 : Int))]) hE (by rw [show Try.f26.results.toList = [.tmp 2] from rfl]; exact ⟨_, _, rfl, rfl, rfl⟩) ?_
      exact ⟨_, rfl, D24, rfl, hS⟩

set_option maxRecDepth 100000 in
set_option maxHeartbeats 4000000 in
theorem inspeximuslaw03_alive.calls {K : Nat} {g w0 : World} {D0 : Snap} {r : (Bool)} (hf : inspeximuslaw03_alive.f K = some r) (hS0 : St g w0 D0 []) :
    CallsIn (Fw none) 0 Try.prog 9 (List.toArray []) w0 (fun e w' => ∃ v, e = .returned v ∧ ∃ (D1 : Snap), v = .bool (r) ∧ Stp g w0 D0 [] w' D1 []) := by
  unfold inspeximuslaw03_alive.f at hf
  have hS := Stp.refl hS0
  clear hS0
  refine calls_body (n := 70) Try.func9 rfl Try.ntmps9 rfl (fun a hE => ?_)
  have hE : Env a 70 [] [] := hE
  refine wpIn_seq ?_
  refine region_at ?_
  refine seg 1 (j := 1) [(0, .bool false)] hE (by kernel_rfl) rfl (fun a hE => ?_)
  refine at_end rfl ?_
  refine wpIn_seq ?_
  refine region_at ?_
  obtain ⟨r273, h274, hf⟩ := bind_some hf
  refine at_op (op_call rfl rfl rfl rfl hE rfl rfl rfl rfl (by kernel_rfl) (wire_Num.calls (g := g) h274 (hS.st.fore (L := [])) ) (fun a v w hR hE => ?_)) rfl
  obtain ⟨D275, A277, c278, q279, rfl, hS1, h280⟩ := hR
  have le282 := hS1.dle
  have hS : Stp g w0 D0 [] w D275 [q279] := hS.call (L := []) (R := []) hS1
  clear hS1
  obtain ⟨r283, h284, hf⟩ := bind_some hf
  refine at_op (op_call rfl rfl rfl rfl hE rfl rfl rfl rfl (by kernel_rfl) (wire_Flag.calls (g := g) h284 (hS.st.fore (L := [])) ) (fun a v w hR hE => ?_)) rfl
  obtain ⟨D285, A287, c288, q289, rfl, hS1, h290⟩ := hR
  have le292 := hS1.dle
  have hS : Stp g w0 D0 [] w D285 [q289, q279] := hS.call (L := []) (R := [q279]) hS1
  clear hS1
  refine at_op (op_buildSlice (K := (kdInt .u8)) (e := 5) (cs := [.int .u8 ((97 : Int))] ++ ([.int .u8 ((98 : Int))] ++ [])) ([(97 : Int), (98 : Int)] : List Int) rfl rfl rfl rfl hE rfl hS rfl (by kernel_rfl) rfl rfl (by exact (show RL (kdInt .u8) D285 ([(97 : Int), (98 : Int)] : List Int) ([.int .u8 ((97 : Int))] ++ ([.int .u8 ((98 : Int))] ++ [])) from ⟨_, _, rfl, rfl, ⟨_, _, rfl, rfl, rfl⟩⟩)) (fun a A293 q294 w _ hE h295 hS => ?_)) rfl
  have hS : Stp g w0 D0 [] w D285 [q294, q289, q279] := hS
  refine at_op (op_lit (T := 5) (l := ([(97 : Int), (98 : Int)] : List Int)) rfl rfl rfl rfl hE rfl hS rfl (by kernel_rfl) h295 (by kernel_rfl) (fun a D297 w _ le298 hE h299 hS => ?_)) rfl
  have hS : Stp g w0 D0 [] w D297 [q289, q279] := hS
  obtain ⟨r300, h301, hf⟩ := bind_some hf
  refine at_op (op_call rfl rfl rfl rfl hE rfl rfl rfl rfl (by kernel_rfl) (wire_Bytes.calls (g := g) h301 (hS.st.fore (L := [])) h299) (fun a v w hR hE => ?_)) rfl
  obtain ⟨D302, A304, c305, q306, rfl, hS1, h307⟩ := hR
  have le309 := hS1.dle
  have hS : Stp g w0 D0 [] w D302 [q306, q289, q279] := hS.call (L := []) (R := [q289, q279]) hS1
  clear hS1
  refine at_op (op_tk hE (tk_build (acells .u8 32 ((vofL 32 [(7 : Int), (0 : Int), (0 : Int), (0 : Int), (0 : Int), (0 : Int), (0 : Int), (0 : Int), (0 : Int), (0 : Int), (0 : Int), (0 : Int), (0 : Int), (0 : Int), (0 : Int), (0 : Int), (0 : Int), (0 : Int), (0 : Int), (0 : Int), (0 : Int), (0 : Int), (0 : Int), (0 : Int), (0 : Int), (0 : Int), (0 : Int), (0 : Int), (0 : Int), (0 : Int), (0 : Int), (0 : Int)]))) rfl rfl rfl rfl hE rfl rfl (by kernel_rfl) (fun a hE => ?_))) rfl
  obtain ⟨r310, h311, hf⟩ := bind_some hf
  refine at_op (op_call rfl rfl rfl rfl hE rfl rfl rfl rfl (by kernel_rfl) (wire_Hash.calls (g := g) h311 (hS.st.fore (L := [])) ) (fun a v w hR hE => ?_)) rfl
  obtain ⟨D312, A314, c315, q316, rfl, hS1, h317⟩ := hR
  have le319 := hS1.dle
  have hS : Stp g w0 D0 [] w D312 [q316, q306, q289, q279] := hS.call (L := []) (R := [q306, q289, q279]) hS1
  clear hS1
  have hS : Stp g w0 D0 [] w D312 [q279, q316, q306, q289] := hS.sel [3, 0, 1, 2] rfl (by decide)
  obtain ⟨D320, le321, hS, h322⟩ := hS.frozen (h280.mono (Snap.le.trans (Snap.le.trans (Snap.le.trans le292 le298) le309) le319))
  have hS : Stp g w0 D0 [] w D320 [q316, q306, q289] := hS
  have hS : Stp g w0 D0 [] w D320 [q289, q316, q306] := hS.sel [2, 0, 1] rfl (by decide)
  obtain ⟨D323, le324, hS, h325⟩ := hS.frozen (h290.mono (Snap.le.trans (Snap.le.trans (Snap.le.trans le298 le309) le319) le321))
  have hS : Stp g w0 D0 [] w D323 [q316, q306] := hS
  have hS : Stp g w0 D0 [] w D323 [q306, q316] := hS.sel [1, 0] rfl (by decide)
  obtain ⟨D326, le327, hS, h328⟩ := hS.frozen (h307.mono (Snap.le.trans (Snap.le.trans le319 le321) le324))
  have hS : Stp g w0 D0 [] w D326 [q316] := hS
  obtain ⟨D329, le330, hS, h331⟩ := hS.frozen (h317.mono (Snap.le.trans (Snap.le.trans le321 le324) le327))
  have hS : Stp g w0 D0 [] w D329 [] := hS
  refine at_op (op_buildSlice (K := (kdSlice (kdInt .u8))) (e := 22) (cs := [.slice A277 (List.length (r273)) c278] ++ ([.slice A287 (List.length (r283)) c288] ++ ([.slice A304 (List.length (r300)) c305] ++ ([.slice A314 (List.length (r310)) c315] ++ [])))) ([r273, r283, r300, r310] : List (List Int)) rfl rfl rfl rfl hE rfl hS rfl (by kernel_rfl) rfl rfl (by exact (show RL (kdSlice (kdInt .u8)) D329 ([r273, r283, r300, r310] : List (List Int)) ([.slice A277 (List.length (r273)) c278] ++ ([.slice A287 (List.length (r283)) c288] ++ ([.slice A304 (List.length (r300)) c305] ++ ([.slice A314 (List.length (r310)) c315] ++ [])))) from ⟨_, _, rfl, (kslice (h322.mono (Snap.le.trans (Snap.le.trans le324 le327) le330))), ⟨_, _, rfl, (kslice (h325.mono (Snap.le.trans le327 le330))), ⟨_, _, rfl, (kslice (h328.mono le330)), ⟨_, _, rfl, (kslice h331), rfl⟩⟩⟩⟩)) (fun a A332 q333 w _ hE h334 hS => ?_)) rfl
  have hS : Stp g w0 D0 [] w D329 [q333] := hS
  obtain ⟨D336, le337, hS, h338⟩ := hS.frozen h334
  have hS : Stp g w0 D0 [] w D336 [] := hS
  obtain ⟨r339, h340, hf⟩ := bind_some hf
  refine at_op (op_call rfl rfl rfl rfl hE rfl rfl rfl rfl (by kernel_rfl) (wire_All.calls (g := g) h340 (hS.st.fore (L := [])) h338) (fun a v w hR hE => ?_)) rfl
  obtain ⟨D341, A343, c344, q345, rfl, hS1, h346⟩ := hR
  have le348 := hS1.dle
  have hS : Stp g w0 D0 [] w D341 [q345] := hS.call (L := []) (R := []) hS1
  clear hS1
  refine seg 1 (j := 10) [(0, .bool false), (1, .slice A343 (List.length (r339)) c344)] hE (by kernel_rfl) rfl (fun a hE => ?_)
  refine at_end rfl ?_
  refine wpIn_seq ?_
  refine region_at ?_
  refine seg 1 (j := 1) [(0, .bool false), (1, .slice A343 (List.length (r339)) c344), (12, .slice A343 (List.length (r339)) c344)] hE (by kernel_rfl) rfl (fun a hE => ?_)
  obtain ⟨D349, le350, hS, h351⟩ := hS.frozen h346
  have hS : Stp g w0 D0 [] w D349 [] := hS
  obtain ⟨r352, h353, hf⟩ := bind_some hf
  refine at_op (op_call rfl rfl rfl rfl hE rfl rfl rfl rfl (by kernel_rfl) (wire_Read.calls (g := g) h353 (hS.st.fore (L := [])) h351) (fun a v w hR hE => ?_)) rfl
  obtain ⟨D354, b356, A358, c359, rfl, hS1, h360⟩ := hR
  have le361 := hS1.dle
  have hS : Stp g w0 D0 [] w D354 [bx b356 49 ([.slice A358 (List.length (r352.fB)) c359] ++ ([.int .i64 (r352.fBad)]))] := hS.call (L := []) (R := []) hS1
  clear hS1
  refine seg 1 (j := 3) [(0, .bool false), (1, .slice A343 (List.length (r339)) c344), (2, .pointer (some ⟨b356, 0, none⟩))] hE (by kernel_rfl) rfl (fun a hE => ?_)
  refine at_end rfl ?_
  obtain ⟨j454, hj455, hf⟩ := jn_elim hf
  refine seq_join (fun a w => ∃ (y451 : Bool), ∃ (D452 : Snap), Env a 70 [] [(0, .bool (y451))] ∧ Stp g w0 D0 [] w D452 [] ∧ Snap.le D354 D452 ∧ j454 y451 = some r) ?_ ?_
  · clear hj455
    refine region_at ?_
    refine seg 4 (j := 4) [(0, .bool false), (1, .slice A343 (List.length (r339)) c344), (2, .pointer (some ⟨b356, 0, none⟩)), (17, .bool ((decide (((List.length (r339) : Nat) : Int) = (38 : Int)))))] hE (by kernel_rfl) rfl (fun a hE => ?_)
    cases hb : (decide (((List.length (r339) : Nat) : Int) = (38 : Int)))
    · replace hf := cond_f hb hf
      have hE := hE.know (t := 17) (b := (decide (((List.length (r339) : Nat) : Int) = (38 : Int)))) (b' := false) rfl hb
      clear hb
      refine seg 53 (j := 57) [(0, .bool false), (1, .slice A343 (List.length (r339)) c344), (2, .pointer (some ⟨b356, 0, none⟩))] hE (by kernel_rfl) rfl (fun a hE => ?_)
      refine at_end rfl ?_
      have hS : Stp g w0 D0 [] w D354 [] := hS.sel [] rfl (by decide)
      exact ⟨false, D354, hE.weak (by kernel_rfl), hS, Snap.le.refl _, hf⟩
    · replace hf := cond_t hb hf
      have hE := hE.know (t := 17) (b := (decide (((List.length (r339) : Nat) : Int) = (38 : Int)))) (b' := true) rfl hb
      clear hb
      refine seg 1 (j := 5) [(0, .bool false), (1, .slice A343 (List.length (r339)) c344), (2, .pointer (some ⟨b356, 0, none⟩)), (17, .bool true), (18, .slice A343 (List.length (r339)) c344)] hE (by kernel_rfl) rfl (fun a hE => ?_)
      obtain ⟨x456, h457, hf⟩ := bind_some hf
      refine at_op (op_tk hE (g_index (K := (kdInt .u8)) (e := 5) (by_ := 1) (zl := 1) rfl rfl rfl rfl hE rfl rfl rfl (by kernel_rfl) rfl (h351.mono le361) h457 (fun a b458 o459 hE h460 => ?_))) rfl
      obtain ⟨cs461, C462, T463, fr464, hr465, hb466, hc467⟩ := h460
      obtain rfl := hr465
      refine at_op (op_tk hE (tk_loadX (off0 := o459) (off := 0) (c := [.int .u8 (x456)]) (.int .u8 (x456)) rfl rfl rfl rfl hE rfl hS rfl hb466 hc467 (by kernel_rfl) (fun _ h => absurd h List.not_mem_nil) (fun a hE => ?_))) rfl
      refine seg 3 (j := 10) [(0, .bool false), (1, .slice A343 (List.length (r339)) c344), (2, .pointer (some ⟨b356, 0, none⟩)), (23, .bool ((decide (x456 = (130 : Int)))))] hE (by kernel_rfl) rfl (fun a hE => ?_)
      cases hb : (decide (x456 = (130 : Int)))
      · replace hf := cond_f hb hf
        have hE := hE.know (t := 23) (b := (decide (x456 = (130 : Int)))) (b' := false) rfl hb
        clear hb
        refine seg 47 (j := 57) [(0, .bool false), (1, .slice A343 (List.length (r339)) c344), (2, .pointer (some ⟨b356, 0, none⟩))] hE (by kernel_rfl) rfl (fun a hE => ?_)
        refine at_end rfl ?_
        have hS : Stp g w0 D0 [] w D354 [] := hS.sel [] rfl (by decide)
        exact ⟨false, D354, hE.weak (by kernel_rfl), hS, Snap.le.refl _, hf⟩
      · replace hf := cond_t hb hf
        have hE := hE.know (t := 23) (b := (decide (x456 = (130 : Int)))) (b' := true) rfl hb
        clear hb
        refine seg 1 (j := 11) [(0, .bool false), (1, .slice A343 (List.length (r339)) c344), (2, .pointer (some ⟨b356, 0, none⟩)), (23, .bool true), (24, .slice A343 (List.length (r339)) c344)] hE (by kernel_rfl) rfl (fun a hE => ?_)
        obtain ⟨x468, h469, hf⟩ := bind_some hf
        refine at_op (op_tk hE (g_index (K := (kdInt .u8)) (e := 5) (by_ := 1) (zl := 1) rfl rfl rfl rfl hE rfl rfl rfl (by kernel_rfl) rfl (h351.mono le361) h469 (fun a b470 o471 hE h472 => ?_))) rfl
        obtain ⟨cs473, C474, T475, fr476, hr477, hb478, hc479⟩ := h472
        obtain rfl := hr477
        refine at_op (op_tk hE (tk_loadX (off0 := o471) (off := 0) (c := [.int .u8 (x468)]) (.int .u8 (x468)) rfl rfl rfl rfl hE rfl hS rfl hb478 hc479 (by kernel_rfl) (fun _ h => absurd h List.not_mem_nil) (fun a hE => ?_))) rfl
        refine seg 3 (j := 16) [(0, .bool false), (1, .slice A343 (List.length (r339)) c344), (2, .pointer (some ⟨b356, 0, none⟩)), (29, .bool ((decide (x468 = (44 : Int)))))] hE (by kernel_rfl) rfl (fun a hE => ?_)
        cases hb : (decide (x468 = (44 : Int)))
        · replace hf := cond_f hb hf
          have hE := hE.know (t := 29) (b := (decide (x468 = (44 : Int)))) (b' := false) rfl hb
          clear hb
          refine seg 41 (j := 57) [(0, .bool false), (1, .slice A343 (List.length (r339)) c344), (2, .pointer (some ⟨b356, 0, none⟩))] hE (by kernel_rfl) rfl (fun a hE => ?_)
          refine at_end rfl ?_
          have hS : Stp g w0 D0 [] w D354 [] := hS.sel [] rfl (by decide)
          exact ⟨false, D354, hE.weak (by kernel_rfl), hS, Snap.le.refl _, hf⟩
        · replace hf := cond_t hb hf
          have hE := hE.know (t := 29) (b := (decide (x468 = (44 : Int)))) (b' := true) rfl hb
          clear hb
          refine seg 1 (j := 17) [(0, .bool false), (1, .slice A343 (List.length (r339)) c344), (2, .pointer (some ⟨b356, 0, none⟩)), (29, .bool true), (30, .pointer (some ⟨b356, 0, none⟩))] hE (by kernel_rfl) rfl (fun a hE => ?_)
          obtain ⟨r480, h481, hf⟩ := bind_some hf
          refine at_op (op_call rfl rfl rfl rfl hE rfl rfl rfl rfl (by kernel_rfl) (wire_Reader_Num.calls (g := g) h481 (hS.st.fore (L := [bx b356 49 ([.slice A358 (List.length (r352.fB)) c359] ++ ([.int .i64 (r352.fBad)]))])) h360) (fun a v w hR hE => ?_)) rfl
          obtain ⟨D482, A484, c485, rfl, hS1, h486⟩ := hR
          have le487 := hS1.dle
          have hS : Stp g w0 D0 [] w D482 [bx b356 49 ([.slice A484 (List.length (r480.2.fB)) c485] ++ ([.int .i64 (r480.2.fBad)]))] := hS.call (L := [bx b356 49 ([.slice A358 (List.length (r352.fB)) c359] ++ ([.int .i64 (r352.fBad)]))]) (R := []) hS1
          clear hS1
          refine seg 3 (j := 21) [(0, .bool false), (1, .slice A343 (List.length (r339)) c344), (2, .pointer (some ⟨b356, 0, none⟩)), (34, .bool ((decide (r480.1 = (300 : Int)))))] hE (by kernel_rfl) rfl (fun a hE => ?_)
          cases hb : (decide (r480.1 = (300 : Int)))
          · replace hf := cond_f hb hf
            have hE := hE.know (t := 34) (b := (decide (r480.1 = (300 : Int)))) (b' := false) rfl hb
            clear hb
            refine seg 36 (j := 57) [(0, .bool false), (1, .slice A343 (List.length (r339)) c344), (2, .pointer (some ⟨b356, 0, none⟩))] hE (by kernel_rfl) rfl (fun a hE => ?_)
            refine at_end rfl ?_
            have hS : Stp g w0 D0 [] w D482 [] := hS.sel [] rfl (by decide)
            exact ⟨false, D482, hE.weak (by kernel_rfl), hS, le487, hf⟩
          · replace hf := cond_t hb hf
            have hE := hE.know (t := 34) (b := (decide (r480.1 = (300 : Int)))) (b' := true) rfl hb
            clear hb
            refine seg 1 (j := 22) [(0, .bool false), (1, .slice A343 (List.length (r339)) c344), (2, .pointer (some ⟨b356, 0, none⟩)), (34, .bool true), (35, .pointer (some ⟨b356, 0, none⟩))] hE (by kernel_rfl) rfl (fun a hE => ?_)
            obtain ⟨r488, h489, hf⟩ := bind_some hf
            refine at_op (op_call rfl rfl rfl rfl hE rfl rfl rfl rfl (by kernel_rfl) (wire_Reader_Flag.calls (g := g) h489 (hS.st.fore (L := [bx b356 49 ([.slice A484 (List.length (r480.2.fB)) c485] ++ ([.int .i64 (r480.2.fBad)]))])) h486) (fun a v w hR hE => ?_)) rfl
            obtain ⟨D490, A492, c493, rfl, hS1, h494⟩ := hR
            have le495 := hS1.dle
            have hS : Stp g w0 D0 [] w D490 [bx b356 49 ([.slice A492 (List.length (r488.2.fB)) c493] ++ ([.int .i64 (r488.2.fBad)]))] := hS.call (L := [bx b356 49 ([.slice A484 (List.length (r480.2.fB)) c485] ++ ([.int .i64 (r480.2.fBad)]))]) (R := []) hS1
            clear hS1
            refine seg 2 (j := 25) [(0, .bool false), (1, .slice A343 (List.length (r339)) c344), (2, .pointer (some ⟨b356, 0, none⟩)), (38, .bool (r488.1))] hE (by kernel_rfl) rfl (fun a hE => ?_)
            cases hb : r488.1
            · replace hf := cond_f hb hf
              have hE := hE.know (t := 38) (b := r488.1) (b' := false) rfl hb
              clear hb
              refine seg 32 (j := 57) [(0, .bool false), (1, .slice A343 (List.length (r339)) c344), (2, .pointer (some ⟨b356, 0, none⟩))] hE (by kernel_rfl) rfl (fun a hE => ?_)
              refine at_end rfl ?_
              have hS : Stp g w0 D0 [] w D490 [] := hS.sel [] rfl (by decide)
              exact ⟨false, D490, hE.weak (by kernel_rfl), hS, (Snap.le.trans le487 le495), hf⟩
            · replace hf := cond_t hb hf
              have hE := hE.know (t := 38) (b := r488.1) (b' := true) rfl hb
              clear hb
              refine seg 1 (j := 26) [(0, .bool false), (1, .slice A343 (List.length (r339)) c344), (2, .pointer (some ⟨b356, 0, none⟩)), (38, .bool true), (39, .pointer (some ⟨b356, 0, none⟩))] hE (by kernel_rfl) rfl (fun a hE => ?_)
              obtain ⟨r496, h497, hf⟩ := bind_some hf
              refine at_op (op_call rfl rfl rfl rfl hE rfl rfl rfl rfl (by kernel_rfl) (wire_Reader_Bytes.calls (g := g) h497 (hS.st.fore (L := [bx b356 49 ([.slice A492 (List.length (r488.2.fB)) c493] ++ ([.int .i64 (r488.2.fBad)]))])) h494) (fun a v w hR hE => ?_)) rfl
              obtain ⟨D498, A500, c501, q502, A505, c506, rfl, hS1, h503, h507⟩ := hR
              have le508 := hS1.dle
              have hS : Stp g w0 D0 [] w D498 [bx b356 49 ([.slice A505 (List.length (r496.2.fB)) c506] ++ ([.int .i64 (r496.2.fBad)])), q502] := hS.call (L := [bx b356 49 ([.slice A492 (List.length (r488.2.fB)) c493] ++ ([.int .i64 (r488.2.fBad)]))]) (R := []) hS1
              clear hS1
              have hS : Stp g w0 D0 [] w D498 [q502, bx b356 49 ([.slice A505 (List.length (r496.2.fB)) c506] ++ ([.int .i64 (r496.2.fBad)]))] := hS.sel [1, 0] rfl (by decide)
              obtain ⟨D509, le510, hS, h511⟩ := hS.frozen h503
              have hS : Stp g w0 D0 [] w D509 [bx b356 49 ([.slice A505 (List.length (r496.2.fB)) c506] ++ ([.int .i64 (r496.2.fBad)]))] := hS
              refine at_op (op_tk hE (tk_b2s rfl rfl rfl rfl hE rfl hS rfl (by kernel_rfl) h511 (fun _ h => absurd h List.not_mem_nil) (fun a hE => ?_))) rfl
              refine at_op (op_tk hE (tk_bin (r := .bool ((ByteArray.toList (bofL (r496.1)) == ByteArray.toList (⟨#[97, 98]⟩)))) rfl rfl rfl rfl hE rfl rfl rfl (fun w => bstr_run _ _ w _ rfl (by decide)) (fun a hE => ?_))) rfl
              refine seg 2 (j := 31) [(0, .bool false), (1, .slice A343 (List.length (r339)) c344), (2, .pointer (some ⟨b356, 0, none⟩)), (44, .bool ((ByteArray.toList (bofL (r496.1)) == ByteArray.toList (⟨#[97, 98]⟩))))] hE (by kernel_rfl) rfl (fun a hE => ?_)
              cases hb : (ByteArray.toList (bofL (r496.1)) == ByteArray.toList (⟨#[97, 98]⟩))
              · replace hf := cond_f hb hf
                have hE := hE.know (t := 44) (b := (ByteArray.toList (bofL (r496.1)) == ByteArray.toList (⟨#[97, 98]⟩))) (b' := false) rfl hb
                clear hb
                refine seg 26 (j := 57) [(0, .bool false), (1, .slice A343 (List.length (r339)) c344), (2, .pointer (some ⟨b356, 0, none⟩))] hE (by kernel_rfl) rfl (fun a hE => ?_)
                refine at_end rfl ?_
                have hS : Stp g w0 D0 [] w D509 [] := hS.sel [] rfl (by decide)
                exact ⟨false, D509, hE.weak (by kernel_rfl), hS, (Snap.le.trans (Snap.le.trans (Snap.le.trans le487 le495) le508) le510), hf⟩
              · replace hf := cond_t hb hf
                have hE := hE.know (t := 44) (b := (ByteArray.toList (bofL (r496.1)) == ByteArray.toList (⟨#[97, 98]⟩))) (b' := true) rfl hb
                clear hb
                refine seg 1 (j := 32) [(0, .bool false), (1, .slice A343 (List.length (r339)) c344), (2, .pointer (some ⟨b356, 0, none⟩)), (44, .bool true), (45, .pointer (some ⟨b356, 0, none⟩))] hE (by kernel_rfl) rfl (fun a hE => ?_)
                obtain ⟨r512, h513, hf⟩ := bind_some hf
                refine at_op (op_call rfl rfl rfl rfl hE rfl rfl rfl rfl (by kernel_rfl) (wire_Reader_Left.calls (g := g) h513 (hS.st.fore (L := [bx b356 49 ([.slice A505 (List.length (r496.2.fB)) c506] ++ ([.int .i64 (r496.2.fBad)]))])) (h507.mono le510)) (fun a v w hR hE => ?_)) rfl
                obtain ⟨D514, rfl, hS1⟩ := hR
                have le516 := hS1.dle
                have hS : Stp g w0 D0 [] w D514 [bx b356 49 ([.slice A505 (List.length (r496.2.fB)) c506] ++ ([.int .i64 (r496.2.fBad)]))] := hS.call (L := [bx b356 49 ([.slice A505 (List.length (r496.2.fB)) c506] ++ ([.int .i64 (r496.2.fBad)]))]) (R := []) hS1
                clear hS1
                refine seg 3 (j := 36) [(0, .bool false), (1, .slice A343 (List.length (r339)) c344), (2, .pointer (some ⟨b356, 0, none⟩)), (49, .bool ((decide (r512 = (32 : Int)))))] hE (by kernel_rfl) rfl (fun a hE => ?_)
                cases hb : (decide (r512 = (32 : Int)))
                · replace hf := cond_f hb hf
                  have hE := hE.know (t := 49) (b := (decide (r512 = (32 : Int)))) (b' := false) rfl hb
                  clear hb
                  refine seg 21 (j := 57) [(0, .bool false), (1, .slice A343 (List.length (r339)) c344), (2, .pointer (some ⟨b356, 0, none⟩))] hE (by kernel_rfl) rfl (fun a hE => ?_)
                  refine at_end rfl ?_
                  have hS : Stp g w0 D0 [] w D514 [] := hS.sel [] rfl (by decide)
                  exact ⟨false, D514, hE.weak (by kernel_rfl), hS, (Snap.le.trans (Snap.le.trans (Snap.le.trans (Snap.le.trans le487 le495) le508) le510) le516), hf⟩
                · replace hf := cond_t hb hf
                  have hE := hE.know (t := 49) (b := (decide (r512 = (32 : Int)))) (b' := true) rfl hb
                  clear hb
                  refine seg 1 (j := 37) [(0, .bool false), (1, .slice A343 (List.length (r339)) c344), (2, .pointer (some ⟨b356, 0, none⟩)), (49, .bool true), (50, .pointer (some ⟨b356, 0, none⟩))] hE (by kernel_rfl) rfl (fun a hE => ?_)
                  obtain ⟨r517, h518, hf⟩ := bind_some hf
                  refine at_op (op_call rfl rfl rfl rfl hE rfl rfl rfl rfl (by kernel_rfl) (wire_Reader_Hash.calls (g := g) h518 (hS.st.fore (L := [bx b356 49 ([.slice A505 (List.length (r496.2.fB)) c506] ++ ([.int .i64 (r496.2.fBad)]))])) (h507.mono (Snap.le.trans le510 le516))) (fun a v w hR hE => ?_)) rfl
                  obtain ⟨D519, A521, c522, rfl, hS1, h523⟩ := hR
                  have le524 := hS1.dle
                  have hS : Stp g w0 D0 [] w D519 [bx b356 49 ([.slice A521 (List.length (r517.2.fB)) c522] ++ ([.int .i64 (r517.2.fBad)]))] := hS.call (L := [bx b356 49 ([.slice A505 (List.length (r496.2.fB)) c506] ++ ([.int .i64 (r496.2.fBad)]))]) (R := []) hS1
                  clear hS1
                  obtain ⟨x525, h526, hf⟩ := bind_some hf
                  refine at_op (op_tk hE (tk_indexA (N := 32) (k := .u8) (v := r517.1) rfl rfl rfl rfl hE rfl rfl rfl (by kernel_rfl) h526 (fun a hE => ?_))) rfl
                  refine seg 3 (j := 42) [(0, .bool false), (1, .slice A343 (List.length (r339)) c344), (2, .pointer (some ⟨b356, 0, none⟩)), (55, .bool ((decide (x525 = (7 : Int)))))] hE (by kernel_rfl) rfl (fun a hE => ?_)
                  cases hb : (decide (x525 = (7 : Int)))
                  · replace hf := cond_f hb hf
                    have hE := hE.know (t := 55) (b := (decide (x525 = (7 : Int)))) (b' := false) rfl hb
                    clear hb
                    refine seg 15 (j := 57) [(0, .bool false), (1, .slice A343 (List.length (r339)) c344), (2, .pointer (some ⟨b356, 0, none⟩))] hE (by kernel_rfl) rfl (fun a hE => ?_)
                    refine at_end rfl ?_
                    have hS : Stp g w0 D0 [] w D519 [] := hS.sel [] rfl (by decide)
                    exact ⟨false, D519, hE.weak (by kernel_rfl), hS, (Snap.le.trans (Snap.le.trans (Snap.le.trans (Snap.le.trans (Snap.le.trans le487 le495) le508) le510) le516) le524), hf⟩
                  · replace hf := cond_t hb hf
                    have hE := hE.know (t := 55) (b := (decide (x525 = (7 : Int)))) (b' := true) rfl hb
                    clear hb
                    refine seg 1 (j := 43) [(0, .bool false), (1, .slice A343 (List.length (r339)) c344), (2, .pointer (some ⟨b356, 0, none⟩)), (55, .bool true), (56, .pointer (some ⟨b356, 0, none⟩))] hE (by kernel_rfl) rfl (fun a hE => ?_)
                    obtain ⟨r527, h528, hf⟩ := bind_some hf
                    refine at_op (op_call rfl rfl rfl rfl hE rfl rfl rfl rfl (by kernel_rfl) (wire_Reader_Done.calls (g := g) h528 (hS.st.fore (L := [bx b356 49 ([.slice A521 (List.length (r517.2.fB)) c522] ++ ([.int .i64 (r517.2.fBad)]))])) h523) (fun a v w hR hE => ?_)) rfl
                    obtain ⟨D529, rfl, hS1⟩ := hR
                    have le531 := hS1.dle
                    have hS : Stp g w0 D0 [] w D529 [bx b356 49 ([.slice A521 (List.length (r517.2.fB)) c522] ++ ([.int .i64 (r517.2.fBad)]))] := hS.call (L := [bx b356 49 ([.slice A521 (List.length (r517.2.fB)) c522] ++ ([.int .i64 (r517.2.fBad)]))]) (R := []) hS1
                    clear hS1
                    refine seg 3 (j := 47) [(0, .bool false), (1, .slice A343 (List.length (r339)) c344), (2, .pointer (some ⟨b356, 0, none⟩)), (60, .bool ((decide (r527 = (0 : Int)))))] hE (by kernel_rfl) rfl (fun a hE => ?_)
                    cases hb : (decide (r527 = (0 : Int)))
                    · replace hf := cond_f hb hf
                      have hE := hE.know (t := 60) (b := (decide (r527 = (0 : Int)))) (b' := false) rfl hb
                      clear hb
                      refine seg 10 (j := 57) [(0, .bool false), (1, .slice A343 (List.length (r339)) c344), (2, .pointer (some ⟨b356, 0, none⟩))] hE (by kernel_rfl) rfl (fun a hE => ?_)
                      refine at_end rfl ?_
                      have hS : Stp g w0 D0 [] w D529 [] := hS.sel [] rfl (by decide)
                      exact ⟨false, D529, hE.weak (by kernel_rfl), hS, (Snap.le.trans (Snap.le.trans (Snap.le.trans (Snap.le.trans (Snap.le.trans (Snap.le.trans le487 le495) le508) le510) le516) le524) le531), hf⟩
                    · replace hf := cond_t hb hf
                      have hE := hE.know (t := 60) (b := (decide (r527 = (0 : Int)))) (b' := true) rfl hb
                      clear hb
                      refine seg 1 (j := 48) [(0, .bool false), (1, .slice A343 (List.length (r339)) c344), (2, .pointer (some ⟨b356, 0, none⟩)), (60, .bool true), (61, .pointer (some ⟨b356, 0, none⟩))] hE (by kernel_rfl) rfl (fun a hE => ?_)
                      obtain ⟨r532, h533, hf⟩ := bind_some hf
                      refine at_op (op_call rfl rfl rfl rfl hE rfl rfl rfl rfl (by kernel_rfl) (wire_Reader_Num.calls (g := g) h533 (hS.st.fore (L := [bx b356 49 ([.slice A521 (List.length (r517.2.fB)) c522] ++ ([.int .i64 (r517.2.fBad)]))])) (h523.mono le531)) (fun a v w hR hE => ?_)) rfl
                      obtain ⟨D534, A536, c537, rfl, hS1, h538⟩ := hR
                      have le539 := hS1.dle
                      have hS : Stp g w0 D0 [] w D534 [bx b356 49 ([.slice A536 (List.length (r532.2.fB)) c537] ++ ([.int .i64 (r532.2.fBad)]))] := hS.call (L := [bx b356 49 ([.slice A521 (List.length (r517.2.fB)) c522] ++ ([.int .i64 (r517.2.fBad)]))]) (R := []) hS1
                      clear hS1
                      refine seg 3 (j := 52) [(0, .bool false), (1, .slice A343 (List.length (r339)) c344), (2, .pointer (some ⟨b356, 0, none⟩)), (65, .bool ((decide (r532.1 = (0 : Int)))))] hE (by kernel_rfl) rfl (fun a hE => ?_)
                      cases hb : (decide (r532.1 = (0 : Int)))
                      · replace hf := cond_f hb hf
                        have hE := hE.know (t := 65) (b := (decide (r532.1 = (0 : Int)))) (b' := false) rfl hb
                        clear hb
                        refine seg 5 (j := 57) [(0, .bool false), (1, .slice A343 (List.length (r339)) c344), (2, .pointer (some ⟨b356, 0, none⟩))] hE (by kernel_rfl) rfl (fun a hE => ?_)
                        refine at_end rfl ?_
                        have hS : Stp g w0 D0 [] w D534 [] := hS.sel [] rfl (by decide)
                        exact ⟨false, D534, hE.weak (by kernel_rfl), hS, (Snap.le.trans (Snap.le.trans (Snap.le.trans (Snap.le.trans (Snap.le.trans (Snap.le.trans (Snap.le.trans le487 le495) le508) le510) le516) le524) le531) le539), hf⟩
                      · replace hf := cond_t hb hf
                        have hE := hE.know (t := 65) (b := (decide (r532.1 = (0 : Int)))) (b' := true) rfl hb
                        clear hb
                        refine seg 1 (j := 53) [(0, .bool false), (1, .slice A343 (List.length (r339)) c344), (2, .pointer (some ⟨b356, 0, none⟩)), (65, .bool true), (66, .pointer (some ⟨b356, 0, none⟩))] hE (by kernel_rfl) rfl (fun a hE => ?_)
                        obtain ⟨r540, h541, hf⟩ := bind_some hf
                        refine at_op (op_call rfl rfl rfl rfl hE rfl rfl rfl rfl (by kernel_rfl) (wire_Reader_Bad.calls (g := g) h541 (hS.st.fore (L := [bx b356 49 ([.slice A536 (List.length (r532.2.fB)) c537] ++ ([.int .i64 (r532.2.fBad)]))])) h538) (fun a v w hR hE => ?_)) rfl
                        obtain ⟨D542, rfl, hS1⟩ := hR
                        have le544 := hS1.dle
                        have hS : Stp g w0 D0 [] w D542 [bx b356 49 ([.slice A536 (List.length (r532.2.fB)) c537] ++ ([.int .i64 (r532.2.fBad)]))] := hS.call (L := [bx b356 49 ([.slice A536 (List.length (r532.2.fB)) c537] ++ ([.int .i64 (r532.2.fBad)]))]) (R := []) hS1
                        clear hS1
                        refine seg 3 (j := 57) [(0, .bool ((decide (r540 = (3 : Int))))), (1, .slice A343 (List.length (r339)) c344), (2, .pointer (some ⟨b356, 0, none⟩))] hE (by kernel_rfl) rfl (fun a hE => ?_)
                        refine at_end rfl ?_
                        have hS : Stp g w0 D0 [] w D542 [] := hS.sel [] rfl (by decide)
                        exact ⟨(decide (r540 = (3 : Int))), D542, hE.weak (by kernel_rfl), hS, (Snap.le.trans (Snap.le.trans (Snap.le.trans (Snap.le.trans (Snap.le.trans (Snap.le.trans (Snap.le.trans (Snap.le.trans le487 le495) le508) le510) le516) le524) le531) le539) le544), hf⟩
  · clear hE hS
    rintro a w ⟨y451, D452, hE, hS, le453, hf⟩
    replace hf := hj455 _ hf
    clear hj455
    refine wpIn_ret ?_
    obtain rfl := Option.some.inj hf
    repeat (with_reducible first | refine then_ret ?_ | refine block_ret ?_ | refine qx_ret ?_)
    refine ret_gen ([.bool (y451)]) hE (by rw [show Try.f9.results.toList = [.tmp 0] from rfl]; exact ⟨_, _, rfl, rfl, rfl⟩) ?_
    exact ⟨_, rfl, D452, rfl, hS⟩

set_option maxRecDepth 100000 in
set_option maxHeartbeats 4000000 in
theorem inspeximusref03_Num.step {K : Nat} {self : Int → Option ((List Int))} (ih : ∀ {g w0 : World} {D0 : Snap} {x1 : Int} {r : ((List Int))} (hf : self x1 = some r) (hS0 : St g w0 D0 []), CallsIn (Fw none) 0 Try.prog 12 (List.toArray [.int .i64 (x1)]) w0 (fun e w' => ∃ v, e = .returned v ∧ ∃ (D1 : Snap) (A78 : Option Addr) (c79 : Nat) (q80 : Blk), v = .slice A78 (List.length (r)) c79 ∧ Stp g w0 D0 [] w' D1 [q80] ∧ OwnD (kdInt .u8) 5 D1 A78 c79 (r) q80)) {g w0 : World} {D0 : Snap} {x1 : Int} {r : ((List Int))} (hf : inspeximusref03_Num.b K self x1 = some r) (hS0 : St g w0 D0 []) :
    CallsIn (Fw none) 0 Try.prog 12 (List.toArray [.int .i64 (x1)]) w0 (fun e w' => ∃ v, e = .returned v ∧ ∃ (D1 : Snap) (A78 : Option Addr) (c79 : Nat) (q80 : Blk), v = .slice A78 (List.length (r)) c79 ∧ Stp g w0 D0 [] w' D1 [q80] ∧ OwnD (kdInt .u8) 5 D1 A78 c79 (r) q80) := by
  unfold inspeximusref03_Num.b at hf
  have hS := Stp.refl hS0
  clear hS0
  refine calls_body (n := 36) Try.func12 rfl Try.ntmps12 rfl (fun a hE => ?_)
  have hE : Env a 36 [] [(0, .int .i64 (x1))] := hE
  refine wpIn_seq ?_
  refine region_at ?_
  refine seg 1 (j := 1) [(0, .int .i64 (x1)), (2, .slice none 0 0)] hE (by kernel_rfl) rfl (fun a hE => ?_)
  refine at_end rfl ?_
  refine wpIn_seq ?_
  obtain ⟨j140, hj141, hf⟩ := jn_elim hf
  refine seq_join (fun a w => ∃ (y88 : Bool), ∃ (D89 : Snap), Env a 36 [] [(0, .int .i64 (x1)), (9, .bool (y88))] ∧ Stp g w0 D0 [] w D89 [] ∧ Snap.le D0 D89 ∧ j140 y88 = some r) ?_ ?_
  · clear hj141
    refine region_at ?_
    refine seg 3 (j := 3) [(0, .int .i64 (x1)), (2, .slice none 0 0), (6, .bool ((decide (x1 < (0 : Int)))))] hE (by kernel_rfl) rfl (fun a hE => ?_)
    cases hb : (decide (x1 < (0 : Int)))
    · replace hf := cond_f hb hf
      have hE := hE.know (t := 6) (b := (decide (x1 < (0 : Int)))) (b' := false) rfl hb
      clear hb
      refine seg 3 (j := 6) [(0, .int .i64 (x1)), (2, .slice none 0 0), (9, .bool ((decide ((2147483647 : Int) < x1))))] hE (by kernel_rfl) rfl (fun a hE => ?_)
      refine at_end rfl ?_
      exact ⟨(decide ((2147483647 : Int) < x1)), D0, hE.weak (by kernel_rfl), hS, Snap.le.refl _, hf⟩
    · replace hf := cond_t hb hf
      have hE := hE.know (t := 6) (b := (decide (x1 < (0 : Int)))) (b' := true) rfl hb
      clear hb
      refine seg 3 (j := 6) [(0, .int .i64 (x1)), (2, .slice none 0 0), (9, .bool true)] hE (by kernel_rfl) rfl (fun a hE => ?_)
      refine at_end rfl ?_
      exact ⟨true, D0, hE.weak (by kernel_rfl), hS, Snap.le.refl _, hf⟩
  · clear hE hS
    rintro a w ⟨y88, D89, hE, hS, le90, hf⟩
    replace hf := hj141 _ hf
    clear hj141
    refine cond_split hE (b := y88) rfl (fun hb => ?_) (fun hb => ?_)
    · replace hf := cond_t hb hf
      clear hb
      refine wpIn_seq ?_
      refine region_at ?_
      refine seg 1 (j := 1) [(0, .int .i64 (x1)), (2, .slice none 0 0), (9, .bool (y88))] hE (by kernel_rfl) rfl (fun a hE => ?_)
      refine at_end rfl ?_
      refine wpIn_ret ?_
      have hS := hS.nils
      obtain rfl := Option.some.inj hf
      repeat (with_reducible first | refine then_ret ?_ | refine block_ret ?_ | refine qx_ret ?_)
      refine ret_gen ([.slice none 0 0]) hE (by rw [show Try.f12.results.toList = [.tmp 2] from rfl]; exact ⟨_, _, rfl, rfl, rfl⟩) ?_
      exact ⟨_, rfl, D89, none, 0, none, rfl, hS, (OwnD.nil (kdInt .u8) 5 D89)⟩
    · replace hf := cond_f hb hf
      clear hb
      refine wpIn_skip ?_
      refine wpIn_seq ?_
      refine wpIn_seq ?_
      refine region_at ?_
      refine seg 2 (j := 2) [(0, .int .i64 (x1)), (9, .bool (y88)), (11, .bool ((decide (x1 < (128 : Int)))))] hE (by kernel_rfl) rfl (fun a hE => ?_)
      refine at_end rfl ?_
      refine cond_split hE (b := (decide (x1 < (128 : Int)))) rfl (fun hb => ?_) (fun hb => ?_)
      · replace hf := cond_t hb hf
        clear hb
        refine wpIn_seq ?_
        refine region_at ?_
        refine seg 2 (j := 2) [(0, .int .i64 (x1)), (9, .bool (y88)), (11, .bool ((decide (x1 < (128 : Int))))), (13, .int .u8 ((IntKind.wrap .u8 x1)))] hE (by kernel_rfl) rfl (fun a hE => ?_)
        refine at_op (op_buildSlice (K := (kdInt .u8)) (e := 5) (cs := [.int .u8 ((IntKind.wrap .u8 x1))] ++ []) ([(IntKind.wrap .u8 x1)] : List Int) rfl rfl rfl rfl hE rfl hS rfl (by kernel_rfl) rfl rfl (by exact (show RL (kdInt .u8) D89 ([(IntKind.wrap .u8 x1)] : List Int) ([.int .u8 ((IntKind.wrap .u8 x1))] ++ []) from ⟨_, _, rfl, rfl, rfl⟩)) (fun a A96 q97 w _ hE h98 hS => ?_)) rfl
        have hS : Stp g w0 D0 [] w D89 [q97] := hS
        refine seg 1 (j := 4) [(0, .int .i64 (x1)), (2, .slice A96 (List.length (([(IntKind.wrap .u8 x1)] : List Int))) 1), (9, .bool (y88)), (11, .bool ((decide (x1 < (128 : Int)))))] hE (by kernel_rfl) rfl (fun a hE => ?_)
        refine at_end rfl ?_
        refine wpIn_ret ?_
        obtain rfl := Option.some.inj hf
        repeat (with_reducible first | refine then_ret ?_ | refine block_ret ?_ | refine qx_ret ?_)
        refine ret_gen ([.slice A96 (List.length (([(IntKind.wrap .u8 x1)] : List Int))) 1]) hE (by rw [show Try.f12.results.toList = [.tmp 2] from rfl]; exact ⟨_, _, rfl, rfl, rfl⟩) ?_
        exact ⟨_, rfl, D89, A96, 1, q97, rfl, hS, h98⟩
      · replace hf := cond_f hb hf
        clear hb
        refine wpIn_skip ?_
        refine wpIn_seq ?_
        refine region_at ?_
        refine seg 2 (j := 2) [(0, .int .i64 (x1)), (9, .bool (y88)), (11, .bool ((decide (x1 < (128 : Int))))), (16, .int .i64 ((IntKind.wrap .i64 (Int.tdiv x1 128))))] hE (by kernel_rfl) rfl (fun a hE => ?_)
        obtain ⟨r100, h101, hf⟩ := bind_some hf
        refine at_op (op_call rfl rfl rfl rfl hE rfl rfl rfl rfl (by kernel_rfl) (ih (g := g) h101 (hS.st.fore (L := [])) ) (fun a v w hR hE => ?_)) rfl
        obtain ⟨D102, A104, c105, q106, rfl, hS1, h107⟩ := hR
        have le109 := hS1.dle
        have hS : Stp g w0 D0 [] w D102 [q106] := hS.call (L := []) (R := []) hS1
        clear hS1
        refine seg 1 (j := 4) [(0, .int .i64 (x1)), (3, .slice A104 (List.length (r100)) c105), (9, .bool (y88)), (11, .bool ((decide (x1 < (128 : Int)))))] hE (by kernel_rfl) rfl (fun a hE => ?_)
        refine at_end rfl ?_
        refine wpIn_seq ?_
        refine region_at ?_
        refine seg 8 (j := 8) [(0, .int .i64 (x1)), (3, .slice A104 (List.length (r100)) c105), (9, .bool (y88)), (11, .bool ((decide (x1 < (128 : Int))))), (18, .slice A104 (List.length (r100)) c105), (21, .int .i64 ((IntKind.wrap .i64 (((List.length (r100) : Nat) : Int) - (1 : Int))))), (22, .slice A104 (List.length (r100)) c105), (25, .int .i64 ((IntKind.wrap .i64 (((List.length (r100) : Nat) : Int) - (1 : Int)))))] hE (by kernel_rfl) rfl (fun a hE => ?_)
        obtain ⟨x110, h111, hf⟩ := bind_some hf
        refine at_op (op_tk hE (tk_indexO (K := (kdInt .u8)) (T := 5) (by_ := 1) (zl := 1) rfl rfl rfl rfl hE rfl rfl rfl (by kernel_rfl) h107 h111 (fun a b112 u113 hq hE => ?_))) rfl
        subst hq
        obtain ⟨cs114, C115, hr116, hb117, hc118⟩ := OwnD.cell h107 h111
        obtain rfl := hr116
        refine at_op (op_tk hE (tk_loadO 0 (off0 := Int.toNat ((IntKind.wrap .i64 (((List.length (r100) : Nat) : Int) - (1 : Int)))) * 1) (off := 0) (c := [.int .u8 (x110)]) (Cl := C115) (T := 5) (fr := (0, 0)) (.int .u8 (x110)) rfl rfl rfl rfl hE rfl hS rfl (by rw [hb117]; rfl) hc118 (by kernel_rfl) List.not_mem_nil (fun a hE => ?_))) rfl
        refine seg 1 (j := 11) [(0, .int .i64 (x1)), (3, .slice A104 (List.length (r100)) c105), (9, .bool (y88)), (11, .bool ((decide (x1 < (128 : Int))))), (18, .slice A104 (List.length (r100)) c105), (21, .int .i64 ((IntKind.wrap .i64 (((List.length (r100) : Nat) : Int) - (1 : Int))))), (28, .int .u8 ((IntKind.wrap .u8 (x110 + (128 : Int)))))] hE (by kernel_rfl) rfl (fun a hE => ?_)
        obtain ⟨x119, h120, hf⟩ := bind_some hf
        refine at_op (op_tk hE (tk_indexO (K := (kdInt .u8)) (T := 5) (by_ := 1) (zl := 1) rfl rfl rfl rfl hE rfl rfl rfl (by kernel_rfl) h107 h120 (fun a b121 u122 hq hE => ?_))) rfl
        obtain ⟨rfl, rfl⟩ := some_pair hq
        refine at_op (op_storeO (K := (kdInt .u8)) (T := 5) (l := r100) ((IntKind.wrap .u8 (x110 + (128 : Int)))) rfl rfl rfl rfl hE hS h107 rfl rfl (inI_of h120) (rfl) (by kernel_rfl) (by kernel_rfl) (fun a u123 w _ hE h124 hS => ?_)) rfl
        have hE : Env a 36 [] [(0, .int .i64 (x1)), (3, .slice A104 (List.length ((List.set (r100) (Int.toNat ((IntKind.wrap .i64 (((List.length (r100) : Nat) : Int) - (1 : Int))))) ((IntKind.wrap .u8 (x110 + (128 : Int))))))) c105), (9, .bool (y88)), (11, .bool ((decide (x1 < (128 : Int))))), (18, .slice A104 (List.length ((List.set (r100) (Int.toNat ((IntKind.wrap .i64 (((List.length (r100) : Nat) : Int) - (1 : Int))))) ((IntKind.wrap .u8 (x110 + (128 : Int))))))) c105), (21, .int .i64 ((IntKind.wrap .i64 (((List.length (r100) : Nat) : Int) - (1 : Int))))), (28, .int .u8 ((IntKind.wrap .u8 (x110 + (128 : Int))))), (29, .pointer (some ⟨b112, Int.toNat ((IntKind.wrap .i64 (((List.length (r100) : Nat) : Int) - (1 : Int)))) * 1, none⟩))] := by have h := hE.weak (E' := [(0, .int .i64 (x1)), (3, .slice A104 (List.length (r100)) c105), (9, .bool (y88)), (11, .bool ((decide (x1 < (128 : Int))))), (18, .slice A104 (List.length (r100)) c105), (21, .int .i64 ((IntKind.wrap .i64 (((List.length (r100) : Nat) : Int) - (1 : Int))))), (28, .int .u8 ((IntKind.wrap .u8 (x110 + (128 : Int))))), (29, .pointer (some ⟨b112, Int.toNat ((IntKind.wrap .i64 (((List.length (r100) : Nat) : Int) - (1 : Int)))) * 1, none⟩))]) (by kernel_rfl); simpa only [List.length_set] using h
        have hS : Stp g w0 D0 [] w D102 [(some (b112, u123))] := hS
        refine at_end rfl ?_
        refine wpIn_seq ?_
        refine region_at ?_
        refine seg 4 (j := 4) [(0, .int .i64 (x1)), (3, .slice A104 (List.length ((List.set (r100) (Int.toNat ((IntKind.wrap .i64 (((List.length (r100) : Nat) : Int) - (1 : Int))))) ((IntKind.wrap .u8 (x110 + (128 : Int))))))) c105), (9, .bool (y88)), (11, .bool ((decide (x1 < (128 : Int))))), (30, .slice A104 (List.length ((List.set (r100) (Int.toNat ((IntKind.wrap .i64 (((List.length (r100) : Nat) : Int) - (1 : Int))))) ((IntKind.wrap .u8 (x110 + (128 : Int))))))) c105), (33, .int .u8 ((IntKind.wrap .u8 (Int.tmod x1 128))))] hE (by kernel_rfl) rfl (fun a hE => ?_)
        refine at_op (op_buildSlice (K := (kdInt .u8)) (e := 5) (cs := [.int .u8 ((IntKind.wrap .u8 (Int.tmod x1 128)))] ++ []) ([(IntKind.wrap .u8 (Int.tmod x1 128))] : List Int) rfl rfl rfl rfl hE rfl hS rfl (by kernel_rfl) rfl rfl (by exact (show RL (kdInt .u8) D102 ([(IntKind.wrap .u8 (Int.tmod x1 128))] : List Int) ([.int .u8 ((IntKind.wrap .u8 (Int.tmod x1 128)))] ++ []) from ⟨_, _, rfl, rfl, rfl⟩)) (fun a A126 q127 w _ hE h128 hS => ?_)) rfl
        have hS : Stp g w0 D0 [] w D102 [q127, (some (b112, u123))] := hS
        obtain ⟨D130, le131, hS, h132⟩ := hS.frozen h128
        have hS : Stp g w0 D0 [] w D130 [(some (b112, u123))] := hS
        obtain ⟨l133, h134, hf⟩ := bind_some hf
        refine at_op (g_append (K := (kdInt .u8)) (e := 5) (bytes := 1) (l := (List.set (r100) (Int.toNat ((IntKind.wrap .i64 (((List.length (r100) : Nat) : Int) - (1 : Int))))) ((IntKind.wrap .u8 (x110 + (128 : Int)))))) (m := ([(IntKind.wrap .u8 (Int.tmod x1 128))] : List Int)) rfl rfl rfl rfl hE rfl hS rfl rfl (by kernel_rfl) rfl rfl (h124.mono le131) h132 h134 (fun a A135 c136 q137 w _ hE h138 hS => ?_)) rfl
        have hS : Stp g w0 D0 [] w D130 [q137] := hS
        refine seg 1 (j := 7) [(0, .int .i64 (x1)), (2, .slice A135 (List.length (l133)) c136), (9, .bool (y88)), (11, .bool ((decide (x1 < (128 : Int)))))] hE (by kernel_rfl) rfl (fun a hE => ?_)
        refine at_end rfl ?_
        refine wpIn_ret ?_
        obtain rfl := Option.some.inj hf
        repeat (with_reducible first | refine then_ret ?_ | refine block_ret ?_ | refine qx_ret ?_)
        refine ret_gen ([.slice A135 (List.length (l133)) c136]) hE (by rw [show Try.f12.results.toList = [.tmp 2] from rfl]; exact ⟨_, _, rfl, rfl, rfl⟩) ?_
        exact ⟨_, rfl, D130, A135, c136, q137, rfl, hS, h138⟩

set_option maxRecDepth 100000 in
set_option maxHeartbeats 4000000 in
theorem inspeximusref03_Num.rcalls {K : Nat} : ∀ (k : Nat) {g w0 : World} {D0 : Snap} {x1 : Int} {r : ((List Int))} (hf : inspeximusref03_Num.r K k x1 = some r) (hS0 : St g w0 D0 []),
    CallsIn (Fw none) 0 Try.prog 12 (List.toArray [.int .i64 (x1)]) w0 (fun e w' => ∃ v, e = .returned v ∧ ∃ (D1 : Snap) (A78 : Option Addr) (c79 : Nat) (q80 : Blk), v = .slice A78 (List.length (r)) c79 ∧ Stp g w0 D0 [] w' D1 [q80] ∧ OwnD (kdInt .u8) 5 D1 A78 c79 (r) q80) := by
  intro k
  induction k with
  | zero => intro g w0 D0 x1 r hf; cases hf
  | succ k ih => intro g w0 D0 x1 r hf hS0; exact inspeximusref03_Num.step ih hf hS0

theorem inspeximusref03_Num.calls {K : Nat} {g w0 : World} {D0 : Snap} {x1 : Int} {r : ((List Int))} (hf : inspeximusref03_Num.f K x1 = some r) (hS0 : St g w0 D0 []) :
    CallsIn (Fw none) 0 Try.prog 12 (List.toArray [.int .i64 (x1)]) w0 (fun e w' => ∃ v, e = .returned v ∧ ∃ (D1 : Snap) (A78 : Option Addr) (c79 : Nat) (q80 : Blk), v = .slice A78 (List.length (r)) c79 ∧ Stp g w0 D0 [] w' D1 [q80] ∧ OwnD (kdInt .u8) 5 D1 A78 c79 (r) q80) := inspeximusref03_Num.rcalls K hf hS0

end Go.Proofs.Ytmjkjgidcmalhaa
