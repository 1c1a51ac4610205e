/-
  Proved, text by text: a call of a function of the cut comes to what its plain function computes.
  Conditions: those that each theorem names.
-/
import Derived.Test.YtmjkjgidcmalhaaProg
import Derived.Test.YtmjkjgidcmalhaaWireW1
set_option linter.unusedVariables false
namespace Go.Proofs.Ytmjkjgidcmalhaa
open Go Go.Sep

set_option maxRecDepth 100000 in
set_option maxHeartbeats 4000000 in
theorem inspeximuslaw03_WireMany.calls {K : Nat} {g w0 : World} {D0 : Snap} {x1 : (List Int)} {A2 : Option Addr} {c3 : Nat} {r : (Bool)} (hf : inspeximuslaw03_WireMany.f K x1 = some r) (hS0 : St g w0 D0 []) (h4 : Sl (kdInt .i64) D0 A2 c3 (x1)) :
    CallsIn (Fw none) 0 Try.prog 8 (List.toArray [.slice A2 (List.length (x1)) c3]) w0 (fun e w' => ∃ v, e = .returned v ∧ ∃ (D1 : Snap), v = .bool (r) ∧ Stp g w0 D0 [] w' D1 []) := by
  unfold inspeximuslaw03_WireMany.f at hf
  have hS := Stp.refl hS0
  clear hS0
  refine calls_body (n := 72) Try.func8 rfl Try.ntmps8 rfl (fun a hE => ?_)
  have hE : Env a 72 [] [(0, .slice A2 (List.length (x1)) c3)] := hE
  refine wpIn_seq ?_
  refine region_at ?_
  refine seg 1 (j := 1) [(0, .slice A2 (List.length (x1)) c3), (2, .bool false)] hE (by kernel_rfl) rfl (fun a hE => ?_)
  refine at_end rfl ?_
  refine wpIn_seq ?_
  refine wpIn_seq ?_
  refine region_at ?_
  obtain ⟨r3470, h3471, hf⟩ := bind_some hf
  refine at_op (op_call rfl rfl rfl rfl hE rfl rfl rfl rfl (by kernel_rfl) (inspeximuslaw03_alive.calls (g := g) h3471 (hS.st.fore (L := [])) ) (fun a v w hR hE => ?_)) rfl
  obtain ⟨D3472, rfl, hS1⟩ := hR
  have le3474 := hS1.dle
  have hS : Stp g w0 D0 [] w D3472 [] := hS.call (L := []) (R := []) hS1
  clear hS1
  refine seg 1 (j := 2) [(0, .slice A2 (List.length (x1)) c3), (2, .bool false), (9, .bool ((!r3470)))] hE (by kernel_rfl) rfl (fun a hE => ?_)
  refine at_end rfl ?_
  refine cond_split hE (b := (!r3470)) rfl (fun hb => ?_) (fun hb => ?_)
  · replace hf := cond_t hb hf
    clear hb
    refine wpIn_seq ?_
    refine region_at ?_
    refine seg 1 (j := 1) [(0, .slice A2 (List.length (x1)) c3), (2, .bool false), (9, .bool ((!r3470)))] hE (by kernel_rfl) rfl (fun a hE => ?_)
    refine at_end rfl ?_
    refine wpIn_ret ?_
    obtain rfl := Option.some.inj hf
    repeat (with_reducible first | refine then_ret ?_ | refine block_ret ?_ | refine qx_ret ?_)
    refine ret_gen ([.bool false]) hE (by rw [show Try.f8.results.toList = [.tmp 2] from rfl]; exact ⟨_, _, rfl, rfl, rfl⟩) ?_
    exact ⟨_, rfl, D3472, rfl, hS⟩
  · replace hf := cond_f hb hf
    clear hb
    refine wpIn_skip ?_
    refine wpIn_seq ?_
    refine wpIn_seq ?_
    refine region_at ?_
    refine seg 3 (j := 3) [(0, .slice A2 (List.length (x1)) c3), (2, .bool false), (9, .bool ((!r3470))), (12, .bool ((decide ((60 : Int) < ((List.length (x1) : Nat) : Int)))))] hE (by kernel_rfl) rfl (fun a hE => ?_)
    refine at_end rfl ?_
    refine cond_split hE (b := (decide ((60 : Int) < ((List.length (x1) : Nat) : Int)))) rfl (fun hb => ?_) (fun hb => ?_)
    · replace hf := cond_t hb hf
      clear hb
      refine wpIn_seq ?_
      refine region_at ?_
      refine seg 1 (j := 1) [(0, .slice A2 (List.length (x1)) c3), (2, .bool true), (9, .bool ((!r3470))), (12, .bool ((decide ((60 : Int) < ((List.length (x1) : Nat) : Int)))))] hE (by kernel_rfl) rfl (fun a hE => ?_)
      refine at_end rfl ?_
      refine wpIn_ret ?_
      obtain rfl := Option.some.inj hf
      repeat (with_reducible first | refine then_ret ?_ | refine block_ret ?_ | refine qx_ret ?_)
      refine ret_gen ([.bool true]) hE (by rw [show Try.f8.results.toList = [.tmp 2] from rfl]; exact ⟨_, _, rfl, rfl, rfl⟩) ?_
      exact ⟨_, rfl, D3472, rfl, hS⟩
    · replace hf := cond_f hb hf
      clear hb
      refine wpIn_skip ?_
      refine wpIn_seq ?_
      refine region_at ?_
      refine seg 1 (j := 1) [(0, .slice A2 (List.length (x1)) c3), (2, .bool false), (3, .slice none 0 0), (9, .bool ((!r3470))), (12, .bool ((decide ((60 : Int) < ((List.length (x1) : Nat) : Int)))))] hE (by kernel_rfl) rfl (fun a hE => ?_)
      refine at_end rfl ?_
      refine wpIn_seq ?_
      refine wpIn_seq ?_
      refine region_at ?_
      refine seg 1 (j := 1) [(0, .slice A2 (List.length (x1)) c3), (2, .bool false), (3, .slice none 0 0), (4, .int .i64 ((0 : Int))), (9, .bool ((!r3470))), (12, .bool ((decide ((60 : Int) < ((List.length (x1) : Nat) : Int)))))] hE (by kernel_rfl) rfl (fun a hE => ?_)
      refine at_end rfl ?_
      obtain ⟨s3884, hf, hs3885⟩ := bind_some hf
      have hS := hS.nils
      refine block_loop (fun a w => ∃ (z3876 : (List Int)), ∃ (A3879 : Option Addr), ∃ (c3880 : Nat), ∃ (q3881 : Blk), ∃ (D3877 : Snap), Env a 72 [] [(0, .slice A2 (List.length (x1)) c3), (3, .slice A3879 (List.length (z3876)) c3880)] ∧ Stp g w0 D0 [] w D3877 [q3881] ∧ Snap.le D3472 D3877 ∧ OwnD (kdInt .u8) 5 D3877 A3879 c3880 (z3876) q3881 ∧ z3876 = s3884) (fun k a w => ∃ (y3796 : (List Int) × Int), ∃ (A3799 : Option Addr), ∃ (c3800 : Nat), ∃ (q3801 : Blk), ∃ (D3797 : Snap), Env a 72 [] [(0, .slice A2 (List.length (x1)) c3), (3, .slice A3799 (List.length (y3796.1)) c3800), (4, .int .i64 (y3796.2))] ∧ Stp g w0 D0 [] w D3797 [q3801] ∧ Snap.le D3472 D3797 ∧ OwnD (kdInt .u8) 5 D3797 A3799 c3800 (y3796.1) q3801 ∧ inspeximuslaw03_WireMany_l1.l K x1 k y3796 = some s3884) K ?_ ?_ ?_
      · exact ⟨(([] : List Int), (0 : Int)), none, 0, none, D3472, hE.weak (by kernel_rfl), hS, Snap.le.refl _, (OwnD.nil (kdInt .u8) 5 D3472), hf⟩
      · clear hE hS hf
        rintro a w ⟨z3876, A3879, c3880, q3881, D3877, hE, hS, le3878, h3882, rfl⟩
        have hf := hs3885
        clear hs3885
        refine wpIn_seq ?_
        refine region_at ?_
        refine seg 1 (j := 1) [(0, .slice A2 (List.length (x1)) c3), (3, .slice A3879 (List.length (z3876)) c3880), (26, .slice A3879 (List.length (z3876)) c3880)] hE (by kernel_rfl) rfl (fun a hE => ?_)
        obtain ⟨D3951, le3952, hS, h3953⟩ := hS.frozen h3882
        have hS : Stp g w0 D0 [] w D3951 [] := hS
        obtain ⟨r3954, h3955, hf⟩ := bind_some hf
        refine at_op (op_call rfl rfl rfl rfl hE rfl rfl rfl rfl (by kernel_rfl) (wire_Read.calls (g := g) h3955 (hS.st.fore (L := [])) h3953) (fun a v w hR hE => ?_)) rfl
        obtain ⟨D3956, b3958, A3960, c3961, rfl, hS1, h3962⟩ := hR
        have le3963 := hS1.dle
        have hS : Stp g w0 D0 [] w D3956 [bx b3958 49 ([.slice A3960 (List.length (r3954.fB)) c3961] ++ ([.int .i64 (r3954.fBad)]))] := hS.call (L := []) (R := []) hS1
        clear hS1
        refine seg 1 (j := 3) [(0, .slice A2 (List.length (x1)) c3), (3, .slice A3879 (List.length (z3876)) c3880), (5, .pointer (some ⟨b3958, 0, none⟩))] hE (by kernel_rfl) rfl (fun a hE => ?_)
        refine at_end rfl ?_
        refine wpIn_seq ?_
        refine region_at ?_
        refine seg 3 (j := 3) [(0, .slice A2 (List.length (x1)) c3), (3, .slice A3879 (List.length (z3876)) c3880), (5, .pointer (some ⟨b3958, 0, none⟩)), (6, .int .i64 (((List.length (z3876) : Nat) : Int)))] hE (by kernel_rfl) rfl (fun a hE => ?_)
        refine at_end rfl ?_
        refine wpIn_seq ?_
        refine wpIn_seq ?_
        refine region_at ?_
        refine seg 1 (j := 1) [(0, .slice A2 (List.length (x1)) c3), (3, .slice A3879 (List.length (z3876)) c3880), (5, .pointer (some ⟨b3958, 0, none⟩)), (6, .int .i64 (((List.length (z3876) : Nat) : Int))), (7, .int .i64 ((0 : Int)))] hE (by kernel_rfl) rfl (fun a hE => ?_)
        refine at_end rfl ?_
        obtain ⟨s6435, hf, hs6436⟩ := bind_some hf
        refine block_loop (fun a w => ∃ (z6429 : (List Int) × Int), ∃ (A6432 : Option Addr), ∃ (c6433 : Nat), ∃ (D6430 : Snap), Env a 72 [] [(5, .pointer (some ⟨b3958, 0, none⟩))] ∧ Stp g w0 D0 [] w D6430 [bx b3958 49 ([.slice A6432 (List.length (z6429.1)) c6433] ++ ([.int .i64 (z6429.2)]))] ∧ Snap.le D3956 D6430 ∧ Sl (kdInt .u8) D6430 A6432 c6433 (z6429.1) ∧ (Sum.inr z6429) = s6435) (fun k a w => ∃ (y5937 : Int × Int × (List Int) × Int), ∃ (A5940 : Option Addr), ∃ (c5941 : Nat), ∃ (D5938 : Snap), Env a 72 [] [(0, .slice A2 (List.length (x1)) c3), (5, .pointer (some ⟨b3958, 0, none⟩)), (6, .int .i64 (y5937.1)), (7, .int .i64 (y5937.2.1))] ∧ Stp g w0 D0 [] w D5938 [bx b3958 49 ([.slice A5940 (List.length (y5937.2.2.1)) c5941] ++ ([.int .i64 (y5937.2.2.2)]))] ∧ Snap.le D3956 D5938 ∧ Sl (kdInt .u8) D5938 A5940 c5941 (y5937.2.2.1) ∧ inspeximuslaw03_WireMany_l2.l K x1 k y5937 = some s6435) K ?_ ?_ ?_
        · exact ⟨(((List.length (z3876) : Nat) : Int), (0 : Int), r3954.fB, r3954.fBad), A3960, c3961, D3956, hE.weak (by kernel_rfl), hS, Snap.le.refl _, h3962, hf⟩
        · clear hE hS hf
          rintro a w ⟨z6429, A6432, c6433, D6430, hE, hS, le6431, h6434, rfl⟩
          have hf := hs6436
          clear hs6436
          refine wpIn_seq ?_
          refine region_at ?_
          refine seg 1 (j := 1) [(5, .pointer (some ⟨b3958, 0, none⟩)), (69, .pointer (some ⟨b3958, 0, none⟩))] hE (by kernel_rfl) rfl (fun a hE => ?_)
          obtain ⟨r6917, h6918, hf⟩ := bind_some hf
          refine at_op (op_call rfl rfl rfl rfl hE rfl rfl rfl rfl (by kernel_rfl) (wire_Reader_Done.calls (g := g) h6918 (hS.st.fore (L := [bx b3958 49 ([.slice A6432 (List.length (z6429.1)) c6433] ++ ([.int .i64 (z6429.2)]))])) h6434) (fun a v w hR hE => ?_)) rfl
          obtain ⟨D6919, rfl, hS1⟩ := hR
          have le6921 := hS1.dle
          have hS : Stp g w0 D0 [] w D6919 [bx b3958 49 ([.slice A6432 (List.length (z6429.1)) c6433] ++ ([.int .i64 (z6429.2)]))] := hS.call (L := [bx b3958 49 ([.slice A6432 (List.length (z6429.1)) c6433] ++ ([.int .i64 (z6429.2)]))]) (R := []) hS1
          clear hS1
          refine seg 2 (j := 4) [(2, .bool ((decide (r6917 = (0 : Int))))), (5, .pointer (some ⟨b3958, 0, none⟩))] hE (by kernel_rfl) rfl (fun a hE => ?_)
          refine at_end rfl ?_
          refine wpIn_ret ?_
          obtain rfl := Option.some.inj hf
          repeat (with_reducible first | refine then_ret ?_ | refine block_ret ?_ | refine qx_ret ?_)
          refine ret_gen ([.bool ((decide (r6917 = (0 : Int))))]) hE (by rw [show Try.f8.results.toList = [.tmp 2] from rfl]; exact ⟨_, _, rfl, rfl, rfl⟩) ?_
          have hS : Stp g w0 D0 [] w D6919 [] := hS.sel [] rfl (by decide)
          exact ⟨_, rfl, D6919, rfl, hS⟩
        · clear hE hS hf
          rintro k a w ⟨y5937, A5940, c5941, D5938, hE, hS, le5939, h5942, hf⟩
          obtain ⟨k, rfl, hf⟩ := inspeximuslaw03_WireMany_l2.some _ hf
          refine ⟨k, rfl, ?_⟩
          unfold inspeximuslaw03_WireMany_l2.b at hf
          refine wpIn_seq ?_
          refine wpIn_seq ?_
          refine region_at ?_
          refine seg 4 (j := 4) [(0, .slice A2 (List.length (x1)) c3), (5, .pointer (some ⟨b3958, 0, none⟩)), (6, .int .i64 (y5937.1)), (7, .int .i64 (y5937.2.1)), (33, .bool ((decide (y5937.2.1 < ((List.length (x1) : Nat) : Int)))))] hE (by kernel_rfl) rfl (fun a hE => ?_)
          refine at_end rfl ?_
          refine cond_split hE (b := (decide (y5937.2.1 < ((List.length (x1) : Nat) : Int)))) rfl (fun hb => ?_) (fun hb => ?_)
          · replace hf := cond_t hb hf
            clear hb
            refine wpIn_skip ?_
            obtain ⟨j6679, hj6680, hf⟩ := jn_elim hf
            refine seq_join (fun a w => ∃ (y6673 : Int × (List Int) × Int), ∃ (A6676 : Option Addr), ∃ (c6677 : Nat), ∃ (D6674 : Snap), Env a 72 [] [(0, .slice A2 (List.length (x1)) c3), (5, .pointer (some ⟨b3958, 0, none⟩)), (6, .int .i64 (y6673.1)), (7, .int .i64 (y5937.2.1))] ∧ Stp g w0 D0 [] w D6674 [bx b3958 49 ([.slice A6676 (List.length (y6673.2.1)) c6677] ++ ([.int .i64 (y6673.2.2)]))] ∧ Snap.le D5938 D6674 ∧ Sl (kdInt .u8) D6674 A6676 c6677 (y6673.2.1) ∧ j6679 y6673 = some s6435) ?_ ?_
            · clear hj6680
              refine wpIn_block ?_
              refine wpIn_seq ?_
              obtain ⟨j6891, hj6892, hf⟩ := jn_elim hf
              refine seq_join (fun a w => ∃ (y6758 : Bool), ∃ (D6759 : Snap), Env a 72 [] [(0, .slice A2 (List.length (x1)) c3), (5, .pointer (some ⟨b3958, 0, none⟩)), (6, .int .i64 (y5937.1)), (7, .int .i64 (y5937.2.1)), (47, .bool (y6758))] ∧ Stp g w0 D0 [] w D6759 [bx b3958 49 ([.slice A5940 (List.length (y5937.2.2.1)) c5941] ++ ([.int .i64 (y5937.2.2.2)]))] ∧ Snap.le D5938 D6759 ∧ j6891 y6758 = some s6435) ?_ ?_
              · clear hj6892
                refine region_at ?_
                refine seg 2 (j := 2) [(0, .slice A2 (List.length (x1)) c3), (5, .pointer (some ⟨b3958, 0, none⟩)), (6, .int .i64 (y5937.1)), (7, .int .i64 (y5937.2.1)), (33, .bool ((decide (y5937.2.1 < ((List.length (x1) : Nat) : Int))))), (36, .slice A2 (List.length (x1)) c3), (37, .int .i64 (y5937.2.1))] hE (by kernel_rfl) rfl (fun a hE => ?_)
                obtain ⟨x6893, h6894, hf⟩ := bind_some hf
                refine at_op (op_tk hE (g_index (K := (kdInt .i64)) (e := 3) (by_ := 8) (zl := 1) rfl rfl rfl rfl hE rfl rfl rfl (by kernel_rfl) rfl (h4.mono (Snap.le.trans (Snap.le.trans (Snap.le.trans (Snap.le.trans le3474 le3878) le3952) le3963) le5939)) h6894 (fun a b6895 o6896 hE h6897 => ?_))) rfl
                obtain ⟨cs6898, C6899, T6900, fr6901, hr6902, hb6903, hc6904⟩ := h6897
                obtain rfl := hr6902
                refine at_op (op_tk hE (tk_loadX (off0 := o6896) (off := 0) (c := [.int .i64 (x6893)]) (.int .i64 (x6893)) rfl rfl rfl rfl hE rfl hS rfl hb6903 hc6904 (by kernel_rfl) (fun _ h => absurd h List.not_mem_nil) (fun a hE => ?_))) rfl
                refine seg 2 (j := 6) [(0, .slice A2 (List.length (x1)) c3), (5, .pointer (some ⟨b3958, 0, none⟩)), (6, .int .i64 (y5937.1)), (7, .int .i64 (y5937.2.1)), (33, .bool ((decide (y5937.2.1 < ((List.length (x1) : Nat) : Int))))), (41, .bool ((decide (x6893 < (0 : Int)))))] hE (by kernel_rfl) rfl (fun a hE => ?_)
                cases hb : (decide (x6893 < (0 : Int)))
                · replace hf := cond_f hb hf
                  have hE := hE.know (t := 41) (b := (decide (x6893 < (0 : Int)))) (b' := false) rfl hb
                  clear hb
                  refine seg 2 (j := 8) [(0, .slice A2 (List.length (x1)) c3), (5, .pointer (some ⟨b3958, 0, none⟩)), (6, .int .i64 (y5937.1)), (7, .int .i64 (y5937.2.1)), (33, .bool ((decide (y5937.2.1 < ((List.length (x1) : Nat) : Int))))), (41, .bool false), (42, .slice A2 (List.length (x1)) c3), (43, .int .i64 (y5937.2.1))] hE (by kernel_rfl) rfl (fun a hE => ?_)
                  obtain ⟨x6905, h6906, hf⟩ := bind_some hf
                  refine at_op (op_tk hE (g_index (K := (kdInt .i64)) (e := 3) (by_ := 8) (zl := 1) rfl rfl rfl rfl hE rfl rfl rfl (by kernel_rfl) rfl (h4.mono (Snap.le.trans (Snap.le.trans (Snap.le.trans (Snap.le.trans le3474 le3878) le3952) le3963) le5939)) h6906 (fun a b6907 o6908 hE h6909 => ?_))) rfl
                  obtain ⟨cs6910, C6911, T6912, fr6913, hr6914, hb6915, hc6916⟩ := h6909
                  obtain rfl := hr6914
                  refine at_op (op_tk hE (tk_loadX (off0 := o6908) (off := 0) (c := [.int .i64 (x6905)]) (.int .i64 (x6905)) rfl rfl rfl rfl hE rfl hS rfl hb6915 hc6916 (by kernel_rfl) (fun _ h => absurd h List.not_mem_nil) (fun a hE => ?_))) rfl
                  refine seg 2 (j := 12) [(0, .slice A2 (List.length (x1)) c3), (5, .pointer (some ⟨b3958, 0, none⟩)), (6, .int .i64 (y5937.1)), (7, .int .i64 (y5937.2.1)), (33, .bool ((decide (y5937.2.1 < ((List.length (x1) : Nat) : Int))))), (47, .bool ((decide ((2147483647 : Int) < x6905))))] hE (by kernel_rfl) rfl (fun a hE => ?_)
                  refine at_end rfl ?_
                  exact ⟨(decide ((2147483647 : Int) < x6905)), D5938, hE.weak (by kernel_rfl), hS, Snap.le.refl _, hf⟩
                · replace hf := cond_t hb hf
                  have hE := hE.know (t := 41) (b := (decide (x6893 < (0 : Int)))) (b' := true) rfl hb
                  clear hb
                  refine seg 6 (j := 12) [(0, .slice A2 (List.length (x1)) c3), (5, .pointer (some ⟨b3958, 0, none⟩)), (6, .int .i64 (y5937.1)), (7, .int .i64 (y5937.2.1)), (33, .bool ((decide (y5937.2.1 < ((List.length (x1) : Nat) : Int))))), (47, .bool true)] hE (by kernel_rfl) rfl (fun a hE => ?_)
                  refine at_end rfl ?_
                  exact ⟨true, D5938, hE.weak (by kernel_rfl), hS, Snap.le.refl _, hf⟩
              · clear hE hS
                rintro a w ⟨y6758, D6759, hE, hS, le6760, hf⟩
                replace hf := hj6892 _ hf
                clear hj6892
                refine cond_split hE (b := y6758) rfl (fun hb => ?_) (fun hb => ?_)
                · replace hf := cond_t hb hf
                  clear hb
                  refine wpIn_exit ?_
                  exact ⟨(y5937.1, y5937.2.2.1, y5937.2.2.2), A5940, c5941, D6759, hE.weak (by kernel_rfl), hS, le6760, (h5942.mono le6760), hf⟩
                · replace hf := cond_f hb hf
                  clear hb
                  refine wpIn_skip ?_
                  refine wpIn_seq ?_
                  refine region_at ?_
                  refine seg 3 (j := 3) [(0, .slice A2 (List.length (x1)) c3), (5, .pointer (some ⟨b3958, 0, none⟩)), (6, .int .i64 (y5937.1)), (7, .int .i64 (y5937.2.1)), (47, .bool (y6758)), (48, .int .i64 (y5937.1)), (49, .slice A2 (List.length (x1)) c3), (50, .int .i64 (y5937.2.1))] hE (by kernel_rfl) rfl (fun a hE => ?_)
                  obtain ⟨x6761, h6762, hf⟩ := bind_some hf
                  refine at_op (op_tk hE (g_index (K := (kdInt .i64)) (e := 3) (by_ := 8) (zl := 1) rfl rfl rfl rfl hE rfl rfl rfl (by kernel_rfl) rfl (h4.mono (Snap.le.trans (Snap.le.trans (Snap.le.trans (Snap.le.trans (Snap.le.trans le3474 le3878) le3952) le3963) le5939) le6760)) h6762 (fun a b6763 o6764 hE h6765 => ?_))) rfl
                  obtain ⟨cs6766, C6767, T6768, fr6769, hr6770, hb6771, hc6772⟩ := h6765
                  obtain rfl := hr6770
                  refine at_op (op_tk hE (tk_loadX (off0 := o6764) (off := 0) (c := [.int .i64 (x6761)]) (.int .i64 (x6761)) rfl rfl rfl rfl hE rfl hS rfl hb6771 hc6772 (by kernel_rfl) (fun _ h => absurd h List.not_mem_nil) (fun a hE => ?_))) rfl
                  obtain ⟨r6773, h6774, hf⟩ := bind_some hf
                  refine at_op (op_call rfl rfl rfl rfl hE rfl rfl rfl rfl (by kernel_rfl) (wire_Num.calls (g := g) h6774 (hS.st.fore (L := [])) ) (fun a v w hR hE => ?_)) rfl
                  obtain ⟨D6775, A6777, c6778, q6779, rfl, hS1, h6780⟩ := hR
                  have le6782 := hS1.dle
                  have hS : Stp g w0 D0 [] w D6775 [q6779, bx b3958 49 ([.slice A5940 (List.length (y5937.2.2.1)) c5941] ++ ([.int .i64 (y5937.2.2.2)]))] := hS.call (L := []) (R := [bx b3958 49 ([.slice A5940 (List.length (y5937.2.2.1)) c5941] ++ ([.int .i64 (y5937.2.2.2)]))]) hS1
                  clear hS1
                  refine seg 3 (j := 9) [(0, .slice A2 (List.length (x1)) c3), (5, .pointer (some ⟨b3958, 0, none⟩)), (6, .int .i64 ((IntKind.wrap .i64 (y5937.1 - ((List.length (r6773) : Nat) : Int))))), (7, .int .i64 (y5937.2.1)), (47, .bool (y6758))] hE (by kernel_rfl) rfl (fun a hE => ?_)
                  refine at_end rfl ?_
                  obtain ⟨j6839, hj6840, hf⟩ := jn_elim hf
                  refine seq_join (fun a w => ∃ (y6833 : Bool × (List Int) × Int), ∃ (A6836 : Option Addr), ∃ (c6837 : Nat), ∃ (D6834 : Snap), Env a 72 [] [(0, .slice A2 (List.length (x1)) c3), (5, .pointer (some ⟨b3958, 0, none⟩)), (6, .int .i64 ((IntKind.wrap .i64 (y5937.1 - ((List.length (r6773) : Nat) : Int))))), (7, .int .i64 (y5937.2.1)), (68, .bool (y6833.1))] ∧ Stp g w0 D0 [] w D6834 [bx b3958 49 ([.slice A6836 (List.length (y6833.2.1)) c6837] ++ ([.int .i64 (y6833.2.2)]))] ∧ Snap.le D6775 D6834 ∧ Sl (kdInt .u8) D6834 A6836 c6837 (y6833.2.1) ∧ j6839 y6833 = some s6435) ?_ ?_
                  · clear hj6840
                    refine region_draw (mfOf [(1, [b3958]), (9, [b3958])]) (by kernel_rfl) ?_
                    have hS := hS.drew
                    generalize w.drew = w at hS ⊢
                    refine takeW 0 (fuel := 12) #[true, false, false, false, false, false, false, false, false, false, false, false, false] (by kernel_rfl) (by kernel_rfl) (by kernel_rfl) (by kernel_rfl) hE (fun M => tk_pure (.pointer (some ⟨b3958, 0, none⟩)) hE rfl rfl rfl rfl (fun _ _ _ e => by cases e) (by kernel_rfl) (fun a hE => ?_))
                    refine takeW 2 (fuel := 11) #[true, false, true, false, false, false, false, false, false, false, false, false, false] (by kernel_rfl) (by kernel_rfl) (by kernel_rfl) (by kernel_rfl) hE (fun M => tk_pure (.slice A2 (List.length (x1)) c3) hE rfl rfl rfl rfl (fun _ _ _ e => by cases e) (by kernel_rfl) (fun a hE => ?_))
                    refine takeW 3 (fuel := 10) #[true, false, true, true, false, false, false, false, false, false, false, false, false] (by kernel_rfl) (by kernel_rfl) (by kernel_rfl) (by kernel_rfl) hE (fun M => tk_pure (.int .i64 (y5937.2.1)) hE rfl rfl rfl rfl (fun _ _ _ e => by cases e) (by kernel_rfl) (fun a hE => ?_))
                    obtain ⟨x6866, h6867, hf⟩ := bind_some hf
                    refine takeW 4 (fuel := 9) #[true, false, true, true, true, false, false, false, false, false, false, false, false] (by kernel_rfl) (by kernel_rfl) (by kernel_rfl) (by kernel_rfl) hE (fun M => g_index (K := (kdInt .i64)) (e := 3) (by_ := 8) (zl := 1) rfl rfl rfl rfl hE rfl rfl rfl (by kernel_rfl) rfl (h4.mono (Snap.le.trans (Snap.le.trans (Snap.le.trans (Snap.le.trans (Snap.le.trans (Snap.le.trans le3474 le3878) le3952) le3963) le5939) le6760) le6782)) h6867 (fun a b6868 o6869 hE h6870 => ?_))
                    obtain ⟨cs6871, C6872, T6873, fr6874, hr6875, hb6876, hc6877⟩ := h6870
                    obtain rfl := hr6875
                    refine takeM (mfAll [(1, [b3958]), (9, [b3958])]) 5 (fuel := 8) #[true, false, true, true, true, true, false, false, false, false, false, false, false] (by kernel_rfl) (by kernel_rfl) (by kernel_rfl) (by kernel_rfl) (mfOf_mem [(1, [b3958]), (9, [b3958])]) hE (tk_loadX (off0 := o6869) (off := 0) (c := [.int .i64 (x6866)]) (.int .i64 (x6866)) rfl rfl rfl rfl hE rfl hS rfl hb6876 hc6877 (by kernel_rfl) (dn_cons (hS.st.l _ _ (List.mem_of_getElem? (i := 1) rfl)).2 (dn_cons (hS.st.l _ _ (List.mem_of_getElem? (i := 1) rfl)).2 dn_nil)) (fun a hE => ?_))
                    have hS : Stp g w0 D0 [] w D6775 [bx b3958 49 ([.slice A5940 (List.length (y5937.2.2.1)) c5941] ++ ([.int .i64 (y5937.2.2.2)])), q6779] := hS.sel [1, 0] rfl (by decide)
                    obtain ⟨r6878, h6879, hf⟩ := bind_some hf
                    refine onlyG (i := 1) (fuel := 7) (listed' := #[true, true, true, true, true, true, false, false, false, false, false, false, false]) (by kernel_rfl) (by kernel_rfl) (op_call rfl rfl rfl rfl hE rfl rfl rfl rfl (by kernel_rfl) (wire_Reader_Num.calls (g := g) h6879 (hS.st.fore (L := [bx b3958 49 ([.slice A5940 (List.length (y5937.2.2.1)) c5941] ++ ([.int .i64 (y5937.2.2.2)]))])) (h5942.mono (Snap.le.trans le6760 le6782))) (fun a v w hR hE => ?_))
                    obtain ⟨D6880, A6882, c6883, rfl, hS1, h6884⟩ := hR
                    refine ⟨hS1.keeps.mono (fun _ h => h), ?_⟩
                    have le6885 := hS1.dle
                    have hS : Stp g w0 D0 [] w D6880 [bx b3958 49 ([.slice A6882 (List.length (r6878.2.fB)) c6883] ++ ([.int .i64 (r6878.2.fBad)])), q6779] := hS.call (L := [bx b3958 49 ([.slice A5940 (List.length (y5937.2.2.1)) c5941] ++ ([.int .i64 (y5937.2.2.2)]))]) (R := [q6779]) hS1
                    clear hS1
                    refine takeW 6 (fuel := 6) #[true, true, true, true, true, true, true, false, false, false, false, false, false] (by kernel_rfl) (by kernel_rfl) (by kernel_rfl) (by kernel_rfl) hE (fun M => tk_pure (.bool ((!decide (r6878.1 = x6866)))) hE rfl rfl rfl rfl (fun _ _ _ e => by cases e) (by kernel_rfl) (fun a hE => ?_))
                    refine takeW 7 (fuel := 5) #[true, true, true, true, true, true, true, true, false, false, false, false, false] (by kernel_rfl) (by kernel_rfl) (by kernel_rfl) (by kernel_rfl) hE (fun M => tk_pure (.bool ((!decide (r6878.1 = x6866)))) hE rfl rfl rfl rfl (fun _ _ _ e => by cases e) (by kernel_rfl) (fun a hE => ?_))
                    cases hb : (!decide (r6878.1 = x6866))
                    · replace hf := cond_f hb hf
                      have hE := hE.know (t := 63) (b := (!decide (r6878.1 = x6866))) (b' := false) rfl hb
                      clear hb
                      refine takeW 8 (fuel := 4) #[true, true, true, true, true, true, true, true, true, false, false, false, false] (by kernel_rfl) (by kernel_rfl) (by kernel_rfl) (by kernel_rfl) hE (fun M => tk_pure (.pointer (some ⟨b3958, 0, none⟩)) hE rfl rfl rfl rfl (fun _ _ _ e => by cases e) (by kernel_rfl) (fun a hE => ?_))
                      refine takeW 10 (fuel := 3) #[true, true, true, true, true, true, true, true, true, false, true, false, false] (by kernel_rfl) (by kernel_rfl) (by kernel_rfl) (by kernel_rfl) hE (fun M => tk_pure (.int .i64 ((IntKind.wrap .i64 (y5937.1 - ((List.length (r6773) : Nat) : Int))))) hE rfl rfl rfl rfl (fun _ _ _ e => by cases e) (by kernel_rfl) (fun a hE => ?_))
                      obtain ⟨r6886, h6887, hf⟩ := bind_some hf
                      refine onlyG (i := 9) (fuel := 2) (listed' := #[true, true, true, true, true, true, true, true, true, true, true, false, false]) (by kernel_rfl) (by kernel_rfl) (op_call rfl rfl rfl rfl hE rfl rfl rfl rfl (by kernel_rfl) (wire_Reader_Left.calls (g := g) h6887 (hS.st.fore (L := [bx b3958 49 ([.slice A6882 (List.length (r6878.2.fB)) c6883] ++ ([.int .i64 (r6878.2.fBad)]))])) h6884) (fun a v w hR hE => ?_))
                      obtain ⟨D6888, rfl, hS1⟩ := hR
                      refine ⟨hS1.keeps.mono (fun _ h => h), ?_⟩
                      have le6890 := hS1.dle
                      have hS : Stp g w0 D0 [] w D6888 [bx b3958 49 ([.slice A6882 (List.length (r6878.2.fB)) c6883] ++ ([.int .i64 (r6878.2.fBad)])), q6779] := hS.call (L := [bx b3958 49 ([.slice A6882 (List.length (r6878.2.fB)) c6883] ++ ([.int .i64 (r6878.2.fBad)]))]) (R := [q6779]) hS1
                      clear hS1
                      refine takeW 11 (fuel := 1) #[true, true, true, true, true, true, true, true, true, true, true, true, false] (by kernel_rfl) (by kernel_rfl) (by kernel_rfl) (by kernel_rfl) hE (fun M => tk_pure (.bool ((!decide (r6886 = (IntKind.wrap .i64 (y5937.1 - ((List.length (r6773) : Nat) : Int))))))) hE rfl rfl rfl rfl (fun _ _ _ e => by cases e) (by kernel_rfl) (fun a hE => ?_))
                      refine takeW 12 (fuel := 0) #[true, true, true, true, true, true, true, true, true, true, true, true, true] (by kernel_rfl) (by kernel_rfl) (by kernel_rfl) (by kernel_rfl) hE (fun M => tk_pure (.bool ((!decide (r6886 = (IntKind.wrap .i64 (y5937.1 - ((List.length (r6773) : Nat) : Int))))))) hE rfl rfl rfl rfl (fun _ _ _ e => by cases e) (by kernel_rfl) (fun a hE => ?_))
                      have hE := hE.weak (E' := [(0, .slice A2 (List.length (x1)) c3), (5, .pointer (some ⟨b3958, 0, none⟩)), (6, .int .i64 ((IntKind.wrap .i64 (y5937.1 - ((List.length (r6773) : Nat) : Int))))), (7, .int .i64 (y5937.2.1)), (47, .bool (y6758)), (68, .bool ((!decide (r6886 = (IntKind.wrap .i64 (y5937.1 - ((List.length (r6773) : Nat) : Int)))))))]) (by kernel_rfl)
                      refine doneG (by kernel_rfl) ?_
                      have hS : Stp g w0 D0 [] w D6888 [bx b3958 49 ([.slice A6882 (List.length (r6878.2.fB)) c6883] ++ ([.int .i64 (r6878.2.fBad)]))] := hS.sel [0] rfl (by decide)
                      exact ⟨((!decide (r6886 = (IntKind.wrap .i64 (y5937.1 - ((List.length (r6773) : Nat) : Int))))), r6878.2.fB, r6878.2.fBad), A6882, c6883, D6888, hE.weak (by kernel_rfl), hS, (Snap.le.trans le6885 le6890), (h6884.mono le6890), hf⟩
                    · replace hf := cond_t hb hf
                      have hE := hE.know (t := 63) (b := (!decide (r6878.1 = x6866))) (b' := true) rfl hb
                      clear hb
                      refine takeW 8 (fuel := 4) #[true, true, true, true, true, true, true, true, true, false, false, false, false] (by kernel_rfl) (by kernel_rfl) (by kernel_rfl) (by kernel_rfl) hE (fun M => tk_skip hE rfl rfl rfl rfl (fun a hE => ?_))
                      refine takeW 9 (fuel := 3) #[true, true, true, true, true, true, true, true, true, true, false, false, false] (by kernel_rfl) (by kernel_rfl) (by kernel_rfl) (by kernel_rfl) hE (fun M => tk_skip hE rfl rfl rfl rfl (fun a hE => ?_))
                      refine takeW 10 (fuel := 2) #[true, true, true, true, true, true, true, true, true, true, true, false, false] (by kernel_rfl) (by kernel_rfl) (by kernel_rfl) (by kernel_rfl) hE (fun M => tk_skip hE rfl rfl rfl rfl (fun a hE => ?_))
                      refine takeW 11 (fuel := 1) #[true, true, true, true, true, true, true, true, true, true, true, true, false] (by kernel_rfl) (by kernel_rfl) (by kernel_rfl) (by kernel_rfl) hE (fun M => tk_skip hE rfl rfl rfl rfl (fun a hE => ?_))
                      refine takeW 12 (fuel := 0) #[true, true, true, true, true, true, true, true, true, true, true, true, true] (by kernel_rfl) (by kernel_rfl) (by kernel_rfl) (by kernel_rfl) hE (fun M => tk_pure (.bool true) hE rfl rfl rfl rfl (fun _ _ _ e => by cases e) (by kernel_rfl) (fun a hE => ?_))
                      have hE := hE.weak (E' := [(0, .slice A2 (List.length (x1)) c3), (5, .pointer (some ⟨b3958, 0, none⟩)), (6, .int .i64 ((IntKind.wrap .i64 (y5937.1 - ((List.length (r6773) : Nat) : Int))))), (7, .int .i64 (y5937.2.1)), (47, .bool (y6758)), (68, .bool true)]) (by kernel_rfl)
                      refine doneG (by kernel_rfl) ?_
                      have hS : Stp g w0 D0 [] w D6880 [bx b3958 49 ([.slice A6882 (List.length (r6878.2.fB)) c6883] ++ ([.int .i64 (r6878.2.fBad)]))] := hS.sel [0] rfl (by decide)
                      exact ⟨(true, r6878.2.fB, r6878.2.fBad), A6882, c6883, D6880, hE.weak (by kernel_rfl), hS, le6885, h6884, hf⟩
                  · clear hE hS
                    rintro a w ⟨y6833, A6836, c6837, D6834, hE, hS, le6835, h6838, hf⟩
                    replace hf := hj6840 _ hf
                    clear hj6840
                    refine cond_split hE (b := y6833.1) rfl (fun hb => ?_) (fun hb => ?_)
                    · replace hf := cond_t hb hf
                      clear hb
                      refine wpIn_seq ?_
                      refine region_at ?_
                      refine seg 1 (j := 1) [(0, .slice A2 (List.length (x1)) c3), (2, .bool false), (5, .pointer (some ⟨b3958, 0, none⟩)), (6, .int .i64 ((IntKind.wrap .i64 (y5937.1 - ((List.length (r6773) : Nat) : Int))))), (7, .int .i64 (y5937.2.1)), (68, .bool (y6833.1))] hE (by kernel_rfl) rfl (fun a hE => ?_)
                      refine at_end rfl ?_
                      refine wpIn_ret ?_
                      obtain rfl := Option.some.inj hf
                      replace hf := hs6436
                      obtain rfl := Option.some.inj hf
                      repeat (with_reducible first | refine then_ret ?_ | refine block_ret ?_ | refine qx_ret ?_)
                      refine ret_gen ([.bool false]) hE (by rw [show Try.f8.results.toList = [.tmp 2] from rfl]; exact ⟨_, _, rfl, rfl, rfl⟩) ?_
                      have hS : Stp g w0 D0 [] w D6834 [] := hS.sel [] rfl (by decide)
                      exact ⟨_, rfl, D6834, rfl, hS⟩
                    · replace hf := cond_f hb hf
                      clear hb
                      refine wpIn_skip ?_
                      exact ⟨((IntKind.wrap .i64 (y5937.1 - ((List.length (r6773) : Nat) : Int))), y6833.2.1, y6833.2.2), A6836, c6837, D6834, hE.weak (by kernel_rfl), hS, (Snap.le.trans (Snap.le.trans le6760 le6782) le6835), h6838, hf⟩
            · clear hE hS
              rintro a w ⟨y6673, A6676, c6677, D6674, hE, hS, le6675, h6678, hf⟩
              replace hf := hj6680 _ hf
              clear hj6680
              refine region_at ?_
              refine seg 3 (j := 3) [(0, .slice A2 (List.length (x1)) c3), (5, .pointer (some ⟨b3958, 0, none⟩)), (6, .int .i64 (y6673.1)), (7, .int .i64 ((IntKind.wrap .i64 (y5937.2.1 + (1 : Int)))))] hE (by kernel_rfl) rfl (fun a hE => ?_)
              refine at_end rfl ?_
              exact ⟨(y6673.1, (IntKind.wrap .i64 (y5937.2.1 + (1 : Int))), y6673.2.1, y6673.2.2), A6676, c6677, D6674, hE.weak (by kernel_rfl), hS, (Snap.le.trans le5939 le6675), h6678, hf⟩
          · replace hf := cond_f hb hf
            clear hb
            refine wpIn_exit ?_
            obtain rfl := Option.some.inj hf
            exact ⟨(y5937.2.2.1, y5937.2.2.2), A5940, c5941, D5938, hE.weak (by kernel_rfl), hS, le5939, h5942, rfl⟩
      · clear hE hS hf
        rintro k a w ⟨y3796, A3799, c3800, q3801, D3797, hE, hS, le3798, h3802, hf⟩
        obtain ⟨k, rfl, hf⟩ := inspeximuslaw03_WireMany_l1.some _ hf
        refine ⟨k, rfl, ?_⟩
        unfold inspeximuslaw03_WireMany_l1.b at hf
        refine wpIn_seq ?_
        refine wpIn_seq ?_
        refine region_at ?_
        refine seg 4 (j := 4) [(0, .slice A2 (List.length (x1)) c3), (3, .slice A3799 (List.length (y3796.1)) c3800), (4, .int .i64 (y3796.2)), (16, .bool ((decide (y3796.2 < ((List.length (x1) : Nat) : Int)))))] hE (by kernel_rfl) rfl (fun a hE => ?_)
        refine at_end rfl ?_
        refine cond_split hE (b := (decide (y3796.2 < ((List.length (x1) : Nat) : Int)))) rfl (fun hb => ?_) (fun hb => ?_)
        · replace hf := cond_t hb hf
          clear hb
          refine wpIn_skip ?_
          refine wpIn_seq ?_
          refine wpIn_block ?_
          refine region_at ?_
          refine seg 3 (j := 3) [(0, .slice A2 (List.length (x1)) c3), (3, .slice A3799 (List.length (y3796.1)) c3800), (4, .int .i64 (y3796.2)), (16, .bool ((decide (y3796.2 < ((List.length (x1) : Nat) : Int))))), (19, .slice A3799 (List.length (y3796.1)) c3800), (20, .slice A2 (List.length (x1)) c3), (21, .int .i64 (y3796.2))] hE (by kernel_rfl) rfl (fun a hE => ?_)
          obtain ⟨x3918, h3919, hf⟩ := bind_some hf
          refine at_op (op_tk hE (g_index (K := (kdInt .i64)) (e := 3) (by_ := 8) (zl := 1) rfl rfl rfl rfl hE rfl rfl rfl (by kernel_rfl) rfl (h4.mono (Snap.le.trans le3474 le3798)) h3919 (fun a b3920 o3921 hE h3922 => ?_))) rfl
          obtain ⟨cs3923, C3924, T3925, fr3926, hr3927, hb3928, hc3929⟩ := h3922
          obtain rfl := hr3927
          refine at_op (op_tk hE (tk_loadX (off0 := o3921) (off := 0) (c := [.int .i64 (x3918)]) (.int .i64 (x3918)) rfl rfl rfl rfl hE rfl hS rfl hb3928 hc3929 (by kernel_rfl) (fun _ h => absurd h List.not_mem_nil) (fun a hE => ?_))) rfl
          obtain ⟨r3930, h3931, hf⟩ := bind_some hf
          refine at_op (op_call rfl rfl rfl rfl hE rfl rfl rfl rfl (by kernel_rfl) (wire_Num.calls (g := g) h3931 (hS.st.fore (L := [])) ) (fun a v w hR hE => ?_)) rfl
          obtain ⟨D3932, A3934, c3935, q3936, rfl, hS1, h3937⟩ := hR
          have le3939 := hS1.dle
          have hS : Stp g w0 D0 [] w D3932 [q3936, q3801] := hS.call (L := []) (R := [q3801]) hS1
          clear hS1
          obtain ⟨D3940, le3941, hS, h3942⟩ := hS.frozen h3937
          have hS : Stp g w0 D0 [] w D3940 [q3801] := hS
          obtain ⟨l3943, h3944, hf⟩ := bind_some hf
          refine at_op (g_append (K := (kdInt .u8)) (e := 5) (bytes := 1) (l := y3796.1) (m := r3930) rfl rfl rfl rfl hE rfl hS rfl rfl (by kernel_rfl) rfl rfl (h3802.mono (Snap.le.trans le3939 le3941)) h3942 h3944 (fun a A3945 c3946 q3947 w _ hE h3948 hS => ?_)) rfl
          have hS : Stp g w0 D0 [] w D3940 [q3947] := hS
          refine seg 1 (j := 8) [(0, .slice A2 (List.length (x1)) c3), (3, .slice A3945 (List.length (l3943)) c3946), (4, .int .i64 (y3796.2)), (16, .bool ((decide (y3796.2 < ((List.length (x1) : Nat) : Int)))))] hE (by kernel_rfl) rfl (fun a hE => ?_)
          refine at_end rfl ?_
          refine region_at ?_
          refine seg 3 (j := 3) [(0, .slice A2 (List.length (x1)) c3), (3, .slice A3945 (List.length (l3943)) c3946), (4, .int .i64 ((IntKind.wrap .i64 (y3796.2 + (1 : Int))))), (16, .bool ((decide (y3796.2 < ((List.length (x1) : Nat) : Int)))))] hE (by kernel_rfl) rfl (fun a hE => ?_)
          refine at_end rfl ?_
          exact ⟨(l3943, (IntKind.wrap .i64 (y3796.2 + (1 : Int)))), A3945, c3946, q3947, D3940, hE.weak (by kernel_rfl), hS, (Snap.le.trans (Snap.le.trans le3798 le3939) le3941), h3948, hf⟩
        · replace hf := cond_f hb hf
          clear hb
          refine wpIn_exit ?_
          obtain rfl := Option.some.inj hf
          exact ⟨y3796.1, A3799, c3800, q3801, D3797, hE.weak (by kernel_rfl), hS, le3798, h3802, rfl⟩

end Go.Proofs.Ytmjkjgidcmalhaa
