/-
  Proved, text by text: a call of a function of the cut comes to what its plain function computes.
  Conditions: those that each theorem names.
-/
import Derived.Test.YtnnhkfmknlfpbaaProg
import Derived.Test.YtnnhkfmknlfpbaaBuOneW2
set_option linter.unusedVariables false
namespace Go.Proofs.Ytnnhkfmknlfpbaa
open Go Go.Sep

set_option maxRecDepth 100000 in
set_option maxHeartbeats 4000000 in
theorem bundle_Get.calls {K : Nat} {g w0 : World} {D0 : Snap} {x1 : (List Int)} {A2 : Option Addr} {c3 : Nat} {r : (T_api_Bundle × Int)} (hf : bundle_Get.f K x1 = some r) (hS0 : St g w0 D0 []) (h4 : Sl (kdInt .u8) D0 A2 c3 (x1)) :
    CallsIn (Fw none) 0 Try.prog 12 (List.toArray [.slice A2 (List.length (x1)) c3]) w0 (fun e w' => ∃ v, e = .returned v ∧ ∃ (D1 : Snap) (A301 : Option Addr) (c302 : Nat) (A304 : Option Addr) (c305 : Nat), v = .tuple #[.agg (List.toArray (c_T_api_Bundle ((T_api_Bundle.mk (r.1.fWhole) ((T_api_Point.mk (r.1.fPoint.fSize) (r.1.fPoint.fRoot) (r.1.fPoint.fSigs))) (r.1.fItems))) A301 c302 A304 c305)), .int .i64 (r.2)] ∧ Stp g w0 D0 [] w' D1 [] ∧ Sl kd_T_api_Sig D1 A301 c302 (r.1.fPoint.fSigs) ∧ Sl kd_T_api_Item D1 A304 c305 (r.1.fItems)) := by
  unfold bundle_Get.f at hf
  have hS := Stp.refl hS0
  clear hS0
  refine calls_body (n := 74) Try.func12 rfl Try.ntmps12 rfl (fun a hE => ?_)
  have hE : Env a 74 [] [(0, .slice A2 (List.length (x1)) c3)] := hE
  refine wpIn_seq ?_
  refine region_at ?_
  refine at_op (op_alloc (z := .agg (List.toArray (c_T_api_Bundle (z_T_api_Bundle) none 0 none 0))) rfl rfl rfl rfl hE rfl hS (by kernel_rfl) (fun a b307 w _ hE hS => ?_)) rfl
  refine segN 1 (j := 2) [(3, .int .i64 ((0 : Int)))] hE (by kernel_rfl) rfl (fun a hE => ?_)
  refine at_end rfl ?_
  refine wpIn_seq ?_
  refine region_at ?_
  refine segN 1 (j := 1) [(10, .slice A2 (List.length (x1)) c3)] hE (by kernel_rfl) rfl (fun a hE => ?_)
  refine at_op (op_buildSlice (K := (kdInt .u8)) (e := 5) (cs := [.int .u8 ((105 : Int))] ++ ([.int .u8 ((110 : Int))] ++ ([.int .u8 ((115 : Int))] ++ ([.int .u8 ((112 : Int))] ++ [])))) ([(105 : Int), (110 : Int), (115 : Int), (112 : Int)] : List Int) rfl rfl rfl rfl hE rfl hS rfl (by kernel_rfl) rfl rfl (by exact (show RL (kdInt .u8) D0 ([(105 : Int), (110 : Int), (115 : Int), (112 : Int)] : List Int) ([.int .u8 ((105 : Int))] ++ ([.int .u8 ((110 : Int))] ++ ([.int .u8 ((115 : Int))] ++ ([.int .u8 ((112 : Int))] ++ [])))) from ⟨_, _, rfl, rfl, ⟨_, _, rfl, rfl, ⟨_, _, rfl, rfl, ⟨_, _, rfl, rfl, rfl⟩⟩⟩⟩)) (fun a A309 q310 w _ hE h311 hS => ?_)) rfl
  refine at_op (op_lit (T := 5) (l := ([(105 : Int), (110 : Int), (115 : Int), (112 : Int)] : List Int)) rfl rfl rfl rfl hE rfl hS rfl (by kernel_rfl) h311 (by kernel_rfl) (fun a D313 w _ le314 hE h315 hS => ?_)) rfl
  obtain ⟨r316, h317, hf⟩ := bind_some hf
  refine at_op (op_call rfl rfl rfl rfl hE rfl rfl rfl rfl (by kernel_rfl) (bytes_CutPrefix.calls (g := g) h317 (hS.st.fore (L := [])) (h4.mono le314) h315) (fun a v w hR hE => ?_)) rfl
  obtain ⟨D318, A320, c321, rfl, hS1, h322⟩ := hR
  have le323 := hS1.dle
  have hS := hS.callR hS1 rfl .n
  clear hS1
  refine segN 5 (j := 9) [(4, .slice A320 (List.length (r316.1)) c321), (5, .bool (r316.2))] hE (by kernel_rfl) rfl (fun a hE => ?_)
  refine at_end rfl ?_
  refine wpIn_seq ?_
  refine wpIn_seq ?_
  refine region_at ?_
  refine segN 2 (j := 2) [(17, .bool ((!r316.2)))] hE (by kernel_rfl) rfl (fun a hE => ?_)
  refine at_end rfl ?_
  refine cond_split hE (b := (!r316.2)) rfl (fun hb => ?_) (fun hb => ?_)
  · replace hf := cond_t hb hf
    clear hb
    refine wpIn_seq ?_
    refine region_at ?_
    refine at_op (op_tk hE (tk_build (c_T_api_Bundle (z_T_api_Bundle) none 0 none 0) rfl rfl rfl rfl hE rfl rfl (by kernel_rfl) (fun a hE => ?_))) rfl
    refine at_op (op_store (v := .agg (List.toArray (c_T_api_Bundle (z_T_api_Bundle) none 0 none 0))) (c_T_api_Bundle (z_T_api_Bundle) none 0 none 0) rfl rfl rfl rfl hE hS rfl rfl (by kernel_rfl) (by kernel_rfl) (by kernel_rfl) (by kernel_rfl) (by kernel_rfl) (fun a w _ hE hS => ?_)) rfl
    refine segN 1 (j := 3) [(3, .int .i64 ((2 : Int)))] hE (by kernel_rfl) rfl (fun a hE => ?_)
    refine at_end rfl ?_
    refine wpIn_ret ?_
    obtain rfl := Option.some.inj hf
    repeat (with_reducible first | refine then_ret ?_ | refine block_ret ?_ | refine qx_ret ?_)
    refine ret_gen ([.agg (List.toArray (c_T_api_Bundle (z_T_api_Bundle) none 0 none 0)), .int .i64 ((2 : Int))]) hE (by rw [show Try.f12.results.toList = [.cell 2 29, .tmp 3] from rfl]; exact ⟨_, _, _, 0, _, _, rfl, rfl, hS.heapAt (j := 0) rfl, by kernel_rfl, ⟨_, _, rfl, rfl, rfl⟩⟩) ?_
    have hS := hS.pk .n rfl
    exact ⟨_, rfl, D318, none, 0, none, 0, rfl, hS, (Sl.nil kd_T_api_Sig D318), (Sl.nil kd_T_api_Item D318)⟩
  · replace hf := cond_f hb hf
    clear hb
    refine wpIn_skip ?_
    refine wpIn_seq ?_
    refine region_at ?_
    refine segN 1 (j := 1) [(19, .slice A320 (List.length (r316.1)) c321)] hE (by kernel_rfl) rfl (fun a hE => ?_)
    obtain ⟨r324, h325, hf⟩ := bind_some hf
    refine at_op (op_call rfl rfl rfl rfl hE rfl rfl rfl rfl (by kernel_rfl) (wire_Read.calls (g := g) h325 (hS.st.fore (L := [])) h322) (fun a v w hR hE => ?_)) rfl
    obtain ⟨D326, b328, A330, c331, rfl, hS1, h332⟩ := hR
    have le333 := hS1.dle
    have hS := hS.callR hS1 rfl (.c .n)
    clear hS1
    refine at_op (op_alloc (z := .pointer none) rfl rfl rfl rfl hE rfl hS (by kernel_rfl) (fun a b334 w _ hE hS => ?_)) rfl
    refine at_op (op_store (v := .pointer (some ⟨b328, 0, none⟩)) ([.pointer (some ⟨b328, 0, none⟩)]) rfl rfl rfl rfl hE hS rfl rfl (by kernel_rfl) (by kernel_rfl) (by kernel_rfl) (by kernel_rfl) (by kernel_rfl) (fun a w _ hE hS => ?_)) rfl
    refine at_end rfl ?_
    refine wpIn_seq ?_
    refine region_at ?_
    refine at_op (op_tk hE (tk_load 0 (.pointer (some ⟨b328, 0, none⟩)) rfl rfl rfl rfl hE rfl hS rfl rfl (by kernel_rfl) (kL (j := 0) hS rfl List.not_mem_nil) (fun a hE => ?_))) rfl
    have hS := hS.pk (.c 1 rfl (.c 0 rfl (.c 2 rfl .n))) rfl
    obtain ⟨r336, h337, hf⟩ := bind_some hf
    refine at_op (op_call rfl rfl rfl rfl hE rfl rfl rfl rfl (by kernel_rfl) (wire_Reader_Flag.calls (g := g) h337 (hS.st.fore (L := [bx b328 94 (c_T_wire_Reader (r324) A330 c331)])) h332) (fun a v w hR hE => ?_)) rfl
    obtain ⟨D338, A340, c341, rfl, hS1, h342⟩ := hR
    have le343 := hS1.dle
    have hS := hS.callR hS1 rfl (.c .n)
    clear hS1
    refine at_op (op_tk hE (tk_build (c_T_api_Bundle ({ z_T_api_Bundle with fWhole := r336.1 }) none 0 none 0) rfl rfl rfl rfl hE rfl rfl (by kernel_rfl) (fun a hE => ?_))) rfl
    refine at_op (op_alloc (z := .agg (List.toArray (c_T_api_Bundle (z_T_api_Bundle) none 0 none 0))) rfl rfl rfl rfl hE rfl hS (by kernel_rfl) (fun a b344 w _ hE hS => ?_)) rfl
    obtain ⟨v346, hv347, hf⟩ := bind_some hf
    replace hv347 := Option.some.inj hv347
    refine at_op (op_store (v := .agg (List.toArray (c_T_api_Bundle ({ z_T_api_Bundle with fWhole := r336.1 }) none 0 none 0))) (c_T_api_Bundle (v346) none 0 none 0) rfl rfl rfl rfl hE hS rfl rfl (by kernel_rfl) (by kernel_rfl) (by kernel_rfl) (by kernel_rfl) (by rw [← hv347]; kernel_rfl) (fun a w _ hE hS => ?_)) rfl
    have h348 : Sl kd_T_api_Sig D338 none 0 (v346.fPoint.fSigs) := by rw [← hv347]; exact (Sl.nil kd_T_api_Sig D338)
    have h349 : Sl kd_T_api_Item D338 none 0 (v346.fItems) := by rw [← hv347]; exact (Sl.nil kd_T_api_Item D338)
    refine at_end rfl ?_
    refine wpIn_seq ?_
    refine region_at ?_
    refine at_op (op_tk hE (tk_load 2 (.pointer (some ⟨b328, 0, none⟩)) rfl rfl rfl rfl hE rfl hS rfl rfl (by kernel_rfl) (kL (j := 2) hS rfl List.not_mem_nil) (fun a hE => ?_))) rfl
    have hS := hS.pk (.c 1 rfl (.c 0 rfl (.c 2 rfl (.c 3 rfl .n)))) rfl
    obtain ⟨r350, h351, hf⟩ := bind_some hf
    refine at_op (op_call rfl rfl rfl rfl hE rfl rfl rfl rfl (by kernel_rfl) (wire_Reader_Num.calls (g := g) h351 (hS.st.fore (L := [bx b328 94 (c_T_wire_Reader (r336.2) A340 c341)])) h342) (fun a v w hR hE => ?_)) rfl
    obtain ⟨D352, A354, c355, rfl, hS1, h356⟩ := hR
    have le357 := hS1.dle
    have hS := hS.callR hS1 rfl (.c .n)
    clear hS1
    refine at_op (op_tk hE (g_fieldAddr (fo := 1) (ft := 26) 1 rfl rfl rfl rfl hE rfl rfl (by kernel_rfl) rfl (fun a hE => ?_))) rfl
    refine at_op (op_tk hE (g_fieldAddr (fo := 0) (ft := 3) 1 rfl rfl rfl rfl hE rfl rfl (by kernel_rfl) rfl (fun a hE => ?_))) rfl
    have hS := hS.pk (.c 1 rfl (.c 0 rfl (.c 2 rfl (.c 3 rfl .n)))) rfl
    obtain ⟨v358, hv359, hf⟩ := bind_some hf
    replace hv359 := Option.some.inj hv359
    refine at_op (op_store (v := .int .i64 (r350.1)) (c_T_api_Bundle (v358) none 0 none 0) rfl rfl rfl rfl hE hS rfl rfl (by kernel_rfl) (by kernel_rfl) (by kernel_rfl) (by kernel_rfl) (by rw [← hv359]; kernel_rfl) (fun a w _ hE hS => ?_)) rfl
    have h360 : Sl kd_T_api_Sig D338 none 0 (v358.fPoint.fSigs) := by rw [← hv359]; exact h348
    have h361 : Sl kd_T_api_Item D338 none 0 (v358.fItems) := by rw [← hv359]; exact h349
    refine at_end rfl ?_
    obtain ⟨j593, hj594, hf⟩ := jn_elim hf
    refine seq_join (fun a w => ∃ (y370 : T_wire_Reader), ∃ (A373 : Option Addr), ∃ (c374 : Nat), ∃ (D371 : Snap), Env a 74 [] [(2, .pointer (some ⟨b307, 0, none⟩)), (6, .pointer (some ⟨b334, 0, none⟩)), (7, .pointer (some ⟨b344, 0, none⟩))] ∧ Stp g w0 D0 [] w D371 [bx b307 29 (c_T_api_Bundle (z_T_api_Bundle) none 0 none 0), bx b334 65 ([.pointer (some ⟨b328, 0, none⟩)]), bx b344 29 (c_T_api_Bundle (v358) none 0 none 0), bx b328 94 (c_T_wire_Reader (y370) A373 c374)] ∧ Snap.le D352 D371 ∧ Sl (kdInt .u8) D371 A373 c374 (y370.fB) ∧ j593 y370 = some r) ?_ ?_
    · clear hj594
      refine wpIn_seq ?_
      refine region_at ?_
      refine at_op (op_tk hE (g_fieldAddr (fo := 1) (ft := 26) 1 rfl rfl rfl rfl hE rfl rfl (by kernel_rfl) rfl (fun a hE => ?_))) rfl
      refine at_op (op_tk hE (g_fieldAddr (fo := 0) (ft := 3) 1 rfl rfl rfl rfl hE rfl rfl (by kernel_rfl) rfl (fun a hE => ?_))) rfl
      refine at_op (op_tk hE (tk_load 0 (.int .i64 (v358.fPoint.fSize)) rfl rfl rfl rfl hE rfl hS rfl rfl (by kernel_rfl) (kL (j := 0) hS rfl List.not_mem_nil) (fun a hE => ?_))) rfl
      refine segN 1 (j := 4) [(31, .bool ((decide ((400 : Int) < v358.fPoint.fSize))))] hE (by kernel_rfl) rfl (fun a hE => ?_)
      refine at_end rfl ?_
      refine cond_split hE (b := (decide ((400 : Int) < v358.fPoint.fSize))) rfl (fun hb => ?_) (fun hb => ?_)
      · replace hf := cond_t hb hf
        clear hb
        refine region_at ?_
        refine at_op (op_tk hE (tk_load 2 (.pointer (some ⟨b328, 0, none⟩)) rfl rfl rfl rfl hE rfl hS rfl rfl (by kernel_rfl) (kL (j := 2) hS rfl List.not_mem_nil) (fun a hE => ?_))) rfl
        have hS := hS.pk (.c 1 rfl (.c 0 rfl (.c 2 rfl (.c 3 rfl .n)))) rfl
        obtain ⟨r595, h596, hf⟩ := bind_some hf
        refine at_op (op_call rfl rfl rfl rfl hE rfl rfl rfl rfl (by kernel_rfl) (wire_Reader_Fail.calls (g := g) h596 (hS.st.fore (L := [bx b328 94 (c_T_wire_Reader (r350.2) A354 c355)])) h356) (fun a v w hR hE => ?_)) rfl
        obtain ⟨D597, A599, c600, rfl, hS1, h601⟩ := hR
        have le602 := hS1.dle
        have hS := hS.callR hS1 rfl (.c .n)
        clear hS1
        refine at_end rfl ?_
        have hS := hS.pk (.c 3 rfl (.c 2 rfl (.c 1 rfl (.c 0 rfl .n)))) rfl
        exact ⟨r595, A599, c600, D597, hE.weak (by kernel_rfl), hS, le602, h601, hf⟩
      · replace hf := cond_f hb hf
        clear hb
        refine wpIn_skip ?_
        have hS := hS.pk (.c 3 rfl (.c 2 rfl (.c 0 rfl (.c 1 rfl .n)))) rfl
        exact ⟨r350.2, A354, c355, D352, hE.weak (by kernel_rfl), hS, Snap.le.refl _, h356, hf⟩
    · clear hE hS
      rintro a w ⟨y370, A373, c374, D371, hE, hS, le372, h375, hf⟩
      replace hf := hj594 _ hf
      clear hj594
      refine wpIn_seq ?_
      refine region_at ?_
      refine at_op (op_tk hE (tk_load 1 (.pointer (some ⟨b328, 0, none⟩)) rfl rfl rfl rfl hE rfl hS rfl rfl (by kernel_rfl) (kL (j := 1) hS rfl List.not_mem_nil) (fun a hE => ?_))) rfl
      have hS := hS.pk (.c 3 rfl (.c 0 rfl (.c 1 rfl (.c 2 rfl .n)))) rfl
      obtain ⟨r376, h377, hf⟩ := bind_some hf
      refine at_op (op_call rfl rfl rfl rfl hE rfl rfl rfl rfl (by kernel_rfl) (wire_Reader_Hash.calls (g := g) h377 (hS.st.fore (L := [bx b328 94 (c_T_wire_Reader (y370) A373 c374)])) h375) (fun a v w hR hE => ?_)) rfl
      obtain ⟨D378, A380, c381, rfl, hS1, h382⟩ := hR
      have le383 := hS1.dle
      have hS := hS.callR hS1 rfl (.c .n)
      clear hS1
      refine at_op (op_tk hE (g_fieldAddr (fo := 1) (ft := 26) 1 rfl rfl rfl rfl hE rfl rfl (by kernel_rfl) rfl (fun a hE => ?_))) rfl
      refine at_op (op_tk hE (g_fieldAddr (fo := 1) (ft := 23) 2 rfl rfl rfl rfl hE rfl rfl (by kernel_rfl) rfl (fun a hE => ?_))) rfl
      have hS := hS.pk (.c 3 rfl (.c 0 rfl (.c 1 rfl (.c 2 rfl .n)))) rfl
      obtain ⟨v384, hv385, hf⟩ := bind_some hf
      replace hv385 := Option.some.inj hv385
      refine at_op (op_store (v := .agg (List.toArray (acells .u8 32 (r376.1)))) (c_T_api_Bundle (v384) none 0 none 0) rfl rfl rfl rfl hE hS rfl rfl (by kernel_rfl) (by kernel_rfl) (by kernel_rfl) (by kernel_rfl) (by rw [← hv385]; kernel_rfl) (fun a w _ hE hS => ?_)) rfl
      have h386 : Sl kd_T_api_Sig D338 none 0 (v384.fPoint.fSigs) := by rw [← hv385]; exact h360
      have h387 : Sl kd_T_api_Item D338 none 0 (v384.fItems) := by rw [← hv385]; exact h361
      refine at_end rfl ?_
      refine wpIn_seq ?_
      refine region_draw (fun j => Keeps (mfOf [(2, [b328]), (4, [b328]), (7, [b344])] j)) (by kernel_rfl) ?_
      have hS := hS.drew
      first | generalize w.drew = w at hS ⊢ | generalize w0.drew = w at hS ⊢
      refine tW 3 8 (fuel := 7) (by kernel_rfl) hE (fun M => tk_pure (.func (.func 35) #[] #[.pointer (some ⟨b334, 0, none⟩)]) hE rfl rfl rfl rfl (fun _ _ _ e => by cases e) (by kernel_rfl) (fun a hE => ?_))
      refine tN (T := [(2, [b328]), (4, [b328]), (7, [b344])]) [2] 0 9 (fuel := 6) (by kernel_rfl) hE (tk_load 3 (.pointer (some ⟨b328, 0, none⟩)) rfl rfl rfl rfl hE rfl hS rfl rfl (by kernel_rfl) (kL (j := 3) hS rfl (show b334 ∉ [b328] from (nm_cons (hS.ne (i := 3) (j := 1) (by decide) rfl rfl) List.not_mem_nil))) (fun a hE => ?_))
      refine tN (T := [(2, [b328]), (4, [b328]), (7, [b344])]) [4] 1 11 (fuel := 5) (by kernel_rfl) hE (tk_load 3 (.pointer (some ⟨b328, 0, none⟩)) rfl rfl rfl rfl hE rfl hS rfl rfl (by kernel_rfl) (kL (j := 3) hS rfl (show b334 ∉ [b328] from (nm_cons (hS.ne (i := 3) (j := 1) (by decide) rfl rfl) List.not_mem_nil))) (fun a hE => ?_))
      have hS := hS.pk (.c 1 rfl (.c 0 rfl (.c 2 rfl (.c 3 rfl .n)))) rfl
      obtain ⟨r409, h410, hf⟩ := bind_some hf
      refine oG 2 15 (fuel := 4) (by kernel_rfl) (op_call rfl rfl rfl rfl hE rfl rfl rfl rfl (by kernel_rfl) (wire_Reader_Num.calls (g := g) h410 (hS.st.fore (L := [bx b328 94 (c_T_wire_Reader (r376.2) A380 c381)])) h382) (fun a v w hR hE => ?_))
      obtain ⟨D411, A413, c414, rfl, hS1, h415⟩ := hR
      refine ⟨(hS1.keeps.sub (M' := [b328]) ⟨.inl (List.Mem.head _), trivial⟩).mono (fun _ h => h), ?_⟩
      have le416 := hS1.dle
      have hS := hS.callR hS1 rfl (.c .n)
      clear hS1
      have hS := hS.pk (.c 0 rfl (.c 3 rfl (.c 1 rfl (.c 2 rfl .n)))) rfl
      obtain ⟨r417, h418, hf⟩ := bind_some hf
      refine oG 4 31 (fuel := 3) (by kernel_rfl) (op_call rfl rfl rfl rfl hE rfl rfl rfl rfl (by kernel_rfl) (bundle_read_api_Sig.calls (g := g) h418 (hS.st.fore (L := [bx b328 94 (c_T_wire_Reader (r409.2) A413 c414), bx b334 65 ([.pointer (some ⟨b328, 0, none⟩)])])) h415) (fun a v w hR hE => ?_))
      obtain ⟨D419, A421, c422, q423, A426, c427, rfl, hS1, h424, h428⟩ := hR
      refine ⟨(hS1.keeps.sub (M' := [b328]) ⟨.inl (List.Mem.head _), .inr ((hS1.heapAt (j := 1) rfl).trans (hS.heapAt (j := 1) rfl).symm), trivial⟩).mono (fun _ h => h), ?_⟩
      have le429 := hS1.dle
      have hS := hS.callR hS1 rfl (.c (.c (.c .n)))
      clear hS1
      refine tW 5 63 (fuel := 2) (by kernel_rfl) hE (fun M => g_fieldAddr (fo := 1) (ft := 26) 1 rfl rfl rfl rfl hE rfl rfl (by kernel_rfl) rfl (fun a hE => ?_))
      refine tW 6 127 (fuel := 1) (by kernel_rfl) hE (fun M => g_fieldAddr (fo := 33) (ft := 24) 34 rfl rfl rfl rfl hE rfl rfl (by kernel_rfl) rfl (fun a hE => ?_))
      have hS := hS.pk (.c 3 rfl (.c 0 rfl (.c 1 rfl (.c 2 rfl (.c 4 rfl .n))))) rfl
      refine oG 7 255 (fuel := 0) (by kernel_rfl) (op_store (v := .slice A421 (List.length (r417.1)) c422) (c_T_api_Bundle ({ v384 with fPoint := { v384.fPoint with fSigs := r417.1 } }) A421 c422 none 0) rfl rfl rfl rfl hE hS rfl rfl (by kernel_rfl) (by kernel_rfl) (by kernel_rfl) (by kernel_rfl) (by kernel_rfl) (fun a w hkp hE hS => ⟨hkp.mono (fun _ h => h), ?_⟩))
      clear hkp
      refine doneG (by kernel_rfl) ?_
      obtain ⟨j536, hj537, hf⟩ := jn_elim hf
      refine seq_join (fun a w => ∃ (y485 : (List T_api_Item) × T_wire_Reader), ∃ (A488 : Option Addr), ∃ (c489 : Nat), ∃ (q490 : Blk), ∃ (A493 : Option Addr), ∃ (c494 : Nat), ∃ (D486 : Snap), Env a 74 [] [(2, .pointer (some ⟨b307, 0, none⟩)), (6, .pointer (some ⟨b334, 0, none⟩)), (7, .pointer (some ⟨b344, 0, none⟩))] ∧ Stp g w0 D0 [] w D486 [bx b307 29 (c_T_api_Bundle (z_T_api_Bundle) none 0 none 0), bx b334 65 ([.pointer (some ⟨b328, 0, none⟩)]), bx b344 29 (c_T_api_Bundle ((T_api_Bundle.mk (v384.fWhole) ({ v384.fPoint with fSigs := r417.1 }) (y485.1))) A421 c422 A488 c489), bx b328 94 (c_T_wire_Reader (y485.2) A493 c494), q423, q490] ∧ Snap.le D419 D486 ∧ OwnD kd_T_api_Item 50 D486 A488 c489 (y485.1) q490 ∧ Sl (kdInt .u8) D486 A493 c494 (y485.2.fB) ∧ j536 y485 = some r) ?_ ?_
      · clear hj537
        refine wpIn_seq ?_
        refine region_at ?_
        refine at_op (op_tk hE (g_fieldAddr (fo := 0) (ft := 4) 0 rfl rfl rfl rfl hE rfl rfl (by kernel_rfl) rfl (fun a hE => ?_))) rfl
        refine at_op (op_tk hE (tk_load 0 (.bool (v384.fWhole)) rfl rfl rfl rfl hE rfl hS rfl rfl (by kernel_rfl) (kL (j := 0) hS rfl List.not_mem_nil) (fun a hE => ?_))) rfl
        refine at_end rfl ?_
        refine cond_split hE (b := v384.fWhole) rfl (fun hb => ?_) (fun hb => ?_)
        · replace hf := cond_t hb hf
          clear hb
          refine region_at ?_
          refine at_op (op_tk hE (tk_load 2 (.pointer (some ⟨b328, 0, none⟩)) rfl rfl rfl rfl hE rfl hS rfl rfl (by kernel_rfl) (kL (j := 2) hS rfl List.not_mem_nil) (fun a hE => ?_))) rfl
          refine at_op (op_tk hE (g_fieldAddr (fo := 1) (ft := 26) 1 rfl rfl rfl rfl hE rfl rfl (by kernel_rfl) rfl (fun a hE => ?_))) rfl
          refine at_op (op_tk hE (g_fieldAddr (fo := 0) (ft := 3) 1 rfl rfl rfl rfl hE rfl rfl (by kernel_rfl) rfl (fun a hE => ?_))) rfl
          refine at_op (op_tk hE (tk_load 0 (.int .i64 (v384.fPoint.fSize)) rfl rfl rfl rfl hE rfl hS rfl rfl (by kernel_rfl) (kL (j := 0) hS rfl List.not_mem_nil) (fun a hE => ?_))) rfl
          refine segN 1 (j := 5) [(51, .func (.func 37) #[] #[.pointer (some ⟨b334, 0, none⟩)])] hE (by kernel_rfl) rfl (fun a hE => ?_)
          have hS := hS.pk (.c 1 rfl (.c 2 rfl (.c 0 rfl (.c 3 rfl (.c 4 rfl .n))))) rfl
          obtain ⟨r538, h539, hf⟩ := bind_some hf
          refine at_op (op_call rfl rfl rfl rfl hE rfl rfl rfl rfl (by kernel_rfl) (bundle_read_api_Item.calls (g := g) h539 (hS.st.fore (L := [bx b328 94 (c_T_wire_Reader (r417.2) A426 c427), bx b334 65 ([.pointer (some ⟨b328, 0, none⟩)])])) h428) (fun a v w hR hE => ?_)) rfl
          obtain ⟨D540, A542, c543, q544, A547, c548, rfl, hS1, h545, h549⟩ := hR
          have le550 := hS1.dle
          have hS := hS.callR hS1 rfl (.c (.c (.c .n)))
          clear hS1
          refine at_op (op_tk hE (g_fieldAddr (fo := 35) (ft := 27) 35 rfl rfl rfl rfl hE rfl rfl (by kernel_rfl) rfl (fun a hE => ?_))) rfl
          have hS := hS.pk (.c 3 rfl (.c 0 rfl (.c 1 rfl (.c 2 rfl (.c 4 rfl (.c 5 rfl .n)))))) rfl
          refine at_op (op_store (v := .slice A542 (List.length (r538.1)) c543) (c_T_api_Bundle ((T_api_Bundle.mk (v384.fWhole) ({ v384.fPoint with fSigs := r417.1 }) (r538.1))) A421 c422 A542 c543) rfl rfl rfl rfl hE hS rfl rfl (by kernel_rfl) (by kernel_rfl) (by kernel_rfl) (by kernel_rfl) (by kernel_rfl) (fun a w _ hE hS => ?_)) rfl
          refine at_end rfl ?_
          have hS := hS.pk (.c 5 rfl (.c 2 rfl (.c 0 rfl (.c 1 rfl (.c 4 rfl (.c 3 rfl .n)))))) rfl
          exact ⟨(r538.1, r538.2), A542, c543, q544, A547, c548, D540, hE.weak (by kernel_rfl), hS, le550, h545, h549, hf⟩
        · replace hf := cond_f hb hf
          clear hb
          refine region_draw (fun j => Keeps (mfOf [(2, [b328]), (7, [b328]), (9, [b344])] j)) (by kernel_rfl) ?_
          have hS := hS.drew
          first | generalize w.drew = w at hS ⊢ | generalize w0.drew = w at hS ⊢
          refine tW 6 64 (fuel := 9) (by kernel_rfl) hE (fun M => tk_pure (.func (.func 39) #[] #[.pointer (some ⟨b334, 0, none⟩)]) hE rfl rfl rfl rfl (fun _ _ _ e => by cases e) (by kernel_rfl) (fun a hE => ?_))
          refine tN (T := [(2, [b328]), (7, [b328]), (9, [b344])]) [2] 0 65 (fuel := 8) (by kernel_rfl) hE (tk_load 2 (.pointer (some ⟨b328, 0, none⟩)) rfl rfl rfl rfl hE rfl hS rfl rfl (by kernel_rfl) (kL (j := 2) hS rfl (show b334 ∉ [b328] from (nm_cons (hS.ne (i := 2) (j := 1) (by decide) rfl rfl) List.not_mem_nil))) (fun a hE => ?_))
          refine tN (T := [(2, [b328]), (7, [b328]), (9, [b344])]) [7] 1 67 (fuel := 7) (by kernel_rfl) hE (tk_load 2 (.pointer (some ⟨b328, 0, none⟩)) rfl rfl rfl rfl hE rfl hS rfl rfl (by kernel_rfl) (kL (j := 2) hS rfl (show b334 ∉ [b328] from (nm_cons (hS.ne (i := 2) (j := 1) (by decide) rfl rfl) List.not_mem_nil))) (fun a hE => ?_))
          refine tW 3 75 (fuel := 6) (by kernel_rfl) hE (fun M => g_fieldAddr (fo := 1) (ft := 26) 1 rfl rfl rfl rfl hE rfl rfl (by kernel_rfl) rfl (fun a hE => ?_))
          refine tW 4 91 (fuel := 5) (by kernel_rfl) hE (fun M => g_fieldAddr (fo := 0) (ft := 3) 1 rfl rfl rfl rfl hE rfl rfl (by kernel_rfl) rfl (fun a hE => ?_))
          refine tN (T := [(2, [b328]), (7, [b328]), (9, [b344])]) [2] 5 123 (fuel := 4) (by kernel_rfl) hE (tk_load 0 (.int .i64 (v384.fPoint.fSize)) rfl rfl rfl rfl hE rfl hS rfl rfl (by kernel_rfl) (kL (j := 0) hS rfl (show b344 ∉ [b328] from (nm_cons (hS.ne (i := 0) (j := 1) (by decide) rfl rfl) List.not_mem_nil))) (fun a hE => ?_))
          have hS := hS.pk (.c 1 rfl (.c 0 rfl (.c 2 rfl (.c 3 rfl (.c 4 rfl .n))))) rfl
          obtain ⟨r572, h573, hf⟩ := bind_some hf
          refine oG 2 127 (fuel := 3) (by kernel_rfl) (op_call rfl rfl rfl rfl hE rfl rfl rfl rfl (by kernel_rfl) (wire_Reader_Num.calls (g := g) h573 (hS.st.fore (L := [bx b328 94 (c_T_wire_Reader (r417.2) A426 c427)])) h428) (fun a v w hR hE => ?_))
          obtain ⟨D574, A576, c577, rfl, hS1, h578⟩ := hR
          refine ⟨(hS1.keeps.sub (M' := [b328]) ⟨.inl (List.Mem.head _), trivial⟩).mono (fun _ h => h), ?_⟩
          have le579 := hS1.dle
          have hS := hS.callR hS1 rfl (.c .n)
          clear hS1
          have hS := hS.pk (.c 0 rfl (.c 2 rfl (.c 1 rfl (.c 3 rfl (.c 4 rfl .n))))) rfl
          obtain ⟨r580, h581, hf⟩ := bind_some hf
          refine oG 7 255 (fuel := 2) (by kernel_rfl) (op_call rfl rfl rfl rfl hE rfl rfl rfl rfl (by kernel_rfl) (bundle_read_api_Item_v2.calls (g := g) h581 (hS.st.fore (L := [bx b328 94 (c_T_wire_Reader (r572.2) A576 c577), bx b334 65 ([.pointer (some ⟨b328, 0, none⟩)])])) h578) (fun a v w hR hE => ?_))
          obtain ⟨D582, A584, c585, q586, A589, c590, rfl, hS1, h587, h591⟩ := hR
          refine ⟨(hS1.keeps.sub (M' := [b328]) ⟨.inl (List.Mem.head _), .inr ((hS1.heapAt (j := 1) rfl).trans (hS.heapAt (j := 1) rfl).symm), trivial⟩).mono (fun _ h => h), ?_⟩
          have le592 := hS1.dle
          have hS := hS.callR hS1 rfl (.c (.c (.c .n)))
          clear hS1
          refine tW 8 511 (fuel := 1) (by kernel_rfl) hE (fun M => g_fieldAddr (fo := 35) (ft := 27) 35 rfl rfl rfl rfl hE rfl rfl (by kernel_rfl) rfl (fun a hE => ?_))
          have hS := hS.pk (.c 3 rfl (.c 0 rfl (.c 1 rfl (.c 2 rfl (.c 4 rfl (.c 5 rfl .n)))))) rfl
          refine oG 9 1023 (fuel := 0) (by kernel_rfl) (op_store (v := .slice A584 (List.length (r580.1)) c585) (c_T_api_Bundle ((T_api_Bundle.mk (v384.fWhole) ({ v384.fPoint with fSigs := r417.1 }) (r580.1))) A421 c422 A584 c585) rfl rfl rfl rfl hE hS rfl rfl (by kernel_rfl) (by kernel_rfl) (by kernel_rfl) (by kernel_rfl) (by kernel_rfl) (fun a w hkp hE hS => ⟨hkp.mono (fun _ h => h), ?_⟩))
          clear hkp
          refine doneG (by kernel_rfl) ?_
          have hS := hS.pk (.c 5 rfl (.c 2 rfl (.c 0 rfl (.c 1 rfl (.c 4 rfl (.c 3 rfl .n)))))) rfl
          exact ⟨(r580.1, r580.2), A584, c585, q586, A589, c590, D582, hE.weak (by kernel_rfl), hS, (Snap.le.trans le579 le592), h587, h591, hf⟩
      · clear hE hS
        rintro a w ⟨y485, A488, c489, q490, A493, c494, D486, hE, hS, le487, h491, h495, hf⟩
        replace hf := hj537 _ hf
        clear hj537
        refine wpIn_seq ?_
        refine wpIn_seq ?_
        refine region_at ?_
        refine at_op (op_tk hE (tk_load 1 (.pointer (some ⟨b328, 0, none⟩)) rfl rfl rfl rfl hE rfl hS rfl rfl (by kernel_rfl) (kL (j := 1) hS rfl List.not_mem_nil) (fun a hE => ?_))) rfl
        have hS := hS.pk (.c 3 rfl (.c 0 rfl (.c 1 rfl (.c 2 rfl (.c 4 rfl (.c 5 rfl .n)))))) rfl
        obtain ⟨r501, h502, hf⟩ := bind_some hf
        refine at_op (op_call rfl rfl rfl rfl hE rfl rfl rfl rfl (by kernel_rfl) (wire_Reader_Done.calls (g := g) h502 (hS.st.fore (L := [bx b328 94 (c_T_wire_Reader (y485.2) A493 c494)])) h495) (fun a v w hR hE => ?_)) rfl
        obtain ⟨D503, rfl, hS1⟩ := hR
        have le505 := hS1.dle
        have hS := hS.callR hS1 rfl (.c .n)
        clear hS1
        refine segN 1 (j := 3) [(8, .int .i64 (r501))] hE (by kernel_rfl) rfl (fun a hE => ?_)
        refine at_end rfl ?_
        refine wpIn_seq ?_
        refine region_at ?_
        refine segN 2 (j := 2) [(66, .bool ((!decide (r501 = (0 : Int)))))] hE (by kernel_rfl) rfl (fun a hE => ?_)
        refine at_end rfl ?_
        refine cond_split hE (b := (!decide (r501 = (0 : Int)))) rfl (fun hb => ?_) (fun hb => ?_)
        · replace hf := cond_t hb hf
          clear hb
          refine wpIn_seq ?_
          refine region_at ?_
          refine at_op (op_tk hE (tk_build (c_T_api_Bundle (z_T_api_Bundle) none 0 none 0) rfl rfl rfl rfl hE rfl rfl (by kernel_rfl) (fun a hE => ?_))) rfl
          refine segN 1 (j := 2) [(68, .int .i64 (r501))] hE (by kernel_rfl) rfl (fun a hE => ?_)
          have hS := hS.pk (.c 1 rfl (.c 0 rfl (.c 2 rfl (.c 3 rfl (.c 4 rfl (.c 5 rfl .n)))))) rfl
          refine at_op (op_store (v := .agg (List.toArray (c_T_api_Bundle (z_T_api_Bundle) none 0 none 0))) (c_T_api_Bundle (z_T_api_Bundle) none 0 none 0) rfl rfl rfl rfl hE hS rfl rfl (by kernel_rfl) (by kernel_rfl) (by kernel_rfl) (by kernel_rfl) (by kernel_rfl) (fun a w _ hE hS => ?_)) rfl
          refine segN 1 (j := 4) [(3, .int .i64 (r501))] hE (by kernel_rfl) rfl (fun a hE => ?_)
          refine at_end rfl ?_
          refine wpIn_ret ?_
          obtain rfl := Option.some.inj hf
          repeat (with_reducible first | refine then_ret ?_ | refine block_ret ?_ | refine qx_ret ?_)
          refine ret_gen ([.agg (List.toArray (c_T_api_Bundle (z_T_api_Bundle) none 0 none 0)), .int .i64 (r501)]) hE (by rw [show Try.f12.results.toList = [.cell 2 29, .tmp 3] from rfl]; exact ⟨_, _, _, 0, _, _, rfl, rfl, hS.heapAt (j := 0) rfl, by kernel_rfl, ⟨_, _, rfl, rfl, rfl⟩⟩) ?_
          have hS := hS.pk .n rfl
          exact ⟨_, rfl, D503, none, 0, none, 0, rfl, hS, (Sl.nil kd_T_api_Sig D503), (Sl.nil kd_T_api_Item D503)⟩
        · replace hf := cond_f hb hf
          clear hb
          refine wpIn_skip ?_
          refine wpIn_seq ?_
          refine wpIn_seq ?_
          refine region_at ?_
          refine at_op (op_tk hE (tk_load 3 (.agg (List.toArray (c_T_api_Bundle ((T_api_Bundle.mk (v384.fWhole) ({ v384.fPoint with fSigs := r417.1 }) (y485.1))) A421 c422 A488 c489))) rfl rfl rfl rfl hE rfl hS rfl rfl (by kernel_rfl) (kL (j := 3) hS rfl List.not_mem_nil) (fun a hE => ?_))) rfl
          have hS := hS.pk (.c 4 rfl (.c 0 rfl (.c 1 rfl (.c 2 rfl (.c 3 rfl (.c 5 rfl .n)))))) rfl
          obtain ⟨D521, q524, le522, hS, h525, h523⟩ := hS.lent (h424.mono (Snap.le.trans le487 le505))
          have hS := hS.pk (.c 5 rfl (.c 0 rfl (.c 1 rfl (.c 2 rfl (.c 3 rfl (.c 4 rfl .n)))))) rfl
          obtain ⟨D526, q529, le527, hS, h530, h528⟩ := hS.lent (h491.mono (Snap.le.trans le505 le522))
          obtain ⟨r531, h532, hf⟩ := bind_some hf
          refine at_op (op_call rfl rfl rfl rfl hE rfl rfl rfl rfl (by kernel_rfl) (bundle_Right.calls (g := g) h532 (hS.st.fore (L := [])) (h523.mono le527) h528) (fun a v w hR hE => ?_)) rfl
          obtain ⟨D533, rfl, hS1⟩ := hR
          have le535 := hS1.dle
          have hS := hS.callR hS1 rfl .n
          clear hS1
          refine segN 1 (j := 3) [(71, .bool ((!r531)))] hE (by kernel_rfl) rfl (fun a hE => ?_)
          refine at_end rfl ?_
          refine cond_split hE (b := (!r531)) rfl (fun hb => ?_) (fun hb => ?_)
          · replace hf := cond_t hb hf
            clear hb
            refine wpIn_seq ?_
            refine region_at ?_
            refine at_op (op_tk hE (tk_build (c_T_api_Bundle (z_T_api_Bundle) none 0 none 0) rfl rfl rfl rfl hE rfl rfl (by kernel_rfl) (fun a hE => ?_))) rfl
            have hS := hS.pk (.c 3 rfl (.c 0 rfl (.c 1 rfl (.c 2 rfl (.c 4 rfl (.c 5 rfl .n)))))) rfl
            refine at_op (op_store (v := .agg (List.toArray (c_T_api_Bundle (z_T_api_Bundle) none 0 none 0))) (c_T_api_Bundle (z_T_api_Bundle) none 0 none 0) rfl rfl rfl rfl hE hS rfl rfl (by kernel_rfl) (by kernel_rfl) (by kernel_rfl) (by kernel_rfl) (by kernel_rfl) (fun a w _ hE hS => ?_)) rfl
            refine segN 1 (j := 3) [(3, .int .i64 ((2 : Int)))] hE (by kernel_rfl) rfl (fun a hE => ?_)
            refine at_end rfl ?_
            refine wpIn_ret ?_
            obtain rfl := Option.some.inj hf
            repeat (with_reducible first | refine then_ret ?_ | refine block_ret ?_ | refine qx_ret ?_)
            refine ret_gen ([.agg (List.toArray (c_T_api_Bundle (z_T_api_Bundle) none 0 none 0)), .int .i64 ((2 : Int))]) hE (by rw [show Try.f12.results.toList = [.cell 2 29, .tmp 3] from rfl]; exact ⟨_, _, _, 0, _, _, rfl, rfl, hS.heapAt (j := 0) rfl, by kernel_rfl, ⟨_, _, rfl, rfl, rfl⟩⟩) ?_
            have hS := hS.pk .n rfl
            exact ⟨_, rfl, D533, none, 0, none, 0, rfl, hS, (Sl.nil kd_T_api_Sig D533), (Sl.nil kd_T_api_Item D533)⟩
          · replace hf := cond_f hb hf
            clear hb
            refine wpIn_skip ?_
            refine wpIn_seq ?_
            refine region_at ?_
            refine at_op (op_tk hE (tk_load 5 (.agg (List.toArray (c_T_api_Bundle ((T_api_Bundle.mk (v384.fWhole) ({ v384.fPoint with fSigs := r417.1 }) (y485.1))) A421 c422 A488 c489))) rfl rfl rfl rfl hE rfl hS rfl rfl (by kernel_rfl) (kL (j := 5) hS rfl List.not_mem_nil) (fun a hE => ?_))) rfl
            have hS := hS.pk (.c 3 rfl (.c 0 rfl (.c 1 rfl (.c 2 rfl (.c 4 rfl (.c 5 rfl .n)))))) rfl
            refine at_op (op_store (v := .agg (List.toArray (c_T_api_Bundle ((T_api_Bundle.mk (v384.fWhole) ({ v384.fPoint with fSigs := r417.1 }) (y485.1))) A421 c422 A488 c489))) (c_T_api_Bundle ((T_api_Bundle.mk (v384.fWhole) ({ v384.fPoint with fSigs := r417.1 }) (y485.1))) A421 c422 A488 c489) rfl rfl rfl rfl hE hS rfl rfl (by kernel_rfl) (by kernel_rfl) (by kernel_rfl) (by kernel_rfl) (by kernel_rfl) (fun a w _ hE hS => ?_)) rfl
            refine segN 1 (j := 3) [(3, .int .i64 ((0 : Int)))] hE (by kernel_rfl) rfl (fun a hE => ?_)
            refine at_end rfl ?_
            refine wpIn_ret ?_
            obtain rfl := Option.some.inj hf
            repeat (with_reducible first | refine then_ret ?_ | refine block_ret ?_ | refine qx_ret ?_)
            refine ret_gen ([.agg (List.toArray (c_T_api_Bundle ((T_api_Bundle.mk (v384.fWhole) ({ v384.fPoint with fSigs := r417.1 }) (y485.1))) A421 c422 A488 c489)), .int .i64 ((0 : Int))]) hE (by rw [show Try.f12.results.toList = [.cell 2 29, .tmp 3] from rfl]; exact ⟨_, _, _, 0, _, _, rfl, rfl, hS.heapAt (j := 0) rfl, by kernel_rfl, ⟨_, _, rfl, rfl, rfl⟩⟩) ?_
            have hS := hS.pk .n rfl
            exact ⟨_, rfl, D533, A421, c422, A488, c489, rfl, hS, (h523.mono (Snap.le.trans le527 le535)), (h528.mono le535)⟩

set_option maxRecDepth 100000 in
set_option maxHeartbeats 4000000 in
theorem slices_Equal_api_Sig_api_Sig.calls {K : Nat} {g w0 : World} {D0 : Snap} {x1 : (List T_api_Sig)} {x5 : (List T_api_Sig)} {A2 : Option Addr} {c3 : Nat} {A6 : Option Addr} {c7 : Nat} {r : (Bool)} (hf : slices_Equal_api_Sig_api_Sig.f K x1 x5 = some r) (hS0 : St g w0 D0 []) (h4 : Sl kd_T_api_Sig D0 A2 c3 (x1)) (h8 : Sl kd_T_api_Sig D0 A6 c7 (x5)) :
    CallsIn (Fw none) 0 Try.prog 43 (List.toArray [.slice A2 (List.length (x1)) c3, .slice A6 (List.length (x5)) c7]) w0 (fun e w' => ∃ v, e = .returned v ∧ ∃ (D1 : Snap), v = .bool (r) ∧ Stp g w0 D0 [] w' D1 []) := by
  unfold slices_Equal_api_Sig_api_Sig.f at hf
  have hS := Stp.refl hS0
  clear hS0
  refine calls_body (n := 26) Try.func43 rfl Try.ntmps43 rfl (fun a hE => ?_)
  have hE : Env a 26 [] [(0, .slice A2 (List.length (x1)) c3), (1, .slice A6 (List.length (x5)) c7)] := hE
  refine wpIn_seq ?_
  refine region_at ?_
  refine segN 1 (j := 1) [(4, .bool false)] hE (by kernel_rfl) rfl (fun a hE => ?_)
  refine at_end rfl ?_
  refine wpIn_seq ?_
  refine wpIn_seq ?_
  refine region_at ?_
  refine segN 5 (j := 5) [(10, .bool ((!decide (((List.length (x1) : Nat) : Int) = ((List.length (x5) : Nat) : Int)))))] hE (by kernel_rfl) rfl (fun a hE => ?_)
  refine at_end rfl ?_
  refine cond_split hE (b := (!decide (((List.length (x1) : Nat) : Int) = ((List.length (x5) : Nat) : Int)))) rfl (fun hb => ?_) (fun hb => ?_)
  · replace hf := cond_t hb hf
    clear hb
    refine wpIn_seq ?_
    refine region_at ?_
    refine segN 1 (j := 1) [(4, .bool false)] hE (by kernel_rfl) rfl (fun a hE => ?_)
    refine at_end rfl ?_
    refine wpIn_ret ?_
    obtain rfl := Option.some.inj hf
    repeat (with_reducible first | refine then_ret ?_ | refine block_ret ?_ | refine qx_ret ?_)
    refine ret_gen ([.bool false]) hE (by rw [show Try.f43.results.toList = [.tmp 4] from rfl]; exact ⟨_, _, rfl, rfl, rfl⟩) ?_
    exact ⟨_, rfl, D0, rfl, hS⟩
  · replace hf := cond_f hb hf
    clear hb
    refine wpIn_skip ?_
    refine wpIn_seq ?_
    refine wpIn_seq ?_
    refine region_at ?_
    refine segN 3 (j := 3) [(12, .int .i64 (((List.length (x1) : Nat) : Int))), (13, .int .i64 ((0 : Int)))] hE (by kernel_rfl) rfl (fun a hE => ?_)
    refine at_end rfl ?_
    obtain ⟨s1152, hf, hs1153⟩ := bind_some hf
    refine block_loop (fun a w => ∃ (z1149 : Unit), ∃ (D1150 : Snap), Env a 26 [] [] ∧ Stp g w0 D0 [] w D1150 [] ∧ Snap.le D0 D1150 ∧ (Sum.inr z1149) = s1152) (fun k a w => ∃ (y1047 : Int), ∃ (D1048 : Snap), Env a 26 [] [(0, .slice A2 (List.length (x1)) c3), (1, .slice A6 (List.length (x5)) c7), (12, .int .i64 (((List.length (x1) : Nat) : Int))), (13, .int .i64 (y1047))] ∧ Stp g w0 D0 [] w D1048 [] ∧ Snap.le D0 D1048 ∧ slices_Equal_api_Sig_api_Sig_l1.l K x1 x5 k y1047 = some s1152) K ?_ ?_ ?_
    · exact ⟨(0 : Int), D0, hE.weak (by kernel_rfl), hS, Snap.le.refl _, hf⟩
    · clear hE hS hf
      rintro a w ⟨z1149, D1150, hE, hS, le1151, rfl⟩
      have hf := hs1153
      clear hs1153
      refine wpIn_seq ?_
      refine region_at ?_
      refine segN 1 (j := 1) [(4, .bool true)] hE (by kernel_rfl) rfl (fun a hE => ?_)
      refine at_end rfl ?_
      refine wpIn_ret ?_
      obtain rfl := Option.some.inj hf
      repeat (with_reducible first | refine then_ret ?_ | refine block_ret ?_ | refine qx_ret ?_)
      refine ret_gen ([.bool true]) hE (by rw [show Try.f43.results.toList = [.tmp 4] from rfl]; exact ⟨_, _, rfl, rfl, rfl⟩) ?_
      exact ⟨_, rfl, D1150, rfl, hS⟩
    · clear hE hS hf
      rintro k a w ⟨y1047, D1048, hE, hS, le1049, hf⟩
      obtain ⟨k, rfl, hf⟩ := slices_Equal_api_Sig_api_Sig_l1.some _ _ hf
      refine ⟨k, rfl, ?_⟩
      unfold slices_Equal_api_Sig_api_Sig_l1.b at hf
      refine wpIn_seq ?_
      refine region_at ?_
      refine segN 1 (j := 1) [(14, .bool ((decide (y1047 < ((List.length (x1) : Nat) : Int)))))] hE (by kernel_rfl) rfl (fun a hE => ?_)
      refine at_end rfl ?_
      refine wpIn_seq ?_
      refine cond_split hE (b := (decide (y1047 < ((List.length (x1) : Nat) : Int)))) rfl (fun hb => ?_) (fun hb => ?_)
      · replace hf := cond_t hb hf
        clear hb
        refine wpIn_skip ?_
        refine wpIn_seq ?_
        refine wpIn_block ?_
        refine wpIn_seq ?_
        refine region_at ?_
        refine segN 2 (j := 2) [(5, .int .i64 (y1047))] hE (by kernel_rfl) rfl (fun a hE => ?_)
        refine at_end rfl ?_
        refine wpIn_seq ?_
        refine region_draw (fun j => Keeps (mfOf [] j)) (by kernel_rfl) ?_
        have hS := hS.drew
        first | generalize w.drew = w at hS ⊢ | generalize w0.drew = w at hS ⊢
        refine tW 0 1 (fuel := 8) (by kernel_rfl) hE (fun M => tk_pure (.slice A2 (List.length (x1)) c3) hE rfl rfl rfl rfl (fun _ _ _ e => by cases e) (by kernel_rfl) (fun a hE => ?_))
        refine tW 1 3 (fuel := 7) (by kernel_rfl) hE (fun M => tk_pure (.int .i64 (y1047)) hE rfl rfl rfl rfl (fun _ _ _ e => by cases e) (by kernel_rfl) (fun a hE => ?_))
        refine tW 4 19 (fuel := 6) (by kernel_rfl) hE (fun M => tk_pure (.slice A6 (List.length (x5)) c7) hE rfl rfl rfl rfl (fun _ _ _ e => by cases e) (by kernel_rfl) (fun a hE => ?_))
        refine tW 5 51 (fuel := 5) (by kernel_rfl) hE (fun M => tk_pure (.int .i64 (y1047)) hE rfl rfl rfl rfl (fun _ _ _ e => by cases e) (by kernel_rfl) (fun a hE => ?_))
        obtain ⟨x1226, h1227, hf⟩ := bind_some hf
        refine tW 2 55 (fuel := 4) (by kernel_rfl) hE (fun M => g_index (K := kd_T_api_Sig) (e := 43) (by_ := 40) (zl := 33) rfl rfl rfl rfl hE rfl rfl rfl (by kernel_rfl) rfl (h4.mono le1049) h1227 (fun a b1228 o1229 hE h1230 => ?_))
        obtain ⟨cs1231, C1232, T1233, fr1234, hr1235, hb1236, hc1237⟩ := h1230
        obtain ⟨rfl⟩ := kd_T_api_Sig_el hr1235
        refine tT 3 63 (fuel := 3) (by kernel_rfl) hE (tk_loadX (off0 := o1229) (off := 0) (c := c_T_api_Sig (x1226)) (.agg (List.toArray (c_T_api_Sig (x1226)))) rfl rfl rfl rfl hE rfl hS rfl hb1236 hc1237 (by kernel_rfl) (by kernel_rfl) (kD hS dn_nil) (fun a hE => ?_))
        obtain ⟨x1238, h1239, hf⟩ := bind_some hf
        refine tW 6 127 (fuel := 2) (by kernel_rfl) hE (fun M => g_index (K := kd_T_api_Sig) (e := 43) (by_ := 40) (zl := 33) rfl rfl rfl rfl hE rfl rfl rfl (by kernel_rfl) rfl (h8.mono le1049) h1239 (fun a b1240 o1241 hE h1242 => ?_))
        obtain ⟨cs1243, C1244, T1245, fr1246, hr1247, hb1248, hc1249⟩ := h1242
        obtain ⟨rfl⟩ := kd_T_api_Sig_el hr1247
        refine tT 7 255 (fuel := 1) (by kernel_rfl) hE (tk_loadX (off0 := o1241) (off := 0) (c := c_T_api_Sig (x1238)) (.agg (List.toArray (c_T_api_Sig (x1238)))) rfl rfl rfl rfl hE rfl hS rfl hb1248 hc1249 (by kernel_rfl) (by kernel_rfl) (kD hS dn_nil) (fun a hE => ?_))
        refine tW 8 511 (fuel := 0) (by kernel_rfl) hE (fun M => tk_bin (r := .bool ((!((decide (x1226.fWit = x1238.fWit)) && ((decide (x1226.fTag = x1238.fTag)) && true))))) rfl rfl rfl rfl hE rfl rfl rfl (neagg_run (by kernel_rfl) (EqR_struct (fs := structFs Try.prog 43) (by kernel_rfl) ⟨.int .i64 (x1226.fWit), .int .i64 (x1238.fWit), (decide (x1226.fWit = x1238.fWit)), _, by kernel_rfl, by kernel_rfl, by kernel_rfl, (EqR_int (by kernel_rfl)), ⟨.agg (List.toArray (acells .u8 32 (x1226.fTag))), .agg (List.toArray (acells .u8 32 (x1238.fTag))), (decide (x1226.fTag = x1238.fTag)), _, by kernel_rfl, by kernel_rfl, by kernel_rfl, (EqR_arr (k := .u8) (N := 32) (by kernel_rfl)), rfl, rfl⟩, rfl⟩)) (fun a hE => ?_))
        refine doneG (by kernel_rfl) ?_
        refine cond_split hE (b := (!((decide (x1226.fWit = x1238.fWit)) && ((decide (x1226.fTag = x1238.fTag)) && true)))) rfl (fun hb => ?_) (fun hb => ?_)
        · replace hf := cond_t hb hf
          clear hb
          refine wpIn_seq ?_
          refine region_at ?_
          refine segN 1 (j := 1) [(4, .bool false)] hE (by kernel_rfl) rfl (fun a hE => ?_)
          refine at_end rfl ?_
          refine wpIn_ret ?_
          obtain rfl := Option.some.inj hf
          replace hf := hs1153
          obtain rfl := Option.some.inj hf
          repeat (with_reducible first | refine then_ret ?_ | refine block_ret ?_ | refine qx_ret ?_)
          refine ret_gen ([.bool false]) hE (by rw [show Try.f43.results.toList = [.tmp 4] from rfl]; exact ⟨_, _, rfl, rfl, rfl⟩) ?_
          exact ⟨_, rfl, D1048, rfl, hS⟩
        · replace hf := cond_f hb hf
          clear hb
          refine wpIn_skip ?_
          refine region_at ?_
          refine segN 2 (j := 2) [(13, .int .i64 ((IntKind.wrap .i64 (y1047 + (1 : Int)))))] hE (by kernel_rfl) rfl (fun a hE => ?_)
          refine at_end rfl ?_
          exact ⟨(IntKind.wrap .i64 (y1047 + (1 : Int))), D1048, hE.weak (by kernel_rfl), hS, le1049, hf⟩
      · replace hf := cond_f hb hf
        clear hb
        refine wpIn_exit ?_
        obtain rfl := Option.some.inj hf
        exact ⟨(), D1048, hE.weak (by kernel_rfl), hS, le1049, rfl⟩

set_option maxRecDepth 100000 in
set_option maxHeartbeats 4000000 in
theorem slices_Equal_api_Hash_api_Hash.calls {K : Nat} {g w0 : World} {D0 : Snap} {x1 : (List (Vector Int 32))} {x5 : (List (Vector Int 32))} {A2 : Option Addr} {c3 : Nat} {A6 : Option Addr} {c7 : Nat} {r : (Bool)} (hf : slices_Equal_api_Hash_api_Hash.f K x1 x5 = some r) (hS0 : St g w0 D0 []) (h4 : Sl (kdArr .u8 32) D0 A2 c3 (x1)) (h8 : Sl (kdArr .u8 32) D0 A6 c7 (x5)) :
    CallsIn (Fw none) 0 Try.prog 47 (List.toArray [.slice A2 (List.length (x1)) c3, .slice A6 (List.length (x5)) c7]) w0 (fun e w' => ∃ v, e = .returned v ∧ ∃ (D1 : Snap), v = .bool (r) ∧ Stp g w0 D0 [] w' D1 []) := by
  unfold slices_Equal_api_Hash_api_Hash.f at hf
  have hS := Stp.refl hS0
  clear hS0
  refine calls_body (n := 26) Try.func47 rfl Try.ntmps47 rfl (fun a hE => ?_)
  have hE : Env a 26 [] [(0, .slice A2 (List.length (x1)) c3), (1, .slice A6 (List.length (x5)) c7)] := hE
  refine wpIn_seq ?_
  refine region_at ?_
  refine segN 1 (j := 1) [(4, .bool false)] hE (by kernel_rfl) rfl (fun a hE => ?_)
  refine at_end rfl ?_
  refine wpIn_seq ?_
  refine wpIn_seq ?_
  refine region_at ?_
  refine segN 5 (j := 5) [(10, .bool ((!decide (((List.length (x1) : Nat) : Int) = ((List.length (x5) : Nat) : Int)))))] hE (by kernel_rfl) rfl (fun a hE => ?_)
  refine at_end rfl ?_
  refine cond_split hE (b := (!decide (((List.length (x1) : Nat) : Int) = ((List.length (x5) : Nat) : Int)))) rfl (fun hb => ?_) (fun hb => ?_)
  · replace hf := cond_t hb hf
    clear hb
    refine wpIn_seq ?_
    refine region_at ?_
    refine segN 1 (j := 1) [(4, .bool false)] hE (by kernel_rfl) rfl (fun a hE => ?_)
    refine at_end rfl ?_
    refine wpIn_ret ?_
    obtain rfl := Option.some.inj hf
    repeat (with_reducible first | refine then_ret ?_ | refine block_ret ?_ | refine qx_ret ?_)
    refine ret_gen ([.bool false]) hE (by rw [show Try.f47.results.toList = [.tmp 4] from rfl]; exact ⟨_, _, rfl, rfl, rfl⟩) ?_
    exact ⟨_, rfl, D0, rfl, hS⟩
  · replace hf := cond_f hb hf
    clear hb
    refine wpIn_skip ?_
    refine wpIn_seq ?_
    refine wpIn_seq ?_
    refine region_at ?_
    refine segN 3 (j := 3) [(12, .int .i64 (((List.length (x1) : Nat) : Int))), (13, .int .i64 ((0 : Int)))] hE (by kernel_rfl) rfl (fun a hE => ?_)
    refine at_end rfl ?_
    obtain ⟨s1152, hf, hs1153⟩ := bind_some hf
    refine block_loop (fun a w => ∃ (z1149 : Unit), ∃ (D1150 : Snap), Env a 26 [] [] ∧ Stp g w0 D0 [] w D1150 [] ∧ Snap.le D0 D1150 ∧ (Sum.inr z1149) = s1152) (fun k a w => ∃ (y1047 : Int), ∃ (D1048 : Snap), Env a 26 [] [(0, .slice A2 (List.length (x1)) c3), (1, .slice A6 (List.length (x5)) c7), (12, .int .i64 (((List.length (x1) : Nat) : Int))), (13, .int .i64 (y1047))] ∧ Stp g w0 D0 [] w D1048 [] ∧ Snap.le D0 D1048 ∧ slices_Equal_api_Hash_api_Hash_l1.l K x1 x5 k y1047 = some s1152) K ?_ ?_ ?_
    · exact ⟨(0 : Int), D0, hE.weak (by kernel_rfl), hS, Snap.le.refl _, hf⟩
    · clear hE hS hf
      rintro a w ⟨z1149, D1150, hE, hS, le1151, rfl⟩
      have hf := hs1153
      clear hs1153
      refine wpIn_seq ?_
      refine region_at ?_
      refine segN 1 (j := 1) [(4, .bool true)] hE (by kernel_rfl) rfl (fun a hE => ?_)
      refine at_end rfl ?_
      refine wpIn_ret ?_
      obtain rfl := Option.some.inj hf
      repeat (with_reducible first | refine then_ret ?_ | refine block_ret ?_ | refine qx_ret ?_)
      refine ret_gen ([.bool true]) hE (by rw [show Try.f47.results.toList = [.tmp 4] from rfl]; exact ⟨_, _, rfl, rfl, rfl⟩) ?_
      exact ⟨_, rfl, D1150, rfl, hS⟩
    · clear hE hS hf
      rintro k a w ⟨y1047, D1048, hE, hS, le1049, hf⟩
      obtain ⟨k, rfl, hf⟩ := slices_Equal_api_Hash_api_Hash_l1.some _ _ hf
      refine ⟨k, rfl, ?_⟩
      unfold slices_Equal_api_Hash_api_Hash_l1.b at hf
      refine wpIn_seq ?_
      refine region_at ?_
      refine segN 1 (j := 1) [(14, .bool ((decide (y1047 < ((List.length (x1) : Nat) : Int)))))] hE (by kernel_rfl) rfl (fun a hE => ?_)
      refine at_end rfl ?_
      refine wpIn_seq ?_
      refine cond_split hE (b := (decide (y1047 < ((List.length (x1) : Nat) : Int)))) rfl (fun hb => ?_) (fun hb => ?_)
      · replace hf := cond_t hb hf
        clear hb
        refine wpIn_skip ?_
        refine wpIn_seq ?_
        refine wpIn_block ?_
        refine wpIn_seq ?_
        refine region_at ?_
        refine segN 2 (j := 2) [(5, .int .i64 (y1047))] hE (by kernel_rfl) rfl (fun a hE => ?_)
        refine at_end rfl ?_
        refine wpIn_seq ?_
        refine region_draw (fun j => Keeps (mfOf [] j)) (by kernel_rfl) ?_
        have hS := hS.drew
        first | generalize w.drew = w at hS ⊢ | generalize w0.drew = w at hS ⊢
        refine tW 0 1 (fuel := 8) (by kernel_rfl) hE (fun M => tk_pure (.slice A2 (List.length (x1)) c3) hE rfl rfl rfl rfl (fun _ _ _ e => by cases e) (by kernel_rfl) (fun a hE => ?_))
        refine tW 1 3 (fuel := 7) (by kernel_rfl) hE (fun M => tk_pure (.int .i64 (y1047)) hE rfl rfl rfl rfl (fun _ _ _ e => by cases e) (by kernel_rfl) (fun a hE => ?_))
        refine tW 4 19 (fuel := 6) (by kernel_rfl) hE (fun M => tk_pure (.slice A6 (List.length (x5)) c7) hE rfl rfl rfl rfl (fun _ _ _ e => by cases e) (by kernel_rfl) (fun a hE => ?_))
        refine tW 5 51 (fuel := 5) (by kernel_rfl) hE (fun M => tk_pure (.int .i64 (y1047)) hE rfl rfl rfl rfl (fun _ _ _ e => by cases e) (by kernel_rfl) (fun a hE => ?_))
        obtain ⟨x1226, h1227, hf⟩ := bind_some hf
        refine tW 2 55 (fuel := 4) (by kernel_rfl) hE (fun M => g_index (K := (kdArr .u8 32)) (e := 23) (by_ := 32) (zl := 32) rfl rfl rfl rfl hE rfl rfl rfl (by kernel_rfl) rfl (h4.mono le1049) h1227 (fun a b1228 o1229 hE h1230 => ?_))
        obtain ⟨cs1231, C1232, T1233, fr1234, hr1235, hb1236, hc1237⟩ := h1230
        obtain rfl := hr1235
        refine tT 3 63 (fuel := 3) (by kernel_rfl) hE (tk_loadX (off0 := o1229) (off := 0) (c := acells .u8 32 (x1226)) (.agg (List.toArray (acells .u8 32 (x1226)))) rfl rfl rfl rfl hE rfl hS rfl hb1236 hc1237 (by kernel_rfl) (by kernel_rfl) (kD hS dn_nil) (fun a hE => ?_))
        obtain ⟨x1238, h1239, hf⟩ := bind_some hf
        refine tW 6 127 (fuel := 2) (by kernel_rfl) hE (fun M => g_index (K := (kdArr .u8 32)) (e := 23) (by_ := 32) (zl := 32) rfl rfl rfl rfl hE rfl rfl rfl (by kernel_rfl) rfl (h8.mono le1049) h1239 (fun a b1240 o1241 hE h1242 => ?_))
        obtain ⟨cs1243, C1244, T1245, fr1246, hr1247, hb1248, hc1249⟩ := h1242
        obtain rfl := hr1247
        refine tT 7 255 (fuel := 1) (by kernel_rfl) hE (tk_loadX (off0 := o1241) (off := 0) (c := acells .u8 32 (x1238)) (.agg (List.toArray (acells .u8 32 (x1238)))) rfl rfl rfl rfl hE rfl hS rfl hb1248 hc1249 (by kernel_rfl) (by kernel_rfl) (kD hS dn_nil) (fun a hE => ?_))
        refine tW 8 511 (fuel := 0) (by kernel_rfl) hE (fun M => tk_bin (r := .bool ((!(decide (x1226 = x1238))))) rfl rfl rfl rfl hE rfl rfl rfl (neagg_run (by kernel_rfl) (EqR_arr (k := .u8) (N := 32) (by kernel_rfl))) (fun a hE => ?_))
        refine doneG (by kernel_rfl) ?_
        refine cond_split hE (b := (!(decide (x1226 = x1238)))) rfl (fun hb => ?_) (fun hb => ?_)
        · replace hf := cond_t hb hf
          clear hb
          refine wpIn_seq ?_
          refine region_at ?_
          refine segN 1 (j := 1) [(4, .bool false)] hE (by kernel_rfl) rfl (fun a hE => ?_)
          refine at_end rfl ?_
          refine wpIn_ret ?_
          obtain rfl := Option.some.inj hf
          replace hf := hs1153
          obtain rfl := Option.some.inj hf
          repeat (with_reducible first | refine then_ret ?_ | refine block_ret ?_ | refine qx_ret ?_)
          refine ret_gen ([.bool false]) hE (by rw [show Try.f47.results.toList = [.tmp 4] from rfl]; exact ⟨_, _, rfl, rfl, rfl⟩) ?_
          exact ⟨_, rfl, D1048, rfl, hS⟩
        · replace hf := cond_f hb hf
          clear hb
          refine wpIn_skip ?_
          refine region_at ?_
          refine segN 2 (j := 2) [(13, .int .i64 ((IntKind.wrap .i64 (y1047 + (1 : Int)))))] hE (by kernel_rfl) rfl (fun a hE => ?_)
          refine at_end rfl ?_
          exact ⟨(IntKind.wrap .i64 (y1047 + (1 : Int))), D1048, hE.weak (by kernel_rfl), hS, le1049, hf⟩
      · replace hf := cond_f hb hf
        clear hb
        refine wpIn_exit ?_
        obtain rfl := Option.some.inj hf
        exact ⟨(), D1048, hE.weak (by kernel_rfl), hS, le1049, rfl⟩

set_option maxRecDepth 100000 in
set_option maxHeartbeats 4000000 in
theorem bundle_Same_1.calls {K : Nat} {g w0 : World} {D0 : Snap} {x1 : T_api_Item} {x11 : T_api_Item} {A2 : Option Addr} {c3 : Nat} {A5 : Option Addr} {c6 : Nat} {A8 : Option Addr} {c9 : Nat} {A12 : Option Addr} {c13 : Nat} {A15 : Option Addr} {c16 : Nat} {A18 : Option Addr} {c19 : Nat} {r : (Bool)} (hf : bundle_Same_1.f K x1 x11 = some r) (hS0 : St g w0 D0 []) (h4 : Sl kd_T_api_Step D0 A2 c3 (x1.fRec.fSteps)) (h7 : Sl (kdInt .u8) D0 A5 c6 (x1.fRec.fData)) (h10 : Sl (kdArr .u8 32) D0 A8 c9 (x1.fPath)) (h14 : Sl kd_T_api_Step D0 A12 c13 (x11.fRec.fSteps)) (h17 : Sl (kdInt .u8) D0 A15 c16 (x11.fRec.fData)) (h20 : Sl (kdArr .u8 32) D0 A18 c19 (x11.fPath)) :
    CallsIn (Fw none) 0 Try.prog 45 (List.toArray [.agg (List.toArray (c_T_api_Item (x1) A2 c3 A5 c6 A8 c9)), .agg (List.toArray (c_T_api_Item (x11) A12 c13 A15 c16 A18 c19))]) w0 (fun e w' => ∃ v, e = .returned v ∧ ∃ (D1 : Snap), v = .bool (r) ∧ Stp g w0 D0 [] w' D1 []) := by
  unfold bundle_Same_1.f at hf
  have hS := Stp.refl hS0
  clear hS0
  refine calls_body (n := 24) Try.func45 rfl Try.ntmps45 rfl (fun a hE => ?_)
  have hE : Env a 24 [] [(0, .agg (List.toArray (c_T_api_Item (x1) A2 c3 A5 c6 A8 c9))), (1, .agg (List.toArray (c_T_api_Item (x11) A12 c13 A15 c16 A18 c19)))] := hE
  refine wpIn_seq ?_
  refine region_at ?_
  refine at_op (op_box rfl rfl rfl rfl hE rfl hS rfl (fun a b45 w _ hE hS => ?_)) rfl
  refine at_op (op_box rfl rfl rfl rfl hE rfl hS rfl (fun a b47 w _ hE hS => ?_)) rfl
  refine segN 1 (j := 3) [(4, .bool false)] hE (by kernel_rfl) rfl (fun a hE => ?_)
  refine at_end rfl ?_
  refine wpIn_seq ?_
  refine region_at ?_
  refine at_op (op_tk hE (g_fieldAddr (fo := 0) (ft := 3) 0 rfl rfl rfl rfl hE rfl rfl (by kernel_rfl) rfl (fun a hE => ?_))) rfl
  refine at_op (op_tk hE (tk_load 1 (.int .i64 (x1.fAt)) rfl rfl rfl rfl hE rfl hS rfl rfl (by kernel_rfl) (kL (j := 1) hS rfl List.not_mem_nil) (fun a hE => ?_))) rfl
  refine at_op (op_tk hE (g_fieldAddr (fo := 0) (ft := 3) 0 rfl rfl rfl rfl hE rfl rfl (by kernel_rfl) rfl (fun a hE => ?_))) rfl
  refine at_op (op_tk hE (tk_load 0 (.int .i64 (x11.fAt)) rfl rfl rfl rfl hE rfl hS rfl rfl (by kernel_rfl) (kL (j := 0) hS rfl List.not_mem_nil) (fun a hE => ?_))) rfl
  refine segN 2 (j := 6) [(10, .bool ((decide (x1.fAt = x11.fAt))))] hE (by kernel_rfl) rfl (fun a hE => ?_)
  cases hb : (decide (x1.fAt = x11.fAt))
  · replace hf := cond_f hb hf
    have hE := hE.know (t := 10) (b := (decide (x1.fAt = x11.fAt))) (b' := false) rfl hb
    clear hb
    refine segN 14 (j := 20) [(4, .bool false)] hE (by kernel_rfl) rfl (fun a hE => ?_)
    refine at_end rfl ?_
    refine wpIn_ret ?_
    obtain rfl := Option.some.inj hf
    repeat (with_reducible first | refine then_ret ?_ | refine block_ret ?_ | refine qx_ret ?_)
    refine ret_gen ([.bool false]) hE (by rw [show Try.f45.results.toList = [.tmp 4] from rfl]; exact ⟨_, _, rfl, rfl, rfl⟩) ?_
    have hS := hS.pk .n rfl
    exact ⟨_, rfl, D0, rfl, hS⟩
  · replace hf := cond_t hb hf
    have hE := hE.know (t := 10) (b := (decide (x1.fAt = x11.fAt))) (b' := true) rfl hb
    clear hb
    refine at_op (op_tk hE (g_fieldAddr (fo := 1) (ft := 47) 1 rfl rfl rfl rfl hE rfl rfl (by kernel_rfl) rfl (fun a hE => ?_))) rfl
    refine at_op (op_tk hE (tk_load 1 (.agg (List.toArray (c_T_api_Rec (x1.fRec) A2 c3 A5 c6))) rfl rfl rfl rfl hE rfl hS rfl rfl (by kernel_rfl) (kL (j := 1) hS rfl List.not_mem_nil) (fun a hE => ?_))) rfl
    refine at_op (op_tk hE (g_fieldAddr (fo := 1) (ft := 47) 1 rfl rfl rfl rfl hE rfl rfl (by kernel_rfl) rfl (fun a hE => ?_))) rfl
    refine at_op (op_tk hE (tk_load 0 (.agg (List.toArray (c_T_api_Rec (x11.fRec) A12 c13 A15 c16))) rfl rfl rfl rfl hE rfl hS rfl rfl (by kernel_rfl) (kL (j := 0) hS rfl List.not_mem_nil) (fun a hE => ?_))) rfl
    obtain ⟨r59, h60, hf⟩ := bind_some hf
    refine at_op (op_call rfl rfl rfl rfl hE rfl rfl rfl rfl (by kernel_rfl) (rec_Same.calls (g := g) h60 (hS.st.fore (L := [])) h4 h7 h14 h17) (fun a v w hR hE => ?_)) rfl
    obtain ⟨D61, rfl, hS1⟩ := hR
    have le63 := hS1.dle
    have hS := hS.callR hS1 rfl .n
    clear hS1
    refine segN 2 (j := 13) [(17, .bool (r59))] hE (by kernel_rfl) rfl (fun a hE => ?_)
    cases hb : r59
    · replace hf := cond_f hb hf
      have hE := hE.know (t := 17) (b := r59) (b' := false) rfl hb
      clear hb
      refine segN 7 (j := 20) [(4, .bool false)] hE (by kernel_rfl) rfl (fun a hE => ?_)
      refine at_end rfl ?_
      refine wpIn_ret ?_
      obtain rfl := Option.some.inj hf
      repeat (with_reducible first | refine then_ret ?_ | refine block_ret ?_ | refine qx_ret ?_)
      refine ret_gen ([.bool false]) hE (by rw [show Try.f45.results.toList = [.tmp 4] from rfl]; exact ⟨_, _, rfl, rfl, rfl⟩) ?_
      have hS := hS.pk .n rfl
      exact ⟨_, rfl, D61, rfl, hS⟩
    · replace hf := cond_t hb hf
      have hE := hE.know (t := 17) (b := r59) (b' := true) rfl hb
      clear hb
      refine at_op (op_tk hE (g_fieldAddr (fo := 110) (ft := 48) 110 rfl rfl rfl rfl hE rfl rfl (by kernel_rfl) rfl (fun a hE => ?_))) rfl
      refine at_op (op_tk hE (tk_load 1 (.slice A8 (List.length (x1.fPath)) c9) rfl rfl rfl rfl hE rfl hS rfl rfl (by kernel_rfl) (kL (j := 1) hS rfl List.not_mem_nil) (fun a hE => ?_))) rfl
      refine at_op (op_tk hE (g_fieldAddr (fo := 110) (ft := 48) 110 rfl rfl rfl rfl hE rfl rfl (by kernel_rfl) rfl (fun a hE => ?_))) rfl
      refine at_op (op_tk hE (tk_load 0 (.slice A18 (List.length (x11.fPath)) c19) rfl rfl rfl rfl hE rfl hS rfl rfl (by kernel_rfl) (kL (j := 0) hS rfl List.not_mem_nil) (fun a hE => ?_))) rfl
      obtain ⟨r64, h65, hf⟩ := bind_some hf
      refine at_op (op_call rfl rfl rfl rfl hE rfl rfl rfl rfl (by kernel_rfl) (slices_Equal_api_Hash_api_Hash.calls (g := g) h65 (hS.st.fore (L := [])) (h10.mono le63) (h20.mono le63)) (fun a v w hR hE => ?_)) rfl
      obtain ⟨D66, rfl, hS1⟩ := hR
      have le68 := hS1.dle
      have hS := hS.callR hS1 rfl .n
      clear hS1
      refine segN 2 (j := 20) [(4, .bool (r64))] hE (by kernel_rfl) rfl (fun a hE => ?_)
      refine at_end rfl ?_
      refine wpIn_ret ?_
      obtain rfl := Option.some.inj hf
      repeat (with_reducible first | refine then_ret ?_ | refine block_ret ?_ | refine qx_ret ?_)
      refine ret_gen ([.bool (r64)]) hE (by rw [show Try.f45.results.toList = [.tmp 4] from rfl]; exact ⟨_, _, rfl, rfl, rfl⟩) ?_
      have hS := hS.pk .n rfl
      exact ⟨_, rfl, D66, rfl, hS⟩

set_option maxRecDepth 100000 in
set_option maxHeartbeats 4000000 in
theorem slices_EqualFunc_api_Item_api_Item_api_Item_api_Item.calls {K : Nat} {g w0 : World} {D0 : Snap} {x1 : (List T_api_Item)} {x5 : (List T_api_Item)} {A2 : Option Addr} {c3 : Nat} {A6 : Option Addr} {c7 : Nat} {r : (Bool)} (hf : slices_EqualFunc_api_Item_api_Item_api_Item_api_Item.f K x1 x5 = some r) (hS0 : St g w0 D0 []) (h4 : Sl kd_T_api_Item D0 A2 c3 (x1)) (h8 : Sl kd_T_api_Item D0 A6 c7 (x5)) :
    CallsIn (Fw none) 0 Try.prog 44 (List.toArray [.slice A2 (List.length (x1)) c3, .slice A6 (List.length (x5)) c7, .func (.func 45) #[] #[]]) w0 (fun e w' => ∃ v, e = .returned v ∧ ∃ (D1 : Snap), v = .bool (r) ∧ Stp g w0 D0 [] w' D1 []) := by
  unfold slices_EqualFunc_api_Item_api_Item_api_Item_api_Item.f at hf
  have hS := Stp.refl hS0
  clear hS0
  refine calls_body (n := 32) Try.func44 rfl Try.ntmps44 rfl (fun a hE => ?_)
  have hE : Env a 32 [] [(0, .slice A2 (List.length (x1)) c3), (1, .slice A6 (List.length (x5)) c7), (2, .func (.func 45) #[] #[])] := hE
  refine wpIn_seq ?_
  refine region_at ?_
  refine segN 1 (j := 1) [(6, .bool false)] hE (by kernel_rfl) rfl (fun a hE => ?_)
  refine at_end rfl ?_
  refine wpIn_seq ?_
  refine wpIn_seq ?_
  refine region_at ?_
  refine segN 5 (j := 5) [(14, .bool ((!decide (((List.length (x1) : Nat) : Int) = ((List.length (x5) : Nat) : Int)))))] hE (by kernel_rfl) rfl (fun a hE => ?_)
  refine at_end rfl ?_
  refine cond_split hE (b := (!decide (((List.length (x1) : Nat) : Int) = ((List.length (x5) : Nat) : Int)))) rfl (fun hb => ?_) (fun hb => ?_)
  · replace hf := cond_t hb hf
    clear hb
    refine wpIn_seq ?_
    refine region_at ?_
    refine segN 1 (j := 1) [(6, .bool false)] hE (by kernel_rfl) rfl (fun a hE => ?_)
    refine at_end rfl ?_
    refine wpIn_ret ?_
    obtain rfl := Option.some.inj hf
    repeat (with_reducible first | refine then_ret ?_ | refine block_ret ?_ | refine qx_ret ?_)
    refine ret_gen ([.bool false]) hE (by rw [show Try.f44.results.toList = [.tmp 6] from rfl]; exact ⟨_, _, rfl, rfl, rfl⟩) ?_
    exact ⟨_, rfl, D0, rfl, hS⟩
  · replace hf := cond_f hb hf
    clear hb
    refine wpIn_skip ?_
    refine wpIn_seq ?_
    refine wpIn_seq ?_
    refine region_at ?_
    refine segN 3 (j := 3) [(15, .slice A2 (List.length (x1)) c3), (16, .int .i64 (((List.length (x1) : Nat) : Int))), (17, .int .i64 ((0 : Int)))] hE (by kernel_rfl) rfl (fun a hE => ?_)
    refine at_end rfl ?_
    obtain ⟨s1218, hf, hs1219⟩ := bind_some hf
    refine block_loop (fun a w => ∃ (z1215 : Unit), ∃ (D1216 : Snap), Env a 32 [] [] ∧ Stp g w0 D0 [] w D1216 [] ∧ Snap.le D0 D1216 ∧ (Sum.inr z1215) = s1218) (fun k a w => ∃ (y1107 : Int), ∃ (D1108 : Snap), Env a 32 [] [(1, .slice A6 (List.length (x5)) c7), (2, .func (.func 45) #[] #[]), (15, .slice A2 (List.length (x1)) c3), (16, .int .i64 (((List.length (x1) : Nat) : Int))), (17, .int .i64 (y1107))] ∧ Stp g w0 D0 [] w D1108 [] ∧ Snap.le D0 D1108 ∧ slices_EqualFunc_api_Item_api_Item_api_Item_api_Item_l1.l K x1 x5 k y1107 = some s1218) K ?_ ?_ ?_
    · exact ⟨(0 : Int), D0, hE.weak (by kernel_rfl), hS, Snap.le.refl _, hf⟩
    · clear hE hS hf
      rintro a w ⟨z1215, D1216, hE, hS, le1217, rfl⟩
      have hf := hs1219
      clear hs1219
      refine wpIn_seq ?_
      refine region_at ?_
      refine segN 1 (j := 1) [(6, .bool true)] hE (by kernel_rfl) rfl (fun a hE => ?_)
      refine at_end rfl ?_
      refine wpIn_ret ?_
      obtain rfl := Option.some.inj hf
      repeat (with_reducible first | refine then_ret ?_ | refine block_ret ?_ | refine qx_ret ?_)
      refine ret_gen ([.bool true]) hE (by rw [show Try.f44.results.toList = [.tmp 6] from rfl]; exact ⟨_, _, rfl, rfl, rfl⟩) ?_
      exact ⟨_, rfl, D1216, rfl, hS⟩
    · clear hE hS hf
      rintro k a w ⟨y1107, D1108, hE, hS, le1109, hf⟩
      obtain ⟨k, rfl, hf⟩ := slices_EqualFunc_api_Item_api_Item_api_Item_api_Item_l1.some _ _ hf
      refine ⟨k, rfl, ?_⟩
      unfold slices_EqualFunc_api_Item_api_Item_api_Item_api_Item_l1.b at hf
      refine wpIn_seq ?_
      refine region_at ?_
      refine segN 1 (j := 1) [(18, .bool ((decide (y1107 < ((List.length (x1) : Nat) : Int)))))] hE (by kernel_rfl) rfl (fun a hE => ?_)
      refine at_end rfl ?_
      refine wpIn_seq ?_
      refine cond_split hE (b := (decide (y1107 < ((List.length (x1) : Nat) : Int)))) rfl (fun hb => ?_) (fun hb => ?_)
      · replace hf := cond_t hb hf
        clear hb
        refine wpIn_skip ?_
        refine wpIn_seq ?_
        refine wpIn_block ?_
        refine wpIn_seq ?_
        refine region_at ?_
        refine segN 1 (j := 1) [(19, .int .i64 (y1107))] hE (by kernel_rfl) rfl (fun a hE => ?_)
        obtain ⟨x1271, h1272, hf⟩ := bind_some hf
        refine at_op (op_tk hE (g_index (K := kd_T_api_Item) (e := 50) (by_ := 256) (zl := 111) rfl rfl rfl rfl hE rfl rfl rfl (by kernel_rfl) rfl (h4.mono le1109) h1272 (fun a b1273 o1274 hE h1275 => ?_))) rfl
        obtain ⟨cs1276, C1277, T1278, fr1279, hr1280, hb1281, hc1282⟩ := h1275
        obtain ⟨A1283, c1284, A1286, c1287, A1289, c1290, rfl, h1285, h1288, h1291⟩ := kd_T_api_Item_el hr1280
        refine at_op (op_tk hE (tk_loadX (off0 := o1274) (off := 0) (c := c_T_api_Item (x1271) A1283 c1284 A1286 c1287 A1289 c1290) (.agg (List.toArray (c_T_api_Item (x1271) A1283 c1284 A1286 c1287 A1289 c1290))) rfl rfl rfl rfl hE rfl hS rfl hb1281 hc1282 (by kernel_rfl) (by kernel_rfl) (kD hS dn_nil) (fun a hE => ?_))) rfl
        refine at_op (op_alloc (z := .agg (List.toArray (c_T_api_Item (z_T_api_Item) none 0 none 0 none 0))) rfl rfl rfl rfl hE rfl hS (by kernel_rfl) (fun a b1292 w _ hE hS => ?_)) rfl
        refine segN 1 (j := 5) [(7, .int .i64 (y1107))] hE (by kernel_rfl) rfl (fun a hE => ?_)
        refine at_op (op_store (v := .agg (List.toArray (c_T_api_Item (x1271) A1283 c1284 A1286 c1287 A1289 c1290))) (c_T_api_Item (x1271) A1283 c1284 A1286 c1287 A1289 c1290) rfl rfl rfl rfl hE hS rfl rfl (by kernel_rfl) (by kernel_rfl) (by kernel_rfl) (by kernel_rfl) (by kernel_rfl) (fun a w _ hE hS => ?_)) rfl
        refine at_end rfl ?_
        refine wpIn_seq ?_
        refine region_at ?_
        refine segN 2 (j := 2) [(22, .slice A6 (List.length (x5)) c7), (23, .int .i64 (y1107))] hE (by kernel_rfl) rfl (fun a hE => ?_)
        obtain ⟨x1294, h1295, hf⟩ := bind_some hf
        refine at_op (op_tk hE (g_index (K := kd_T_api_Item) (e := 50) (by_ := 256) (zl := 111) rfl rfl rfl rfl hE rfl rfl rfl (by kernel_rfl) rfl (h8.mono le1109) h1295 (fun a b1296 o1297 hE h1298 => ?_))) rfl
        obtain ⟨cs1299, C1300, T1301, fr1302, hr1303, hb1304, hc1305⟩ := h1298
        obtain ⟨A1306, c1307, A1309, c1310, A1312, c1313, rfl, h1308, h1311, h1314⟩ := kd_T_api_Item_el hr1303
        refine at_op (op_tk hE (tk_loadX (off0 := o1297) (off := 0) (c := c_T_api_Item (x1294) A1306 c1307 A1309 c1310 A1312 c1313) (.agg (List.toArray (c_T_api_Item (x1294) A1306 c1307 A1309 c1310 A1312 c1313))) rfl rfl rfl rfl hE rfl hS rfl hb1304 hc1305 (by kernel_rfl) (by kernel_rfl) (kD hS dn_nil) (fun a hE => ?_))) rfl
        refine at_op (op_alloc (z := .agg (List.toArray (c_T_api_Item (z_T_api_Item) none 0 none 0 none 0))) rfl rfl rfl rfl hE rfl hS (by kernel_rfl) (fun a b1315 w _ hE hS => ?_)) rfl
        refine at_op (op_store (v := .agg (List.toArray (c_T_api_Item (x1294) A1306 c1307 A1309 c1310 A1312 c1313))) (c_T_api_Item (x1294) A1306 c1307 A1309 c1310 A1312 c1313) rfl rfl rfl rfl hE hS rfl rfl (by kernel_rfl) (by kernel_rfl) (by kernel_rfl) (by kernel_rfl) (by kernel_rfl) (fun a w _ hE hS => ?_)) rfl
        refine at_end rfl ?_
        refine wpIn_seq ?_
        refine region_at ?_
        refine segN 1 (j := 1) [(26, .func (.func 45) #[] #[])] hE (by kernel_rfl) rfl (fun a hE => ?_)
        refine at_op (op_tk hE (tk_load 1 (.agg (List.toArray (c_T_api_Item (x1271) A1283 c1284 A1286 c1287 A1289 c1290))) rfl rfl rfl rfl hE rfl hS rfl rfl (by kernel_rfl) (kL (j := 1) hS rfl List.not_mem_nil) (fun a hE => ?_))) rfl
        refine at_op (op_tk hE (tk_load 0 (.agg (List.toArray (c_T_api_Item (x1294) A1306 c1307 A1309 c1310 A1312 c1313))) rfl rfl rfl rfl hE rfl hS rfl rfl (by kernel_rfl) (kL (j := 0) hS rfl List.not_mem_nil) (fun a hE => ?_))) rfl
        obtain ⟨r1317, h1318, hf⟩ := bind_some hf
        refine at_op (op_call rfl rfl rfl rfl hE rfl rfl rfl rfl (by kernel_rfl) (bundle_Same_1.calls (g := g) h1318 (hS.st.fore (L := [])) h1285 h1288 h1291 h1308 h1311 h1314) (fun a v w hR hE => ?_)) rfl
        obtain ⟨D1319, rfl, hS1⟩ := hR
        have le1321 := hS1.dle
        have hS := hS.callR hS1 rfl .n
        clear hS1
        refine segN 1 (j := 5) [(30, .bool ((!r1317)))] hE (by kernel_rfl) rfl (fun a hE => ?_)
        refine at_end rfl ?_
        refine cond_split hE (b := (!r1317)) rfl (fun hb => ?_) (fun hb => ?_)
        · replace hf := cond_t hb hf
          clear hb
          refine wpIn_seq ?_
          refine region_at ?_
          refine segN 1 (j := 1) [(6, .bool false)] hE (by kernel_rfl) rfl (fun a hE => ?_)
          refine at_end rfl ?_
          refine wpIn_ret ?_
          obtain rfl := Option.some.inj hf
          replace hf := hs1219
          obtain rfl := Option.some.inj hf
          repeat (with_reducible first | refine then_ret ?_ | refine block_ret ?_ | refine qx_ret ?_)
          refine ret_gen ([.bool false]) hE (by rw [show Try.f44.results.toList = [.tmp 6] from rfl]; exact ⟨_, _, rfl, rfl, rfl⟩) ?_
          have hS := hS.pk .n rfl
          exact ⟨_, rfl, D1319, rfl, hS⟩
        · replace hf := cond_f hb hf
          clear hb
          refine wpIn_skip ?_
          refine region_at ?_
          refine segN 2 (j := 2) [(17, .int .i64 ((IntKind.wrap .i64 (y1107 + (1 : Int)))))] hE (by kernel_rfl) rfl (fun a hE => ?_)
          refine at_end rfl ?_
          have hS := hS.pk .n rfl
          exact ⟨(IntKind.wrap .i64 (y1107 + (1 : Int))), D1319, hE.weak (by kernel_rfl), hS, (Snap.le.trans le1109 le1321), hf⟩
      · replace hf := cond_f hb hf
        clear hb
        refine wpIn_exit ?_
        obtain rfl := Option.some.inj hf
        exact ⟨(), D1108, hE.weak (by kernel_rfl), hS, le1109, rfl⟩

set_option maxRecDepth 100000 in
set_option maxHeartbeats 4000000 in
theorem bundle_Same.calls {K : Nat} {g w0 : World} {D0 : Snap} {x1 : T_api_Bundle} {x8 : T_api_Bundle} {A2 : Option Addr} {c3 : Nat} {A5 : Option Addr} {c6 : Nat} {A9 : Option Addr} {c10 : Nat} {A12 : Option Addr} {c13 : Nat} {r : (Bool)} (hf : bundle_Same.f K x1 x8 = some r) (hS0 : St g w0 D0 []) (h4 : Sl kd_T_api_Sig D0 A2 c3 (x1.fPoint.fSigs)) (h7 : Sl kd_T_api_Item D0 A5 c6 (x1.fItems)) (h11 : Sl kd_T_api_Sig D0 A9 c10 (x8.fPoint.fSigs)) (h14 : Sl kd_T_api_Item D0 A12 c13 (x8.fItems)) :
    CallsIn (Fw none) 0 Try.prog 13 (List.toArray [.agg (List.toArray (c_T_api_Bundle (x1) A2 c3 A5 c6)), .agg (List.toArray (c_T_api_Bundle (x8) A9 c10 A12 c13))]) w0 (fun e w' => ∃ v, e = .returned v ∧ ∃ (D1 : Snap), v = .bool (r) ∧ Stp g w0 D0 [] w' D1 []) := by
  unfold bundle_Same.f at hf
  have hS := Stp.refl hS0
  clear hS0
  refine calls_body (n := 44) Try.func13 rfl Try.ntmps13 rfl (fun a hE => ?_)
  have hE : Env a 44 [] [(0, .agg (List.toArray (c_T_api_Bundle (x1) A2 c3 A5 c6))), (1, .agg (List.toArray (c_T_api_Bundle (x8) A9 c10 A12 c13)))] := hE
  refine wpIn_seq ?_
  refine region_at ?_
  refine at_op (op_box rfl rfl rfl rfl hE rfl hS rfl (fun a b44 w _ hE hS => ?_)) rfl
  refine at_op (op_box rfl rfl rfl rfl hE rfl hS rfl (fun a b46 w _ hE hS => ?_)) rfl
  refine segN 1 (j := 3) [(4, .bool false)] hE (by kernel_rfl) rfl (fun a hE => ?_)
  refine at_end rfl ?_
  obtain ⟨j61, hj62, hf⟩ := jn_elim hf
  refine seq_join (fun a w => ∃ (y58 : Bool), ∃ (D59 : Snap), Env a 44 [] [(4, .bool (y58))] ∧ Stp g w0 D0 [] w D59 [] ∧ Snap.le D0 D59 ∧ j61 y58 = some r) ?_ ?_
  · clear hj62
    refine region_at ?_
    refine at_op (op_tk hE (g_fieldAddr (fo := 0) (ft := 4) 0 rfl rfl rfl rfl hE rfl rfl (by kernel_rfl) rfl (fun a hE => ?_))) rfl
    refine at_op (op_tk hE (tk_load 1 (.bool (x1.fWhole)) rfl rfl rfl rfl hE rfl hS rfl rfl (by kernel_rfl) (kL (j := 1) hS rfl List.not_mem_nil) (fun a hE => ?_))) rfl
    refine at_op (op_tk hE (g_fieldAddr (fo := 0) (ft := 4) 0 rfl rfl rfl rfl hE rfl rfl (by kernel_rfl) rfl (fun a hE => ?_))) rfl
    refine at_op (op_tk hE (tk_load 0 (.bool (x8.fWhole)) rfl rfl rfl rfl hE rfl hS rfl rfl (by kernel_rfl) (kL (j := 0) hS rfl List.not_mem_nil) (fun a hE => ?_))) rfl
    refine at_op (op_tk hE (tk_bin (r := .bool ((x1.fWhole == x8.fWhole))) rfl rfl rfl rfl hE rfl rfl rfl (eqb_run (by kernel_rfl) _ _) (fun a hE => ?_))) rfl
    refine segN 1 (j := 6) [(10, .bool ((x1.fWhole == x8.fWhole)))] hE (by kernel_rfl) rfl (fun a hE => ?_)
    cases hb : (x1.fWhole == x8.fWhole)
    · replace hf := cond_f hb hf
      have hE := hE.know (t := 10) (b := (x1.fWhole == x8.fWhole)) (b' := false) rfl hb
      clear hb
      refine segN 34 (j := 40) [(4, .bool false)] hE (by kernel_rfl) rfl (fun a hE => ?_)
      refine at_end rfl ?_
      have hS := hS.pk .n rfl
      exact ⟨false, D0, hE.weak (by kernel_rfl), hS, Snap.le.refl _, hf⟩
    · replace hf := cond_t hb hf
      have hE := hE.know (t := 10) (b := (x1.fWhole == x8.fWhole)) (b' := true) rfl hb
      clear hb
      refine at_op (op_tk hE (g_fieldAddr (fo := 1) (ft := 26) 1 rfl rfl rfl rfl hE rfl rfl (by kernel_rfl) rfl (fun a hE => ?_))) rfl
      refine at_op (op_tk hE (g_fieldAddr (fo := 0) (ft := 3) 1 rfl rfl rfl rfl hE rfl rfl (by kernel_rfl) rfl (fun a hE => ?_))) rfl
      refine at_op (op_tk hE (tk_load 1 (.int .i64 (x1.fPoint.fSize)) rfl rfl rfl rfl hE rfl hS rfl rfl (by kernel_rfl) (kL (j := 1) hS rfl List.not_mem_nil) (fun a hE => ?_))) rfl
      refine at_op (op_tk hE (g_fieldAddr (fo := 1) (ft := 26) 1 rfl rfl rfl rfl hE rfl rfl (by kernel_rfl) rfl (fun a hE => ?_))) rfl
      refine at_op (op_tk hE (g_fieldAddr (fo := 0) (ft := 3) 1 rfl rfl rfl rfl hE rfl rfl (by kernel_rfl) rfl (fun a hE => ?_))) rfl
      refine at_op (op_tk hE (tk_load 0 (.int .i64 (x8.fPoint.fSize)) rfl rfl rfl rfl hE rfl hS rfl rfl (by kernel_rfl) (kL (j := 0) hS rfl List.not_mem_nil) (fun a hE => ?_))) rfl
      refine segN 3 (j := 15) [(19, .bool ((decide (x1.fPoint.fSize = x8.fPoint.fSize))))] hE (by kernel_rfl) rfl (fun a hE => ?_)
      cases hb : (decide (x1.fPoint.fSize = x8.fPoint.fSize))
      · replace hf := cond_f hb hf
        have hE := hE.know (t := 19) (b := (decide (x1.fPoint.fSize = x8.fPoint.fSize))) (b' := false) rfl hb
        clear hb
        refine segN 25 (j := 40) [(4, .bool false)] hE (by kernel_rfl) rfl (fun a hE => ?_)
        refine at_end rfl ?_
        have hS := hS.pk .n rfl
        exact ⟨false, D0, hE.weak (by kernel_rfl), hS, Snap.le.refl _, hf⟩
      · replace hf := cond_t hb hf
        have hE := hE.know (t := 19) (b := (decide (x1.fPoint.fSize = x8.fPoint.fSize))) (b' := true) rfl hb
        clear hb
        refine at_op (op_tk hE (g_fieldAddr (fo := 1) (ft := 26) 1 rfl rfl rfl rfl hE rfl rfl (by kernel_rfl) rfl (fun a hE => ?_))) rfl
        refine at_op (op_tk hE (g_fieldAddr (fo := 1) (ft := 23) 2 rfl rfl rfl rfl hE rfl rfl (by kernel_rfl) rfl (fun a hE => ?_))) rfl
        refine at_op (op_tk hE (tk_load 1 (.agg (List.toArray (acells .u8 32 (x1.fPoint.fRoot)))) rfl rfl rfl rfl hE rfl hS rfl rfl (by kernel_rfl) (kL (j := 1) hS rfl List.not_mem_nil) (fun a hE => ?_))) rfl
        refine at_op (op_tk hE (g_fieldAddr (fo := 1) (ft := 26) 1 rfl rfl rfl rfl hE rfl rfl (by kernel_rfl) rfl (fun a hE => ?_))) rfl
        refine at_op (op_tk hE (g_fieldAddr (fo := 1) (ft := 23) 2 rfl rfl rfl rfl hE rfl rfl (by kernel_rfl) rfl (fun a hE => ?_))) rfl
        refine at_op (op_tk hE (tk_load 0 (.agg (List.toArray (acells .u8 32 (x8.fPoint.fRoot)))) rfl rfl rfl rfl hE rfl hS rfl rfl (by kernel_rfl) (kL (j := 0) hS rfl List.not_mem_nil) (fun a hE => ?_))) rfl
        refine at_op (op_tk hE (tk_bin (r := .bool ((decide (x1.fPoint.fRoot = x8.fPoint.fRoot)))) rfl rfl rfl rfl hE rfl rfl rfl (eqagg_run (by kernel_rfl) (EqR_arr (k := .u8) (N := 32) (by kernel_rfl))) (fun a hE => ?_))) rfl
        refine segN 2 (j := 24) [(28, .bool ((decide (x1.fPoint.fRoot = x8.fPoint.fRoot))))] hE (by kernel_rfl) rfl (fun a hE => ?_)
        cases hb : (decide (x1.fPoint.fRoot = x8.fPoint.fRoot))
        · replace hf := cond_f hb hf
          have hE := hE.know (t := 28) (b := (decide (x1.fPoint.fRoot = x8.fPoint.fRoot))) (b' := false) rfl hb
          clear hb
          refine segN 16 (j := 40) [(4, .bool false)] hE (by kernel_rfl) rfl (fun a hE => ?_)
          refine at_end rfl ?_
          have hS := hS.pk .n rfl
          exact ⟨false, D0, hE.weak (by kernel_rfl), hS, Snap.le.refl _, hf⟩
        · replace hf := cond_t hb hf
          have hE := hE.know (t := 28) (b := (decide (x1.fPoint.fRoot = x8.fPoint.fRoot))) (b' := true) rfl hb
          clear hb
          refine at_op (op_tk hE (g_fieldAddr (fo := 1) (ft := 26) 1 rfl rfl rfl rfl hE rfl rfl (by kernel_rfl) rfl (fun a hE => ?_))) rfl
          refine at_op (op_tk hE (g_fieldAddr (fo := 33) (ft := 24) 34 rfl rfl rfl rfl hE rfl rfl (by kernel_rfl) rfl (fun a hE => ?_))) rfl
          refine at_op (op_tk hE (tk_load 1 (.slice A2 (List.length (x1.fPoint.fSigs)) c3) rfl rfl rfl rfl hE rfl hS rfl rfl (by kernel_rfl) (kL (j := 1) hS rfl List.not_mem_nil) (fun a hE => ?_))) rfl
          refine at_op (op_tk hE (g_fieldAddr (fo := 1) (ft := 26) 1 rfl rfl rfl rfl hE rfl rfl (by kernel_rfl) rfl (fun a hE => ?_))) rfl
          refine at_op (op_tk hE (g_fieldAddr (fo := 33) (ft := 24) 34 rfl rfl rfl rfl hE rfl rfl (by kernel_rfl) rfl (fun a hE => ?_))) rfl
          refine at_op (op_tk hE (tk_load 0 (.slice A9 (List.length (x8.fPoint.fSigs)) c10) rfl rfl rfl rfl hE rfl hS rfl rfl (by kernel_rfl) (kL (j := 0) hS rfl List.not_mem_nil) (fun a hE => ?_))) rfl
          obtain ⟨r63, h64, hf⟩ := bind_some hf
          refine at_op (op_call rfl rfl rfl rfl hE rfl rfl rfl rfl (by kernel_rfl) (slices_Equal_api_Sig_api_Sig.calls (g := g) h64 (hS.st.fore (L := [])) h4 h11) (fun a v w hR hE => ?_)) rfl
          obtain ⟨D65, rfl, hS1⟩ := hR
          have le67 := hS1.dle
          have hS := hS.callR hS1 rfl .n
          clear hS1
          refine segN 2 (j := 33) [(37, .bool (r63))] hE (by kernel_rfl) rfl (fun a hE => ?_)
          cases hb : r63
          · replace hf := cond_f hb hf
            have hE := hE.know (t := 37) (b := r63) (b' := false) rfl hb
            clear hb
            refine segN 7 (j := 40) [(4, .bool false)] hE (by kernel_rfl) rfl (fun a hE => ?_)
            refine at_end rfl ?_
            have hS := hS.pk .n rfl
            exact ⟨false, D65, hE.weak (by kernel_rfl), hS, le67, hf⟩
          · replace hf := cond_t hb hf
            have hE := hE.know (t := 37) (b := r63) (b' := true) rfl hb
            clear hb
            refine at_op (op_tk hE (g_fieldAddr (fo := 35) (ft := 27) 35 rfl rfl rfl rfl hE rfl rfl (by kernel_rfl) rfl (fun a hE => ?_))) rfl
            refine at_op (op_tk hE (tk_load 1 (.slice A5 (List.length (x1.fItems)) c6) rfl rfl rfl rfl hE rfl hS rfl rfl (by kernel_rfl) (kL (j := 1) hS rfl List.not_mem_nil) (fun a hE => ?_))) rfl
            refine at_op (op_tk hE (g_fieldAddr (fo := 35) (ft := 27) 35 rfl rfl rfl rfl hE rfl rfl (by kernel_rfl) rfl (fun a hE => ?_))) rfl
            refine at_op (op_tk hE (tk_load 0 (.slice A12 (List.length (x8.fItems)) c13) rfl rfl rfl rfl hE rfl hS rfl rfl (by kernel_rfl) (kL (j := 0) hS rfl List.not_mem_nil) (fun a hE => ?_))) rfl
            obtain ⟨r68, h69, hf⟩ := bind_some hf
            refine at_op (op_call rfl rfl rfl rfl hE rfl rfl rfl rfl (by kernel_rfl) (slices_EqualFunc_api_Item_api_Item_api_Item_api_Item.calls (g := g) h69 (hS.st.fore (L := [])) (h7.mono le67) (h14.mono le67)) (fun a v w hR hE => ?_)) rfl
            obtain ⟨D70, rfl, hS1⟩ := hR
            have le72 := hS1.dle
            have hS := hS.callR hS1 rfl .n
            clear hS1
            refine segN 2 (j := 40) [(4, .bool (r68))] hE (by kernel_rfl) rfl (fun a hE => ?_)
            refine at_end rfl ?_
            have hS := hS.pk .n rfl
            exact ⟨r68, D70, hE.weak (by kernel_rfl), hS, (Snap.le.trans le67 le72), hf⟩
  · clear hE hS
    rintro a w ⟨y58, D59, hE, hS, le60, hf⟩
    replace hf := hj62 _ hf
    clear hj62
    refine wpIn_ret ?_
    obtain rfl := Option.some.inj hf
    repeat (with_reducible first | refine then_ret ?_ | refine block_ret ?_ | refine qx_ret ?_)
    refine ret_gen ([.bool (y58)]) hE (by rw [show Try.f13.results.toList = [.tmp 4] from rfl]; exact ⟨_, _, rfl, rfl, rfl⟩) ?_
    exact ⟨_, rfl, D59, rfl, hS⟩

set_option maxRecDepth 100000 in
set_option maxHeartbeats 4000000 in
theorem inspeximuslaw17_alive.calls {K : Nat} {g w0 : World} {D0 : Snap} {r : (Bool)} (hf : inspeximuslaw17_alive.f K = some r) (hS0 : St g w0 D0 []) :
    CallsIn (Fw none) 0 Try.prog 8 (List.toArray []) w0 (fun e w' => ∃ v, e = .returned v ∧ ∃ (D1 : Snap), v = .bool (r) ∧ Stp g w0 D0 [] w' D1 []) := by
  unfold inspeximuslaw17_alive.f at hf
  have hS := Stp.refl hS0
  clear hS0
  refine calls_body (n := 64) Try.func8 rfl Try.ntmps8 rfl (fun a hE => ?_)
  have hE : Env a 64 [] [] := hE
  refine wpIn_seq ?_
  refine region_at ?_
  refine segN 1 (j := 1) [(0, .bool false)] hE (by kernel_rfl) rfl (fun a hE => ?_)
  refine at_end rfl ?_
  refine wpIn_seq ?_
  refine region_at ?_
  refine at_op (op_tk hE (tk_build (c_T_api_Bundle ({ z_T_api_Bundle with fWhole := true }) none 0 none 0) rfl rfl rfl rfl hE rfl rfl (by kernel_rfl) (fun a hE => ?_))) rfl
  obtain ⟨r141, h142, hf⟩ := bind_some hf
  refine at_op (op_call rfl rfl rfl rfl hE rfl rfl rfl rfl (by kernel_rfl) (bundle_Put.calls (g := g) h142 (hS.st.fore (L := [])) (Sl.nil kd_T_api_Sig D0) (Sl.nil kd_T_api_Item D0)) (fun a v w hR hE => ?_)) rfl
  obtain ⟨D143, A145, c146, q147, rfl, hS1, h148⟩ := hR
  have le150 := hS1.dle
  have hS := hS.callR hS1 rfl (.c .n)
  clear hS1
  refine segN 1 (j := 3) [(1, .slice A145 (List.length (r141)) c146)] hE (by kernel_rfl) rfl (fun a hE => ?_)
  refine at_end rfl ?_
  refine wpIn_seq ?_
  refine region_at ?_
  refine at_op (op_tk hE (tk_build (c_T_api_Sig ((T_api_Sig.mk ((1 : Int)) ((Vector.replicate 32 (0 : Int)))))) rfl rfl rfl rfl hE rfl rfl (by kernel_rfl) (fun a hE => ?_))) rfl
  refine at_op (op_buildSlice (K := kd_T_api_Sig) (e := 43) (cs := (c_T_api_Sig ((T_api_Sig.mk ((1 : Int)) ((Vector.replicate 32 (0 : Int)))))) ++ []) ([(T_api_Sig.mk ((1 : Int)) ((Vector.replicate 32 (0 : Int))))] : List T_api_Sig) rfl rfl rfl rfl hE rfl hS rfl (by kernel_rfl) rfl rfl (by exact (show RL kd_T_api_Sig D143 ([(T_api_Sig.mk ((1 : Int)) ((Vector.replicate 32 (0 : Int))))] : List T_api_Sig) ((c_T_api_Sig ((T_api_Sig.mk ((1 : Int)) ((Vector.replicate 32 (0 : Int)))))) ++ []) from ⟨_, _, rfl, (kd_T_api_Sig_mk (D := D143) (x := (T_api_Sig.mk ((1 : Int)) ((Vector.replicate 32 (0 : Int))))) rfl rfl), rfl⟩)) (fun a A151 q152 w _ hE h153 hS => ?_)) rfl
  obtain ⟨D155, q158, le156, hS, h159, h157⟩ := hS.lent h153
  refine at_op (op_tk hE (tk_build (c_T_api_Point ((T_api_Point.mk ((5 : Int)) ((Vector.replicate 32 (0 : Int))) (([(T_api_Sig.mk ((1 : Int)) ((Vector.replicate 32 (0 : Int))))] : List T_api_Sig)))) A151 1) rfl rfl rfl rfl hE rfl rfl (by kernel_rfl) (fun a hE => ?_))) rfl
  refine at_op (op_tk hE (tk_build (c_T_api_Rec ({ z_T_api_Rec with fKind := (6 : Int), fEpoch := (1 : Int) }) none 0 none 0) rfl rfl rfl rfl hE rfl rfl (by kernel_rfl) (fun a hE => ?_))) rfl
  refine at_op (op_tk hE (tk_build (acells .u8 32 ((vofL 32 [(1 : Int), (0 : Int), (0 : Int), (0 : Int), (0 : Int), (0 : Int), (0 : Int), (0 : Int), (0 : Int), (0 : Int), (0 : Int), (0 : Int), (0 : Int), (0 : Int), (0 : Int), (0 : Int), (0 : Int), (0 : Int), (0 : Int), (0 : Int), (0 : Int), (0 : Int), (0 : Int), (0 : Int), (0 : Int), (0 : Int), (0 : Int), (0 : Int), (0 : Int), (0 : Int), (0 : Int), (0 : Int)]))) rfl rfl rfl rfl hE rfl rfl (by kernel_rfl) (fun a hE => ?_))) rfl
  refine at_op (op_buildSlice (K := (kdArr .u8 32)) (e := 23) (cs := acells .u8 32 ((vofL 32 [(1 : Int), (0 : Int), (0 : Int), (0 : Int), (0 : Int), (0 : Int), (0 : Int), (0 : Int), (0 : Int), (0 : Int), (0 : Int), (0 : Int), (0 : Int), (0 : Int), (0 : Int), (0 : Int), (0 : Int), (0 : Int), (0 : Int), (0 : Int), (0 : Int), (0 : Int), (0 : Int), (0 : Int), (0 : Int), (0 : Int), (0 : Int), (0 : Int), (0 : Int), (0 : Int), (0 : Int), (0 : Int)])) ++ []) ([(vofL 32 [(1 : Int), (0 : Int), (0 : Int), (0 : Int), (0 : Int), (0 : Int), (0 : Int), (0 : Int), (0 : Int), (0 : Int), (0 : Int), (0 : Int), (0 : Int), (0 : Int), (0 : Int), (0 : Int), (0 : Int), (0 : Int), (0 : Int), (0 : Int), (0 : Int), (0 : Int), (0 : Int), (0 : Int), (0 : Int), (0 : Int), (0 : Int), (0 : Int), (0 : Int), (0 : Int), (0 : Int), (0 : Int)])] : List (Vector Int 32)) rfl rfl rfl rfl hE rfl hS rfl (by kernel_rfl) rfl rfl (by exact (show RL (kdArr .u8 32) D155 ([(vofL 32 [(1 : Int), (0 : Int), (0 : Int), (0 : Int), (0 : Int), (0 : Int), (0 : Int), (0 : Int), (0 : Int), (0 : Int), (0 : Int), (0 : Int), (0 : Int), (0 : Int), (0 : Int), (0 : Int), (0 : Int), (0 : Int), (0 : Int), (0 : Int), (0 : Int), (0 : Int), (0 : Int), (0 : Int), (0 : Int), (0 : Int), (0 : Int), (0 : Int), (0 : Int), (0 : Int), (0 : Int), (0 : Int)])] : List (Vector Int 32)) (acells .u8 32 ((vofL 32 [(1 : Int), (0 : Int), (0 : Int), (0 : Int), (0 : Int), (0 : Int), (0 : Int), (0 : Int), (0 : Int), (0 : Int), (0 : Int), (0 : Int), (0 : Int), (0 : Int), (0 : Int), (0 : Int), (0 : Int), (0 : Int), (0 : Int), (0 : Int), (0 : Int), (0 : Int), (0 : Int), (0 : Int), (0 : Int), (0 : Int), (0 : Int), (0 : Int), (0 : Int), (0 : Int), (0 : Int), (0 : Int)])) ++ []) from ⟨_, _, rfl, rfl, rfl⟩)) (fun a A160 q161 w _ hE h162 hS => ?_)) rfl
  obtain ⟨D164, q167, le165, hS, h168, h166⟩ := hS.lent h162
  refine at_op (op_tk hE (tk_build (c_T_api_Item ((T_api_Item.mk ((3 : Int)) ({ z_T_api_Rec with fKind := (6 : Int), fEpoch := (1 : Int) }) (([(vofL 32 [(1 : Int), (0 : Int), (0 : Int), (0 : Int), (0 : Int), (0 : Int), (0 : Int), (0 : Int), (0 : Int), (0 : Int), (0 : Int), (0 : Int), (0 : Int), (0 : Int), (0 : Int), (0 : Int), (0 : Int), (0 : Int), (0 : Int), (0 : Int), (0 : Int), (0 : Int), (0 : Int), (0 : Int), (0 : Int), (0 : Int), (0 : Int), (0 : Int), (0 : Int), (0 : Int), (0 : Int), (0 : Int)])] : List (Vector Int 32))))) none 0 none 0 A160 1) rfl rfl rfl rfl hE rfl rfl (by kernel_rfl) (fun a hE => ?_))) rfl
  refine at_op (op_buildSlice (K := kd_T_api_Item) (e := 50) (cs := (c_T_api_Item ((T_api_Item.mk ((3 : Int)) ({ z_T_api_Rec with fKind := (6 : Int), fEpoch := (1 : Int) }) (([(vofL 32 [(1 : Int), (0 : Int), (0 : Int), (0 : Int), (0 : Int), (0 : Int), (0 : Int), (0 : Int), (0 : Int), (0 : Int), (0 : Int), (0 : Int), (0 : Int), (0 : Int), (0 : Int), (0 : Int), (0 : Int), (0 : Int), (0 : Int), (0 : Int), (0 : Int), (0 : Int), (0 : Int), (0 : Int), (0 : Int), (0 : Int), (0 : Int), (0 : Int), (0 : Int), (0 : Int), (0 : Int), (0 : Int)])] : List (Vector Int 32))))) none 0 none 0 A160 1) ++ []) ([(T_api_Item.mk ((3 : Int)) ({ z_T_api_Rec with fKind := (6 : Int), fEpoch := (1 : Int) }) (([(vofL 32 [(1 : Int), (0 : Int), (0 : Int), (0 : Int), (0 : Int), (0 : Int), (0 : Int), (0 : Int), (0 : Int), (0 : Int), (0 : Int), (0 : Int), (0 : Int), (0 : Int), (0 : Int), (0 : Int), (0 : Int), (0 : Int), (0 : Int), (0 : Int), (0 : Int), (0 : Int), (0 : Int), (0 : Int), (0 : Int), (0 : Int), (0 : Int), (0 : Int), (0 : Int), (0 : Int), (0 : Int), (0 : Int)])] : List (Vector Int 32))))] : List T_api_Item) rfl rfl rfl rfl hE rfl hS rfl (by kernel_rfl) rfl rfl (by exact (show RL kd_T_api_Item D164 ([(T_api_Item.mk ((3 : Int)) ({ z_T_api_Rec with fKind := (6 : Int), fEpoch := (1 : Int) }) (([(vofL 32 [(1 : Int), (0 : Int), (0 : Int), (0 : Int), (0 : Int), (0 : Int), (0 : Int), (0 : Int), (0 : Int), (0 : Int), (0 : Int), (0 : Int), (0 : Int), (0 : Int), (0 : Int), (0 : Int), (0 : Int), (0 : Int), (0 : Int), (0 : Int), (0 : Int), (0 : Int), (0 : Int), (0 : Int), (0 : Int), (0 : Int), (0 : Int), (0 : Int), (0 : Int), (0 : Int), (0 : Int), (0 : Int)])] : List (Vector Int 32))))] : List T_api_Item) ((c_T_api_Item ((T_api_Item.mk ((3 : Int)) ({ z_T_api_Rec with fKind := (6 : Int), fEpoch := (1 : Int) }) (([(vofL 32 [(1 : Int), (0 : Int), (0 : Int), (0 : Int), (0 : Int), (0 : Int), (0 : Int), (0 : Int), (0 : Int), (0 : Int), (0 : Int), (0 : Int), (0 : Int), (0 : Int), (0 : Int), (0 : Int), (0 : Int), (0 : Int), (0 : Int), (0 : Int), (0 : Int), (0 : Int), (0 : Int), (0 : Int), (0 : Int), (0 : Int), (0 : Int), (0 : Int), (0 : Int), (0 : Int), (0 : Int), (0 : Int)])] : List (Vector Int 32))))) none 0 none 0 A160 1) ++ []) from ⟨_, _, rfl, (kd_T_api_Item_mk (D := D164) (x := (T_api_Item.mk ((3 : Int)) ({ z_T_api_Rec with fKind := (6 : Int), fEpoch := (1 : Int) }) (([(vofL 32 [(1 : Int), (0 : Int), (0 : Int), (0 : Int), (0 : Int), (0 : Int), (0 : Int), (0 : Int), (0 : Int), (0 : Int), (0 : Int), (0 : Int), (0 : Int), (0 : Int), (0 : Int), (0 : Int), (0 : Int), (0 : Int), (0 : Int), (0 : Int), (0 : Int), (0 : Int), (0 : Int), (0 : Int), (0 : Int), (0 : Int), (0 : Int), (0 : Int), (0 : Int), (0 : Int), (0 : Int), (0 : Int)])] : List (Vector Int 32))))) rfl (kd_T_api_Rec_mk (D := D164) (x := { z_T_api_Rec with fKind := (6 : Int), fEpoch := (1 : Int) }) rfl rfl rfl rfl rfl rfl rfl rfl rfl rfl rfl (kslice ((Sl.nil kd_T_api_Step D155).mono le165)) (kslice ((Sl.nil (kdInt .u8) D155).mono le165)) rfl rfl rfl) (kslice h166)), rfl⟩)) (fun a A169 q170 w _ hE h171 hS => ?_)) rfl
  obtain ⟨D173, q176, le174, hS, h177, h175⟩ := hS.lent h171
  refine at_op (op_tk hE (tk_build (c_T_api_Bundle ((T_api_Bundle.mk (false) ((T_api_Point.mk ((5 : Int)) ((Vector.replicate 32 (0 : Int))) (([(T_api_Sig.mk ((1 : Int)) ((Vector.replicate 32 (0 : Int))))] : List T_api_Sig)))) (([(T_api_Item.mk ((3 : Int)) ({ z_T_api_Rec with fKind := (6 : Int), fEpoch := (1 : Int) }) (([(vofL 32 [(1 : Int), (0 : Int), (0 : Int), (0 : Int), (0 : Int), (0 : Int), (0 : Int), (0 : Int), (0 : Int), (0 : Int), (0 : Int), (0 : Int), (0 : Int), (0 : Int), (0 : Int), (0 : Int), (0 : Int), (0 : Int), (0 : Int), (0 : Int), (0 : Int), (0 : Int), (0 : Int), (0 : Int), (0 : Int), (0 : Int), (0 : Int), (0 : Int), (0 : Int), (0 : Int), (0 : Int), (0 : Int)])] : List (Vector Int 32))))] : List T_api_Item)))) A151 1 A169 1) rfl rfl rfl rfl hE rfl rfl (by kernel_rfl) (fun a hE => ?_))) rfl
  refine at_op (op_alloc (z := .agg (List.toArray (c_T_api_Bundle (z_T_api_Bundle) none 0 none 0))) rfl rfl rfl rfl hE rfl hS (by kernel_rfl) (fun a b178 w _ hE hS => ?_)) rfl
  obtain ⟨v180, hv181, hf⟩ := bind_some hf
  replace hv181 := Option.some.inj hv181
  refine at_op (op_store (v := .agg (List.toArray (c_T_api_Bundle ((T_api_Bundle.mk (false) ((T_api_Point.mk ((5 : Int)) ((Vector.replicate 32 (0 : Int))) (([(T_api_Sig.mk ((1 : Int)) ((Vector.replicate 32 (0 : Int))))] : List T_api_Sig)))) (([(T_api_Item.mk ((3 : Int)) ({ z_T_api_Rec with fKind := (6 : Int), fEpoch := (1 : Int) }) (([(vofL 32 [(1 : Int), (0 : Int), (0 : Int), (0 : Int), (0 : Int), (0 : Int), (0 : Int), (0 : Int), (0 : Int), (0 : Int), (0 : Int), (0 : Int), (0 : Int), (0 : Int), (0 : Int), (0 : Int), (0 : Int), (0 : Int), (0 : Int), (0 : Int), (0 : Int), (0 : Int), (0 : Int), (0 : Int), (0 : Int), (0 : Int), (0 : Int), (0 : Int), (0 : Int), (0 : Int), (0 : Int), (0 : Int)])] : List (Vector Int 32))))] : List T_api_Item)))) A151 1 A169 1))) (c_T_api_Bundle (v180) A151 1 A169 1) rfl rfl rfl rfl hE hS rfl rfl (by kernel_rfl) (by kernel_rfl) (by kernel_rfl) (by kernel_rfl) (by rw [← hv181]; kernel_rfl) (fun a w _ hE hS => ?_)) rfl
  have h182 : Sl kd_T_api_Sig D155 A151 1 (v180.fPoint.fSigs) := by rw [← hv181]; exact h157
  have h183 : Sl kd_T_api_Item D173 A169 1 (v180.fItems) := by rw [← hv181]; exact h175
  refine at_end rfl ?_
  refine wpIn_seq ?_
  refine region_at ?_
  refine at_op (op_tk hE (tk_load 0 (.agg (List.toArray (c_T_api_Bundle (v180) A151 1 A169 1))) rfl rfl rfl rfl hE rfl hS rfl rfl (by kernel_rfl) (kL (j := 0) hS rfl List.not_mem_nil) (fun a hE => ?_))) rfl
  have hS := hS.pk (.c 0 rfl (.c 4 rfl .n)) rfl
  obtain ⟨r184, h185, hf⟩ := bind_some hf
  refine at_op (op_call rfl rfl rfl rfl hE rfl rfl rfl rfl (by kernel_rfl) (bundle_Put.calls (g := g) h185 (hS.st.fore (L := [])) (h182.mono (Snap.le.trans le165 le174)) h183) (fun a v w hR hE => ?_)) rfl
  obtain ⟨D186, A188, c189, q190, rfl, hS1, h191⟩ := hR
  have le193 := hS1.dle
  have hS := hS.callR hS1 rfl (.c .n)
  clear hS1
  refine segN 1 (j := 3) [(3, .slice A188 (List.length (r184)) c189)] hE (by kernel_rfl) rfl (fun a hE => ?_)
  refine at_end rfl ?_
  refine wpIn_seq ?_
  refine region_at ?_
  refine segN 1 (j := 1) [(22, .slice A188 (List.length (r184)) c189)] hE (by kernel_rfl) rfl (fun a hE => ?_)
  obtain ⟨D194, q197, le195, hS, h198, h196⟩ := hS.lent h191
  obtain ⟨r199, h200, hf⟩ := bind_some hf
  refine at_op (op_call rfl rfl rfl rfl hE rfl rfl rfl rfl (by kernel_rfl) (bundle_Get.calls (g := g) h200 (hS.st.fore (L := [])) h196) (fun a v w hR hE => ?_)) rfl
  obtain ⟨D201, A203, c204, A206, c207, rfl, hS1, h205, h208⟩ := hR
  have le209 := hS1.dle
  have hS := hS.callR hS1 rfl .n
  clear hS1
  refine segN 3 (j := 5) [(24, .agg (List.toArray (c_T_api_Bundle (r199.1) A203 c204 A206 c207))), (25, .int .i64 (r199.2))] hE (by kernel_rfl) rfl (fun a hE => ?_)
  refine at_op (op_alloc (z := .agg (List.toArray (c_T_api_Bundle (z_T_api_Bundle) none 0 none 0))) rfl rfl rfl rfl hE rfl hS (by kernel_rfl) (fun a b210 w _ hE hS => ?_)) rfl
  refine at_op (op_store (v := .agg (List.toArray (c_T_api_Bundle (r199.1) A203 c204 A206 c207))) (c_T_api_Bundle (r199.1) A203 c204 A206 c207) rfl rfl rfl rfl hE hS rfl rfl (by kernel_rfl) (by kernel_rfl) (by kernel_rfl) (by kernel_rfl) (by kernel_rfl) (fun a w _ hE hS => ?_)) rfl
  refine segN 1 (j := 8) [(5, .int .i64 (r199.2))] hE (by kernel_rfl) rfl (fun a hE => ?_)
  refine at_end rfl ?_
  refine wpIn_seq ?_
  refine region_at ?_
  refine segN 1 (j := 1) [(27, .slice A188 (List.length (r184)) c189)] hE (by kernel_rfl) rfl (fun a hE => ?_)
  refine at_op (op_buildSlice (K := (kdInt .u8)) (e := 5) (cs := [.int .u8 ((0 : Int))] ++ []) ([(0 : Int)] : List Int) rfl rfl rfl rfl hE rfl hS rfl (by kernel_rfl) rfl rfl (by exact (show RL (kdInt .u8) D201 ([(0 : Int)] : List Int) ([.int .u8 ((0 : Int))] ++ []) from ⟨_, _, rfl, rfl, rfl⟩)) (fun a A212 q213 w _ hE h214 hS => ?_)) rfl
  obtain ⟨D216, q219, le217, hS, h220, h218⟩ := hS.lent h214
  have hS := hS.pk (.c 2 rfl (.c 0 rfl (.c 1 rfl (.c 3 rfl (.c 4 rfl .n))))) rfl
  obtain ⟨l221, h222, hf⟩ := bind_some hf
  refine at_op (g_append (K := (kdInt .u8)) (e := 5) (bytes := 1) (l := r184) (m := ([(0 : Int)] : List Int)) rfl rfl rfl rfl hE rfl hS rfl rfl (by kernel_rfl) rfl rfl (h198.mono (Snap.le.trans le209 le217)) h218 h222 (fun a A223 c224 q225 w _ hE h226 hS => ?_)) rfl
  obtain ⟨D228, q231, le229, hS, h232, h230⟩ := hS.lent h226
  obtain ⟨r233, h234, hf⟩ := bind_some hf
  refine at_op (op_call rfl rfl rfl rfl hE rfl rfl rfl rfl (by kernel_rfl) (bundle_Get.calls (g := g) h234 (hS.st.fore (L := [])) h230) (fun a v w hR hE => ?_)) rfl
  obtain ⟨D235, A237, c238, A240, c241, rfl, hS1, h239, h242⟩ := hR
  have le243 := hS1.dle
  have hS := hS.callR hS1 rfl .n
  clear hS1
  refine segN 3 (j := 7) [(31, .agg (List.toArray (c_T_api_Bundle (r233.1) A237 c238 A240 c241))), (32, .int .i64 (r233.2))] hE (by kernel_rfl) rfl (fun a hE => ?_)
  refine at_op (op_alloc (z := .agg (List.toArray (c_T_api_Bundle (z_T_api_Bundle) none 0 none 0))) rfl rfl rfl rfl hE rfl hS (by kernel_rfl) (fun a b244 w _ hE hS => ?_)) rfl
  refine at_op (op_store (v := .agg (List.toArray (c_T_api_Bundle (r233.1) A237 c238 A240 c241))) (c_T_api_Bundle (r233.1) A237 c238 A240 c241) rfl rfl rfl rfl hE hS rfl rfl (by kernel_rfl) (by kernel_rfl) (by kernel_rfl) (by kernel_rfl) (by kernel_rfl) (fun a w _ hE hS => ?_)) rfl
  refine segN 1 (j := 10) [(7, .int .i64 (r233.2))] hE (by kernel_rfl) rfl (fun a hE => ?_)
  refine at_end rfl ?_
  obtain ⟨j264, hj265, hf⟩ := jn_elim hf
  refine seq_join (fun a w => ∃ (y261 : Bool), ∃ (D262 : Snap), Env a 64 [] [(0, .bool (y261))] ∧ Stp g w0 D0 [] w D262 [] ∧ Snap.le D235 D262 ∧ j264 y261 = some r) ?_ ?_
  · clear hj265
    refine region_at ?_
    refine segN 4 (j := 4) [(36, .bool ((decide (((List.length (r141) : Nat) : Int) = (39 : Int)))))] hE (by kernel_rfl) rfl (fun a hE => ?_)
    cases hb : (decide (((List.length (r141) : Nat) : Int) = (39 : Int)))
    · replace hf := cond_f hb hf
      have hE := hE.know (t := 36) (b := (decide (((List.length (r141) : Nat) : Int) = (39 : Int)))) (b' := false) rfl hb
      clear hb
      refine segN 28 (j := 32) [(0, .bool false)] hE (by kernel_rfl) rfl (fun a hE => ?_)
      refine at_end rfl ?_
      have hS := hS.pk .n rfl
      exact ⟨false, D235, hE.weak (by kernel_rfl), hS, Snap.le.refl _, hf⟩
    · replace hf := cond_t hb hf
      have hE := hE.know (t := 36) (b := (decide (((List.length (r141) : Nat) : Int) = (39 : Int)))) (b' := true) rfl hb
      clear hb
      refine segN 4 (j := 8) [(40, .bool ((decide (r199.2 = (0 : Int)))))] hE (by kernel_rfl) rfl (fun a hE => ?_)
      cases hb : (decide (r199.2 = (0 : Int)))
      · replace hf := cond_f hb hf
        have hE := hE.know (t := 40) (b := (decide (r199.2 = (0 : Int)))) (b' := false) rfl hb
        clear hb
        refine segN 24 (j := 32) [(0, .bool false)] hE (by kernel_rfl) rfl (fun a hE => ?_)
        refine at_end rfl ?_
        have hS := hS.pk .n rfl
        exact ⟨false, D235, hE.weak (by kernel_rfl), hS, Snap.le.refl _, hf⟩
      · replace hf := cond_t hb hf
        have hE := hE.know (t := 40) (b := (decide (r199.2 = (0 : Int)))) (b' := true) rfl hb
        clear hb
        refine segN 4 (j := 12) [(44, .bool ((decide (r233.2 = (2 : Int)))))] hE (by kernel_rfl) rfl (fun a hE => ?_)
        cases hb : (decide (r233.2 = (2 : Int)))
        · replace hf := cond_f hb hf
          have hE := hE.know (t := 44) (b := (decide (r233.2 = (2 : Int)))) (b' := false) rfl hb
          clear hb
          refine segN 20 (j := 32) [(0, .bool false)] hE (by kernel_rfl) rfl (fun a hE => ?_)
          refine at_end rfl ?_
          have hS := hS.pk .n rfl
          exact ⟨false, D235, hE.weak (by kernel_rfl), hS, Snap.le.refl _, hf⟩
        · replace hf := cond_t hb hf
          have hE := hE.know (t := 44) (b := (decide (r233.2 = (2 : Int)))) (b' := true) rfl hb
          clear hb
          refine at_op (op_tk hE (tk_load 4 (.agg (List.toArray (c_T_api_Bundle (v180) A151 1 A169 1))) rfl rfl rfl rfl hE rfl hS rfl rfl (by kernel_rfl) (kL (j := 4) hS rfl List.not_mem_nil) (fun a hE => ?_))) rfl
          refine at_op (op_tk hE (tk_load 3 (.agg (List.toArray (c_T_api_Bundle (r199.1) A203 c204 A206 c207))) rfl rfl rfl rfl hE rfl hS rfl rfl (by kernel_rfl) (kL (j := 3) hS rfl List.not_mem_nil) (fun a hE => ?_))) rfl
          have hS := hS.pk (.c 0 rfl (.c 3 rfl (.c 4 rfl (.c 5 rfl .n)))) rfl
          obtain ⟨r266, h267, hf⟩ := bind_some hf
          refine at_op (op_call rfl rfl rfl rfl hE rfl rfl rfl rfl (by kernel_rfl) (bundle_Same.calls (g := g) h267 (hS.st.fore (L := [])) (h182.mono (Snap.le.trans (Snap.le.trans (Snap.le.trans (Snap.le.trans (Snap.le.trans (Snap.le.trans (Snap.le.trans le165 le174) le193) le195) le209) le217) le229) le243)) (h183.mono (Snap.le.trans (Snap.le.trans (Snap.le.trans (Snap.le.trans (Snap.le.trans le193 le195) le209) le217) le229) le243)) (h205.mono (Snap.le.trans (Snap.le.trans le217 le229) le243)) (h208.mono (Snap.le.trans (Snap.le.trans le217 le229) le243))) (fun a v w hR hE => ?_)) rfl
          obtain ⟨D268, rfl, hS1⟩ := hR
          have le270 := hS1.dle
          have hS := hS.callR hS1 rfl .n
          clear hS1
          refine segN 2 (j := 17) [(49, .bool (r266))] hE (by kernel_rfl) rfl (fun a hE => ?_)
          cases hb : r266
          · replace hf := cond_f hb hf
            have hE := hE.know (t := 49) (b := r266) (b' := false) rfl hb
            clear hb
            refine segN 15 (j := 32) [(0, .bool false)] hE (by kernel_rfl) rfl (fun a hE => ?_)
            refine at_end rfl ?_
            have hS := hS.pk .n rfl
            exact ⟨false, D268, hE.weak (by kernel_rfl), hS, le270, hf⟩
          · replace hf := cond_t hb hf
            have hE := hE.know (t := 49) (b := r266) (b' := true) rfl hb
            clear hb
            refine at_op (op_tk hE (tk_load 2 (.agg (List.toArray (c_T_api_Bundle (v180) A151 1 A169 1))) rfl rfl rfl rfl hE rfl hS rfl rfl (by kernel_rfl) (kL (j := 2) hS rfl List.not_mem_nil) (fun a hE => ?_))) rfl
            obtain ⟨r271, h272, hf⟩ := bind_some hf
            refine at_op (op_call rfl rfl rfl rfl hE rfl rfl rfl rfl (by kernel_rfl) (bundle_Right.calls (g := g) h272 (hS.st.fore (L := [])) (h182.mono (Snap.le.trans (Snap.le.trans (Snap.le.trans (Snap.le.trans (Snap.le.trans (Snap.le.trans (Snap.le.trans (Snap.le.trans le165 le174) le193) le195) le209) le217) le229) le243) le270)) (h183.mono (Snap.le.trans (Snap.le.trans (Snap.le.trans (Snap.le.trans (Snap.le.trans (Snap.le.trans le193 le195) le209) le217) le229) le243) le270))) (fun a v w hR hE => ?_)) rfl
            obtain ⟨D273, rfl, hS1⟩ := hR
            have le275 := hS1.dle
            have hS := hS.callR hS1 rfl .n
            clear hS1
            refine segN 2 (j := 21) [(53, .bool (r271))] hE (by kernel_rfl) rfl (fun a hE => ?_)
            cases hb : r271
            · replace hf := cond_f hb hf
              have hE := hE.know (t := 53) (b := r271) (b' := false) rfl hb
              clear hb
              refine segN 11 (j := 32) [(0, .bool false)] hE (by kernel_rfl) rfl (fun a hE => ?_)
              refine at_end rfl ?_
              have hS := hS.pk .n rfl
              exact ⟨false, D273, hE.weak (by kernel_rfl), hS, (Snap.le.trans le270 le275), hf⟩
            · replace hf := cond_t hb hf
              have hE := hE.know (t := 53) (b := r271) (b' := true) rfl hb
              clear hb
              refine at_op (op_tk hE (tk_build (c_T_api_Point ({ z_T_api_Point with fSize := (1 : Int) }) none 0) rfl rfl rfl rfl hE rfl rfl (by kernel_rfl) (fun a hE => ?_))) rfl
              refine at_op (op_tk hE (tk_build (c_T_api_Bundle ((T_api_Bundle.mk (true) ({ z_T_api_Point with fSize := (1 : Int) }) (([] : List T_api_Item)))) none 0 none 0) rfl rfl rfl rfl hE rfl rfl (by kernel_rfl) (fun a hE => ?_))) rfl
              obtain ⟨r276, h277, hf⟩ := bind_some hf
              refine at_op (op_call rfl rfl rfl rfl hE rfl rfl rfl rfl (by kernel_rfl) (bundle_Right.calls (g := g) h277 (hS.st.fore (L := [])) (Sl.nil kd_T_api_Sig D273) (Sl.nil kd_T_api_Item D273)) (fun a v w hR hE => ?_)) rfl
              obtain ⟨D278, rfl, hS1⟩ := hR
              have le280 := hS1.dle
              have hS := hS.callR hS1 rfl .n
              clear hS1
              refine segN 3 (j := 27) [(59, .bool ((!r276)))] hE (by kernel_rfl) rfl (fun a hE => ?_)
              cases hb : (!r276)
              · replace hf := cond_f hb hf
                have hE := hE.know (t := 59) (b := (!r276)) (b' := false) rfl hb
                clear hb
                refine segN 5 (j := 32) [(0, .bool false)] hE (by kernel_rfl) rfl (fun a hE => ?_)
                refine at_end rfl ?_
                have hS := hS.pk .n rfl
                exact ⟨false, D278, hE.weak (by kernel_rfl), hS, (Snap.le.trans (Snap.le.trans le270 le275) le280), hf⟩
              · replace hf := cond_t hb hf
                have hE := hE.know (t := 59) (b := (!r276)) (b' := true) rfl hb
                clear hb
                refine segN 5 (j := 32) [(0, .bool ((decide (((List.length (r184) : Nat) : Int) = (110 : Int)))))] hE (by kernel_rfl) rfl (fun a hE => ?_)
                refine at_end rfl ?_
                have hS := hS.pk .n rfl
                exact ⟨(decide (((List.length (r184) : Nat) : Int) = (110 : Int))), D278, hE.weak (by kernel_rfl), hS, (Snap.le.trans (Snap.le.trans le270 le275) le280), hf⟩
  · clear hE hS
    rintro a w ⟨y261, D262, hE, hS, le263, hf⟩
    replace hf := hj265 _ hf
    clear hj265
    refine wpIn_ret ?_
    obtain rfl := Option.some.inj hf
    repeat (with_reducible first | refine then_ret ?_ | refine block_ret ?_ | refine qx_ret ?_)
    refine ret_gen ([.bool (y261)]) hE (by rw [show Try.f8.results.toList = [.tmp 0] from rfl]; exact ⟨_, _, rfl, rfl, rfl⟩) ?_
    exact ⟨_, rfl, D262, rfl, hS⟩

set_option maxRecDepth 100000 in
set_option maxHeartbeats 4000000 in
theorem inspeximusref01_Bytes.calls {K : Nat} {g w0 : World} {D0 : Snap} {x1 : (List Int)} {x5 : (List Int)} {A2 : Option Addr} {c3 : Nat} {A6 : Option Addr} {c7 : Nat} {r : (Bool)} (hf : inspeximusref01_Bytes.f K x1 x5 = some r) (hS0 : St g w0 D0 []) (h4 : Sl (kdInt .u8) D0 A2 c3 (x1)) (h8 : Sl (kdInt .u8) D0 A6 c7 (x5)) :
    CallsIn (Fw none) 0 Try.prog 14 (List.toArray [.slice A2 (List.length (x1)) c3, .slice A6 (List.length (x5)) c7]) w0 (fun e w' => ∃ v, e = .returned v ∧ ∃ (D1 : Snap), v = .bool (r) ∧ Stp g w0 D0 [] w' D1 []) := by
  unfold inspeximusref01_Bytes.f at hf
  have hS := Stp.refl hS0
  clear hS0
  refine calls_body (n := 26) Try.func14 rfl Try.ntmps14 rfl (fun a hE => ?_)
  have hE : Env a 26 [] [(0, .slice A2 (List.length (x1)) c3), (1, .slice A6 (List.length (x5)) c7)] := hE
  refine wpIn_seq ?_
  refine region_at ?_
  refine segN 1 (j := 1) [(4, .bool false)] hE (by kernel_rfl) rfl (fun a hE => ?_)
  refine at_end rfl ?_
  refine wpIn_seq ?_
  refine wpIn_seq ?_
  refine region_at ?_
  refine segN 5 (j := 5) [(10, .bool ((!decide (((List.length (x1) : Nat) : Int) = ((List.length (x5) : Nat) : Int)))))] hE (by kernel_rfl) rfl (fun a hE => ?_)
  refine at_end rfl ?_
  refine cond_split hE (b := (!decide (((List.length (x1) : Nat) : Int) = ((List.length (x5) : Nat) : Int)))) rfl (fun hb => ?_) (fun hb => ?_)
  · replace hf := cond_t hb hf
    clear hb
    refine wpIn_seq ?_
    refine region_at ?_
    refine segN 1 (j := 1) [(4, .bool false)] hE (by kernel_rfl) rfl (fun a hE => ?_)
    refine at_end rfl ?_
    refine wpIn_ret ?_
    obtain rfl := Option.some.inj hf
    repeat (with_reducible first | refine then_ret ?_ | refine block_ret ?_ | refine qx_ret ?_)
    refine ret_gen ([.bool false]) hE (by rw [show Try.f14.results.toList = [.tmp 4] from rfl]; exact ⟨_, _, rfl, rfl, rfl⟩) ?_
    exact ⟨_, rfl, D0, rfl, hS⟩
  · replace hf := cond_f hb hf
    clear hb
    refine wpIn_skip ?_
    refine wpIn_seq ?_
    refine wpIn_seq ?_
    refine region_at ?_
    refine segN 1 (j := 1) [(5, .int .i64 ((0 : Int)))] hE (by kernel_rfl) rfl (fun a hE => ?_)
    refine at_end rfl ?_
    obtain ⟨s1152, hf, hs1153⟩ := bind_some hf
    refine block_loop (fun a w => ∃ (z1149 : Unit), ∃ (D1150 : Snap), Env a 26 [] [] ∧ Stp g w0 D0 [] w D1150 [] ∧ Snap.le D0 D1150 ∧ (Sum.inr z1149) = s1152) (fun k a w => ∃ (y1047 : Int), ∃ (D1048 : Snap), Env a 26 [] [(0, .slice A2 (List.length (x1)) c3), (1, .slice A6 (List.length (x5)) c7), (5, .int .i64 (y1047))] ∧ Stp g w0 D0 [] w D1048 [] ∧ Snap.le D0 D1048 ∧ inspeximusref01_Bytes_l1.l K x1 x5 k y1047 = some s1152) K ?_ ?_ ?_
    · exact ⟨(0 : Int), D0, hE.weak (by kernel_rfl), hS, Snap.le.refl _, hf⟩
    · clear hE hS hf
      rintro a w ⟨z1149, D1150, hE, hS, le1151, rfl⟩
      have hf := hs1153
      clear hs1153
      refine wpIn_seq ?_
      refine region_at ?_
      refine segN 1 (j := 1) [(4, .bool true)] hE (by kernel_rfl) rfl (fun a hE => ?_)
      refine at_end rfl ?_
      refine wpIn_ret ?_
      obtain rfl := Option.some.inj hf
      repeat (with_reducible first | refine then_ret ?_ | refine block_ret ?_ | refine qx_ret ?_)
      refine ret_gen ([.bool true]) hE (by rw [show Try.f14.results.toList = [.tmp 4] from rfl]; exact ⟨_, _, rfl, rfl, rfl⟩) ?_
      exact ⟨_, rfl, D1150, rfl, hS⟩
    · clear hE hS hf
      rintro k a w ⟨y1047, D1048, hE, hS, le1049, hf⟩
      obtain ⟨k, rfl, hf⟩ := inspeximusref01_Bytes_l1.some _ _ hf
      refine ⟨k, rfl, ?_⟩
      unfold inspeximusref01_Bytes_l1.b at hf
      refine wpIn_seq ?_
      refine wpIn_seq ?_
      refine region_at ?_
      refine segN 4 (j := 4) [(14, .bool ((decide (y1047 < ((List.length (x1) : Nat) : Int)))))] hE (by kernel_rfl) rfl (fun a hE => ?_)
      refine at_end rfl ?_
      refine cond_split hE (b := (decide (y1047 < ((List.length (x1) : Nat) : Int)))) rfl (fun hb => ?_) (fun hb => ?_)
      · replace hf := cond_t hb hf
        clear hb
        refine wpIn_skip ?_
        refine wpIn_seq ?_
        refine wpIn_block ?_
        refine wpIn_seq ?_
        refine region_draw (fun j => Keeps (mfOf [] j)) (by kernel_rfl) ?_
        have hS := hS.drew
        first | generalize w.drew = w at hS ⊢ | generalize w0.drew = w at hS ⊢
        refine tW 0 1 (fuel := 8) (by kernel_rfl) hE (fun M => tk_pure (.slice A2 (List.length (x1)) c3) hE rfl rfl rfl rfl (fun _ _ _ e => by cases e) (by kernel_rfl) (fun a hE => ?_))
        refine tW 1 3 (fuel := 7) (by kernel_rfl) hE (fun M => tk_pure (.int .i64 (y1047)) hE rfl rfl rfl rfl (fun _ _ _ e => by cases e) (by kernel_rfl) (fun a hE => ?_))
        refine tW 4 19 (fuel := 6) (by kernel_rfl) hE (fun M => tk_pure (.slice A6 (List.length (x5)) c7) hE rfl rfl rfl rfl (fun _ _ _ e => by cases e) (by kernel_rfl) (fun a hE => ?_))
        refine tW 5 51 (fuel := 5) (by kernel_rfl) hE (fun M => tk_pure (.int .i64 (y1047)) hE rfl rfl rfl rfl (fun _ _ _ e => by cases e) (by kernel_rfl) (fun a hE => ?_))
        obtain ⟨x1226, h1227, hf⟩ := bind_some hf
        refine tW 2 55 (fuel := 4) (by kernel_rfl) hE (fun M => g_index (K := (kdInt .u8)) (e := 5) (by_ := 1) (zl := 1) rfl rfl rfl rfl hE rfl rfl rfl (by kernel_rfl) rfl (h4.mono le1049) h1227 (fun a b1228 o1229 hE h1230 => ?_))
        obtain ⟨cs1231, C1232, T1233, fr1234, hr1235, hb1236, hc1237⟩ := h1230
        obtain rfl := hr1235
        refine tT 3 63 (fuel := 3) (by kernel_rfl) hE (tk_loadX (off0 := o1229) (off := 0) (c := [.int .u8 (x1226)]) (.int .u8 (x1226)) rfl rfl rfl rfl hE rfl hS rfl hb1236 hc1237 (by kernel_rfl) (by kernel_rfl) (kD hS dn_nil) (fun a hE => ?_))
        obtain ⟨x1238, h1239, hf⟩ := bind_some hf
        refine tW 6 127 (fuel := 2) (by kernel_rfl) hE (fun M => g_index (K := (kdInt .u8)) (e := 5) (by_ := 1) (zl := 1) rfl rfl rfl rfl hE rfl rfl rfl (by kernel_rfl) rfl (h8.mono le1049) h1239 (fun a b1240 o1241 hE h1242 => ?_))
        obtain ⟨cs1243, C1244, T1245, fr1246, hr1247, hb1248, hc1249⟩ := h1242
        obtain rfl := hr1247
        refine tT 7 255 (fuel := 1) (by kernel_rfl) hE (tk_loadX (off0 := o1241) (off := 0) (c := [.int .u8 (x1238)]) (.int .u8 (x1238)) rfl rfl rfl rfl hE rfl hS rfl hb1248 hc1249 (by kernel_rfl) (by kernel_rfl) (kD hS dn_nil) (fun a hE => ?_))
        refine tW 8 511 (fuel := 0) (by kernel_rfl) hE (fun M => tk_pure (.bool ((!decide (x1226 = x1238)))) hE rfl rfl rfl rfl (fun _ _ _ e => by cases e) (by kernel_rfl) (fun a hE => ?_))
        refine doneG (by kernel_rfl) ?_
        refine cond_split hE (b := (!decide (x1226 = x1238))) rfl (fun hb => ?_) (fun hb => ?_)
        · replace hf := cond_t hb hf
          clear hb
          refine wpIn_seq ?_
          refine region_at ?_
          refine segN 1 (j := 1) [(4, .bool false)] hE (by kernel_rfl) rfl (fun a hE => ?_)
          refine at_end rfl ?_
          refine wpIn_ret ?_
          obtain rfl := Option.some.inj hf
          replace hf := hs1153
          obtain rfl := Option.some.inj hf
          repeat (with_reducible first | refine then_ret ?_ | refine block_ret ?_ | refine qx_ret ?_)
          refine ret_gen ([.bool false]) hE (by rw [show Try.f14.results.toList = [.tmp 4] from rfl]; exact ⟨_, _, rfl, rfl, rfl⟩) ?_
          exact ⟨_, rfl, D1048, rfl, hS⟩
        · replace hf := cond_f hb hf
          clear hb
          refine wpIn_skip ?_
          refine region_at ?_
          refine segN 3 (j := 3) [(5, .int .i64 ((IntKind.wrap .i64 (y1047 + (1 : Int)))))] hE (by kernel_rfl) rfl (fun a hE => ?_)
          refine at_end rfl ?_
          exact ⟨(IntKind.wrap .i64 (y1047 + (1 : Int))), D1048, hE.weak (by kernel_rfl), hS, le1049, hf⟩
      · replace hf := cond_f hb hf
        clear hb
        refine wpIn_exit ?_
        obtain rfl := Option.some.inj hf
        exact ⟨(), D1048, hE.weak (by kernel_rfl), hS, le1049, rfl⟩

set_option maxRecDepth 100000 in
set_option maxHeartbeats 4000000 in
theorem inspeximuslaw17_BundleOne.calls {K : Nat} {g w0 : World} {D0 : Snap} {x1 : (List Int)} {x5 : Int} {A2 : Option Addr} {c3 : Nat} {r : (Bool)} (hf : inspeximuslaw17_BundleOne.f K x1 x5 = some r) (hS0 : St g w0 D0 []) (h4 : Sl (kdInt .u8) D0 A2 c3 (x1)) :
    CallsIn (Fw none) 0 Try.prog 4 (List.toArray [.slice A2 (List.length (x1)) c3, .int .u16 (x5)]) w0 (fun e w' => ∃ v, e = .returned v ∧ ∃ (D1 : Snap), v = .bool (r) ∧ Stp g w0 D0 [] w' D1 []) := by
  unfold inspeximuslaw17_BundleOne.f at hf
  have hS := Stp.refl hS0
  clear hS0
  refine calls_body (n := 75) Try.func4 rfl Try.ntmps4 rfl (fun a hE => ?_)
  have hE : Env a 75 [] [(0, .slice A2 (List.length (x1)) c3), (1, .int .u16 (x5))] := hE
  refine wpIn_seq ?_
  refine region_at ?_
  refine segN 1 (j := 1) [(4, .bool false)] hE (by kernel_rfl) rfl (fun a hE => ?_)
  refine at_end rfl ?_
  refine wpIn_seq ?_
  refine wpIn_seq ?_
  refine region_at ?_
  obtain ⟨r183, h184, hf⟩ := bind_some hf
  refine at_op (op_call rfl rfl rfl rfl hE rfl rfl rfl rfl (by kernel_rfl) (inspeximuslaw17_alive.calls (g := g) h184 (hS.st.fore (L := [])) ) (fun a v w hR hE => ?_)) rfl
  obtain ⟨D185, rfl, hS1⟩ := hR
  have le187 := hS1.dle
  have hS := hS.callR hS1 rfl .n
  clear hS1
  refine segN 1 (j := 2) [(12, .bool ((!r183)))] hE (by kernel_rfl) rfl (fun a hE => ?_)
  refine at_end rfl ?_
  refine cond_split hE (b := (!r183)) rfl (fun hb => ?_) (fun hb => ?_)
  · replace hf := cond_t hb hf
    clear hb
    refine wpIn_seq ?_
    refine region_at ?_
    refine segN 1 (j := 1) [(4, .bool false)] hE (by kernel_rfl) rfl (fun a hE => ?_)
    refine at_end rfl ?_
    refine wpIn_ret ?_
    obtain rfl := Option.some.inj hf
    repeat (with_reducible first | refine then_ret ?_ | refine block_ret ?_ | refine qx_ret ?_)
    refine ret_gen ([.bool false]) hE (by rw [show Try.f4.results.toList = [.tmp 4] from rfl]; exact ⟨_, _, rfl, rfl, rfl⟩) ?_
    exact ⟨_, rfl, D185, rfl, hS⟩
  · replace hf := cond_f hb hf
    clear hb
    refine wpIn_skip ?_
    refine wpIn_seq ?_
    obtain ⟨j348, hj349, hf⟩ := jn_elim hf
    refine seq_join (fun a w => ∃ (y193 : Bool), ∃ (D194 : Snap), Env a 75 [] [(0, .slice A2 (List.length (x1)) c3), (1, .int .u16 (x5)), (20, .bool (y193))] ∧ Stp g w0 D0 [] w D194 [] ∧ Snap.le D185 D194 ∧ j348 y193 = some r) ?_ ?_
    · clear hj349
      refine region_at ?_
      refine segN 4 (j := 4) [(16, .bool ((decide ((4000 : Int) < ((List.length (x1) : Nat) : Int)))))] hE (by kernel_rfl) rfl (fun a hE => ?_)
      cases hb : (decide ((4000 : Int) < ((List.length (x1) : Nat) : Int)))
      · replace hf := cond_f hb hf
        have hE := hE.know (t := 16) (b := (decide ((4000 : Int) < ((List.length (x1) : Nat) : Int)))) (b' := false) rfl hb
        clear hb
        refine segN 4 (j := 8) [(20, .bool ((decide (((List.length (x1) : Nat) : Int) = (0 : Int)))))] hE (by kernel_rfl) rfl (fun a hE => ?_)
        refine at_end rfl ?_
        exact ⟨(decide (((List.length (x1) : Nat) : Int) = (0 : Int))), D185, hE.weak (by kernel_rfl), hS, Snap.le.refl _, hf⟩
      · replace hf := cond_t hb hf
        have hE := hE.know (t := 16) (b := (decide ((4000 : Int) < ((List.length (x1) : Nat) : Int)))) (b' := true) rfl hb
        clear hb
        refine segN 4 (j := 8) [(20, .bool true)] hE (by kernel_rfl) rfl (fun a hE => ?_)
        refine at_end rfl ?_
        exact ⟨true, D185, hE.weak (by kernel_rfl), hS, Snap.le.refl _, hf⟩
    · clear hE hS
      rintro a w ⟨y193, D194, hE, hS, le195, hf⟩
      replace hf := hj349 _ hf
      clear hj349
      refine cond_split hE (b := y193) rfl (fun hb => ?_) (fun hb => ?_)
      · replace hf := cond_t hb hf
        clear hb
        refine wpIn_seq ?_
        refine region_at ?_
        refine segN 1 (j := 1) [(4, .bool true)] hE (by kernel_rfl) rfl (fun a hE => ?_)
        refine at_end rfl ?_
        refine wpIn_ret ?_
        obtain rfl := Option.some.inj hf
        repeat (with_reducible first | refine then_ret ?_ | refine block_ret ?_ | refine qx_ret ?_)
        refine ret_gen ([.bool true]) hE (by rw [show Try.f4.results.toList = [.tmp 4] from rfl]; exact ⟨_, _, rfl, rfl, rfl⟩) ?_
        exact ⟨_, rfl, D194, rfl, hS⟩
      · replace hf := cond_f hb hf
        clear hb
        refine wpIn_skip ?_
        refine wpIn_seq ?_
        refine region_at ?_
        refine segN 1 (j := 1) [(22, .slice A2 (List.length (x1)) c3)] hE (by kernel_rfl) rfl (fun a hE => ?_)
        obtain ⟨r196, h197, hf⟩ := bind_some hf
        refine at_op (op_call rfl rfl rfl rfl hE rfl rfl rfl rfl (by kernel_rfl) (bundle_Get.calls (g := g) h197 (hS.st.fore (L := [])) (h4.mono (Snap.le.trans le187 le195))) (fun a v w hR hE => ?_)) rfl
        obtain ⟨D198, A200, c201, A203, c204, rfl, hS1, h202, h205⟩ := hR
        have le206 := hS1.dle
        have hS := hS.callR hS1 rfl .n
        clear hS1
        refine segN 3 (j := 5) [(24, .agg (List.toArray (c_T_api_Bundle (r196.1) A200 c201 A203 c204))), (25, .int .i64 (r196.2))] hE (by kernel_rfl) rfl (fun a hE => ?_)
        refine at_op (op_alloc (z := .agg (List.toArray (c_T_api_Bundle (z_T_api_Bundle) none 0 none 0))) rfl rfl rfl rfl hE rfl hS (by kernel_rfl) (fun a b207 w _ hE hS => ?_)) rfl
        refine at_op (op_store (v := .agg (List.toArray (c_T_api_Bundle (r196.1) A200 c201 A203 c204))) (c_T_api_Bundle (r196.1) A200 c201 A203 c204) rfl rfl rfl rfl hE hS rfl rfl (by kernel_rfl) (by kernel_rfl) (by kernel_rfl) (by kernel_rfl) (by kernel_rfl) (fun a w _ hE hS => ?_)) rfl
        refine segN 1 (j := 8) [(6, .int .i64 (r196.2))] hE (by kernel_rfl) rfl (fun a hE => ?_)
        refine at_end rfl ?_
        refine wpIn_seq ?_
        refine wpIn_seq ?_
        refine region_at ?_
        refine segN 2 (j := 2) [(27, .bool ((!decide (r196.2 = (0 : Int)))))] hE (by kernel_rfl) rfl (fun a hE => ?_)
        refine at_end rfl ?_
        refine cond_split hE (b := (!decide (r196.2 = (0 : Int)))) rfl (fun hb => ?_) (fun hb => ?_)
        · replace hf := cond_t hb hf
          clear hb
          refine wpIn_seq ?_
          refine region_at ?_
          refine at_op (op_tk hE (g_fieldAddr (fo := 35) (ft := 27) 35 rfl rfl rfl rfl hE rfl rfl (by kernel_rfl) rfl (fun a hE => ?_))) rfl
          refine at_op (op_tk hE (tk_load 0 (.slice A203 (List.length (r196.1.fItems)) c204) rfl rfl rfl rfl hE rfl hS rfl rfl (by kernel_rfl) (kL (j := 0) hS rfl List.not_mem_nil) (fun a hE => ?_))) rfl
          refine segN 3 (j := 5) [(32, .bool ((decide (((List.length (r196.1.fItems) : Nat) : Int) = (0 : Int)))))] hE (by kernel_rfl) rfl (fun a hE => ?_)
          cases hb : (decide (((List.length (r196.1.fItems) : Nat) : Int) = (0 : Int)))
          · replace hf := cond_f hb hf
            have hE := hE.know (t := 32) (b := (decide (((List.length (r196.1.fItems) : Nat) : Int) = (0 : Int)))) (b' := false) rfl hb
            clear hb
            refine segN 6 (j := 11) [(4, .bool false)] hE (by kernel_rfl) rfl (fun a hE => ?_)
            refine at_end rfl ?_
            refine wpIn_ret ?_
            obtain rfl := Option.some.inj hf
            repeat (with_reducible first | refine then_ret ?_ | refine block_ret ?_ | refine qx_ret ?_)
            refine ret_gen ([.bool false]) hE (by rw [show Try.f4.results.toList = [.tmp 4] from rfl]; exact ⟨_, _, rfl, rfl, rfl⟩) ?_
            have hS := hS.pk .n rfl
            exact ⟨_, rfl, D198, rfl, hS⟩
          · replace hf := cond_t hb hf
            have hE := hE.know (t := 32) (b := (decide (((List.length (r196.1.fItems) : Nat) : Int) = (0 : Int)))) (b' := true) rfl hb
            clear hb
            refine at_op (op_tk hE (tk_load 0 (.agg (List.toArray (c_T_api_Bundle (r196.1) A200 c201 A203 c204))) rfl rfl rfl rfl hE rfl hS rfl rfl (by kernel_rfl) (kL (j := 0) hS rfl List.not_mem_nil) (fun a hE => ?_))) rfl
            obtain ⟨r239, h240, hf⟩ := bind_some hf
            refine at_op (op_call rfl rfl rfl rfl hE rfl rfl rfl rfl (by kernel_rfl) (bundle_Put.calls (g := g) h240 (hS.st.fore (L := [])) h202 h205) (fun a v w hR hE => ?_)) rfl
            obtain ⟨D241, A243, c244, q245, rfl, hS1, h246⟩ := hR
            have le248 := hS1.dle
            have hS := hS.callR hS1 rfl (.c .n)
            clear hS1
            refine segN 4 (j := 11) [(4, .bool ((decide ((0 : Int) < ((List.length (r239) : Nat) : Int)))))] hE (by kernel_rfl) rfl (fun a hE => ?_)
            refine at_end rfl ?_
            refine wpIn_ret ?_
            obtain rfl := Option.some.inj hf
            repeat (with_reducible first | refine then_ret ?_ | refine block_ret ?_ | refine qx_ret ?_)
            refine ret_gen ([.bool ((decide ((0 : Int) < ((List.length (r239) : Nat) : Int))))]) hE (by rw [show Try.f4.results.toList = [.tmp 4] from rfl]; exact ⟨_, _, rfl, rfl, rfl⟩) ?_
            have hS := hS.pk .n rfl
            exact ⟨_, rfl, D241, rfl, hS⟩
        · replace hf := cond_f hb hf
          clear hb
          refine wpIn_skip ?_
          refine wpIn_seq ?_
          refine region_at ?_
          refine segN 5 (j := 5) [(39, .slice A2 (List.length (x1)) c3), (41, .int .i64 ((IntKind.wrap .i64 x5))), (43, .int .i64 (((List.length (x1) : Nat) : Int)))] hE (by kernel_rfl) rfl (fun a hE => ?_)
          obtain ⟨hq249, hf⟩ := chk_not hf
          refine at_op (op_tk hE (tk_bin (r := .int .i64 ((Int.tmod (IntKind.wrap .i64 x5) ((List.length (x1) : Nat) : Int)))) rfl rfl rfl rfl hE rfl rfl rfl (rem_run hq249) (fun a hE => ?_))) rfl
          obtain ⟨l250, h251, hf⟩ := bind_some hf
          refine at_op (op_tk hE (g_slice (K := (kdInt .u8)) (e := 5) (by_ := 1) (zl := 1) rfl rfl rfl rfl hE rfl rfl (by kernel_rfl) rfl ⟨_, rfl⟩ (h4.mono (Snap.le.trans (Snap.le.trans le187 le195) le206)) h251 (fun a A252 c253 hE h254 => ?_))) rfl
          obtain ⟨r255, h256, hf⟩ := bind_some hf
          refine at_op (op_call rfl rfl rfl rfl hE rfl rfl rfl rfl (by kernel_rfl) (bundle_Get.calls (g := g) h256 (hS.st.fore (L := [])) h254) (fun a v w hR hE => ?_)) rfl
          obtain ⟨D257, A259, c260, A262, c263, rfl, hS1, h261, h264⟩ := hR
          have le265 := hS1.dle
          have hS := hS.callR hS1 rfl .n
          clear hS1
          refine segN 3 (j := 11) [(47, .agg (List.toArray (c_T_api_Bundle (r255.1) A259 c260 A262 c263))), (48, .int .i64 (r255.2))] hE (by kernel_rfl) rfl (fun a hE => ?_)
          refine at_op (op_alloc (z := .agg (List.toArray (c_T_api_Bundle (z_T_api_Bundle) none 0 none 0))) rfl rfl rfl rfl hE rfl hS (by kernel_rfl) (fun a b266 w _ hE hS => ?_)) rfl
          refine at_op (op_store (v := .agg (List.toArray (c_T_api_Bundle (r255.1) A259 c260 A262 c263))) (c_T_api_Bundle (r255.1) A259 c260 A262 c263) rfl rfl rfl rfl hE hS rfl rfl (by kernel_rfl) (by kernel_rfl) (by kernel_rfl) (by kernel_rfl) (by kernel_rfl) (fun a w _ hE hS => ?_)) rfl
          refine segN 1 (j := 14) [(8, .int .i64 (r255.2))] hE (by kernel_rfl) rfl (fun a hE => ?_)
          refine at_end rfl ?_
          refine wpIn_seq ?_
          refine region_at ?_
          refine segN 5 (j := 5) [(50, .slice A2 (List.length (x1)) c3), (52, .int .i64 (((List.length (x1) : Nat) : Int))), (54, .int .i64 (((List.length (x1) : Nat) : Int)))] hE (by kernel_rfl) rfl (fun a hE => ?_)
          obtain ⟨l268, h269, hf⟩ := bind_some hf
          refine at_op (op_tk hE (tk_sliceFull (K := (kdInt .u8)) (e := 5) (by_ := 1) (zl0 := 1) rfl rfl rfl rfl hE rfl rfl (by kernel_rfl) rfl rfl rfl (h4.mono (Snap.le.trans (Snap.le.trans (Snap.le.trans le187 le195) le206) le265)) h269 (fun a A270 hE h271 => ?_))) rfl
          have h273 := OwnL.full 5 h271 rfl
          have hS := hS.nils
          refine segN 2 (j := 8) [(57, .int .u8 ((IntKind.wrap .u8 x5)))] hE (by kernel_rfl) rfl (fun a hE => ?_)
          refine at_op (op_buildSlice (K := (kdInt .u8)) (e := 5) (cs := [.int .u8 ((IntKind.wrap .u8 x5))] ++ []) ([(IntKind.wrap .u8 x5)] : List Int) rfl rfl rfl rfl hE rfl hS rfl (by kernel_rfl) rfl rfl (by exact (show RL (kdInt .u8) D257 ([(IntKind.wrap .u8 x5)] : List Int) ([.int .u8 ((IntKind.wrap .u8 x5))] ++ []) from ⟨_, _, rfl, rfl, rfl⟩)) (fun a A274 q275 w _ hE h276 hS => ?_)) rfl
          obtain ⟨D278, q281, le279, hS, h282, h280⟩ := hS.lent h276
          have hS := hS.pk (.c 1 rfl (.c 0 rfl (.c 2 rfl (.c 3 rfl .n)))) rfl
          obtain ⟨l283, h284, hf⟩ := bind_some hf
          refine at_op (g_append (K := (kdInt .u8)) (e := 5) (bytes := 1) (l := l268) (m := ([(IntKind.wrap .u8 x5)] : List Int)) rfl rfl rfl rfl hE rfl hS rfl rfl (by kernel_rfl) rfl rfl (h273.mono le279) h280 h284 (fun a A285 c286 q287 w _ hE h288 hS => ?_)) rfl
          obtain ⟨D290, q293, le291, hS, h294, h292⟩ := hS.lent h288
          obtain ⟨r295, h296, hf⟩ := bind_some hf
          refine at_op (op_call rfl rfl rfl rfl hE rfl rfl rfl rfl (by kernel_rfl) (bundle_Get.calls (g := g) h296 (hS.st.fore (L := [])) h292) (fun a v w hR hE => ?_)) rfl
          obtain ⟨D297, A299, c300, A302, c303, rfl, hS1, h301, h304⟩ := hR
          have le305 := hS1.dle
          have hS := hS.callR hS1 rfl .n
          clear hS1
          refine segN 3 (j := 14) [(61, .agg (List.toArray (c_T_api_Bundle (r295.1) A299 c300 A302 c303))), (62, .int .i64 (r295.2))] hE (by kernel_rfl) rfl (fun a hE => ?_)
          refine at_op (op_alloc (z := .agg (List.toArray (c_T_api_Bundle (z_T_api_Bundle) none 0 none 0))) rfl rfl rfl rfl hE rfl hS (by kernel_rfl) (fun a b306 w _ hE hS => ?_)) rfl
          refine at_op (op_store (v := .agg (List.toArray (c_T_api_Bundle (r295.1) A299 c300 A302 c303))) (c_T_api_Bundle (r295.1) A299 c300 A302 c303) rfl rfl rfl rfl hE hS rfl rfl (by kernel_rfl) (by kernel_rfl) (by kernel_rfl) (by kernel_rfl) (by kernel_rfl) (fun a w _ hE hS => ?_)) rfl
          refine segN 1 (j := 17) [(10, .int .i64 (r295.2))] hE (by kernel_rfl) rfl (fun a hE => ?_)
          refine at_end rfl ?_
          refine wpIn_seq ?_
          refine region_at ?_
          refine at_op (op_tk hE (tk_load 4 (.agg (List.toArray (c_T_api_Bundle (r196.1) A200 c201 A203 c204))) rfl rfl rfl rfl hE rfl hS rfl rfl (by kernel_rfl) (kL (j := 4) hS rfl List.not_mem_nil) (fun a hE => ?_))) rfl
          have hS := hS.pk (.c 0 rfl (.c 3 rfl (.c 4 rfl .n))) rfl
          obtain ⟨r328, h329, hf⟩ := bind_some hf
          refine at_op (op_call rfl rfl rfl rfl hE rfl rfl rfl rfl (by kernel_rfl) (bundle_Put.calls (g := g) h329 (hS.st.fore (L := [])) (h202.mono (Snap.le.trans (Snap.le.trans (Snap.le.trans le265 le279) le291) le305)) (h205.mono (Snap.le.trans (Snap.le.trans (Snap.le.trans le265 le279) le291) le305))) (fun a v w hR hE => ?_)) rfl
          obtain ⟨D330, A332, c333, q334, rfl, hS1, h335⟩ := hR
          have le337 := hS1.dle
          have hS := hS.callR hS1 rfl (.c .n)
          clear hS1
          refine segN 1 (j := 3) [(65, .slice A2 (List.length (x1)) c3)] hE (by kernel_rfl) rfl (fun a hE => ?_)
          obtain ⟨D338, q341, le339, hS, h342, h340⟩ := hS.lent h335
          obtain ⟨r343, h344, hf⟩ := bind_some hf
          refine at_op (op_call rfl rfl rfl rfl hE rfl rfl rfl rfl (by kernel_rfl) (inspeximusref01_Bytes.calls (g := g) h344 (hS.st.fore (L := [])) h340 (h4.mono (Snap.le.trans (Snap.le.trans (Snap.le.trans (Snap.le.trans (Snap.le.trans (Snap.le.trans (Snap.le.trans (Snap.le.trans le187 le195) le206) le265) le279) le291) le305) le337) le339))) (fun a v w hR hE => ?_)) rfl
          obtain ⟨D345, rfl, hS1⟩ := hR
          have le347 := hS1.dle
          have hS := hS.callR hS1 rfl .n
          clear hS1
          refine segN 1 (j := 5) [(67, .bool (r343))] hE (by kernel_rfl) rfl (fun a hE => ?_)
          cases hb : r343
          · replace hf := cond_f hb hf
            have hE := hE.know (t := 67) (b := r343) (b' := false) rfl hb
            clear hb
            refine segN 8 (j := 13) [(4, .bool false)] hE (by kernel_rfl) rfl (fun a hE => ?_)
            refine at_end rfl ?_
            refine wpIn_ret ?_
            obtain rfl := Option.some.inj hf
            repeat (with_reducible first | refine then_ret ?_ | refine block_ret ?_ | refine qx_ret ?_)
            refine ret_gen ([.bool false]) hE (by rw [show Try.f4.results.toList = [.tmp 4] from rfl]; exact ⟨_, _, rfl, rfl, rfl⟩) ?_
            have hS := hS.pk .n rfl
            exact ⟨_, rfl, D345, rfl, hS⟩
          · replace hf := cond_t hb hf
            have hE := hE.know (t := 67) (b := r343) (b' := true) rfl hb
            clear hb
            refine segN 4 (j := 9) [(71, .bool ((!decide (r255.2 = (0 : Int)))))] hE (by kernel_rfl) rfl (fun a hE => ?_)
            cases hb : (!decide (r255.2 = (0 : Int)))
            · replace hf := cond_f hb hf
              have hE := hE.know (t := 71) (b := (!decide (r255.2 = (0 : Int)))) (b' := false) rfl hb
              clear hb
              refine segN 4 (j := 13) [(4, .bool false)] hE (by kernel_rfl) rfl (fun a hE => ?_)
              refine at_end rfl ?_
              refine wpIn_ret ?_
              obtain rfl := Option.some.inj hf
              repeat (with_reducible first | refine then_ret ?_ | refine block_ret ?_ | refine qx_ret ?_)
              refine ret_gen ([.bool false]) hE (by rw [show Try.f4.results.toList = [.tmp 4] from rfl]; exact ⟨_, _, rfl, rfl, rfl⟩) ?_
              have hS := hS.pk .n rfl
              exact ⟨_, rfl, D345, rfl, hS⟩
            · replace hf := cond_t hb hf
              have hE := hE.know (t := 71) (b := (!decide (r255.2 = (0 : Int)))) (b' := true) rfl hb
              clear hb
              refine segN 4 (j := 13) [(4, .bool ((decide (r295.2 = (2 : Int)))))] hE (by kernel_rfl) rfl (fun a hE => ?_)
              refine at_end rfl ?_
              refine wpIn_ret ?_
              obtain rfl := Option.some.inj hf
              repeat (with_reducible first | refine then_ret ?_ | refine block_ret ?_ | refine qx_ret ?_)
              refine ret_gen ([.bool ((decide (r295.2 = (2 : Int))))]) hE (by rw [show Try.f4.results.toList = [.tmp 4] from rfl]; exact ⟨_, _, rfl, rfl, rfl⟩) ?_
              have hS := hS.pk .n rfl
              exact ⟨_, rfl, D345, rfl, hS⟩

end Go.Proofs.Ytnnhkfmknlfpbaa
