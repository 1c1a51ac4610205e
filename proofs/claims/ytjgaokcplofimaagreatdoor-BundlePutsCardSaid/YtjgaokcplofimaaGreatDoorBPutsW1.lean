/-
  Proved, text by text: a call of a function of the cut comes to what its plain function computes.
  Conditions: those that each theorem names.
-/
import Derived.Test.YtjgaokcplofimaaGreatDoorProg
import Derived.Test.YtjgaokcplofimaaGreatDoorSepN
import Derived.Test.YtjgaokcplofimaaGreatDoorBPutsW0
set_option linter.unusedVariables false
set_option maxHeartbeats 4000000
namespace Go.Proofs.YtjgaokcplofimaaGreatDoor
open Go Go.Sep
set_option maxRecDepth 100000 in
theorem rec_put.calls {K : Nat} {g w0 : World} {D0 : Snap} {x3 : T_api_Rec} {x10 : T_api_Rec} {b1 : Nat} {A4 : Option Addr} {c5 : Nat} {A7 : Option Addr} {c8 : Nat} {A11 : Option Addr} {c12 : Nat} {A14 : Option Addr} {c15 : Nat} {r : ((List Int))} (hf : rec_put.f K x3 x10 = some r) (hS0 : St g w0 D0 [bx b1 40 (c_T_api_Rec (x10) A11 c12 A14 c15)]) (h6 : Sl kd_T_api_Step D0 A4 c5 (x3.fSteps)) (h9 : Sl (kdInt .u8) D0 A7 c8 (x3.fData)) (h13 : Sl kd_T_api_Step D0 A11 c12 (x10.fSteps)) (h16 : Sl (kdInt .u8) D0 A14 c15 (x10.fData)) :
  CallsIn (Fw none) 0 Tryz.prog 62 (List.toArray [.agg (List.toArray (c_T_api_Rec (x3) A4 c5 A7 c8)), .func (.func 63) #[] #[.pointer (some ⟨b1, 0, none⟩)]]) w0 (fun e w' => ∃ v, e = .returned v ∧ ∃ (D1 : Snap) (A5 : Option Addr) (c4 : Nat) (q2 : Blk), v = .slice A5 (List.length (r)) c4 ∧ Stp g w0 D0 [bx b1 40 (c_T_api_Rec (x10) A11 c12 A14 c15)] w' D1 [bx b1 40 (c_T_api_Rec (x10) A11 c12 A14 c15), q2] ∧ OwnD (kdInt .u8) 5 D1 A5 c4 (r) q2) := by
 unfold rec_put.f at hf
 have hS := Stp.refl hS0
 clear hS0
 refine calls_body (n := 29) Tryz.func62 rfl Tryz.ntmps62 rfl fun a hE => ?_
 have hE : Env a 29 [] [(0, .agg (List.toArray (c_T_api_Rec (x3) A4 c5 A7 c8))), (1, .func (.func 63) #[] #[.pointer (some ⟨b1, 0, none⟩)])] := hE
 refine sq (ra ?_)
 refine at_op (op_box rfl rfl rfl rfl hE rfl hS rfl (fun a b2 w _ hE hS => ?_)) rfl
 refine sN 1 2 [(4, .slice none 0 0)] hE fun a hE => ?_
 refine ae ?_
 refine sq (sq (ra ?_))
 refine sM 1 1 [0] [(6, .agg (List.toArray (c_T_api_Rec (x3) A4 c5 A7 c8)))] hE hS fun a hE => ?_
 obtain ⟨r2, h3, hf⟩ := bs hf
 refine aC rfl rfl rfl rfl hE rfl rfl rfl rfl (rec_Right.calls h3 (hS.st.fore (L := [])) h6 h9) fun a v w hR hE => ?_
 obtain ⟨D3, rfl, hS1⟩ := hR
 have le4 := hS1.dle
 have hS := hS.callR hS1 rfl .n
 refine sN 1 3 [(8, .bool ((!r2)))] hE fun a hE => ?_
 refine ae ?_
 refine cond_split hE (b := (!r2)) rfl (fun hb => ?_) (fun hb => ?_)
 ·replace hf := ct hb hf
  refine sq (ra ?_)
  refine sN 1 1 [(4, .slice none 0 0)] hE fun a hE => ?_
  refine ae ?_
  refine wpIn_ret ?_
  have hS := hS.nils
  obtain rfl := si hf
  refine ret_ ?_
  refine rT 4 (.slice none 0 0) hE ?_
  have hS := hS.p (.d 2 (.d 0 .n))
  exact ⟨_, rfl, D3, none, 0, none, rfl, hS, (OwnD.nil (kdInt .u8) 5 D3)⟩
 replace hf := cf hb hf
 refine wpIn_skip ?_
 obtain ⟨j1, hj1, hf⟩ := jn_elim hf
 refine seq_join (fun a w => ∃ (y1 : (List Int)), ∃ A1, ∃ c1, ∃ q1, ∃ D2, Env a 29 [] [(1, .func (.func 63) #[] #[.pointer (some ⟨b1, 0, none⟩)]), (2, .pointer (some ⟨b2, 0, none⟩)), (5, .slice A1 (List.length (y1)) c1)] ∧ Stp g w0 D0 [bx b1 40 (c_T_api_Rec (x10) A11 c12 A14 c15)] w D2 [bx b1 40 (c_T_api_Rec (x10) A11 c12 A14 c15), bx b2 40 (c_T_api_Rec (x3) A4 c5 A7 c8), q1] ∧ Snap.le D3 D2 ∧ OwnD (kdInt .u8) 5 D2 A1 c1 (y1) q1 ∧ j1 y1 = some r) ?_ ?_
 ·clear hj1
  refine region_draw (fun j => Keeps (mfOf [] j)) (by kernel_rfl) ?_
  have hS := hS.drew
  first | generalize w.drew = w at hS ⊢ | generalize w0.drew = w at hS ⊢
  refine wF 0 1 12 0 3 0 hE fun a hE => ?_
  refine tL 1 3 11 0 (.int .i64 (x3.fKind)) hE hS fun a hE => ?_
  refine wF 4 19 10 0 3 0 hE fun a hE => ?_
  refine tL 5 51 9 0 (.int .i64 (x3.fKind)) hE hS fun a hE => ?_
  refine tL 8 307 8 0 (.agg (List.toArray (c_T_api_Rec (x3) A4 c5 A7 c8))) hE hS fun a hE => ?_
  obtain ⟨r1, h4, hf⟩ := bs hf
  refine oC 2 311 7 rfl rfl rfl rfl hE rfl rfl rfl rfl (wire_Num.calls h4 (hS.st.fore (L := [])) ) fun a v w hR hE => ?_
  obtain ⟨D11, A2, c2, q10, rfl, hS1, h1⟩ := hR
  refine ⟨(hS1.keeps.sub (M' := []) trivial).mono (fun _ h => h), ?_⟩
  have le3 := hS1.dle
  have hS := hS.callR hS1 rfl (.c .n)
  obtain ⟨r16, h5, hf⟩ := bs hf
  refine oC 3 319 6 rfl rfl rfl rfl hE rfl rfl rfl rfl (rec_forms.calls h5 (hS.st.fore (L := [])) ) fun a v w hR hE => ?_
  obtain ⟨D12, rfl, hS1⟩ := hR
  refine ⟨(hS1.keeps.sub (M' := []) trivial).mono (fun _ h => h), ?_⟩
  have le1 := hS1.dle
  have hS := hS.callR hS1 rfl .n
  cases hb : decide (x3.fKind = (0 : Int))
  ·replace hf := cf hb hf
   cases hb : decide (x3.fKind = (1 : Int))
   ·replace hf := cf hb hf
    cases hb : decide (x3.fKind = (2 : Int))
    ·replace hf := cf hb hf
     cases hb : decide (x3.fKind = (3 : Int))
     ·replace hf := cf hb hf
      cases hb : decide (x3.fKind = (4 : Int))
      ·replace hf := cf hb hf
       cases hb : decide (x3.fKind = (5 : Int))
       ·replace hf := cf hb hf
        cases hb : decide (x3.fKind = (6 : Int))
        ·replace hf := cf hb hf
         cases hf
        replace hf := ct hb hf
        have hk2163 := of_decide_eq_true hb
        refine tW 6 383 (fuel := 5) (by kernel_rfl) hE (fun M => tk_indexV (N := 7) (e := 113) (sz := 1) (cs := ([.nilFunc]) ++ (([.func (.func 92) #[] #[]]) ++ (([.func (.func 93) #[] #[]]) ++ (([.func (.func 94) #[] #[]]) ++ (([.func (.func 93) #[] #[]]) ++ (([.func (.func 96) #[] #[]]) ++ (([.func (.func 97) #[] #[]])))))))) 6 (.agg (List.toArray ([.func (.func 97) #[] #[]]))) rfl rfl rfl rfl hE rfl rfl rfl hk2163 (by kernel_rfl) (by kernel_rfl) (by kernel_rfl) (fun a hE => ?_))
        refine tW 7 511 (fuel := 4) (by kernel_rfl) hE (fun M => g_field (cs := [.func (.func 97) #[] #[]]) (fo := 0) (ft := 58) (.func (.func 97) #[] #[]) rfl rfl rfl rfl hE rfl rfl (by kernel_rfl) (by kernel_rfl) (fun a hE => ?_))
        obtain ⟨r3, h7, hf⟩ := bs hf
        refine oC 9 1023 3 rfl rfl rfl rfl hE rfl rfl rfl rfl (rec_forms_3.calls h7 (hS.st.fore (L := [])) (h6.mono (le2 (le2 le4 le3) le1)) (h9.mono (le2 (le2 le4 le3) le1))) fun a v w hR hE => ?_
        obtain ⟨D13, A15, c14, q11, rfl, hS1, h8⟩ := hR
        refine ⟨(hS1.keeps.sub (M' := []) trivial).mono (fun _ h => h), ?_⟩
        have le5 := hS1.dle
        have hS := hS.callR hS1 rfl (.c .n)
        have hS := hS.p (.d 1 (.d 0 (.d 2 (.d 3 .n))))
        obtain ⟨D14, q12, le6, hS, h63, h10⟩ := hS.lent (h1.mono (le2 le1 le5))
        have hS := hS.p (.d 1 (.d 0 (.d 2 (.d 3 .n))))
        obtain ⟨D15, q13, le7, hS, h64, h11⟩ := hS.lent (h8.mono le6)
        refine oG 10 2047 (fuel := 2) (by kernel_rfl) (op_buildSlice (K := (kdSlice (kdInt .u8))) (e := 33) (cs := [.slice A2 (List.length (r1)) c2] ++ ([.slice A15 (List.length (r3)) c14] ++ [])) ([r1, r3] : List (List Int)) rfl rfl rfl rfl hE rfl hS rfl (by kernel_rfl) rfl rfl (by exact ⟨_, _, rfl, (kslice (h10.mono le7)), ⟨_, _, rfl, (kslice h11), rfl⟩⟩) (fun a A21 q14 w hkp hE h12 hS => ⟨hkp.mono (fun _ h => absurd h List.not_mem_nil), ?_⟩))
        clear hkp
        obtain ⟨D16, q15, le24, hS, h65, h14⟩ := hS.lent h12
        obtain ⟨r4, h15, hf⟩ := bs hf
        refine oC 11 4095 1 rfl rfl rfl rfl hE rfl rfl rfl rfl (wire_All.calls h15 (hS.st.fore (L := [])) h14) fun a v w hR hE => ?_
        obtain ⟨D4, A6, c6, q3, rfl, hS1, h17⟩ := hR
        refine ⟨(hS1.keeps.sub (M' := []) trivial).mono (fun _ h => h), ?_⟩
        have le25 := hS1.dle
        have hS := hS.callR hS1 rfl (.c .n)
        refine wP 12 8191 0 (.slice A6 (List.length (r4)) c6) hE fun a hE => ?_
        refine doneG (by kernel_rfl) ?_
        have hS := hS.p (.d 5 (.d 4 (.d 0 .n)))
        exact ⟨r4, A6, c6, q3, D4, hE.wk, hS, (le2 (le2 (le2 (le2 (le2 (le2 le3 le1) le5) le6) le7) le24) le25), h17, hf⟩
       replace hf := ct hb hf
       have hk2123 := of_decide_eq_true hb
       refine tW 6 383 (fuel := 5) (by kernel_rfl) hE (fun M => tk_indexV (N := 7) (e := 113) (sz := 1) (cs := ([.nilFunc]) ++ (([.func (.func 92) #[] #[]]) ++ (([.func (.func 93) #[] #[]]) ++ (([.func (.func 94) #[] #[]]) ++ (([.func (.func 93) #[] #[]]) ++ (([.func (.func 96) #[] #[]]) ++ (([.func (.func 97) #[] #[]])))))))) 5 (.agg (List.toArray ([.func (.func 96) #[] #[]]))) rfl rfl rfl rfl hE rfl rfl rfl hk2123 (by kernel_rfl) (by kernel_rfl) (by kernel_rfl) (fun a hE => ?_))
       refine tW 7 511 (fuel := 4) (by kernel_rfl) hE (fun M => g_field (cs := [.func (.func 96) #[] #[]]) (fo := 0) (ft := 58) (.func (.func 96) #[] #[]) rfl rfl rfl rfl hE rfl rfl (by kernel_rfl) (by kernel_rfl) (fun a hE => ?_))
       obtain ⟨r5, h18, hf⟩ := bs hf
       refine oC 9 1023 3 rfl rfl rfl rfl hE rfl rfl rfl rfl (rec_forms_2.calls h18 (hS.st.fore (L := [])) (h6.mono (le2 (le2 le4 le3) le1)) (h9.mono (le2 (le2 le4 le3) le1))) fun a v w hR hE => ?_
       obtain ⟨D17, A16, c16, q16, rfl, hS1, h19⟩ := hR
       refine ⟨(hS1.keeps.sub (M' := []) trivial).mono (fun _ h => h), ?_⟩
       have le8 := hS1.dle
       have hS := hS.callR hS1 rfl (.c .n)
       have hS := hS.p (.d 1 (.d 0 (.d 2 (.d 3 .n))))
       obtain ⟨D18, q17, le9, hS, h66, h20⟩ := hS.lent (h1.mono (le2 le1 le8))
       have hS := hS.p (.d 1 (.d 0 (.d 2 (.d 3 .n))))
       obtain ⟨D19, q18, le10, hS, h67, h21⟩ := hS.lent (h19.mono le9)
       refine oG 10 2047 (fuel := 2) (by kernel_rfl) (op_buildSlice (K := (kdSlice (kdInt .u8))) (e := 33) (cs := [.slice A2 (List.length (r1)) c2] ++ ([.slice A16 (List.length (r5)) c16] ++ [])) ([r1, r5] : List (List Int)) rfl rfl rfl rfl hE rfl hS rfl (by kernel_rfl) rfl rfl (by exact ⟨_, _, rfl, (kslice (h20.mono le10)), ⟨_, _, rfl, (kslice h21), rfl⟩⟩) (fun a A22 q19 w hkp hE h22 hS => ⟨hkp.mono (fun _ h => absurd h List.not_mem_nil), ?_⟩))
       clear hkp
       obtain ⟨D20, q20, le26, hS, h68, h23⟩ := hS.lent h22
       obtain ⟨r6, h24, hf⟩ := bs hf
       refine oC 11 4095 1 rfl rfl rfl rfl hE rfl rfl rfl rfl (wire_All.calls h24 (hS.st.fore (L := [])) h23) fun a v w hR hE => ?_
       obtain ⟨D5, A8, c7, q4, rfl, hS1, h25⟩ := hR
       refine ⟨(hS1.keeps.sub (M' := []) trivial).mono (fun _ h => h), ?_⟩
       have le27 := hS1.dle
       have hS := hS.callR hS1 rfl (.c .n)
       refine wP 12 8191 0 (.slice A8 (List.length (r6)) c7) hE fun a hE => ?_
       refine doneG (by kernel_rfl) ?_
       have hS := hS.p (.d 5 (.d 4 (.d 0 .n)))
       exact ⟨r6, A8, c7, q4, D5, hE.wk, hS, (le2 (le2 (le2 (le2 (le2 (le2 le3 le1) le8) le9) le10) le26) le27), h25, hf⟩
      replace hf := ct hb hf
      have hk2083 := of_decide_eq_true hb
      refine tW 6 383 (fuel := 5) (by kernel_rfl) hE (fun M => tk_indexV (N := 7) (e := 113) (sz := 1) (cs := ([.nilFunc]) ++ (([.func (.func 92) #[] #[]]) ++ (([.func (.func 93) #[] #[]]) ++ (([.func (.func 94) #[] #[]]) ++ (([.func (.func 93) #[] #[]]) ++ (([.func (.func 96) #[] #[]]) ++ (([.func (.func 97) #[] #[]])))))))) 4 (.agg (List.toArray ([.func (.func 93) #[] #[]]))) rfl rfl rfl rfl hE rfl rfl rfl hk2083 (by kernel_rfl) (by kernel_rfl) (by kernel_rfl) (fun a hE => ?_))
      refine tW 7 511 (fuel := 4) (by kernel_rfl) hE (fun M => g_field (cs := [.func (.func 93) #[] #[]]) (fo := 0) (ft := 58) (.func (.func 93) #[] #[]) rfl rfl rfl rfl hE rfl rfl (by kernel_rfl) (by kernel_rfl) (fun a hE => ?_))
      obtain ⟨r7, h26, hf⟩ := bs hf
      refine oC 9 1023 3 rfl rfl rfl rfl hE rfl rfl rfl rfl (rec_call.calls h26 (hS.st.fore (L := [])) (h6.mono (le2 (le2 le4 le3) le1)) (h9.mono (le2 (le2 le4 le3) le1))) fun a v w hR hE => ?_
      obtain ⟨D21, A17, c17, q21, rfl, hS1, h27⟩ := hR
      refine ⟨(hS1.keeps.sub (M' := []) trivial).mono (fun _ h => h), ?_⟩
      have le11 := hS1.dle
      have hS := hS.callR hS1 rfl (.c .n)
      have hS := hS.p (.d 1 (.d 0 (.d 2 (.d 3 .n))))
      obtain ⟨D22, q22, le12, hS, h69, h28⟩ := hS.lent (h1.mono (le2 le1 le11))
      have hS := hS.p (.d 1 (.d 0 (.d 2 (.d 3 .n))))
      obtain ⟨D23, q23, le13, hS, h70, h29⟩ := hS.lent (h27.mono le12)
      refine oG 10 2047 (fuel := 2) (by kernel_rfl) (op_buildSlice (K := (kdSlice (kdInt .u8))) (e := 33) (cs := [.slice A2 (List.length (r1)) c2] ++ ([.slice A17 (List.length (r7)) c17] ++ [])) ([r1, r7] : List (List Int)) rfl rfl rfl rfl hE rfl hS rfl (by kernel_rfl) rfl rfl (by exact ⟨_, _, rfl, (kslice (h28.mono le13)), ⟨_, _, rfl, (kslice h29), rfl⟩⟩) (fun a A23 q24 w hkp hE h30 hS => ⟨hkp.mono (fun _ h => absurd h List.not_mem_nil), ?_⟩))
      clear hkp
      obtain ⟨D24, q25, le28, hS, h71, h31⟩ := hS.lent h30
      obtain ⟨r8, h32, hf⟩ := bs hf
      refine oC 11 4095 1 rfl rfl rfl rfl hE rfl rfl rfl rfl (wire_All.calls h32 (hS.st.fore (L := [])) h31) fun a v w hR hE => ?_
      obtain ⟨D6, A9, c9, q5, rfl, hS1, h33⟩ := hR
      refine ⟨(hS1.keeps.sub (M' := []) trivial).mono (fun _ h => h), ?_⟩
      have le29 := hS1.dle
      have hS := hS.callR hS1 rfl (.c .n)
      refine wP 12 8191 0 (.slice A9 (List.length (r8)) c9) hE fun a hE => ?_
      refine doneG (by kernel_rfl) ?_
      have hS := hS.p (.d 5 (.d 4 (.d 0 .n)))
      exact ⟨r8, A9, c9, q5, D6, hE.wk, hS, (le2 (le2 (le2 (le2 (le2 (le2 le3 le1) le11) le12) le13) le28) le29), h33, hf⟩
     replace hf := ct hb hf
     have hk2043 := of_decide_eq_true hb
     refine tW 6 383 (fuel := 5) (by kernel_rfl) hE (fun M => tk_indexV (N := 7) (e := 113) (sz := 1) (cs := ([.nilFunc]) ++ (([.func (.func 92) #[] #[]]) ++ (([.func (.func 93) #[] #[]]) ++ (([.func (.func 94) #[] #[]]) ++ (([.func (.func 93) #[] #[]]) ++ (([.func (.func 96) #[] #[]]) ++ (([.func (.func 97) #[] #[]])))))))) 3 (.agg (List.toArray ([.func (.func 94) #[] #[]]))) rfl rfl rfl rfl hE rfl rfl rfl hk2043 (by kernel_rfl) (by kernel_rfl) (by kernel_rfl) (fun a hE => ?_))
     refine tW 7 511 (fuel := 4) (by kernel_rfl) hE (fun M => g_field (cs := [.func (.func 94) #[] #[]]) (fo := 0) (ft := 58) (.func (.func 94) #[] #[]) rfl rfl rfl rfl hE rfl rfl (by kernel_rfl) (by kernel_rfl) (fun a hE => ?_))
     obtain ⟨r9, h34, hf⟩ := bs hf
     refine oC 9 1023 3 rfl rfl rfl rfl hE rfl rfl rfl rfl (rec_forms_1.calls h34 (hS.st.fore (L := [])) (h6.mono (le2 (le2 le4 le3) le1)) (h9.mono (le2 (le2 le4 le3) le1))) fun a v w hR hE => ?_
     obtain ⟨D25, A18, c18, q26, rfl, hS1, h35⟩ := hR
     refine ⟨(hS1.keeps.sub (M' := []) trivial).mono (fun _ h => h), ?_⟩
     have le14 := hS1.dle
     have hS := hS.callR hS1 rfl (.c .n)
     have hS := hS.p (.d 1 (.d 0 (.d 2 (.d 3 .n))))
     obtain ⟨D26, q27, le15, hS, h72, h36⟩ := hS.lent (h1.mono (le2 le1 le14))
     have hS := hS.p (.d 1 (.d 0 (.d 2 (.d 3 .n))))
     obtain ⟨D27, q28, le16, hS, h73, h37⟩ := hS.lent (h35.mono le15)
     refine oG 10 2047 (fuel := 2) (by kernel_rfl) (op_buildSlice (K := (kdSlice (kdInt .u8))) (e := 33) (cs := [.slice A2 (List.length (r1)) c2] ++ ([.slice A18 (List.length (r9)) c18] ++ [])) ([r1, r9] : List (List Int)) rfl rfl rfl rfl hE rfl hS rfl (by kernel_rfl) rfl rfl (by exact ⟨_, _, rfl, (kslice (h36.mono le16)), ⟨_, _, rfl, (kslice h37), rfl⟩⟩) (fun a A24 q29 w hkp hE h38 hS => ⟨hkp.mono (fun _ h => absurd h List.not_mem_nil), ?_⟩))
     clear hkp
     obtain ⟨D28, q30, le30, hS, h74, h39⟩ := hS.lent h38
     obtain ⟨r10, h40, hf⟩ := bs hf
     refine oC 11 4095 1 rfl rfl rfl rfl hE rfl rfl rfl rfl (wire_All.calls h40 (hS.st.fore (L := [])) h39) fun a v w hR hE => ?_
     obtain ⟨D7, A10, c10, q6, rfl, hS1, h41⟩ := hR
     refine ⟨(hS1.keeps.sub (M' := []) trivial).mono (fun _ h => h), ?_⟩
     have le31 := hS1.dle
     have hS := hS.callR hS1 rfl (.c .n)
     refine wP 12 8191 0 (.slice A10 (List.length (r10)) c10) hE fun a hE => ?_
     refine doneG (by kernel_rfl) ?_
     have hS := hS.p (.d 5 (.d 4 (.d 0 .n)))
     exact ⟨r10, A10, c10, q6, D7, hE.wk, hS, (le2 (le2 (le2 (le2 (le2 (le2 le3 le1) le14) le15) le16) le30) le31), h41, hf⟩
    replace hf := ct hb hf
    have hk2003 := of_decide_eq_true hb
    refine tW 6 383 (fuel := 5) (by kernel_rfl) hE (fun M => tk_indexV (N := 7) (e := 113) (sz := 1) (cs := ([.nilFunc]) ++ (([.func (.func 92) #[] #[]]) ++ (([.func (.func 93) #[] #[]]) ++ (([.func (.func 94) #[] #[]]) ++ (([.func (.func 93) #[] #[]]) ++ (([.func (.func 96) #[] #[]]) ++ (([.func (.func 97) #[] #[]])))))))) 2 (.agg (List.toArray ([.func (.func 93) #[] #[]]))) rfl rfl rfl rfl hE rfl rfl rfl hk2003 (by kernel_rfl) (by kernel_rfl) (by kernel_rfl) (fun a hE => ?_))
    refine tW 7 511 (fuel := 4) (by kernel_rfl) hE (fun M => g_field (cs := [.func (.func 93) #[] #[]]) (fo := 0) (ft := 58) (.func (.func 93) #[] #[]) rfl rfl rfl rfl hE rfl rfl (by kernel_rfl) (by kernel_rfl) (fun a hE => ?_))
    obtain ⟨r11, h42, hf⟩ := bs hf
    refine oC 9 1023 3 rfl rfl rfl rfl hE rfl rfl rfl rfl (rec_call.calls h42 (hS.st.fore (L := [])) (h6.mono (le2 (le2 le4 le3) le1)) (h9.mono (le2 (le2 le4 le3) le1))) fun a v w hR hE => ?_
    obtain ⟨D29, A19, c19, q31, rfl, hS1, h43⟩ := hR
    refine ⟨(hS1.keeps.sub (M' := []) trivial).mono (fun _ h => h), ?_⟩
    have le17 := hS1.dle
    have hS := hS.callR hS1 rfl (.c .n)
    have hS := hS.p (.d 1 (.d 0 (.d 2 (.d 3 .n))))
    obtain ⟨D30, q32, le18, hS, h75, h44⟩ := hS.lent (h1.mono (le2 le1 le17))
    have hS := hS.p (.d 1 (.d 0 (.d 2 (.d 3 .n))))
    obtain ⟨D31, q33, le19, hS, h76, h45⟩ := hS.lent (h43.mono le18)
    refine oG 10 2047 (fuel := 2) (by kernel_rfl) (op_buildSlice (K := (kdSlice (kdInt .u8))) (e := 33) (cs := [.slice A2 (List.length (r1)) c2] ++ ([.slice A19 (List.length (r11)) c19] ++ [])) ([r1, r11] : List (List Int)) rfl rfl rfl rfl hE rfl hS rfl (by kernel_rfl) rfl rfl (by exact ⟨_, _, rfl, (kslice (h44.mono le19)), ⟨_, _, rfl, (kslice h45), rfl⟩⟩) (fun a A25 q34 w hkp hE h46 hS => ⟨hkp.mono (fun _ h => absurd h List.not_mem_nil), ?_⟩))
    clear hkp
    obtain ⟨D32, q35, le32, hS, h77, h47⟩ := hS.lent h46
    obtain ⟨r12, h48, hf⟩ := bs hf
    refine oC 11 4095 1 rfl rfl rfl rfl hE rfl rfl rfl rfl (wire_All.calls h48 (hS.st.fore (L := [])) h47) fun a v w hR hE => ?_
    obtain ⟨D8, A12, c11, q7, rfl, hS1, h49⟩ := hR
    refine ⟨(hS1.keeps.sub (M' := []) trivial).mono (fun _ h => h), ?_⟩
    have le33 := hS1.dle
    have hS := hS.callR hS1 rfl (.c .n)
    refine wP 12 8191 0 (.slice A12 (List.length (r12)) c11) hE fun a hE => ?_
    refine doneG (by kernel_rfl) ?_
    have hS := hS.p (.d 5 (.d 4 (.d 0 .n)))
    exact ⟨r12, A12, c11, q7, D8, hE.wk, hS, (le2 (le2 (le2 (le2 (le2 (le2 le3 le1) le17) le18) le19) le32) le33), h49, hf⟩
   replace hf := ct hb hf
   have hk1963 := of_decide_eq_true hb
   refine tW 6 383 (fuel := 5) (by kernel_rfl) hE (fun M => tk_indexV (N := 7) (e := 113) (sz := 1) (cs := ([.nilFunc]) ++ (([.func (.func 92) #[] #[]]) ++ (([.func (.func 93) #[] #[]]) ++ (([.func (.func 94) #[] #[]]) ++ (([.func (.func 93) #[] #[]]) ++ (([.func (.func 96) #[] #[]]) ++ (([.func (.func 97) #[] #[]])))))))) 1 (.agg (List.toArray ([.func (.func 92) #[] #[]]))) rfl rfl rfl rfl hE rfl rfl rfl hk1963 (by kernel_rfl) (by kernel_rfl) (by kernel_rfl) (fun a hE => ?_))
   refine tW 7 511 (fuel := 4) (by kernel_rfl) hE (fun M => g_field (cs := [.func (.func 92) #[] #[]]) (fo := 0) (ft := 58) (.func (.func 92) #[] #[]) rfl rfl rfl rfl hE rfl rfl (by kernel_rfl) (by kernel_rfl) (fun a hE => ?_))
   obtain ⟨r13, h50, hf⟩ := bs hf
   refine oC 9 1023 3 rfl rfl rfl rfl hE rfl rfl rfl rfl (rec_begin.calls h50 (hS.st.fore (L := [])) (h6.mono (le2 (le2 le4 le3) le1)) (h9.mono (le2 (le2 le4 le3) le1))) fun a v w hR hE => ?_
   obtain ⟨D33, A20, c20, q36, rfl, hS1, h51⟩ := hR
   refine ⟨(hS1.keeps.sub (M' := []) trivial).mono (fun _ h => h), ?_⟩
   have le20 := hS1.dle
   have hS := hS.callR hS1 rfl (.c .n)
   have hS := hS.p (.d 1 (.d 0 (.d 2 (.d 3 .n))))
   obtain ⟨D34, q37, le21, hS, h78, h52⟩ := hS.lent (h1.mono (le2 le1 le20))
   have hS := hS.p (.d 1 (.d 0 (.d 2 (.d 3 .n))))
   obtain ⟨D35, q38, le22, hS, h79, h53⟩ := hS.lent (h51.mono le21)
   refine oG 10 2047 (fuel := 2) (by kernel_rfl) (op_buildSlice (K := (kdSlice (kdInt .u8))) (e := 33) (cs := [.slice A2 (List.length (r1)) c2] ++ ([.slice A20 (List.length (r13)) c20] ++ [])) ([r1, r13] : List (List Int)) rfl rfl rfl rfl hE rfl hS rfl (by kernel_rfl) rfl rfl (by exact ⟨_, _, rfl, (kslice (h52.mono le22)), ⟨_, _, rfl, (kslice h53), rfl⟩⟩) (fun a A26 q39 w hkp hE h54 hS => ⟨hkp.mono (fun _ h => absurd h List.not_mem_nil), ?_⟩))
   clear hkp
   obtain ⟨D36, q40, le34, hS, h80, h55⟩ := hS.lent h54
   obtain ⟨r14, h56, hf⟩ := bs hf
   refine oC 11 4095 1 rfl rfl rfl rfl hE rfl rfl rfl rfl (wire_All.calls h56 (hS.st.fore (L := [])) h55) fun a v w hR hE => ?_
   obtain ⟨D9, A13, c13, q8, rfl, hS1, h57⟩ := hR
   refine ⟨(hS1.keeps.sub (M' := []) trivial).mono (fun _ h => h), ?_⟩
   have le35 := hS1.dle
   have hS := hS.callR hS1 rfl (.c .n)
   refine wP 12 8191 0 (.slice A13 (List.length (r14)) c13) hE fun a hE => ?_
   refine doneG (by kernel_rfl) ?_
   have hS := hS.p (.d 5 (.d 4 (.d 0 .n)))
   exact ⟨r14, A13, c13, q8, D9, hE.wk, hS, (le2 (le2 (le2 (le2 (le2 (le2 le3 le1) le20) le21) le22) le34) le35), h57, hf⟩
  replace hf := ct hb hf
  have hk1962 := of_decide_eq_true hb
  refine tW 6 383 (fuel := 5) (by kernel_rfl) hE (fun M => tk_indexV (N := 7) (e := 113) (sz := 1) (cs := ([.nilFunc]) ++ (([.func (.func 92) #[] #[]]) ++ (([.func (.func 93) #[] #[]]) ++ (([.func (.func 94) #[] #[]]) ++ (([.func (.func 93) #[] #[]]) ++ (([.func (.func 96) #[] #[]]) ++ (([.func (.func 97) #[] #[]])))))))) 0 (.agg (List.toArray ([.nilFunc]))) rfl rfl rfl rfl hE rfl rfl rfl hk1962 (by kernel_rfl) (by kernel_rfl) (by kernel_rfl) (fun a hE => ?_))
  refine tW 7 511 (fuel := 4) (by kernel_rfl) hE (fun M => g_field (cs := [.nilFunc]) (fo := 0) (ft := 58) (.nilFunc) rfl rfl rfl rfl hE rfl rfl (by kernel_rfl) (by kernel_rfl) (fun a hE => ?_))
  cases hf
 clear hE hS
 rintro a w ⟨y1, A1, c1, q1, D2, hE, hS, le23, h2, hf⟩
 replace hf := hj1 _ hf
 clear hj1
 refine sq (sq (ra ?_))
 refine sM 3 3 [1] [(23, .bool ((decide (x3.fKind = (1 : Int)))))] hE hS fun a hE => ?_
 refine ae ?_
 refine cond_split hE (b := (decide (x3.fKind = (1 : Int)))) rfl (fun hb => ?_) (fun hb => ?_)
 ·replace hf := ct hb hf
  refine ra ?_
  refine sN 2 2 [(24, .slice A1 (List.length (y1)) c1), (25, .func (.func 63) #[] #[.pointer (some ⟨b1, 0, none⟩)])] hE fun a hE => ?_
  obtain ⟨r15, h58, hf⟩ := bs hf
  refine aC rfl rfl rfl rfl hE rfl rfl rfl rfl (rec_Open_1.calls h58 (hS.st.fore (L := [bx b1 40 (c_T_api_Rec (x10) A11 c12 A14 c15)])) (h13.mono (le2 le4 le23)) (h16.mono (le2 le4 le23))) fun a v w hR hE => ?_
  obtain ⟨D37, A27, c21, q41, rfl, hS1, h59⟩ := hR
  have le36 := hS1.dle
  have hS := hS.callR hS1 rfl (.c (.c .n))
  have hS := hS.p (.d 1 (.d 0 (.d 2 (.d 3 .n))))
  obtain ⟨D10, q42, le37, hS, h81, h60⟩ := hS.lent h59
  have hS := hS.p (.d 3 (.d 0 (.d 1 (.d 2 .n))))
  obtain ⟨l1, h61, hf⟩ := bs hf
  refine at_op (g_append (K := (kdInt .u8)) (e := 5) (bytes := 1) (l := y1) (m := r15) rfl rfl rfl rfl hE rfl hS rfl rfl (by kernel_rfl) rfl rfl (h2.mono (le2 le36 le37)) h60 h61 (fun a A3 c3 q9 w _ hE h62 hS => ?_)) rfl
  refine sN 1 5 [(5, .slice A3 (List.length (l1)) c3)] hE fun a hE => ?_
  refine ae ?_
  refine sq (ra ?_)
  refine sN 2 2 [(4, .slice A3 (List.length (l1)) c3)] hE fun a hE => ?_
  refine ae ?_
  refine wpIn_ret ?_
  obtain rfl := si hf
  refine ret_ ?_
  refine rT 4 (.slice A3 (List.length (l1)) c3) hE ?_
  have hS := hS.p (.d 2 (.d 0 .n))
  exact ⟨_, rfl, D10, A3, c3, q9, rfl, hS, h62⟩
 replace hf := cf hb hf
 refine wpIn_skip ?_
 refine sq (ra ?_)
 refine sN 2 2 [(4, .slice A1 (List.length (y1)) c1)] hE fun a hE => ?_
 refine ae ?_
 refine wpIn_ret ?_
 obtain rfl := si hf
 refine ret_ ?_
 refine rT 4 (.slice A1 (List.length (y1)) c1) hE ?_
 have hS := hS.p (.d 0 (.d 2 .n))
 exact ⟨_, rfl, D2, A1, c1, q1, rfl, hS, h2⟩
set_option maxRecDepth 100000 in
theorem rec_Open.calls {K : Nat} {g w0 : World} {D0 : Snap} {x1 : T_api_Rec} {A2 : Option Addr} {c3 : Nat} {A5 : Option Addr} {c6 : Nat} {r : ((List Int))} (hf : rec_Open.f K x1 = some r) (hS0 : St g w0 D0 []) (h4 : Sl kd_T_api_Step D0 A2 c3 (x1.fSteps)) (h7 : Sl (kdInt .u8) D0 A5 c6 (x1.fData)) :
  CallsIn (Fw none) 0 Tryz.prog 27 (List.toArray [.agg (List.toArray (c_T_api_Rec (x1) A2 c3 A5 c6))]) w0 (fun e w' => ∃ v, e = .returned v ∧ ∃ (D1 : Snap) (A20 : Option Addr) (c21 : Nat) (q22 : Blk), v = .slice A20 (List.length (r)) c21 ∧ Stp g w0 D0 [] w' D1 [q22] ∧ OwnD (kdInt .u8) 5 D1 A20 c21 (r) q22) := by
 unfold rec_Open.f at hf
 have hS := Stp.refl hS0
 clear hS0
 refine calls_body (n := 6) Tryz.func27 rfl Tryz.ntmps27 rfl fun a hE => ?_
 have hE : Env a 6 [] [(0, .agg (List.toArray (c_T_api_Rec (x1) A2 c3 A5 c6)))] := hE
 refine sq (ra ?_)
 refine at_op (op_box rfl rfl rfl rfl hE rfl hS rfl (fun a b25 w _ hE hS => ?_)) rfl
 refine sN 1 2 [(2, .slice none 0 0)] hE fun a hE => ?_
 refine ae ?_
 refine sq (ra ?_)
 refine sM 2 2 [0] [(3, .agg (List.toArray (c_T_api_Rec (x1) A2 c3 A5 c6))), (4, .func (.func 63) #[] #[.pointer (some ⟨b25, 0, none⟩)])] hE hS fun a hE => ?_
 obtain ⟨r27, h28, hf⟩ := bs hf
 refine aC rfl rfl rfl rfl hE rfl rfl rfl rfl (rec_put.calls h28 (hS.st.fore (L := [bx b25 40 (c_T_api_Rec (x1) A2 c3 A5 c6)])) h4 h7 h4 h7) fun a v w hR hE => ?_
 obtain ⟨D29, A31, c32, q33, rfl, hS1, h34⟩ := hR
 have le36 := hS1.dle
 have hS := hS.callR hS1 rfl (.c (.c .n))
 refine sN 1 4 [(2, .slice A31 (List.length (r27)) c32)] hE fun a hE => ?_
 refine ae ?_
 refine wpIn_ret ?_
 obtain rfl := si hf
 refine ret_ ?_
 refine rT 2 (.slice A31 (List.length (r27)) c32) hE ?_
 have hS := hS.p (.d 1 .n)
 exact ⟨_, rfl, D29, A31, c32, q33, rfl, hS, h34⟩
set_option maxRecDepth 100000 in
theorem bundle_list_api_Hash.calls {K : Nat} {g w0 : World} {D0 : Snap} {x1 : (List (Vector Int 32))} {A2 : Option Addr} {c3 : Nat} {r : ((List Int))} (hf : bundle_list_api_Hash.f K x1 = some r) (hS0 : St g w0 D0 []) (h4 : Sl (kdArr .u8 32) D0 A2 c3 (x1)) :
  CallsIn (Fw none) 0 Tryz.prog 61 (List.toArray [.slice A2 (List.length (x1)) c3, .func (.func 22) #[] #[]]) w0 (fun e w' => ∃ v, e = .returned v ∧ ∃ (D1 : Snap) (A4 : Option Addr) (c4 : Nat) (q3 : Blk), v = .slice A4 (List.length (r)) c4 ∧ Stp g w0 D0 [] w' D1 [q3] ∧ OwnD (kdInt .u8) 5 D1 A4 c4 (r) q3) := by
 unfold bundle_list_api_Hash.f at hf
 have hS := Stp.refl hS0
 clear hS0
 refine calls_body (n := 24) Tryz.func61 rfl Tryz.ntmps61 rfl fun a hE => ?_
 have hE : Env a 24 [] [(0, .slice A2 (List.length (x1)) c3), (1, .func (.func 22) #[] #[])] := hE
 refine sq (ra ?_)
 refine sN 1 1 [(4, .slice none 0 0)] hE fun a hE => ?_
 refine ae ?_
 refine sq (ra ?_)
 refine sN 2 2 [(9, .int .i64 (((List.length (x1) : Nat) : Int)))] hE fun a hE => ?_
 obtain ⟨r1, h2, hf⟩ := bs hf
 refine aC rfl rfl rfl rfl hE rfl rfl rfl rfl (wire_Num.calls h2 (hS.st.fore (L := [])) ) fun a v w hR hE => ?_
 obtain ⟨D4, A5, c5, q4, rfl, hS1, h3⟩ := hR
 have le5 := hS1.dle
 have hS := hS.callR hS1 rfl (.c .n)
 refine sN 1 4 [(5, .slice A5 (List.length (r1)) c5)] hE fun a hE => ?_
 refine ae ?_
 refine sq (sq (ra ?_))
 refine sN 3 3 [(11, .slice A2 (List.length (x1)) c3), (12, .int .i64 (((List.length (x1) : Nat) : Int))), (13, .int .i64 ((0 : Int)))] hE fun a hE => ?_
 refine ae ?_
 obtain ⟨s1, hf, hs1⟩ := bs hf
 refine block_loop (fun a w => ∃ (z1 : (List Int)), ∃ A1, ∃ c1, ∃ q1, ∃ D2, Env a 24 [] [(5, .slice A1 (List.length (z1)) c1)] ∧ Stp g w0 D0 [] w D2 [q1] ∧ Snap.le D4 D2 ∧ OwnD (kdInt .u8) 5 D2 A1 c1 (z1) q1 ∧ z1 = s1) (fun k a w => ∃ (y1 : (List Int) × Int), ∃ A3, ∃ c2, ∃ q2, ∃ D3, Env a 24 [] [(1, .func (.func 22) #[] #[]), (5, .slice A3 (List.length (y1.1)) c2), (11, .slice A2 (List.length (x1)) c3), (12, .int .i64 (((List.length (x1) : Nat) : Int))), (13, .int .i64 (y1.2))] ∧ Stp g w0 D0 [] w D3 [q2] ∧ Snap.le D4 D3 ∧ OwnD (kdInt .u8) 5 D3 A3 c2 (y1.1) q2 ∧ bundle_list_api_Hash_l1.l K x1 k y1 = some s1) K ?_ ?_ ?_
 ·exact ⟨(r1, (0 : Int)), A5, c5, q4, D4, hE.wk, hS, lr, h3, hf⟩
 ·clear hE hS hf
  rintro a w ⟨z1, A1, c1, q1, D2, hE, hS, le6, h5, rfl⟩
  have hf := hs1
  clear hs1
  refine sq (ra ?_)
  refine sN 2 2 [(4, .slice A1 (List.length (z1)) c1)] hE fun a hE => ?_
  refine ae ?_
  refine wpIn_ret ?_
  obtain rfl := si hf
  refine ret_ ?_
  refine rT 4 (.slice A1 (List.length (z1)) c1) hE ?_
  exact ⟨_, rfl, D2, A1, c1, q1, rfl, hS, h5⟩
 clear hE hS hf
 rintro k a w ⟨y1, A3, c2, q2, D3, hE, hS, le1, h1, hf⟩
 obtain ⟨k, rfl, hf⟩ := bundle_list_api_Hash_l1.some _ hf
 refine ⟨k, rfl, ?_⟩
 unfold bundle_list_api_Hash_l1.b at hf
 refine sq (ra ?_)
 refine sN 1 1 [(14, .bool ((decide (y1.2 < ((List.length (x1) : Nat) : Int)))))] hE fun a hE => ?_
 refine ae ?_
 refine sq ?_
 refine cond_split hE (b := (decide (y1.2 < ((List.length (x1) : Nat) : Int)))) rfl (fun hb => ?_) (fun hb => ?_)
 ·replace hf := ct hb hf
  refine wpIn_skip ?_
  refine sq ?_
  refine wpIn_block ?_
  refine sq (ra ?_)
  obtain ⟨x2, h6, hf⟩ := bs hf
  refine at_op (op_tk hE (g_index (K := (kdArr .u8 32)) (e := 23) (by_ := 32) (zl := 32) rfl rfl rfl rfl hE rfl rfl rfl (by kernel_rfl) rfl (h4.mono (le2 le5 le1)) h6 (fun a b1 o1 hE h7 => ?_))) rfl
  obtain ⟨cs1, C1, T1, fr1, hr1, hb1, hc1⟩ := id h7
  obtain rfl := hr1
  refine at_op (op_tk hE (tk_loadX (off0 := o1) (off := 0) (c := acells .u8 32 (x2)) (.agg (List.toArray (acells .u8 32 (x2)))) rfl rfl rfl rfl hE rfl hS rfl hb1 hc1 (by kernel_rfl) (by kernel_rfl) (kD hS dn_nil) (fun a hE => ?_))) rfl
  refine at_op (op_alloc (z := .agg (List.toArray (acells .u8 32 ((Vector.replicate 32 (0 : Int)))))) rfl rfl rfl rfl hE rfl hS (by kernel_rfl) (fun a b2 w _ hE hS => ?_)) rfl
  refine at_op (op_store (v := .agg (List.toArray (acells .u8 32 (x2)))) (acells .u8 32 (x2)) rfl rfl rfl rfl hE hS rfl rfl (by kernel_rfl) (by kernel_rfl) (by kernel_rfl) (by kernel_rfl) (by kernel_rfl) (fun a w _ hE hS => ?_)) rfl
  refine ae ?_
  refine ra ?_
  refine sM 3 3 [0] [(17, .slice A3 (List.length (y1.1)) c2), (18, .func (.func 22) #[] #[]), (19, .agg (List.toArray (acells .u8 32 (x2))))] hE hS fun a hE => ?_
  obtain ⟨r2, h8, hf⟩ := bs hf
  refine aC rfl rfl rfl rfl hE rfl rfl rfl rfl (wire_Hash.calls h8 (hS.st.fore (L := [])) ) fun a v w hR hE => ?_
  obtain ⟨D6, A7, c7, q6, rfl, hS1, h9⟩ := hR
  have le3 := hS1.dle
  have hS := hS.callR hS1 rfl (.c .n)
  obtain ⟨D5, q7, le4, hS, h13, h10⟩ := hS.lent h9
  have hS := hS.p (.d 2 (.d 0 (.d 1 .n)))
  obtain ⟨l1, h11, hf⟩ := bs hf
  refine at_op (g_append (K := (kdInt .u8)) (e := 5) (bytes := 1) (l := y1.1) (m := r2) rfl rfl rfl rfl hE rfl hS rfl rfl (by kernel_rfl) rfl rfl (h1.mono (le2 le3 le4)) h10 h11 (fun a A6 c6 q5 w _ hE h12 hS => ?_)) rfl
  refine sN 1 6 [(5, .slice A6 (List.length (l1)) c6)] hE fun a hE => ?_
  refine ae ?_
  refine ra ?_
  refine sN 2 2 [(13, .int .i64 ((IntKind.wrap .i64 (y1.2 + (1 : Int)))))] hE fun a hE => ?_
  refine ae ?_
  have hS := hS.p (.d 0 .n)
  exact ⟨(l1, (IntKind.wrap .i64 (y1.2 + (1 : Int)))), A6, c6, q5, D5, hE.wk, hS, (le2 (le2 le1 le3) le4), h12, hf⟩
 replace hf := cf hb hf
 refine wpIn_exit ?_
 obtain rfl := si hf
 exact ⟨y1.1, A3, c2, q2, D3, hE.wk, hS, le1, h1, rfl⟩
set_option maxRecDepth 100000 in
theorem bundle_item.calls {K : Nat} {g w0 : World} {D0 : Snap} {x1 : T_api_Item} {A2 : Option Addr} {c3 : Nat} {A5 : Option Addr} {c6 : Nat} {A8 : Option Addr} {c9 : Nat} {r : ((List Int))} (hf : bundle_item.f K x1 = some r) (hS0 : St g w0 D0 []) (h4 : Sl kd_T_api_Step D0 A2 c3 (x1.fRec.fSteps)) (h7 : Sl (kdInt .u8) D0 A5 c6 (x1.fRec.fData)) (h10 : Sl (kdArr .u8 32) D0 A8 c9 (x1.fPath)) :
  CallsIn (Fw none) 0 Tryz.prog 26 (List.toArray [.agg (List.toArray (c_T_api_Item (x1) A2 c3 A5 c6 A8 c9))]) w0 (fun e w' => ∃ v, e = .returned v ∧ ∃ (D1 : Snap) (A3 : Option Addr) (c2 : Nat) (q1 : Blk), v = .slice A3 (List.length (r)) c2 ∧ Stp g w0 D0 [] w' D1 [q1] ∧ OwnD (kdInt .u8) 5 D1 A3 c2 (r) q1) := by
 unfold bundle_item.f at hf
 have hS := Stp.refl hS0
 clear hS0
 refine calls_body (n := 14) Tryz.func26 rfl Tryz.ntmps26 rfl fun a hE => ?_
 have hE : Env a 14 [] [(0, .agg (List.toArray (c_T_api_Item (x1) A2 c3 A5 c6 A8 c9)))] := hE
 refine sq (ra ?_)
 refine at_op (op_box rfl rfl rfl rfl hE rfl hS rfl (fun a b1 w _ hE hS => ?_)) rfl
 refine sN 1 2 [(2, .slice none 0 0)] hE fun a hE => ?_
 refine ae ?_
 refine sq ?_
 refine region_draw (fun j => Keeps (mfOf [] j)) (by kernel_rfl) ?_
 have hS := hS.drew
 first | generalize w.drew = w at hS ⊢ | generalize w0.drew = w at hS ⊢
 refine wF 0 1 11 0 3 0 hE fun a hE => ?_
 refine tL 1 3 10 0 (.int .i64 (x1.fAt)) hE hS fun a hE => ?_
 refine wF 3 11 9 1 40 1 hE fun a hE => ?_
 refine tL 4 27 8 0 (.agg (List.toArray (c_T_api_Rec (x1.fRec) A2 c3 A5 c6))) hE hS fun a hE => ?_
 refine wF 6 91 7 110 41 110 hE fun a hE => ?_
 refine tL 7 219 6 0 (.slice A8 (List.length (x1.fPath)) c9) hE hS fun a hE => ?_
 obtain ⟨r1, h1, hf⟩ := bs hf
 refine oC 2 223 5 rfl rfl rfl rfl hE rfl rfl rfl rfl (wire_Num.calls h1 (hS.st.fore (L := [])) ) fun a v w hR hE => ?_
 obtain ⟨D3, A4, c4, q3, rfl, hS1, h2⟩ := hR
 refine ⟨(hS1.keeps.sub (M' := []) trivial).mono (fun _ h => h), ?_⟩
 have le1 := hS1.dle
 have hS := hS.callR hS1 rfl (.c .n)
 obtain ⟨r2, h3, hf⟩ := bs hf
 refine oC 5 255 4 rfl rfl rfl rfl hE rfl rfl rfl rfl (rec_Open.calls h3 (hS.st.fore (L := [])) (h4.mono le1) (h7.mono le1)) fun a v w hR hE => ?_
 obtain ⟨D4, A6, c5, q4, rfl, hS1, h5⟩ := hR
 refine ⟨(hS1.keeps.sub (M' := []) trivial).mono (fun _ h => h), ?_⟩
 have le3 := hS1.dle
 have hS := hS.callR hS1 rfl (.c .n)
 obtain ⟨r3, h6, hf⟩ := bs hf
 refine oC 8 511 3 rfl rfl rfl rfl hE rfl rfl rfl rfl (bundle_list_api_Hash.calls h6 (hS.st.fore (L := [])) (h10.mono (le2 le1 le3))) fun a v w hR hE => ?_
 obtain ⟨D5, A7, c7, q5, rfl, hS1, h8⟩ := hR
 refine ⟨(hS1.keeps.sub (M' := []) trivial).mono (fun _ h => h), ?_⟩
 have le4 := hS1.dle
 have hS := hS.callR hS1 rfl (.c .n)
 have hS := hS.p (.d 2 (.d 0 (.d 1 (.d 3 .n))))
 obtain ⟨D6, q6, le5, hS, h17, h9⟩ := hS.lent (h2.mono (le2 le3 le4))
 have hS := hS.p (.d 2 (.d 0 (.d 1 (.d 3 .n))))
 obtain ⟨D7, q7, le6, hS, h18, h11⟩ := hS.lent (h5.mono (le2 le4 le5))
 have hS := hS.p (.d 2 (.d 0 (.d 1 (.d 3 .n))))
 obtain ⟨D8, q8, le7, hS, h19, h12⟩ := hS.lent (h8.mono (le2 le5 le6))
 refine oG 9 1023 (fuel := 2) (by kernel_rfl) (op_buildSlice (K := (kdSlice (kdInt .u8))) (e := 33) (cs := [.slice A4 (List.length (r1)) c4] ++ ([.slice A6 (List.length (r2)) c5] ++ ([.slice A7 (List.length (r3)) c7] ++ []))) ([r1, r2, r3] : List (List Int)) rfl rfl rfl rfl hE rfl hS rfl (by kernel_rfl) rfl rfl (by exact ⟨_, _, rfl, (kslice (h9.mono (le2 le6 le7))), ⟨_, _, rfl, (kslice (h11.mono le7)), ⟨_, _, rfl, (kslice h12), rfl⟩⟩⟩) (fun a A9 q9 w hkp hE h13 hS => ⟨hkp.mono (fun _ h => absurd h List.not_mem_nil), ?_⟩))
 clear hkp
 obtain ⟨D9, q10, le8, hS, h20, h14⟩ := hS.lent h13
 obtain ⟨r4, h15, hf⟩ := bs hf
 refine oC 10 2047 1 rfl rfl rfl rfl hE rfl rfl rfl rfl (wire_All.calls h15 (hS.st.fore (L := [])) h14) fun a v w hR hE => ?_
 obtain ⟨D2, A1, c1, q2, rfl, hS1, h16⟩ := hR
 refine ⟨(hS1.keeps.sub (M' := []) trivial).mono (fun _ h => h), ?_⟩
 have le9 := hS1.dle
 have hS := hS.callR hS1 rfl (.c .n)
 refine wP 11 4095 0 (.slice A1 (List.length (r4)) c1) hE fun a hE => ?_
 refine doneG (by kernel_rfl) ?_
 refine wpIn_ret ?_
 obtain rfl := si hf
 refine ret_ ?_
 refine rT 2 (.slice A1 (List.length (r4)) c1) hE ?_
 have hS := hS.p (.d 0 .n)
 exact ⟨_, rfl, D2, A1, c1, q2, rfl, hS, h16⟩
set_option maxRecDepth 100000 in
theorem bundle_list_api_Item.calls {K : Nat} {g w0 : World} {D0 : Snap} {x1 : (List T_api_Item)} {A2 : Option Addr} {c3 : Nat} {r : ((List Int))} (hf : bundle_list_api_Item.f K x1 = some r) (hS0 : St g w0 D0 []) (h4 : Sl kd_T_api_Item D0 A2 c3 (x1)) :
  CallsIn (Fw none) 0 Tryz.prog 25 (List.toArray [.slice A2 (List.length (x1)) c3, .func (.func 26) #[] #[]]) w0 (fun e w' => ∃ v, e = .returned v ∧ ∃ (D1 : Snap) (A7 : Option Addr) (c7 : Nat) (q3 : Blk), v = .slice A7 (List.length (r)) c7 ∧ Stp g w0 D0 [] w' D1 [q3] ∧ OwnD (kdInt .u8) 5 D1 A7 c7 (r) q3) := by
 unfold bundle_list_api_Item.f at hf
 have hS := Stp.refl hS0
 clear hS0
 refine calls_body (n := 24) Tryz.func25 rfl Tryz.ntmps25 rfl fun a hE => ?_
 have hE : Env a 24 [] [(0, .slice A2 (List.length (x1)) c3), (1, .func (.func 26) #[] #[])] := hE
 refine sq (ra ?_)
 refine sN 1 1 [(4, .slice none 0 0)] hE fun a hE => ?_
 refine ae ?_
 refine sq (ra ?_)
 refine sN 2 2 [(9, .int .i64 (((List.length (x1) : Nat) : Int)))] hE fun a hE => ?_
 obtain ⟨r1, h2, hf⟩ := bs hf
 refine aC rfl rfl rfl rfl hE rfl rfl rfl rfl (wire_Num.calls h2 (hS.st.fore (L := [])) ) fun a v w hR hE => ?_
 obtain ⟨D4, A8, c8, q4, rfl, hS1, h3⟩ := hR
 have le5 := hS1.dle
 have hS := hS.callR hS1 rfl (.c .n)
 refine sN 1 4 [(5, .slice A8 (List.length (r1)) c8)] hE fun a hE => ?_
 refine ae ?_
 refine sq (sq (ra ?_))
 refine sN 3 3 [(11, .slice A2 (List.length (x1)) c3), (12, .int .i64 (((List.length (x1) : Nat) : Int))), (13, .int .i64 ((0 : Int)))] hE fun a hE => ?_
 refine ae ?_
 obtain ⟨s1, hf, hs1⟩ := bs hf
 refine block_loop (fun a w => ∃ (z1 : (List Int)), ∃ A1, ∃ c1, ∃ q1, ∃ D2, Env a 24 [] [(5, .slice A1 (List.length (z1)) c1)] ∧ Stp g w0 D0 [] w D2 [q1] ∧ Snap.le D4 D2 ∧ OwnD (kdInt .u8) 5 D2 A1 c1 (z1) q1 ∧ z1 = s1) (fun k a w => ∃ (y1 : (List Int) × Int), ∃ A3, ∃ c2, ∃ q2, ∃ D3, Env a 24 [] [(1, .func (.func 26) #[] #[]), (5, .slice A3 (List.length (y1.1)) c2), (11, .slice A2 (List.length (x1)) c3), (12, .int .i64 (((List.length (x1) : Nat) : Int))), (13, .int .i64 (y1.2))] ∧ Stp g w0 D0 [] w D3 [q2] ∧ Snap.le D4 D3 ∧ OwnD (kdInt .u8) 5 D3 A3 c2 (y1.1) q2 ∧ bundle_list_api_Item_l1.l K x1 k y1 = some s1) K ?_ ?_ ?_
 ·exact ⟨(r1, (0 : Int)), A8, c8, q4, D4, hE.wk, hS, lr, h3, hf⟩
 ·clear hE hS hf
  rintro a w ⟨z1, A1, c1, q1, D2, hE, hS, le6, h5, rfl⟩
  have hf := hs1
  clear hs1
  refine sq (ra ?_)
  refine sN 2 2 [(4, .slice A1 (List.length (z1)) c1)] hE fun a hE => ?_
  refine ae ?_
  refine wpIn_ret ?_
  obtain rfl := si hf
  refine ret_ ?_
  refine rT 4 (.slice A1 (List.length (z1)) c1) hE ?_
  exact ⟨_, rfl, D2, A1, c1, q1, rfl, hS, h5⟩
 clear hE hS hf
 rintro k a w ⟨y1, A3, c2, q2, D3, hE, hS, le1, h1, hf⟩
 obtain ⟨k, rfl, hf⟩ := bundle_list_api_Item_l1.some _ hf
 refine ⟨k, rfl, ?_⟩
 unfold bundle_list_api_Item_l1.b at hf
 refine sq (ra ?_)
 refine sN 1 1 [(14, .bool ((decide (y1.2 < ((List.length (x1) : Nat) : Int)))))] hE fun a hE => ?_
 refine ae ?_
 refine sq ?_
 refine cond_split hE (b := (decide (y1.2 < ((List.length (x1) : Nat) : Int)))) rfl (fun hb => ?_) (fun hb => ?_)
 ·replace hf := ct hb hf
  refine wpIn_skip ?_
  refine sq ?_
  refine wpIn_block ?_
  refine sq (ra ?_)
  obtain ⟨x2, h6, hf⟩ := bs hf
  refine at_op (op_tk hE (g_index (K := kd_T_api_Item) (e := 43) (by_ := 256) (zl := 111) rfl rfl rfl rfl hE rfl rfl rfl (by kernel_rfl) rfl (h4.mono (le2 le5 le1)) h6 (fun a b1 o1 hE h7 => ?_))) rfl
  obtain ⟨cs1, C1, T1, fr1, hr1, hb1, hc1⟩ := id h7
  obtain ⟨A4, c4, A5, c5, A6, c6, rfl, h8, h9, h10⟩ := kd_T_api_Item_el hr1
  refine at_op (op_tk hE (tk_loadX (off0 := o1) (off := 0) (c := c_T_api_Item (x2) A4 c4 A5 c5 A6 c6) (.agg (List.toArray (c_T_api_Item (x2) A4 c4 A5 c5 A6 c6))) rfl rfl rfl rfl hE rfl hS rfl hb1 hc1 (by kernel_rfl) (by kernel_rfl) (kD hS dn_nil) (fun a hE => ?_))) rfl
  refine at_op (op_alloc (z := .agg (List.toArray (c_T_api_Item (z_T_api_Item) none 0 none 0 none 0))) rfl rfl rfl rfl hE rfl hS (by kernel_rfl) (fun a b2 w _ hE hS => ?_)) rfl
  refine at_op (op_store (v := .agg (List.toArray (c_T_api_Item (x2) A4 c4 A5 c5 A6 c6))) (c_T_api_Item (x2) A4 c4 A5 c5 A6 c6) rfl rfl rfl rfl hE hS rfl rfl (by kernel_rfl) (by kernel_rfl) (by kernel_rfl) (by kernel_rfl) (by kernel_rfl) (fun a w _ hE hS => ?_)) rfl
  refine ae ?_
  refine ra ?_
  refine sM 3 3 [0] [(17, .slice A3 (List.length (y1.1)) c2), (18, .func (.func 26) #[] #[]), (19, .agg (List.toArray (c_T_api_Item (x2) A4 c4 A5 c5 A6 c6)))] hE hS fun a hE => ?_
  obtain ⟨r2, h11, hf⟩ := bs hf
  refine aC rfl rfl rfl rfl hE rfl rfl rfl rfl (bundle_item.calls h11 (hS.st.fore (L := [])) h8 h9 h10) fun a v w hR hE => ?_
  obtain ⟨D6, A10, c10, q6, rfl, hS1, h12⟩ := hR
  have le3 := hS1.dle
  have hS := hS.callR hS1 rfl (.c .n)
  obtain ⟨D5, q7, le4, hS, h16, h13⟩ := hS.lent h12
  have hS := hS.p (.d 2 (.d 0 (.d 1 .n)))
  obtain ⟨l1, h14, hf⟩ := bs hf
  refine at_op (g_append (K := (kdInt .u8)) (e := 5) (bytes := 1) (l := y1.1) (m := r2) rfl rfl rfl rfl hE rfl hS rfl rfl (by kernel_rfl) rfl rfl (h1.mono (le2 le3 le4)) h13 h14 (fun a A9 c9 q5 w _ hE h15 hS => ?_)) rfl
  refine sN 1 6 [(5, .slice A9 (List.length (l1)) c9)] hE fun a hE => ?_
  refine ae ?_
  refine ra ?_
  refine sN 2 2 [(13, .int .i64 ((IntKind.wrap .i64 (y1.2 + (1 : Int)))))] hE fun a hE => ?_
  refine ae ?_
  have hS := hS.p (.d 0 .n)
  exact ⟨(l1, (IntKind.wrap .i64 (y1.2 + (1 : Int)))), A9, c9, q5, D5, hE.wk, hS, (le2 (le2 le1 le3) le4), h15, hf⟩
 replace hf := cf hb hf
 refine wpIn_exit ?_
 obtain rfl := si hf
 exact ⟨y1.1, A3, c2, q2, D3, hE.wk, hS, le1, h1, rfl⟩
set_option maxRecDepth 100000 in
theorem bundle_Put.calls {K : Nat} {g w0 : World} {D0 : Snap} {x1 : T_api_Bundle} {A2 : Option Addr} {c3 : Nat} {A5 : Option Addr} {c6 : Nat} {r : ((List Int))} (hf : bundle_Put.f K x1 = some r) (hS0 : St g w0 D0 []) (h4 : Sl kd_T_api_Sig D0 A2 c3 (x1.fPoint.fSigs)) (h7 : Sl kd_T_api_Item D0 A5 c6 (x1.fItems)) :
  CallsIn (Fw none) 0 Tryz.prog 9 (List.toArray [.agg (List.toArray (c_T_api_Bundle (x1) A2 c3 A5 c6))]) w0 (fun e w' => ∃ v, e = .returned v ∧ ∃ (D1 : Snap) (A19 : Option Addr) (c16 : Nat) (q4 : Blk), v = .slice A19 (List.length (r)) c16 ∧ Stp g w0 D0 [] w' D1 [q4] ∧ OwnD (kdInt .u8) 5 D1 A19 c16 (r) q4) := by
 unfold bundle_Put.f at hf
 have hS := Stp.refl hS0
 clear hS0
 refine calls_body (n := 50) Tryz.func9 rfl Tryz.ntmps9 rfl fun a hE => ?_
 have hE : Env a 50 [] [(0, .agg (List.toArray (c_T_api_Bundle (x1) A2 c3 A5 c6)))] := hE
 refine sq (ra ?_)
 refine at_op (op_box rfl rfl rfl rfl hE rfl hS rfl (fun a b1 w _ hE hS => ?_)) rfl
 refine sN 1 2 [(2, .slice none 0 0)] hE fun a hE => ?_
 refine ae ?_
 refine sq (sq (ra ?_))
 refine sM 1 1 [0] [(6, .agg (List.toArray (c_T_api_Bundle (x1) A2 c3 A5 c6)))] hE hS fun a hE => ?_
 obtain ⟨r10, h33, hf⟩ := bs hf
 refine aC rfl rfl rfl rfl hE rfl rfl rfl rfl (bundle_Right.calls h33 (hS.st.fore (L := [])) h4 h7) fun a v w hR hE => ?_
 obtain ⟨D5, rfl, hS1⟩ := hR
 have le11 := hS1.dle
 have hS := hS.callR hS1 rfl .n
 refine sN 1 3 [(8, .bool ((!r10)))] hE fun a hE => ?_
 refine ae ?_
 refine cond_split hE (b := (!r10)) rfl (fun hb => ?_) (fun hb => ?_)
 ·replace hf := ct hb hf
  refine sq (ra ?_)
  refine sN 1 1 [(2, .slice none 0 0)] hE fun a hE => ?_
  refine ae ?_
  refine wpIn_ret ?_
  have hS := hS.nils
  obtain rfl := si hf
  refine ret_ ?_
  refine rT 2 (.slice none 0 0) hE ?_
  have hS := hS.p (.d 0 .n)
  exact ⟨_, rfl, D5, none, 0, none, rfl, hS, (OwnD.nil (kdInt .u8) 5 D5)⟩
 replace hf := cf hb hf
 refine wpIn_skip ?_
 obtain ⟨j1, hj1, hf⟩ := jn_elim hf
 refine seq_join (fun a w => ∃ (y2 : (List Int)), ∃ A6, ∃ c5, ∃ q1, ∃ D2, Env a 50 [] [(1, .pointer (some ⟨b1, 0, none⟩)), (3, .slice A6 (List.length (y2)) c5)] ∧ Stp g w0 D0 [] w D2 [bx b1 29 (c_T_api_Bundle (x1) A2 c3 A5 c6), q1] ∧ Snap.le D5 D2 ∧ OwnD (kdInt .u8) 5 D2 A6 c5 (y2) q1 ∧ j1 y2 = some r) ?_ ?_
 ·clear hj1
  refine region_draw (fun j => RD D5 (plOf [] [b1] j)) (by kernel_rfl) ?_
  have hS := hS.drew
  first | generalize w.drew = w at hS ⊢ | generalize w0.drew = w at hS ⊢
  refine wF 2 4 19 0 4 0 hE fun a hE => ?_
  refine tD 3 12 (fuel := 18) (by kernel_rfl) hE (tk_load 0 (.bool (x1.fWhole)) rfl rfl rfl rfl hE rfl hS rfl rfl (by kernel_rfl) (fun _ h => h.1.at_ (List.Mem.head _)) (fun a hE => ?_))
  refine wF 5 44 17 1 26 1 hE fun a hE => ?_
  refine wF 6 108 16 0 3 1 hE fun a hE => ?_
  refine tD 7 236 (fuel := 15) (by kernel_rfl) hE (tk_load 0 (.int .i64 (x1.fPoint.fSize)) rfl rfl rfl rfl hE rfl hS rfl rfl (by kernel_rfl) (fun _ h => h.1.at_ (List.Mem.head _)) (fun a hE => ?_))
  refine wF 9 748 14 1 26 1 hE fun a hE => ?_
  refine wF 10 1772 13 1 23 2 hE fun a hE => ?_
  refine tD 11 3820 (fuel := 12) (by kernel_rfl) hE (tk_load 0 (.agg (List.toArray (acells .u8 32 (x1.fPoint.fRoot)))) rfl rfl rfl rfl hE rfl hS rfl rfl (by kernel_rfl) (fun _ h => h.1.at_ (List.Mem.head _)) (fun a hE => ?_))
  refine wF 13 12012 11 1 26 1 hE fun a hE => ?_
  refine wF 14 28396 10 33 24 34 hE fun a hE => ?_
  refine tD 15 61164 (fuel := 9) (by kernel_rfl) hE (tk_load 0 (.slice A2 (List.length (x1.fPoint.fSigs)) c3) rfl rfl rfl rfl hE rfl hS rfl rfl (by kernel_rfl) (fun _ h => h.1.at_ (List.Mem.head _)) (fun a hE => ?_))
  refine twoB (i := 0) (j := 4) (fuel := 8) (m1 := 61165) (m2 := 61180) (by kernel_rfl) (by kernel_rfl) (by kernel_rfl) ?_ ?_
  ·have hp_b4981 := hS.heapAt (j := 0) rfl
   refine (op_buildSlice (K := (kdInt .u8)) (e := 5) (cs := [.int .u8 ((105 : Int))] ++ ([.int .u8 ((110 : Int))] ++ ([.int .u8 ((115 : Int))] ++ ([.int .u8 ((112 : Int))] ++ [])))) ([(105 : Int), (110 : Int), (115 : Int), (112 : Int)] : List Int) rfl rfl rfl rfl hE rfl hS rfl (by kernel_rfl) rfl rfl (by exact ⟨_, _, rfl, rfl, ⟨_, _, rfl, rfl, ⟨_, _, rfl, rfl, ⟨_, _, rfl, rfl, rfl⟩⟩⟩⟩) (fun a A7 q22 w _ hE h3 hS => ?_))
   refine ⟨⟨show RP [b1] _ _ from ⟨(hS.heapAt (j := 1) rfl).trans hp_b4981.symm, trivial⟩, fun _ => hS.st.sees⟩, ?_⟩
   clear hp_b4981
   refine twoB (i := 1) (j := 4) (fuel := 7) (m1 := 61167) (m2 := 61181) (by kernel_rfl) (by kernel_rfl) (by kernel_rfl) ?_ ?_
   ·have hp_b4981 := hS.heapAt (j := 1) rfl
    refine (op_lit (T := 5) (l := ([(105 : Int), (110 : Int), (115 : Int), (112 : Int)] : List Int)) rfl rfl rfl rfl hE rfl hS rfl (by kernel_rfl) h3 (by kernel_rfl) (fun a D23 w _ le12 hE h12 hS => ?_))
    have h229 := OwnL.full 5 h12 rfl
    have hS := hS.nils
    refine ⟨⟨show RP [b1] _ _ from ⟨(hS.heapAt (j := 1) rfl).trans hp_b4981.symm, trivial⟩, fun _ => hS.st.sees.mono le12⟩, ?_⟩
    clear hp_b4981
    have hp_b4981 := hS.heapAt (j := 1) rfl
    obtain ⟨r11, h34, hf⟩ := bs hf
    refine oC 4 61183 6 rfl rfl rfl rfl hE rfl rfl rfl rfl (wire_Flag.calls h34 (hS.st.fore (L := [])) ) fun a v w hR hE => ?_
    obtain ⟨D24, A40, c36, q23, rfl, hS1, h35⟩ := hR
    have le13 := hS1.dle
    have hS := hS.callR hS1 rfl (.c .n)
    refine ⟨⟨show RP [b1] _ _ from ⟨(hS.heapAt (j := 2) rfl).trans hp_b4981.symm, trivial⟩, fun _ => hS.st.sees.mono (le2 le12 le13)⟩, ?_⟩
    clear hp_b4981
    have hp_b4981 := hS.heapAt (j := 2) rfl
    obtain ⟨r12, h36, hf⟩ := bs hf
    refine oC 8 61439 5 rfl rfl rfl rfl hE rfl rfl rfl rfl (wire_Num.calls h36 (hS.st.fore (L := [])) ) fun a v w hR hE => ?_
    obtain ⟨D25, A41, c37, q24, rfl, hS1, h37⟩ := hR
    have le14 := hS1.dle
    have hS := hS.callR hS1 rfl (.c .n)
    refine ⟨⟨show RP [b1] _ _ from ⟨(hS.heapAt (j := 3) rfl).trans hp_b4981.symm, trivial⟩, fun _ => hS.st.sees.mono (le2 (le2 le12 le13) le14)⟩, ?_⟩
    clear hp_b4981
    have hp_b4981 := hS.heapAt (j := 3) rfl
    obtain ⟨r13, h38, hf⟩ := bs hf
    refine oC 12 65535 4 rfl rfl rfl rfl hE rfl rfl rfl rfl (wire_Hash.calls h38 (hS.st.fore (L := [])) ) fun a v w hR hE => ?_
    obtain ⟨D26, A42, c38, q25, rfl, hS1, h39⟩ := hR
    have le15 := hS1.dle
    have hS := hS.callR hS1 rfl (.c .n)
    refine ⟨⟨show RP [b1] _ _ from ⟨(hS.heapAt (j := 4) rfl).trans hp_b4981.symm, trivial⟩, fun _ => hS.st.sees.mono (le2 (le2 (le2 le12 le13) le14) le15)⟩, ?_⟩
    clear hp_b4981
    have hp_b4981 := hS.heapAt (j := 4) rfl
    obtain ⟨r14, h40, hf⟩ := bs hf
    refine oC 16 131071 3 rfl rfl rfl rfl hE rfl rfl rfl rfl (bundle_list_api_Sig.calls h40 (hS.st.fore (L := [])) (h4.mono (le2 (le2 (le2 (le2 le11 le12) le13) le14) le15))) fun a v w hR hE => ?_
    obtain ⟨D27, A43, c39, q26, rfl, hS1, h41⟩ := hR
    have le37 := hS1.dle
    have hS := hS.callR hS1 rfl (.c .n)
    refine ⟨⟨show RP [b1] _ _ from ⟨(hS.heapAt (j := 5) rfl).trans hp_b4981.symm, trivial⟩, fun _ => hS.st.sees.mono (le2 (le2 (le2 (le2 le12 le13) le14) le15) le37)⟩, ?_⟩
    clear hp_b4981
    have hp_b4981 := hS.heapAt (j := 5) rfl
    have hS := hS.p (.d 3 (.d 0 (.d 1 (.d 2 (.d 4 (.d 5 .n))))))
    obtain ⟨D28, q27, le52, hS, h230, h42⟩ := hS.lent (h35.mono (le2 (le2 le14 le15) le37))
    have hS := hS.p (.d 3 (.d 0 (.d 1 (.d 2 (.d 4 (.d 5 .n))))))
    obtain ⟨D29, q28, le53, hS, h231, h43⟩ := hS.lent (h37.mono (le2 (le2 le15 le37) le52))
    have hS := hS.p (.d 3 (.d 0 (.d 1 (.d 2 (.d 4 (.d 5 .n))))))
    obtain ⟨D30, q29, le54, hS, h232, h44⟩ := hS.lent (h39.mono (le2 (le2 le37 le52) le53))
    have hS := hS.p (.d 3 (.d 0 (.d 1 (.d 2 (.d 4 (.d 5 .n))))))
    obtain ⟨D31, q30, le55, hS, h233, h45⟩ := hS.lent (h41.mono (le2 (le2 le52 le53) le54))
    refine oG 17 262143 (fuel := 2) (by kernel_rfl) (op_buildSlice (K := (kdSlice (kdInt .u8))) (e := 33) (cs := [.slice A7 (List.length (([(105 : Int), (110 : Int), (115 : Int), (112 : Int)] : List Int))) 4] ++ ([.slice A40 (List.length (r11)) c36] ++ ([.slice A41 (List.length (r12)) c37] ++ ([.slice A42 (List.length (r13)) c38] ++ ([.slice A43 (List.length (r14)) c39] ++ []))))) ([([(105 : Int), (110 : Int), (115 : Int), (112 : Int)] : List Int), r11, r12, r13, r14] : List (List Int)) rfl rfl rfl rfl hE rfl hS rfl (by kernel_rfl) rfl rfl (by exact ⟨_, _, rfl, (kslice (h12.mono (le2 (le2 (le2 (le2 (le2 (le2 (le2 le13 le14) le15) le37) le52) le53) le54) le55))), ⟨_, _, rfl, (kslice (h42.mono (le2 (le2 le53 le54) le55))), ⟨_, _, rfl, (kslice (h43.mono (le2 le54 le55))), ⟨_, _, rfl, (kslice (h44.mono le55)), ⟨_, _, rfl, (kslice h45), rfl⟩⟩⟩⟩⟩) (fun a A66 q31 w _ hE h46 hS => ?_))
    refine ⟨⟨show RP [b1] _ _ from ⟨(hS.heapAt (j := 6) rfl).trans hp_b4981.symm, trivial⟩, fun _ => hS.st.sees.mono (le2 (le2 (le2 (le2 (le2 (le2 (le2 (le2 le12 le13) le14) le15) le37) le52) le53) le54) le55)⟩, ?_⟩
    clear hp_b4981
    have hp_b4981 := hS.heapAt (j := 6) rfl
    obtain ⟨D32, q32, le113, hS, h234, h47⟩ := hS.lent h46
    obtain ⟨r15, h48, hf⟩ := bs hf
    refine oC 18 524287 1 rfl rfl rfl rfl hE rfl rfl rfl rfl (wire_All.calls h48 (hS.st.fore (L := [])) h47) fun a v w hR hE => ?_
    obtain ⟨D6, A20, c17, q5, rfl, hS1, h49⟩ := hR
    have le114 := hS1.dle
    have hS := hS.callR hS1 rfl (.c .n)
    refine ⟨⟨show RP [b1] _ _ from ⟨(hS.heapAt (j := 7) rfl).trans hp_b4981.symm, trivial⟩, fun _ => hS.st.sees.mono (le2 (le2 (le2 (le2 (le2 (le2 (le2 (le2 (le2 (le2 le12 le13) le14) le15) le37) le52) le53) le54) le55) le113) le114)⟩, ?_⟩
    clear hp_b4981
    refine wP 19 1048575 0 (.slice A20 (List.length (r15)) c17) hE fun a hE => ?_
    refine doneG (by kernel_rfl) ?_
    have hS := hS.p (.d 7 (.d 0 .n))
    exact ⟨r15, A20, c17, q5, D6, hE.wk, hS, (le2 (le2 (le2 (le2 (le2 (le2 (le2 (le2 (le2 (le2 le12 le13) le14) le15) le37) le52) le53) le54) le55) le113) le114), h49, hf⟩
   have hp_b4981 := hS.heapAt (j := 1) rfl
   obtain ⟨r3, h50, hf⟩ := bs hf
   refine (op_call rfl rfl rfl rfl hE rfl rfl rfl rfl (by kernel_rfl) (wire_Flag.calls h50 (hS.st.fore (L := [])) ) (fun a v w hR hE => ?_))
   obtain ⟨D33, A11, c10, q33, rfl, hS1, h5⟩ := hR
   have le4 := hS1.dle
   have hS := hS.callR hS1 rfl (.c .n)
   refine ⟨⟨show RP [b1] _ _ from ⟨(hS.heapAt (j := 2) rfl).trans hp_b4981.symm, trivial⟩, fun _ => hS.st.sees.mono le4⟩, ?_⟩
   clear hp_b4981
   refine twoB (i := 1) (j := 8) (fuel := 6) (m1 := 61183) (m2 := 61437) (by kernel_rfl) (by kernel_rfl) (by kernel_rfl) ?_ ?_
   ·have hp_b4981 := hS.heapAt (j := 2) rfl
    have hS := hS.p (.d 1 (.d 0 (.d 2 .n)))
    refine (op_lit (T := 5) (l := ([(105 : Int), (110 : Int), (115 : Int), (112 : Int)] : List Int)) rfl rfl rfl rfl hE rfl hS rfl (by kernel_rfl) (h3.mono le4) (by kernel_rfl) (fun a D34 w _ le16 hE h13 hS => ?_))
    have h235 := OwnL.full 5 h13 rfl
    have hS := hS.nils
    refine ⟨⟨show RP [b1] _ _ from ⟨(hS.heapAt (j := 2) rfl).trans hp_b4981.symm, trivial⟩, fun _ => hS.st.sees.mono (le2 le4 le16)⟩, ?_⟩
    clear hp_b4981
    have hp_b4981 := hS.heapAt (j := 2) rfl
    obtain ⟨r16, h51, hf⟩ := bs hf
    refine oC 8 61439 5 rfl rfl rfl rfl hE rfl rfl rfl rfl (wire_Num.calls h51 (hS.st.fore (L := [])) ) fun a v w hR hE => ?_
    obtain ⟨D35, A44, c40, q34, rfl, hS1, h52⟩ := hR
    have le17 := hS1.dle
    have hS := hS.callR hS1 rfl (.c .n)
    refine ⟨⟨show RP [b1] _ _ from ⟨(hS.heapAt (j := 3) rfl).trans hp_b4981.symm, trivial⟩, fun _ => hS.st.sees.mono (le2 (le2 le4 le16) le17)⟩, ?_⟩
    clear hp_b4981
    have hp_b4981 := hS.heapAt (j := 3) rfl
    obtain ⟨r17, h53, hf⟩ := bs hf
    refine oC 12 65535 4 rfl rfl rfl rfl hE rfl rfl rfl rfl (wire_Hash.calls h53 (hS.st.fore (L := [])) ) fun a v w hR hE => ?_
    obtain ⟨D36, A45, c41, q35, rfl, hS1, h54⟩ := hR
    have le18 := hS1.dle
    have hS := hS.callR hS1 rfl (.c .n)
    refine ⟨⟨show RP [b1] _ _ from ⟨(hS.heapAt (j := 4) rfl).trans hp_b4981.symm, trivial⟩, fun _ => hS.st.sees.mono (le2 (le2 (le2 le4 le16) le17) le18)⟩, ?_⟩
    clear hp_b4981
    have hp_b4981 := hS.heapAt (j := 4) rfl
    obtain ⟨r18, h55, hf⟩ := bs hf
    refine oC 16 131071 3 rfl rfl rfl rfl hE rfl rfl rfl rfl (bundle_list_api_Sig.calls h55 (hS.st.fore (L := [])) (h4.mono (le2 (le2 (le2 (le2 le11 le4) le16) le17) le18))) fun a v w hR hE => ?_
    obtain ⟨D37, A46, c42, q36, rfl, hS1, h56⟩ := hR
    have le38 := hS1.dle
    have hS := hS.callR hS1 rfl (.c .n)
    refine ⟨⟨show RP [b1] _ _ from ⟨(hS.heapAt (j := 5) rfl).trans hp_b4981.symm, trivial⟩, fun _ => hS.st.sees.mono (le2 (le2 (le2 (le2 le4 le16) le17) le18) le38)⟩, ?_⟩
    clear hp_b4981
    have hp_b4981 := hS.heapAt (j := 5) rfl
    have hS := hS.p (.d 4 (.d 0 (.d 1 (.d 2 (.d 3 (.d 5 .n))))))
    obtain ⟨D38, q37, le56, hS, h236, h57⟩ := hS.lent (h5.mono (le2 (le2 (le2 le16 le17) le18) le38))
    have hS := hS.p (.d 3 (.d 0 (.d 1 (.d 2 (.d 4 (.d 5 .n))))))
    obtain ⟨D39, q38, le57, hS, h237, h58⟩ := hS.lent (h52.mono (le2 (le2 le18 le38) le56))
    have hS := hS.p (.d 3 (.d 0 (.d 1 (.d 2 (.d 4 (.d 5 .n))))))
    obtain ⟨D40, q39, le58, hS, h238, h59⟩ := hS.lent (h54.mono (le2 (le2 le38 le56) le57))
    have hS := hS.p (.d 3 (.d 0 (.d 1 (.d 2 (.d 4 (.d 5 .n))))))
    obtain ⟨D41, q40, le59, hS, h239, h60⟩ := hS.lent (h56.mono (le2 (le2 le56 le57) le58))
    refine oG 17 262143 (fuel := 2) (by kernel_rfl) (op_buildSlice (K := (kdSlice (kdInt .u8))) (e := 33) (cs := [.slice A7 (List.length (([(105 : Int), (110 : Int), (115 : Int), (112 : Int)] : List Int))) 4] ++ ([.slice A11 (List.length (r3)) c10] ++ ([.slice A44 (List.length (r16)) c40] ++ ([.slice A45 (List.length (r17)) c41] ++ ([.slice A46 (List.length (r18)) c42] ++ []))))) ([([(105 : Int), (110 : Int), (115 : Int), (112 : Int)] : List Int), r3, r16, r17, r18] : List (List Int)) rfl rfl rfl rfl hE rfl hS rfl (by kernel_rfl) rfl rfl (by exact ⟨_, _, rfl, (kslice (h13.mono (le2 (le2 (le2 (le2 (le2 (le2 le17 le18) le38) le56) le57) le58) le59))), ⟨_, _, rfl, (kslice (h57.mono (le2 (le2 le57 le58) le59))), ⟨_, _, rfl, (kslice (h58.mono (le2 le58 le59))), ⟨_, _, rfl, (kslice (h59.mono le59)), ⟨_, _, rfl, (kslice h60), rfl⟩⟩⟩⟩⟩) (fun a A67 q41 w _ hE h61 hS => ?_))
    refine ⟨⟨show RP [b1] _ _ from ⟨(hS.heapAt (j := 6) rfl).trans hp_b4981.symm, trivial⟩, fun _ => hS.st.sees.mono (le2 (le2 (le2 (le2 (le2 (le2 (le2 (le2 le4 le16) le17) le18) le38) le56) le57) le58) le59)⟩, ?_⟩
    clear hp_b4981
    have hp_b4981 := hS.heapAt (j := 6) rfl
    obtain ⟨D42, q42, le115, hS, h240, h62⟩ := hS.lent h61
    obtain ⟨r19, h63, hf⟩ := bs hf
    refine oC 18 524287 1 rfl rfl rfl rfl hE rfl rfl rfl rfl (wire_All.calls h63 (hS.st.fore (L := [])) h62) fun a v w hR hE => ?_
    obtain ⟨D7, A21, c18, q6, rfl, hS1, h64⟩ := hR
    have le116 := hS1.dle
    have hS := hS.callR hS1 rfl (.c .n)
    refine ⟨⟨show RP [b1] _ _ from ⟨(hS.heapAt (j := 7) rfl).trans hp_b4981.symm, trivial⟩, fun _ => hS.st.sees.mono (le2 (le2 (le2 (le2 (le2 (le2 (le2 (le2 (le2 (le2 le4 le16) le17) le18) le38) le56) le57) le58) le59) le115) le116)⟩, ?_⟩
    clear hp_b4981
    refine wP 19 1048575 0 (.slice A21 (List.length (r19)) c18) hE fun a hE => ?_
    refine doneG (by kernel_rfl) ?_
    have hS := hS.p (.d 7 (.d 0 .n))
    exact ⟨r19, A21, c18, q6, D7, hE.wk, hS, (le2 (le2 (le2 (le2 (le2 (le2 (le2 (le2 (le2 (le2 le4 le16) le17) le18) le38) le56) le57) le58) le59) le115) le116), h64, hf⟩
   have hp_b4981 := hS.heapAt (j := 2) rfl
   obtain ⟨r4, h65, hf⟩ := bs hf
   refine (op_call rfl rfl rfl rfl hE rfl rfl rfl rfl (by kernel_rfl) (wire_Num.calls h65 (hS.st.fore (L := [])) ) (fun a v w hR hE => ?_))
   obtain ⟨D43, A14, c12, q43, rfl, hS1, h8⟩ := hR
   have le5 := hS1.dle
   have hS := hS.callR hS1 rfl (.c .n)
   refine ⟨⟨show RP [b1] _ _ from ⟨(hS.heapAt (j := 3) rfl).trans hp_b4981.symm, trivial⟩, fun _ => hS.st.sees.mono (le2 le4 le5)⟩, ?_⟩
   clear hp_b4981
   refine twoB (i := 1) (j := 12) (fuel := 5) (m1 := 61439) (m2 := 65533) (by kernel_rfl) (by kernel_rfl) (by kernel_rfl) ?_ ?_
   ·have hp_b4981 := hS.heapAt (j := 3) rfl
    have hS := hS.p (.d 2 (.d 0 (.d 1 (.d 3 .n))))
    refine (op_lit (T := 5) (l := ([(105 : Int), (110 : Int), (115 : Int), (112 : Int)] : List Int)) rfl rfl rfl rfl hE rfl hS rfl (by kernel_rfl) (h3.mono (le2 le4 le5)) (by kernel_rfl) (fun a D44 w _ le19 hE h14 hS => ?_))
    have h241 := OwnL.full 5 h14 rfl
    have hS := hS.nils
    refine ⟨⟨show RP [b1] _ _ from ⟨(hS.heapAt (j := 3) rfl).trans hp_b4981.symm, trivial⟩, fun _ => hS.st.sees.mono (le2 (le2 le4 le5) le19)⟩, ?_⟩
    clear hp_b4981
    have hp_b4981 := hS.heapAt (j := 3) rfl
    obtain ⟨r20, h66, hf⟩ := bs hf
    refine oC 12 65535 4 rfl rfl rfl rfl hE rfl rfl rfl rfl (wire_Hash.calls h66 (hS.st.fore (L := [])) ) fun a v w hR hE => ?_
    obtain ⟨D45, A47, c43, q44, rfl, hS1, h67⟩ := hR
    have le20 := hS1.dle
    have hS := hS.callR hS1 rfl (.c .n)
    refine ⟨⟨show RP [b1] _ _ from ⟨(hS.heapAt (j := 4) rfl).trans hp_b4981.symm, trivial⟩, fun _ => hS.st.sees.mono (le2 (le2 (le2 le4 le5) le19) le20)⟩, ?_⟩
    clear hp_b4981
    have hp_b4981 := hS.heapAt (j := 4) rfl
    obtain ⟨r21, h68, hf⟩ := bs hf
    refine oC 16 131071 3 rfl rfl rfl rfl hE rfl rfl rfl rfl (bundle_list_api_Sig.calls h68 (hS.st.fore (L := [])) (h4.mono (le2 (le2 (le2 (le2 le11 le4) le5) le19) le20))) fun a v w hR hE => ?_
    obtain ⟨D46, A48, c44, q45, rfl, hS1, h69⟩ := hR
    have le39 := hS1.dle
    have hS := hS.callR hS1 rfl (.c .n)
    refine ⟨⟨show RP [b1] _ _ from ⟨(hS.heapAt (j := 5) rfl).trans hp_b4981.symm, trivial⟩, fun _ => hS.st.sees.mono (le2 (le2 (le2 (le2 le4 le5) le19) le20) le39)⟩, ?_⟩
    clear hp_b4981
    have hp_b4981 := hS.heapAt (j := 5) rfl
    have hS := hS.p (.d 4 (.d 0 (.d 1 (.d 2 (.d 3 (.d 5 .n))))))
    obtain ⟨D47, q46, le60, hS, h242, h70⟩ := hS.lent (h5.mono (le2 (le2 (le2 le5 le19) le20) le39))
    have hS := hS.p (.d 4 (.d 0 (.d 1 (.d 2 (.d 3 (.d 5 .n))))))
    obtain ⟨D48, q47, le61, hS, h243, h71⟩ := hS.lent (h8.mono (le2 (le2 (le2 le19 le20) le39) le60))
    have hS := hS.p (.d 3 (.d 0 (.d 1 (.d 2 (.d 4 (.d 5 .n))))))
    obtain ⟨D49, q48, le62, hS, h244, h72⟩ := hS.lent (h67.mono (le2 (le2 le39 le60) le61))
    have hS := hS.p (.d 3 (.d 0 (.d 1 (.d 2 (.d 4 (.d 5 .n))))))
    obtain ⟨D50, q49, le63, hS, h245, h73⟩ := hS.lent (h69.mono (le2 (le2 le60 le61) le62))
    refine oG 17 262143 (fuel := 2) (by kernel_rfl) (op_buildSlice (K := (kdSlice (kdInt .u8))) (e := 33) (cs := [.slice A7 (List.length (([(105 : Int), (110 : Int), (115 : Int), (112 : Int)] : List Int))) 4] ++ ([.slice A11 (List.length (r3)) c10] ++ ([.slice A14 (List.length (r4)) c12] ++ ([.slice A47 (List.length (r20)) c43] ++ ([.slice A48 (List.length (r21)) c44] ++ []))))) ([([(105 : Int), (110 : Int), (115 : Int), (112 : Int)] : List Int), r3, r4, r20, r21] : List (List Int)) rfl rfl rfl rfl hE rfl hS rfl (by kernel_rfl) rfl rfl (by exact ⟨_, _, rfl, (kslice (h14.mono (le2 (le2 (le2 (le2 (le2 le20 le39) le60) le61) le62) le63))), ⟨_, _, rfl, (kslice (h70.mono (le2 (le2 le61 le62) le63))), ⟨_, _, rfl, (kslice (h71.mono (le2 le62 le63))), ⟨_, _, rfl, (kslice (h72.mono le63)), ⟨_, _, rfl, (kslice h73), rfl⟩⟩⟩⟩⟩) (fun a A68 q50 w _ hE h74 hS => ?_))
    refine ⟨⟨show RP [b1] _ _ from ⟨(hS.heapAt (j := 6) rfl).trans hp_b4981.symm, trivial⟩, fun _ => hS.st.sees.mono (le2 (le2 (le2 (le2 (le2 (le2 (le2 (le2 le4 le5) le19) le20) le39) le60) le61) le62) le63)⟩, ?_⟩
    clear hp_b4981
    have hp_b4981 := hS.heapAt (j := 6) rfl
    obtain ⟨D51, q51, le117, hS, h246, h75⟩ := hS.lent h74
    obtain ⟨r22, h76, hf⟩ := bs hf
    refine oC 18 524287 1 rfl rfl rfl rfl hE rfl rfl rfl rfl (wire_All.calls h76 (hS.st.fore (L := [])) h75) fun a v w hR hE => ?_
    obtain ⟨D8, A22, c19, q7, rfl, hS1, h77⟩ := hR
    have le118 := hS1.dle
    have hS := hS.callR hS1 rfl (.c .n)
    refine ⟨⟨show RP [b1] _ _ from ⟨(hS.heapAt (j := 7) rfl).trans hp_b4981.symm, trivial⟩, fun _ => hS.st.sees.mono (le2 (le2 (le2 (le2 (le2 (le2 (le2 (le2 (le2 (le2 le4 le5) le19) le20) le39) le60) le61) le62) le63) le117) le118)⟩, ?_⟩
    clear hp_b4981
    refine wP 19 1048575 0 (.slice A22 (List.length (r22)) c19) hE fun a hE => ?_
    refine doneG (by kernel_rfl) ?_
    have hS := hS.p (.d 7 (.d 0 .n))
    exact ⟨r22, A22, c19, q7, D8, hE.wk, hS, (le2 (le2 (le2 (le2 (le2 (le2 (le2 (le2 (le2 (le2 le4 le5) le19) le20) le39) le60) le61) le62) le63) le117) le118), h77, hf⟩
   have hp_b4981 := hS.heapAt (j := 3) rfl
   obtain ⟨r7, h78, hf⟩ := bs hf
   refine (op_call rfl rfl rfl rfl hE rfl rfl rfl rfl (by kernel_rfl) (wire_Hash.calls h78 (hS.st.fore (L := [])) ) (fun a v w hR hE => ?_))
   obtain ⟨D52, A23, c20, q52, rfl, hS1, h15⟩ := hR
   have le8 := hS1.dle
   have hS := hS.callR hS1 rfl (.c .n)
   refine ⟨⟨show RP [b1] _ _ from ⟨(hS.heapAt (j := 4) rfl).trans hp_b4981.symm, trivial⟩, fun _ => hS.st.sees.mono (le2 (le2 le4 le5) le8)⟩, ?_⟩
   clear hp_b4981
   refine twoB (i := 1) (j := 16) (fuel := 4) (m1 := 65535) (m2 := 131069) (by kernel_rfl) (by kernel_rfl) (by kernel_rfl) ?_ ?_
   ·have hp_b4981 := hS.heapAt (j := 4) rfl
    have hS := hS.p (.d 3 (.d 0 (.d 1 (.d 2 (.d 4 .n)))))
    refine (op_lit (T := 5) (l := ([(105 : Int), (110 : Int), (115 : Int), (112 : Int)] : List Int)) rfl rfl rfl rfl hE rfl hS rfl (by kernel_rfl) (h3.mono (le2 (le2 le4 le5) le8)) (by kernel_rfl) (fun a D53 w _ le21 hE h16 hS => ?_))
    have h247 := OwnL.full 5 h16 rfl
    have hS := hS.nils
    refine ⟨⟨show RP [b1] _ _ from ⟨(hS.heapAt (j := 4) rfl).trans hp_b4981.symm, trivial⟩, fun _ => hS.st.sees.mono (le2 (le2 (le2 le4 le5) le8) le21)⟩, ?_⟩
    clear hp_b4981
    have hp_b4981 := hS.heapAt (j := 4) rfl
    obtain ⟨r23, h79, hf⟩ := bs hf
    refine oC 16 131071 3 rfl rfl rfl rfl hE rfl rfl rfl rfl (bundle_list_api_Sig.calls h79 (hS.st.fore (L := [])) (h4.mono (le2 (le2 (le2 (le2 le11 le4) le5) le8) le21))) fun a v w hR hE => ?_
    obtain ⟨D54, A49, c45, q53, rfl, hS1, h80⟩ := hR
    have le40 := hS1.dle
    have hS := hS.callR hS1 rfl (.c .n)
    refine ⟨⟨show RP [b1] _ _ from ⟨(hS.heapAt (j := 5) rfl).trans hp_b4981.symm, trivial⟩, fun _ => hS.st.sees.mono (le2 (le2 (le2 (le2 le4 le5) le8) le21) le40)⟩, ?_⟩
    clear hp_b4981
    have hp_b4981 := hS.heapAt (j := 5) rfl
    have hS := hS.p (.d 4 (.d 0 (.d 1 (.d 2 (.d 3 (.d 5 .n))))))
    obtain ⟨D55, q54, le64, hS, h248, h81⟩ := hS.lent (h5.mono (le2 (le2 (le2 le5 le8) le21) le40))
    have hS := hS.p (.d 4 (.d 0 (.d 1 (.d 2 (.d 3 (.d 5 .n))))))
    obtain ⟨D56, q55, le65, hS, h249, h82⟩ := hS.lent (h8.mono (le2 (le2 (le2 le8 le21) le40) le64))
    have hS := hS.p (.d 4 (.d 0 (.d 1 (.d 2 (.d 3 (.d 5 .n))))))
    obtain ⟨D57, q56, le66, hS, h250, h83⟩ := hS.lent (h15.mono (le2 (le2 (le2 le21 le40) le64) le65))
    have hS := hS.p (.d 3 (.d 0 (.d 1 (.d 2 (.d 4 (.d 5 .n))))))
    obtain ⟨D58, q57, le67, hS, h251, h84⟩ := hS.lent (h80.mono (le2 (le2 le64 le65) le66))
    refine oG 17 262143 (fuel := 2) (by kernel_rfl) (op_buildSlice (K := (kdSlice (kdInt .u8))) (e := 33) (cs := [.slice A7 (List.length (([(105 : Int), (110 : Int), (115 : Int), (112 : Int)] : List Int))) 4] ++ ([.slice A11 (List.length (r3)) c10] ++ ([.slice A14 (List.length (r4)) c12] ++ ([.slice A23 (List.length (r7)) c20] ++ ([.slice A49 (List.length (r23)) c45] ++ []))))) ([([(105 : Int), (110 : Int), (115 : Int), (112 : Int)] : List Int), r3, r4, r7, r23] : List (List Int)) rfl rfl rfl rfl hE rfl hS rfl (by kernel_rfl) rfl rfl (by exact ⟨_, _, rfl, (kslice (h16.mono (le2 (le2 (le2 (le2 le40 le64) le65) le66) le67))), ⟨_, _, rfl, (kslice (h81.mono (le2 (le2 le65 le66) le67))), ⟨_, _, rfl, (kslice (h82.mono (le2 le66 le67))), ⟨_, _, rfl, (kslice (h83.mono le67)), ⟨_, _, rfl, (kslice h84), rfl⟩⟩⟩⟩⟩) (fun a A69 q58 w _ hE h85 hS => ?_))
    refine ⟨⟨show RP [b1] _ _ from ⟨(hS.heapAt (j := 6) rfl).trans hp_b4981.symm, trivial⟩, fun _ => hS.st.sees.mono (le2 (le2 (le2 (le2 (le2 (le2 (le2 (le2 le4 le5) le8) le21) le40) le64) le65) le66) le67)⟩, ?_⟩
    clear hp_b4981
    have hp_b4981 := hS.heapAt (j := 6) rfl
    obtain ⟨D59, q59, le119, hS, h252, h86⟩ := hS.lent h85
    obtain ⟨r24, h87, hf⟩ := bs hf
    refine oC 18 524287 1 rfl rfl rfl rfl hE rfl rfl rfl rfl (wire_All.calls h87 (hS.st.fore (L := [])) h86) fun a v w hR hE => ?_
    obtain ⟨D9, A24, c21, q8, rfl, hS1, h88⟩ := hR
    have le120 := hS1.dle
    have hS := hS.callR hS1 rfl (.c .n)
    refine ⟨⟨show RP [b1] _ _ from ⟨(hS.heapAt (j := 7) rfl).trans hp_b4981.symm, trivial⟩, fun _ => hS.st.sees.mono (le2 (le2 (le2 (le2 (le2 (le2 (le2 (le2 (le2 (le2 le4 le5) le8) le21) le40) le64) le65) le66) le67) le119) le120)⟩, ?_⟩
    clear hp_b4981
    refine wP 19 1048575 0 (.slice A24 (List.length (r24)) c21) hE fun a hE => ?_
    refine doneG (by kernel_rfl) ?_
    have hS := hS.p (.d 7 (.d 0 .n))
    exact ⟨r24, A24, c21, q8, D9, hE.wk, hS, (le2 (le2 (le2 (le2 (le2 (le2 (le2 (le2 (le2 (le2 le4 le5) le8) le21) le40) le64) le65) le66) le67) le119) le120), h88, hf⟩
   have hp_b4981 := hS.heapAt (j := 4) rfl
   obtain ⟨r25, h89, hf⟩ := bs hf
   refine (op_call rfl rfl rfl rfl hE rfl rfl rfl rfl (by kernel_rfl) (bundle_list_api_Sig.calls h89 (hS.st.fore (L := [])) (h4.mono (le2 (le2 (le2 le11 le4) le5) le8))) (fun a v w hR hE => ?_))
   obtain ⟨D60, A50, c46, q60, rfl, hS1, h90⟩ := hR
   have le22 := hS1.dle
   have hS := hS.callR hS1 rfl (.c .n)
   refine ⟨⟨show RP [b1] _ _ from ⟨(hS.heapAt (j := 5) rfl).trans hp_b4981.symm, trivial⟩, fun _ => hS.st.sees.mono (le2 (le2 (le2 le4 le5) le8) le22)⟩, ?_⟩
   clear hp_b4981
   have hp_b4981 := hS.heapAt (j := 5) rfl
   have hS := hS.p (.d 4 (.d 0 (.d 1 (.d 2 (.d 3 (.d 5 .n))))))
   refine oG 1 131071 (fuel := 3) (by kernel_rfl) (op_lit (T := 5) (l := ([(105 : Int), (110 : Int), (115 : Int), (112 : Int)] : List Int)) rfl rfl rfl rfl hE rfl hS rfl (by kernel_rfl) (h3.mono (le2 (le2 (le2 le4 le5) le8) le22)) (by kernel_rfl) (fun a D61 w _ le41 hE h17 hS => ?_))
   have h253 := OwnL.full 5 h17 rfl
   have hS := hS.nils
   refine ⟨⟨show RP [b1] _ _ from ⟨(hS.heapAt (j := 5) rfl).trans hp_b4981.symm, trivial⟩, fun _ => hS.st.sees.mono (le2 (le2 (le2 (le2 le4 le5) le8) le22) le41)⟩, ?_⟩
   clear hp_b4981
   have hp_b4981 := hS.heapAt (j := 5) rfl
   have hS := hS.p (.d 4 (.d 0 (.d 1 (.d 2 (.d 3 (.d 5 .n))))))
   obtain ⟨D62, q61, le68, hS, h254, h91⟩ := hS.lent (h5.mono (le2 (le2 (le2 le5 le8) le22) le41))
   have hS := hS.p (.d 4 (.d 0 (.d 1 (.d 2 (.d 3 (.d 5 .n))))))
   obtain ⟨D63, q62, le69, hS, h255, h92⟩ := hS.lent (h8.mono (le2 (le2 (le2 le8 le22) le41) le68))
   have hS := hS.p (.d 4 (.d 0 (.d 1 (.d 2 (.d 3 (.d 5 .n))))))
   obtain ⟨D64, q63, le70, hS, h256, h93⟩ := hS.lent (h15.mono (le2 (le2 (le2 le22 le41) le68) le69))
   have hS := hS.p (.d 4 (.d 0 (.d 1 (.d 2 (.d 3 (.d 5 .n))))))
   obtain ⟨D65, q64, le71, hS, h257, h94⟩ := hS.lent (h90.mono (le2 (le2 (le2 le41 le68) le69) le70))
   refine oG 17 262143 (fuel := 2) (by kernel_rfl) (op_buildSlice (K := (kdSlice (kdInt .u8))) (e := 33) (cs := [.slice A7 (List.length (([(105 : Int), (110 : Int), (115 : Int), (112 : Int)] : List Int))) 4] ++ ([.slice A11 (List.length (r3)) c10] ++ ([.slice A14 (List.length (r4)) c12] ++ ([.slice A23 (List.length (r7)) c20] ++ ([.slice A50 (List.length (r25)) c46] ++ []))))) ([([(105 : Int), (110 : Int), (115 : Int), (112 : Int)] : List Int), r3, r4, r7, r25] : List (List Int)) rfl rfl rfl rfl hE rfl hS rfl (by kernel_rfl) rfl rfl (by exact ⟨_, _, rfl, (kslice (h17.mono (le2 (le2 (le2 le68 le69) le70) le71))), ⟨_, _, rfl, (kslice (h91.mono (le2 (le2 le69 le70) le71))), ⟨_, _, rfl, (kslice (h92.mono (le2 le70 le71))), ⟨_, _, rfl, (kslice (h93.mono le71)), ⟨_, _, rfl, (kslice h94), rfl⟩⟩⟩⟩⟩) (fun a A70 q65 w _ hE h95 hS => ?_))
   refine ⟨⟨show RP [b1] _ _ from ⟨(hS.heapAt (j := 6) rfl).trans hp_b4981.symm, trivial⟩, fun _ => hS.st.sees.mono (le2 (le2 (le2 (le2 (le2 (le2 (le2 (le2 le4 le5) le8) le22) le41) le68) le69) le70) le71)⟩, ?_⟩
   clear hp_b4981
   have hp_b4981 := hS.heapAt (j := 6) rfl
   obtain ⟨D66, q66, le121, hS, h258, h96⟩ := hS.lent h95
   obtain ⟨r26, h97, hf⟩ := bs hf
   refine oC 18 524287 1 rfl rfl rfl rfl hE rfl rfl rfl rfl (wire_All.calls h97 (hS.st.fore (L := [])) h96) fun a v w hR hE => ?_
   obtain ⟨D10, A25, c22, q9, rfl, hS1, h98⟩ := hR
   have le122 := hS1.dle
   have hS := hS.callR hS1 rfl (.c .n)
   refine ⟨⟨show RP [b1] _ _ from ⟨(hS.heapAt (j := 7) rfl).trans hp_b4981.symm, trivial⟩, fun _ => hS.st.sees.mono (le2 (le2 (le2 (le2 (le2 (le2 (le2 (le2 (le2 (le2 le4 le5) le8) le22) le41) le68) le69) le70) le71) le121) le122)⟩, ?_⟩
   clear hp_b4981
   refine wP 19 1048575 0 (.slice A25 (List.length (r26)) c22) hE fun a hE => ?_
   refine doneG (by kernel_rfl) ?_
   have hS := hS.p (.d 7 (.d 0 .n))
   exact ⟨r26, A25, c22, q9, D10, hE.wk, hS, (le2 (le2 (le2 (le2 (le2 (le2 (le2 (le2 (le2 (le2 le4 le5) le8) le22) le41) le68) le69) le70) le71) le121) le122), h98, hf⟩
  have hp_b4981 := hS.heapAt (j := 0) rfl
  obtain ⟨r1, h99, hf⟩ := bs hf
  refine (op_call rfl rfl rfl rfl hE rfl rfl rfl rfl (by kernel_rfl) (wire_Flag.calls h99 (hS.st.fore (L := [])) ) (fun a v w hR hE => ?_))
  obtain ⟨D67, A1, c1, q67, rfl, hS1, h1⟩ := hR
  have le1 := hS1.dle
  have hS := hS.callR hS1 rfl (.c .n)
  refine ⟨⟨show RP [b1] _ _ from ⟨(hS.heapAt (j := 1) rfl).trans hp_b4981.symm, trivial⟩, fun _ => hS.st.sees.mono le1⟩, ?_⟩
  clear hp_b4981
  refine twoB (i := 0) (j := 8) (fuel := 7) (m1 := 61181) (m2 := 61436) (by kernel_rfl) (by kernel_rfl) (by kernel_rfl) ?_ ?_
  ·have hp_b4981 := hS.heapAt (j := 1) rfl
   refine (op_buildSlice (K := (kdInt .u8)) (e := 5) (cs := [.int .u8 ((105 : Int))] ++ ([.int .u8 ((110 : Int))] ++ ([.int .u8 ((115 : Int))] ++ ([.int .u8 ((112 : Int))] ++ [])))) ([(105 : Int), (110 : Int), (115 : Int), (112 : Int)] : List Int) rfl rfl rfl rfl hE rfl hS rfl (by kernel_rfl) rfl rfl (by exact ⟨_, _, rfl, rfl, ⟨_, _, rfl, rfl, ⟨_, _, rfl, rfl, ⟨_, _, rfl, rfl, rfl⟩⟩⟩⟩) (fun a A12 q68 w _ hE h6 hS => ?_))
   refine ⟨⟨show RP [b1] _ _ from ⟨(hS.heapAt (j := 2) rfl).trans hp_b4981.symm, trivial⟩, fun _ => hS.st.sees.mono le1⟩, ?_⟩
   clear hp_b4981
   refine twoB (i := 1) (j := 8) (fuel := 6) (m1 := 61183) (m2 := 61437) (by kernel_rfl) (by kernel_rfl) (by kernel_rfl) ?_ ?_
   ·have hp_b4981 := hS.heapAt (j := 2) rfl
    refine (op_lit (T := 5) (l := ([(105 : Int), (110 : Int), (115 : Int), (112 : Int)] : List Int)) rfl rfl rfl rfl hE rfl hS rfl (by kernel_rfl) h6 (by kernel_rfl) (fun a D68 w _ le23 hE h18 hS => ?_))
    have h259 := OwnL.full 5 h18 rfl
    have hS := hS.nils
    refine ⟨⟨show RP [b1] _ _ from ⟨(hS.heapAt (j := 2) rfl).trans hp_b4981.symm, trivial⟩, fun _ => hS.st.sees.mono (le2 le1 le23)⟩, ?_⟩
    clear hp_b4981
    have hp_b4981 := hS.heapAt (j := 2) rfl
    obtain ⟨r27, h100, hf⟩ := bs hf
    refine oC 8 61439 5 rfl rfl rfl rfl hE rfl rfl rfl rfl (wire_Num.calls h100 (hS.st.fore (L := [])) ) fun a v w hR hE => ?_
    obtain ⟨D69, A51, c47, q69, rfl, hS1, h101⟩ := hR
    have le24 := hS1.dle
    have hS := hS.callR hS1 rfl (.c .n)
    refine ⟨⟨show RP [b1] _ _ from ⟨(hS.heapAt (j := 3) rfl).trans hp_b4981.symm, trivial⟩, fun _ => hS.st.sees.mono (le2 (le2 le1 le23) le24)⟩, ?_⟩
    clear hp_b4981
    have hp_b4981 := hS.heapAt (j := 3) rfl
    obtain ⟨r28, h102, hf⟩ := bs hf
    refine oC 12 65535 4 rfl rfl rfl rfl hE rfl rfl rfl rfl (wire_Hash.calls h102 (hS.st.fore (L := [])) ) fun a v w hR hE => ?_
    obtain ⟨D70, A52, c48, q70, rfl, hS1, h103⟩ := hR
    have le25 := hS1.dle
    have hS := hS.callR hS1 rfl (.c .n)
    refine ⟨⟨show RP [b1] _ _ from ⟨(hS.heapAt (j := 4) rfl).trans hp_b4981.symm, trivial⟩, fun _ => hS.st.sees.mono (le2 (le2 (le2 le1 le23) le24) le25)⟩, ?_⟩
    clear hp_b4981
    have hp_b4981 := hS.heapAt (j := 4) rfl
    obtain ⟨r29, h104, hf⟩ := bs hf
    refine oC 16 131071 3 rfl rfl rfl rfl hE rfl rfl rfl rfl (bundle_list_api_Sig.calls h104 (hS.st.fore (L := [])) (h4.mono (le2 (le2 (le2 (le2 le11 le1) le23) le24) le25))) fun a v w hR hE => ?_
    obtain ⟨D71, A53, c49, q71, rfl, hS1, h105⟩ := hR
    have le42 := hS1.dle
    have hS := hS.callR hS1 rfl (.c .n)
    refine ⟨⟨show RP [b1] _ _ from ⟨(hS.heapAt (j := 5) rfl).trans hp_b4981.symm, trivial⟩, fun _ => hS.st.sees.mono (le2 (le2 (le2 (le2 le1 le23) le24) le25) le42)⟩, ?_⟩
    clear hp_b4981
    have hp_b4981 := hS.heapAt (j := 5) rfl
    have hS := hS.p (.d 4 (.d 0 (.d 1 (.d 2 (.d 3 (.d 5 .n))))))
    obtain ⟨D72, q72, le72, hS, h260, h106⟩ := hS.lent (h1.mono (le2 (le2 (le2 le23 le24) le25) le42))
    have hS := hS.p (.d 3 (.d 0 (.d 1 (.d 2 (.d 4 (.d 5 .n))))))
    obtain ⟨D73, q73, le73, hS, h261, h107⟩ := hS.lent (h101.mono (le2 (le2 le25 le42) le72))
    have hS := hS.p (.d 3 (.d 0 (.d 1 (.d 2 (.d 4 (.d 5 .n))))))
    obtain ⟨D74, q74, le74, hS, h262, h108⟩ := hS.lent (h103.mono (le2 (le2 le42 le72) le73))
    have hS := hS.p (.d 3 (.d 0 (.d 1 (.d 2 (.d 4 (.d 5 .n))))))
    obtain ⟨D75, q75, le75, hS, h263, h109⟩ := hS.lent (h105.mono (le2 (le2 le72 le73) le74))
    refine oG 17 262143 (fuel := 2) (by kernel_rfl) (op_buildSlice (K := (kdSlice (kdInt .u8))) (e := 33) (cs := [.slice A12 (List.length (([(105 : Int), (110 : Int), (115 : Int), (112 : Int)] : List Int))) 4] ++ ([.slice A1 (List.length (r1)) c1] ++ ([.slice A51 (List.length (r27)) c47] ++ ([.slice A52 (List.length (r28)) c48] ++ ([.slice A53 (List.length (r29)) c49] ++ []))))) ([([(105 : Int), (110 : Int), (115 : Int), (112 : Int)] : List Int), r1, r27, r28, r29] : List (List Int)) rfl rfl rfl rfl hE rfl hS rfl (by kernel_rfl) rfl rfl (by exact ⟨_, _, rfl, (kslice (h18.mono (le2 (le2 (le2 (le2 (le2 (le2 le24 le25) le42) le72) le73) le74) le75))), ⟨_, _, rfl, (kslice (h106.mono (le2 (le2 le73 le74) le75))), ⟨_, _, rfl, (kslice (h107.mono (le2 le74 le75))), ⟨_, _, rfl, (kslice (h108.mono le75)), ⟨_, _, rfl, (kslice h109), rfl⟩⟩⟩⟩⟩) (fun a A71 q76 w _ hE h110 hS => ?_))
    refine ⟨⟨show RP [b1] _ _ from ⟨(hS.heapAt (j := 6) rfl).trans hp_b4981.symm, trivial⟩, fun _ => hS.st.sees.mono (le2 (le2 (le2 (le2 (le2 (le2 (le2 (le2 le1 le23) le24) le25) le42) le72) le73) le74) le75)⟩, ?_⟩
    clear hp_b4981
    have hp_b4981 := hS.heapAt (j := 6) rfl
    obtain ⟨D76, q77, le123, hS, h264, h111⟩ := hS.lent h110
    obtain ⟨r30, h112, hf⟩ := bs hf
    refine oC 18 524287 1 rfl rfl rfl rfl hE rfl rfl rfl rfl (wire_All.calls h112 (hS.st.fore (L := [])) h111) fun a v w hR hE => ?_
    obtain ⟨D11, A26, c23, q10, rfl, hS1, h113⟩ := hR
    have le124 := hS1.dle
    have hS := hS.callR hS1 rfl (.c .n)
    refine ⟨⟨show RP [b1] _ _ from ⟨(hS.heapAt (j := 7) rfl).trans hp_b4981.symm, trivial⟩, fun _ => hS.st.sees.mono (le2 (le2 (le2 (le2 (le2 (le2 (le2 (le2 (le2 (le2 le1 le23) le24) le25) le42) le72) le73) le74) le75) le123) le124)⟩, ?_⟩
    clear hp_b4981
    refine wP 19 1048575 0 (.slice A26 (List.length (r30)) c23) hE fun a hE => ?_
    refine doneG (by kernel_rfl) ?_
    have hS := hS.p (.d 7 (.d 0 .n))
    exact ⟨r30, A26, c23, q10, D11, hE.wk, hS, (le2 (le2 (le2 (le2 (le2 (le2 (le2 (le2 (le2 (le2 le1 le23) le24) le25) le42) le72) le73) le74) le75) le123) le124), h113, hf⟩
   have hp_b4981 := hS.heapAt (j := 2) rfl
   obtain ⟨r5, h114, hf⟩ := bs hf
   refine (op_call rfl rfl rfl rfl hE rfl rfl rfl rfl (by kernel_rfl) (wire_Num.calls h114 (hS.st.fore (L := [])) ) (fun a v w hR hE => ?_))
   obtain ⟨D77, A15, c13, q78, rfl, hS1, h9⟩ := hR
   have le6 := hS1.dle
   have hS := hS.callR hS1 rfl (.c .n)
   refine ⟨⟨show RP [b1] _ _ from ⟨(hS.heapAt (j := 3) rfl).trans hp_b4981.symm, trivial⟩, fun _ => hS.st.sees.mono (le2 le1 le6)⟩, ?_⟩
   clear hp_b4981
   refine twoB (i := 1) (j := 12) (fuel := 5) (m1 := 61439) (m2 := 65533) (by kernel_rfl) (by kernel_rfl) (by kernel_rfl) ?_ ?_
   ·have hp_b4981 := hS.heapAt (j := 3) rfl
    have hS := hS.p (.d 1 (.d 0 (.d 2 (.d 3 .n))))
    refine (op_lit (T := 5) (l := ([(105 : Int), (110 : Int), (115 : Int), (112 : Int)] : List Int)) rfl rfl rfl rfl hE rfl hS rfl (by kernel_rfl) (h6.mono le6) (by kernel_rfl) (fun a D78 w _ le26 hE h19 hS => ?_))
    have h265 := OwnL.full 5 h19 rfl
    have hS := hS.nils
    refine ⟨⟨show RP [b1] _ _ from ⟨(hS.heapAt (j := 3) rfl).trans hp_b4981.symm, trivial⟩, fun _ => hS.st.sees.mono (le2 (le2 le1 le6) le26)⟩, ?_⟩
    clear hp_b4981
    have hp_b4981 := hS.heapAt (j := 3) rfl
    obtain ⟨r31, h115, hf⟩ := bs hf
    refine oC 12 65535 4 rfl rfl rfl rfl hE rfl rfl rfl rfl (wire_Hash.calls h115 (hS.st.fore (L := [])) ) fun a v w hR hE => ?_
    obtain ⟨D79, A54, c50, q79, rfl, hS1, h116⟩ := hR
    have le27 := hS1.dle
    have hS := hS.callR hS1 rfl (.c .n)
    refine ⟨⟨show RP [b1] _ _ from ⟨(hS.heapAt (j := 4) rfl).trans hp_b4981.symm, trivial⟩, fun _ => hS.st.sees.mono (le2 (le2 (le2 le1 le6) le26) le27)⟩, ?_⟩
    clear hp_b4981
    have hp_b4981 := hS.heapAt (j := 4) rfl
    obtain ⟨r32, h117, hf⟩ := bs hf
    refine oC 16 131071 3 rfl rfl rfl rfl hE rfl rfl rfl rfl (bundle_list_api_Sig.calls h117 (hS.st.fore (L := [])) (h4.mono (le2 (le2 (le2 (le2 le11 le1) le6) le26) le27))) fun a v w hR hE => ?_
    obtain ⟨D80, A55, c51, q80, rfl, hS1, h118⟩ := hR
    have le43 := hS1.dle
    have hS := hS.callR hS1 rfl (.c .n)
    refine ⟨⟨show RP [b1] _ _ from ⟨(hS.heapAt (j := 5) rfl).trans hp_b4981.symm, trivial⟩, fun _ => hS.st.sees.mono (le2 (le2 (le2 (le2 le1 le6) le26) le27) le43)⟩, ?_⟩
    clear hp_b4981
    have hp_b4981 := hS.heapAt (j := 5) rfl
    have hS := hS.p (.d 4 (.d 0 (.d 1 (.d 2 (.d 3 (.d 5 .n))))))
    obtain ⟨D81, q81, le76, hS, h266, h119⟩ := hS.lent (h1.mono (le2 (le2 (le2 le6 le26) le27) le43))
    have hS := hS.p (.d 4 (.d 0 (.d 1 (.d 2 (.d 3 (.d 5 .n))))))
    obtain ⟨D82, q82, le77, hS, h267, h120⟩ := hS.lent (h9.mono (le2 (le2 (le2 le26 le27) le43) le76))
    have hS := hS.p (.d 3 (.d 0 (.d 1 (.d 2 (.d 4 (.d 5 .n))))))
    obtain ⟨D83, q83, le78, hS, h268, h121⟩ := hS.lent (h116.mono (le2 (le2 le43 le76) le77))
    have hS := hS.p (.d 3 (.d 0 (.d 1 (.d 2 (.d 4 (.d 5 .n))))))
    obtain ⟨D84, q84, le79, hS, h269, h122⟩ := hS.lent (h118.mono (le2 (le2 le76 le77) le78))
    refine oG 17 262143 (fuel := 2) (by kernel_rfl) (op_buildSlice (K := (kdSlice (kdInt .u8))) (e := 33) (cs := [.slice A12 (List.length (([(105 : Int), (110 : Int), (115 : Int), (112 : Int)] : List Int))) 4] ++ ([.slice A1 (List.length (r1)) c1] ++ ([.slice A15 (List.length (r5)) c13] ++ ([.slice A54 (List.length (r31)) c50] ++ ([.slice A55 (List.length (r32)) c51] ++ []))))) ([([(105 : Int), (110 : Int), (115 : Int), (112 : Int)] : List Int), r1, r5, r31, r32] : List (List Int)) rfl rfl rfl rfl hE rfl hS rfl (by kernel_rfl) rfl rfl (by exact ⟨_, _, rfl, (kslice (h19.mono (le2 (le2 (le2 (le2 (le2 le27 le43) le76) le77) le78) le79))), ⟨_, _, rfl, (kslice (h119.mono (le2 (le2 le77 le78) le79))), ⟨_, _, rfl, (kslice (h120.mono (le2 le78 le79))), ⟨_, _, rfl, (kslice (h121.mono le79)), ⟨_, _, rfl, (kslice h122), rfl⟩⟩⟩⟩⟩) (fun a A72 q85 w _ hE h123 hS => ?_))
    refine ⟨⟨show RP [b1] _ _ from ⟨(hS.heapAt (j := 6) rfl).trans hp_b4981.symm, trivial⟩, fun _ => hS.st.sees.mono (le2 (le2 (le2 (le2 (le2 (le2 (le2 (le2 le1 le6) le26) le27) le43) le76) le77) le78) le79)⟩, ?_⟩
    clear hp_b4981
    have hp_b4981 := hS.heapAt (j := 6) rfl
    obtain ⟨D85, q86, le125, hS, h270, h124⟩ := hS.lent h123
    obtain ⟨r33, h125, hf⟩ := bs hf
    refine oC 18 524287 1 rfl rfl rfl rfl hE rfl rfl rfl rfl (wire_All.calls h125 (hS.st.fore (L := [])) h124) fun a v w hR hE => ?_
    obtain ⟨D12, A27, c24, q11, rfl, hS1, h126⟩ := hR
    have le126 := hS1.dle
    have hS := hS.callR hS1 rfl (.c .n)
    refine ⟨⟨show RP [b1] _ _ from ⟨(hS.heapAt (j := 7) rfl).trans hp_b4981.symm, trivial⟩, fun _ => hS.st.sees.mono (le2 (le2 (le2 (le2 (le2 (le2 (le2 (le2 (le2 (le2 le1 le6) le26) le27) le43) le76) le77) le78) le79) le125) le126)⟩, ?_⟩
    clear hp_b4981
    refine wP 19 1048575 0 (.slice A27 (List.length (r33)) c24) hE fun a hE => ?_
    refine doneG (by kernel_rfl) ?_
    have hS := hS.p (.d 7 (.d 0 .n))
    exact ⟨r33, A27, c24, q11, D12, hE.wk, hS, (le2 (le2 (le2 (le2 (le2 (le2 (le2 (le2 (le2 (le2 le1 le6) le26) le27) le43) le76) le77) le78) le79) le125) le126), h126, hf⟩
   have hp_b4981 := hS.heapAt (j := 3) rfl
   obtain ⟨r8, h127, hf⟩ := bs hf
   refine (op_call rfl rfl rfl rfl hE rfl rfl rfl rfl (by kernel_rfl) (wire_Hash.calls h127 (hS.st.fore (L := [])) ) (fun a v w hR hE => ?_))
   obtain ⟨D86, A28, c25, q87, rfl, hS1, h20⟩ := hR
   have le9 := hS1.dle
   have hS := hS.callR hS1 rfl (.c .n)
   refine ⟨⟨show RP [b1] _ _ from ⟨(hS.heapAt (j := 4) rfl).trans hp_b4981.symm, trivial⟩, fun _ => hS.st.sees.mono (le2 (le2 le1 le6) le9)⟩, ?_⟩
   clear hp_b4981
   refine twoB (i := 1) (j := 16) (fuel := 4) (m1 := 65535) (m2 := 131069) (by kernel_rfl) (by kernel_rfl) (by kernel_rfl) ?_ ?_
   ·have hp_b4981 := hS.heapAt (j := 4) rfl
    have hS := hS.p (.d 2 (.d 0 (.d 1 (.d 3 (.d 4 .n)))))
    refine (op_lit (T := 5) (l := ([(105 : Int), (110 : Int), (115 : Int), (112 : Int)] : List Int)) rfl rfl rfl rfl hE rfl hS rfl (by kernel_rfl) (h6.mono (le2 le6 le9)) (by kernel_rfl) (fun a D87 w _ le28 hE h21 hS => ?_))
    have h271 := OwnL.full 5 h21 rfl
    have hS := hS.nils
    refine ⟨⟨show RP [b1] _ _ from ⟨(hS.heapAt (j := 4) rfl).trans hp_b4981.symm, trivial⟩, fun _ => hS.st.sees.mono (le2 (le2 (le2 le1 le6) le9) le28)⟩, ?_⟩
    clear hp_b4981
    have hp_b4981 := hS.heapAt (j := 4) rfl
    obtain ⟨r34, h128, hf⟩ := bs hf
    refine oC 16 131071 3 rfl rfl rfl rfl hE rfl rfl rfl rfl (bundle_list_api_Sig.calls h128 (hS.st.fore (L := [])) (h4.mono (le2 (le2 (le2 (le2 le11 le1) le6) le9) le28))) fun a v w hR hE => ?_
    obtain ⟨D88, A56, c52, q88, rfl, hS1, h129⟩ := hR
    have le44 := hS1.dle
    have hS := hS.callR hS1 rfl (.c .n)
    refine ⟨⟨show RP [b1] _ _ from ⟨(hS.heapAt (j := 5) rfl).trans hp_b4981.symm, trivial⟩, fun _ => hS.st.sees.mono (le2 (le2 (le2 (le2 le1 le6) le9) le28) le44)⟩, ?_⟩
    clear hp_b4981
    have hp_b4981 := hS.heapAt (j := 5) rfl
    have hS := hS.p (.d 4 (.d 0 (.d 1 (.d 2 (.d 3 (.d 5 .n))))))
    obtain ⟨D89, q89, le80, hS, h272, h130⟩ := hS.lent (h1.mono (le2 (le2 (le2 le6 le9) le28) le44))
    have hS := hS.p (.d 4 (.d 0 (.d 1 (.d 2 (.d 3 (.d 5 .n))))))
    obtain ⟨D90, q90, le81, hS, h273, h131⟩ := hS.lent (h9.mono (le2 (le2 (le2 le9 le28) le44) le80))
    have hS := hS.p (.d 4 (.d 0 (.d 1 (.d 2 (.d 3 (.d 5 .n))))))
    obtain ⟨D91, q91, le82, hS, h274, h132⟩ := hS.lent (h20.mono (le2 (le2 (le2 le28 le44) le80) le81))
    have hS := hS.p (.d 3 (.d 0 (.d 1 (.d 2 (.d 4 (.d 5 .n))))))
    obtain ⟨D92, q92, le83, hS, h275, h133⟩ := hS.lent (h129.mono (le2 (le2 le80 le81) le82))
    refine oG 17 262143 (fuel := 2) (by kernel_rfl) (op_buildSlice (K := (kdSlice (kdInt .u8))) (e := 33) (cs := [.slice A12 (List.length (([(105 : Int), (110 : Int), (115 : Int), (112 : Int)] : List Int))) 4] ++ ([.slice A1 (List.length (r1)) c1] ++ ([.slice A15 (List.length (r5)) c13] ++ ([.slice A28 (List.length (r8)) c25] ++ ([.slice A56 (List.length (r34)) c52] ++ []))))) ([([(105 : Int), (110 : Int), (115 : Int), (112 : Int)] : List Int), r1, r5, r8, r34] : List (List Int)) rfl rfl rfl rfl hE rfl hS rfl (by kernel_rfl) rfl rfl (by exact ⟨_, _, rfl, (kslice (h21.mono (le2 (le2 (le2 (le2 le44 le80) le81) le82) le83))), ⟨_, _, rfl, (kslice (h130.mono (le2 (le2 le81 le82) le83))), ⟨_, _, rfl, (kslice (h131.mono (le2 le82 le83))), ⟨_, _, rfl, (kslice (h132.mono le83)), ⟨_, _, rfl, (kslice h133), rfl⟩⟩⟩⟩⟩) (fun a A73 q93 w _ hE h134 hS => ?_))
    refine ⟨⟨show RP [b1] _ _ from ⟨(hS.heapAt (j := 6) rfl).trans hp_b4981.symm, trivial⟩, fun _ => hS.st.sees.mono (le2 (le2 (le2 (le2 (le2 (le2 (le2 (le2 le1 le6) le9) le28) le44) le80) le81) le82) le83)⟩, ?_⟩
    clear hp_b4981
    have hp_b4981 := hS.heapAt (j := 6) rfl
    obtain ⟨D93, q94, le127, hS, h276, h135⟩ := hS.lent h134
    obtain ⟨r35, h136, hf⟩ := bs hf
    refine oC 18 524287 1 rfl rfl rfl rfl hE rfl rfl rfl rfl (wire_All.calls h136 (hS.st.fore (L := [])) h135) fun a v w hR hE => ?_
    obtain ⟨D13, A29, c26, q12, rfl, hS1, h137⟩ := hR
    have le128 := hS1.dle
    have hS := hS.callR hS1 rfl (.c .n)
    refine ⟨⟨show RP [b1] _ _ from ⟨(hS.heapAt (j := 7) rfl).trans hp_b4981.symm, trivial⟩, fun _ => hS.st.sees.mono (le2 (le2 (le2 (le2 (le2 (le2 (le2 (le2 (le2 (le2 le1 le6) le9) le28) le44) le80) le81) le82) le83) le127) le128)⟩, ?_⟩
    clear hp_b4981
    refine wP 19 1048575 0 (.slice A29 (List.length (r35)) c26) hE fun a hE => ?_
    refine doneG (by kernel_rfl) ?_
    have hS := hS.p (.d 7 (.d 0 .n))
    exact ⟨r35, A29, c26, q12, D13, hE.wk, hS, (le2 (le2 (le2 (le2 (le2 (le2 (le2 (le2 (le2 (le2 le1 le6) le9) le28) le44) le80) le81) le82) le83) le127) le128), h137, hf⟩
   have hp_b4981 := hS.heapAt (j := 4) rfl
   obtain ⟨r36, h138, hf⟩ := bs hf
   refine (op_call rfl rfl rfl rfl hE rfl rfl rfl rfl (by kernel_rfl) (bundle_list_api_Sig.calls h138 (hS.st.fore (L := [])) (h4.mono (le2 (le2 (le2 le11 le1) le6) le9))) (fun a v w hR hE => ?_))
   obtain ⟨D94, A57, c53, q95, rfl, hS1, h139⟩ := hR
   have le29 := hS1.dle
   have hS := hS.callR hS1 rfl (.c .n)
   refine ⟨⟨show RP [b1] _ _ from ⟨(hS.heapAt (j := 5) rfl).trans hp_b4981.symm, trivial⟩, fun _ => hS.st.sees.mono (le2 (le2 (le2 le1 le6) le9) le29)⟩, ?_⟩
   clear hp_b4981
   have hp_b4981 := hS.heapAt (j := 5) rfl
   have hS := hS.p (.d 3 (.d 0 (.d 1 (.d 2 (.d 4 (.d 5 .n))))))
   refine oG 1 131071 (fuel := 3) (by kernel_rfl) (op_lit (T := 5) (l := ([(105 : Int), (110 : Int), (115 : Int), (112 : Int)] : List Int)) rfl rfl rfl rfl hE rfl hS rfl (by kernel_rfl) (h6.mono (le2 (le2 le6 le9) le29)) (by kernel_rfl) (fun a D95 w _ le45 hE h22 hS => ?_))
   have h277 := OwnL.full 5 h22 rfl
   have hS := hS.nils
   refine ⟨⟨show RP [b1] _ _ from ⟨(hS.heapAt (j := 5) rfl).trans hp_b4981.symm, trivial⟩, fun _ => hS.st.sees.mono (le2 (le2 (le2 (le2 le1 le6) le9) le29) le45)⟩, ?_⟩
   clear hp_b4981
   have hp_b4981 := hS.heapAt (j := 5) rfl
   have hS := hS.p (.d 4 (.d 0 (.d 1 (.d 2 (.d 3 (.d 5 .n))))))
   obtain ⟨D96, q96, le84, hS, h278, h140⟩ := hS.lent (h1.mono (le2 (le2 (le2 le6 le9) le29) le45))
   have hS := hS.p (.d 4 (.d 0 (.d 1 (.d 2 (.d 3 (.d 5 .n))))))
   obtain ⟨D97, q97, le85, hS, h279, h141⟩ := hS.lent (h9.mono (le2 (le2 (le2 le9 le29) le45) le84))
   have hS := hS.p (.d 4 (.d 0 (.d 1 (.d 2 (.d 3 (.d 5 .n))))))
   obtain ⟨D98, q98, le86, hS, h280, h142⟩ := hS.lent (h20.mono (le2 (le2 (le2 le29 le45) le84) le85))
   have hS := hS.p (.d 4 (.d 0 (.d 1 (.d 2 (.d 3 (.d 5 .n))))))
   obtain ⟨D99, q99, le87, hS, h281, h143⟩ := hS.lent (h139.mono (le2 (le2 (le2 le45 le84) le85) le86))
   refine oG 17 262143 (fuel := 2) (by kernel_rfl) (op_buildSlice (K := (kdSlice (kdInt .u8))) (e := 33) (cs := [.slice A12 (List.length (([(105 : Int), (110 : Int), (115 : Int), (112 : Int)] : List Int))) 4] ++ ([.slice A1 (List.length (r1)) c1] ++ ([.slice A15 (List.length (r5)) c13] ++ ([.slice A28 (List.length (r8)) c25] ++ ([.slice A57 (List.length (r36)) c53] ++ []))))) ([([(105 : Int), (110 : Int), (115 : Int), (112 : Int)] : List Int), r1, r5, r8, r36] : List (List Int)) rfl rfl rfl rfl hE rfl hS rfl (by kernel_rfl) rfl rfl (by exact ⟨_, _, rfl, (kslice (h22.mono (le2 (le2 (le2 le84 le85) le86) le87))), ⟨_, _, rfl, (kslice (h140.mono (le2 (le2 le85 le86) le87))), ⟨_, _, rfl, (kslice (h141.mono (le2 le86 le87))), ⟨_, _, rfl, (kslice (h142.mono le87)), ⟨_, _, rfl, (kslice h143), rfl⟩⟩⟩⟩⟩) (fun a A74 q100 w _ hE h144 hS => ?_))
   refine ⟨⟨show RP [b1] _ _ from ⟨(hS.heapAt (j := 6) rfl).trans hp_b4981.symm, trivial⟩, fun _ => hS.st.sees.mono (le2 (le2 (le2 (le2 (le2 (le2 (le2 (le2 le1 le6) le9) le29) le45) le84) le85) le86) le87)⟩, ?_⟩
   clear hp_b4981
   have hp_b4981 := hS.heapAt (j := 6) rfl
   obtain ⟨D100, q101, le129, hS, h282, h145⟩ := hS.lent h144
   obtain ⟨r37, h146, hf⟩ := bs hf
   refine oC 18 524287 1 rfl rfl rfl rfl hE rfl rfl rfl rfl (wire_All.calls h146 (hS.st.fore (L := [])) h145) fun a v w hR hE => ?_
   obtain ⟨D14, A30, c27, q13, rfl, hS1, h147⟩ := hR
   have le130 := hS1.dle
   have hS := hS.callR hS1 rfl (.c .n)
   refine ⟨⟨show RP [b1] _ _ from ⟨(hS.heapAt (j := 7) rfl).trans hp_b4981.symm, trivial⟩, fun _ => hS.st.sees.mono (le2 (le2 (le2 (le2 (le2 (le2 (le2 (le2 (le2 (le2 le1 le6) le9) le29) le45) le84) le85) le86) le87) le129) le130)⟩, ?_⟩
   clear hp_b4981
   refine wP 19 1048575 0 (.slice A30 (List.length (r37)) c27) hE fun a hE => ?_
   refine doneG (by kernel_rfl) ?_
   have hS := hS.p (.d 7 (.d 0 .n))
   exact ⟨r37, A30, c27, q13, D14, hE.wk, hS, (le2 (le2 (le2 (le2 (le2 (le2 (le2 (le2 (le2 (le2 le1 le6) le9) le29) le45) le84) le85) le86) le87) le129) le130), h147, hf⟩
  have hp_b4981 := hS.heapAt (j := 1) rfl
  obtain ⟨r2, h148, hf⟩ := bs hf
  refine (op_call rfl rfl rfl rfl hE rfl rfl rfl rfl (by kernel_rfl) (wire_Num.calls h148 (hS.st.fore (L := [])) ) (fun a v w hR hE => ?_))
  obtain ⟨D101, A3, c2, q102, rfl, hS1, h2⟩ := hR
  have le3 := hS1.dle
  have hS := hS.callR hS1 rfl (.c .n)
  refine ⟨⟨show RP [b1] _ _ from ⟨(hS.heapAt (j := 2) rfl).trans hp_b4981.symm, trivial⟩, fun _ => hS.st.sees.mono (le2 le1 le3)⟩, ?_⟩
  clear hp_b4981
  refine twoB (i := 0) (j := 12) (fuel := 6) (m1 := 61437) (m2 := 65532) (by kernel_rfl) (by kernel_rfl) (by kernel_rfl) ?_ ?_
  ·have hp_b4981 := hS.heapAt (j := 2) rfl
   refine (op_buildSlice (K := (kdInt .u8)) (e := 5) (cs := [.int .u8 ((105 : Int))] ++ ([.int .u8 ((110 : Int))] ++ ([.int .u8 ((115 : Int))] ++ ([.int .u8 ((112 : Int))] ++ [])))) ([(105 : Int), (110 : Int), (115 : Int), (112 : Int)] : List Int) rfl rfl rfl rfl hE rfl hS rfl (by kernel_rfl) rfl rfl (by exact ⟨_, _, rfl, rfl, ⟨_, _, rfl, rfl, ⟨_, _, rfl, rfl, ⟨_, _, rfl, rfl, rfl⟩⟩⟩⟩) (fun a A16 q103 w _ hE h10 hS => ?_))
   refine ⟨⟨show RP [b1] _ _ from ⟨(hS.heapAt (j := 3) rfl).trans hp_b4981.symm, trivial⟩, fun _ => hS.st.sees.mono (le2 le1 le3)⟩, ?_⟩
   clear hp_b4981
   refine twoB (i := 1) (j := 12) (fuel := 5) (m1 := 61439) (m2 := 65533) (by kernel_rfl) (by kernel_rfl) (by kernel_rfl) ?_ ?_
   ·have hp_b4981 := hS.heapAt (j := 3) rfl
    refine (op_lit (T := 5) (l := ([(105 : Int), (110 : Int), (115 : Int), (112 : Int)] : List Int)) rfl rfl rfl rfl hE rfl hS rfl (by kernel_rfl) h10 (by kernel_rfl) (fun a D102 w _ le30 hE h23 hS => ?_))
    have h283 := OwnL.full 5 h23 rfl
    have hS := hS.nils
    refine ⟨⟨show RP [b1] _ _ from ⟨(hS.heapAt (j := 3) rfl).trans hp_b4981.symm, trivial⟩, fun _ => hS.st.sees.mono (le2 (le2 le1 le3) le30)⟩, ?_⟩
    clear hp_b4981
    have hp_b4981 := hS.heapAt (j := 3) rfl
    obtain ⟨r38, h149, hf⟩ := bs hf
    refine oC 12 65535 4 rfl rfl rfl rfl hE rfl rfl rfl rfl (wire_Hash.calls h149 (hS.st.fore (L := [])) ) fun a v w hR hE => ?_
    obtain ⟨D103, A58, c54, q104, rfl, hS1, h150⟩ := hR
    have le31 := hS1.dle
    have hS := hS.callR hS1 rfl (.c .n)
    refine ⟨⟨show RP [b1] _ _ from ⟨(hS.heapAt (j := 4) rfl).trans hp_b4981.symm, trivial⟩, fun _ => hS.st.sees.mono (le2 (le2 (le2 le1 le3) le30) le31)⟩, ?_⟩
    clear hp_b4981
    have hp_b4981 := hS.heapAt (j := 4) rfl
    obtain ⟨r39, h151, hf⟩ := bs hf
    refine oC 16 131071 3 rfl rfl rfl rfl hE rfl rfl rfl rfl (bundle_list_api_Sig.calls h151 (hS.st.fore (L := [])) (h4.mono (le2 (le2 (le2 (le2 le11 le1) le3) le30) le31))) fun a v w hR hE => ?_
    obtain ⟨D104, A59, c55, q105, rfl, hS1, h152⟩ := hR
    have le46 := hS1.dle
    have hS := hS.callR hS1 rfl (.c .n)
    refine ⟨⟨show RP [b1] _ _ from ⟨(hS.heapAt (j := 5) rfl).trans hp_b4981.symm, trivial⟩, fun _ => hS.st.sees.mono (le2 (le2 (le2 (le2 le1 le3) le30) le31) le46)⟩, ?_⟩
    clear hp_b4981
    have hp_b4981 := hS.heapAt (j := 5) rfl
    have hS := hS.p (.d 4 (.d 0 (.d 1 (.d 2 (.d 3 (.d 5 .n))))))
    obtain ⟨D105, q106, le88, hS, h284, h153⟩ := hS.lent (h1.mono (le2 (le2 (le2 le3 le30) le31) le46))
    have hS := hS.p (.d 4 (.d 0 (.d 1 (.d 2 (.d 3 (.d 5 .n))))))
    obtain ⟨D106, q107, le89, hS, h285, h154⟩ := hS.lent (h2.mono (le2 (le2 (le2 le30 le31) le46) le88))
    have hS := hS.p (.d 3 (.d 0 (.d 1 (.d 2 (.d 4 (.d 5 .n))))))
    obtain ⟨D107, q108, le90, hS, h286, h155⟩ := hS.lent (h150.mono (le2 (le2 le46 le88) le89))
    have hS := hS.p (.d 3 (.d 0 (.d 1 (.d 2 (.d 4 (.d 5 .n))))))
    obtain ⟨D108, q109, le91, hS, h287, h156⟩ := hS.lent (h152.mono (le2 (le2 le88 le89) le90))
    refine oG 17 262143 (fuel := 2) (by kernel_rfl) (op_buildSlice (K := (kdSlice (kdInt .u8))) (e := 33) (cs := [.slice A16 (List.length (([(105 : Int), (110 : Int), (115 : Int), (112 : Int)] : List Int))) 4] ++ ([.slice A1 (List.length (r1)) c1] ++ ([.slice A3 (List.length (r2)) c2] ++ ([.slice A58 (List.length (r38)) c54] ++ ([.slice A59 (List.length (r39)) c55] ++ []))))) ([([(105 : Int), (110 : Int), (115 : Int), (112 : Int)] : List Int), r1, r2, r38, r39] : List (List Int)) rfl rfl rfl rfl hE rfl hS rfl (by kernel_rfl) rfl rfl (by exact ⟨_, _, rfl, (kslice (h23.mono (le2 (le2 (le2 (le2 (le2 le31 le46) le88) le89) le90) le91))), ⟨_, _, rfl, (kslice (h153.mono (le2 (le2 le89 le90) le91))), ⟨_, _, rfl, (kslice (h154.mono (le2 le90 le91))), ⟨_, _, rfl, (kslice (h155.mono le91)), ⟨_, _, rfl, (kslice h156), rfl⟩⟩⟩⟩⟩) (fun a A75 q110 w _ hE h157 hS => ?_))
    refine ⟨⟨show RP [b1] _ _ from ⟨(hS.heapAt (j := 6) rfl).trans hp_b4981.symm, trivial⟩, fun _ => hS.st.sees.mono (le2 (le2 (le2 (le2 (le2 (le2 (le2 (le2 le1 le3) le30) le31) le46) le88) le89) le90) le91)⟩, ?_⟩
    clear hp_b4981
    have hp_b4981 := hS.heapAt (j := 6) rfl
    obtain ⟨D109, q111, le131, hS, h288, h158⟩ := hS.lent h157
    obtain ⟨r40, h159, hf⟩ := bs hf
    refine oC 18 524287 1 rfl rfl rfl rfl hE rfl rfl rfl rfl (wire_All.calls h159 (hS.st.fore (L := [])) h158) fun a v w hR hE => ?_
    obtain ⟨D15, A31, c28, q14, rfl, hS1, h160⟩ := hR
    have le132 := hS1.dle
    have hS := hS.callR hS1 rfl (.c .n)
    refine ⟨⟨show RP [b1] _ _ from ⟨(hS.heapAt (j := 7) rfl).trans hp_b4981.symm, trivial⟩, fun _ => hS.st.sees.mono (le2 (le2 (le2 (le2 (le2 (le2 (le2 (le2 (le2 (le2 le1 le3) le30) le31) le46) le88) le89) le90) le91) le131) le132)⟩, ?_⟩
    clear hp_b4981
    refine wP 19 1048575 0 (.slice A31 (List.length (r40)) c28) hE fun a hE => ?_
    refine doneG (by kernel_rfl) ?_
    have hS := hS.p (.d 7 (.d 0 .n))
    exact ⟨r40, A31, c28, q14, D15, hE.wk, hS, (le2 (le2 (le2 (le2 (le2 (le2 (le2 (le2 (le2 (le2 le1 le3) le30) le31) le46) le88) le89) le90) le91) le131) le132), h160, hf⟩
   have hp_b4981 := hS.heapAt (j := 3) rfl
   obtain ⟨r9, h161, hf⟩ := bs hf
   refine (op_call rfl rfl rfl rfl hE rfl rfl rfl rfl (by kernel_rfl) (wire_Hash.calls h161 (hS.st.fore (L := [])) ) (fun a v w hR hE => ?_))
   obtain ⟨D110, A32, c29, q112, rfl, hS1, h24⟩ := hR
   have le10 := hS1.dle
   have hS := hS.callR hS1 rfl (.c .n)
   refine ⟨⟨show RP [b1] _ _ from ⟨(hS.heapAt (j := 4) rfl).trans hp_b4981.symm, trivial⟩, fun _ => hS.st.sees.mono (le2 (le2 le1 le3) le10)⟩, ?_⟩
   clear hp_b4981
   refine twoB (i := 1) (j := 16) (fuel := 4) (m1 := 65535) (m2 := 131069) (by kernel_rfl) (by kernel_rfl) (by kernel_rfl) ?_ ?_
   ·have hp_b4981 := hS.heapAt (j := 4) rfl
    have hS := hS.p (.d 1 (.d 0 (.d 2 (.d 3 (.d 4 .n)))))
    refine (op_lit (T := 5) (l := ([(105 : Int), (110 : Int), (115 : Int), (112 : Int)] : List Int)) rfl rfl rfl rfl hE rfl hS rfl (by kernel_rfl) (h10.mono le10) (by kernel_rfl) (fun a D111 w _ le32 hE h25 hS => ?_))
    have h289 := OwnL.full 5 h25 rfl
    have hS := hS.nils
    refine ⟨⟨show RP [b1] _ _ from ⟨(hS.heapAt (j := 4) rfl).trans hp_b4981.symm, trivial⟩, fun _ => hS.st.sees.mono (le2 (le2 (le2 le1 le3) le10) le32)⟩, ?_⟩
    clear hp_b4981
    have hp_b4981 := hS.heapAt (j := 4) rfl
    obtain ⟨r41, h162, hf⟩ := bs hf
    refine oC 16 131071 3 rfl rfl rfl rfl hE rfl rfl rfl rfl (bundle_list_api_Sig.calls h162 (hS.st.fore (L := [])) (h4.mono (le2 (le2 (le2 (le2 le11 le1) le3) le10) le32))) fun a v w hR hE => ?_
    obtain ⟨D112, A60, c56, q113, rfl, hS1, h163⟩ := hR
    have le47 := hS1.dle
    have hS := hS.callR hS1 rfl (.c .n)
    refine ⟨⟨show RP [b1] _ _ from ⟨(hS.heapAt (j := 5) rfl).trans hp_b4981.symm, trivial⟩, fun _ => hS.st.sees.mono (le2 (le2 (le2 (le2 le1 le3) le10) le32) le47)⟩, ?_⟩
    clear hp_b4981
    have hp_b4981 := hS.heapAt (j := 5) rfl
    have hS := hS.p (.d 4 (.d 0 (.d 1 (.d 2 (.d 3 (.d 5 .n))))))
    obtain ⟨D113, q114, le92, hS, h290, h164⟩ := hS.lent (h1.mono (le2 (le2 (le2 le3 le10) le32) le47))
    have hS := hS.p (.d 4 (.d 0 (.d 1 (.d 2 (.d 3 (.d 5 .n))))))
    obtain ⟨D114, q115, le93, hS, h291, h165⟩ := hS.lent (h2.mono (le2 (le2 (le2 le10 le32) le47) le92))
    have hS := hS.p (.d 4 (.d 0 (.d 1 (.d 2 (.d 3 (.d 5 .n))))))
    obtain ⟨D115, q116, le94, hS, h292, h166⟩ := hS.lent (h24.mono (le2 (le2 (le2 le32 le47) le92) le93))
    have hS := hS.p (.d 3 (.d 0 (.d 1 (.d 2 (.d 4 (.d 5 .n))))))
    obtain ⟨D116, q117, le95, hS, h293, h167⟩ := hS.lent (h163.mono (le2 (le2 le92 le93) le94))
    refine oG 17 262143 (fuel := 2) (by kernel_rfl) (op_buildSlice (K := (kdSlice (kdInt .u8))) (e := 33) (cs := [.slice A16 (List.length (([(105 : Int), (110 : Int), (115 : Int), (112 : Int)] : List Int))) 4] ++ ([.slice A1 (List.length (r1)) c1] ++ ([.slice A3 (List.length (r2)) c2] ++ ([.slice A32 (List.length (r9)) c29] ++ ([.slice A60 (List.length (r41)) c56] ++ []))))) ([([(105 : Int), (110 : Int), (115 : Int), (112 : Int)] : List Int), r1, r2, r9, r41] : List (List Int)) rfl rfl rfl rfl hE rfl hS rfl (by kernel_rfl) rfl rfl (by exact ⟨_, _, rfl, (kslice (h25.mono (le2 (le2 (le2 (le2 le47 le92) le93) le94) le95))), ⟨_, _, rfl, (kslice (h164.mono (le2 (le2 le93 le94) le95))), ⟨_, _, rfl, (kslice (h165.mono (le2 le94 le95))), ⟨_, _, rfl, (kslice (h166.mono le95)), ⟨_, _, rfl, (kslice h167), rfl⟩⟩⟩⟩⟩) (fun a A76 q118 w _ hE h168 hS => ?_))
    refine ⟨⟨show RP [b1] _ _ from ⟨(hS.heapAt (j := 6) rfl).trans hp_b4981.symm, trivial⟩, fun _ => hS.st.sees.mono (le2 (le2 (le2 (le2 (le2 (le2 (le2 (le2 le1 le3) le10) le32) le47) le92) le93) le94) le95)⟩, ?_⟩
    clear hp_b4981
    have hp_b4981 := hS.heapAt (j := 6) rfl
    obtain ⟨D117, q119, le133, hS, h294, h169⟩ := hS.lent h168
    obtain ⟨r42, h170, hf⟩ := bs hf
    refine oC 18 524287 1 rfl rfl rfl rfl hE rfl rfl rfl rfl (wire_All.calls h170 (hS.st.fore (L := [])) h169) fun a v w hR hE => ?_
    obtain ⟨D16, A33, c30, q15, rfl, hS1, h171⟩ := hR
    have le134 := hS1.dle
    have hS := hS.callR hS1 rfl (.c .n)
    refine ⟨⟨show RP [b1] _ _ from ⟨(hS.heapAt (j := 7) rfl).trans hp_b4981.symm, trivial⟩, fun _ => hS.st.sees.mono (le2 (le2 (le2 (le2 (le2 (le2 (le2 (le2 (le2 (le2 le1 le3) le10) le32) le47) le92) le93) le94) le95) le133) le134)⟩, ?_⟩
    clear hp_b4981
    refine wP 19 1048575 0 (.slice A33 (List.length (r42)) c30) hE fun a hE => ?_
    refine doneG (by kernel_rfl) ?_
    have hS := hS.p (.d 7 (.d 0 .n))
    exact ⟨r42, A33, c30, q15, D16, hE.wk, hS, (le2 (le2 (le2 (le2 (le2 (le2 (le2 (le2 (le2 (le2 le1 le3) le10) le32) le47) le92) le93) le94) le95) le133) le134), h171, hf⟩
   have hp_b4981 := hS.heapAt (j := 4) rfl
   obtain ⟨r43, h172, hf⟩ := bs hf
   refine (op_call rfl rfl rfl rfl hE rfl rfl rfl rfl (by kernel_rfl) (bundle_list_api_Sig.calls h172 (hS.st.fore (L := [])) (h4.mono (le2 (le2 (le2 le11 le1) le3) le10))) (fun a v w hR hE => ?_))
   obtain ⟨D118, A61, c57, q120, rfl, hS1, h173⟩ := hR
   have le33 := hS1.dle
   have hS := hS.callR hS1 rfl (.c .n)
   refine ⟨⟨show RP [b1] _ _ from ⟨(hS.heapAt (j := 5) rfl).trans hp_b4981.symm, trivial⟩, fun _ => hS.st.sees.mono (le2 (le2 (le2 le1 le3) le10) le33)⟩, ?_⟩
   clear hp_b4981
   have hp_b4981 := hS.heapAt (j := 5) rfl
   have hS := hS.p (.d 2 (.d 0 (.d 1 (.d 3 (.d 4 (.d 5 .n))))))
   refine oG 1 131071 (fuel := 3) (by kernel_rfl) (op_lit (T := 5) (l := ([(105 : Int), (110 : Int), (115 : Int), (112 : Int)] : List Int)) rfl rfl rfl rfl hE rfl hS rfl (by kernel_rfl) (h10.mono (le2 le10 le33)) (by kernel_rfl) (fun a D119 w _ le48 hE h26 hS => ?_))
   have h295 := OwnL.full 5 h26 rfl
   have hS := hS.nils
   refine ⟨⟨show RP [b1] _ _ from ⟨(hS.heapAt (j := 5) rfl).trans hp_b4981.symm, trivial⟩, fun _ => hS.st.sees.mono (le2 (le2 (le2 (le2 le1 le3) le10) le33) le48)⟩, ?_⟩
   clear hp_b4981
   have hp_b4981 := hS.heapAt (j := 5) rfl
   have hS := hS.p (.d 4 (.d 0 (.d 1 (.d 2 (.d 3 (.d 5 .n))))))
   obtain ⟨D120, q121, le96, hS, h296, h174⟩ := hS.lent (h1.mono (le2 (le2 (le2 le3 le10) le33) le48))
   have hS := hS.p (.d 4 (.d 0 (.d 1 (.d 2 (.d 3 (.d 5 .n))))))
   obtain ⟨D121, q122, le97, hS, h297, h175⟩ := hS.lent (h2.mono (le2 (le2 (le2 le10 le33) le48) le96))
   have hS := hS.p (.d 4 (.d 0 (.d 1 (.d 2 (.d 3 (.d 5 .n))))))
   obtain ⟨D122, q123, le98, hS, h298, h176⟩ := hS.lent (h24.mono (le2 (le2 (le2 le33 le48) le96) le97))
   have hS := hS.p (.d 4 (.d 0 (.d 1 (.d 2 (.d 3 (.d 5 .n))))))
   obtain ⟨D123, q124, le99, hS, h299, h177⟩ := hS.lent (h173.mono (le2 (le2 (le2 le48 le96) le97) le98))
   refine oG 17 262143 (fuel := 2) (by kernel_rfl) (op_buildSlice (K := (kdSlice (kdInt .u8))) (e := 33) (cs := [.slice A16 (List.length (([(105 : Int), (110 : Int), (115 : Int), (112 : Int)] : List Int))) 4] ++ ([.slice A1 (List.length (r1)) c1] ++ ([.slice A3 (List.length (r2)) c2] ++ ([.slice A32 (List.length (r9)) c29] ++ ([.slice A61 (List.length (r43)) c57] ++ []))))) ([([(105 : Int), (110 : Int), (115 : Int), (112 : Int)] : List Int), r1, r2, r9, r43] : List (List Int)) rfl rfl rfl rfl hE rfl hS rfl (by kernel_rfl) rfl rfl (by exact ⟨_, _, rfl, (kslice (h26.mono (le2 (le2 (le2 le96 le97) le98) le99))), ⟨_, _, rfl, (kslice (h174.mono (le2 (le2 le97 le98) le99))), ⟨_, _, rfl, (kslice (h175.mono (le2 le98 le99))), ⟨_, _, rfl, (kslice (h176.mono le99)), ⟨_, _, rfl, (kslice h177), rfl⟩⟩⟩⟩⟩) (fun a A77 q125 w _ hE h178 hS => ?_))
   refine ⟨⟨show RP [b1] _ _ from ⟨(hS.heapAt (j := 6) rfl).trans hp_b4981.symm, trivial⟩, fun _ => hS.st.sees.mono (le2 (le2 (le2 (le2 (le2 (le2 (le2 (le2 le1 le3) le10) le33) le48) le96) le97) le98) le99)⟩, ?_⟩
   clear hp_b4981
   have hp_b4981 := hS.heapAt (j := 6) rfl
   obtain ⟨D124, q126, le135, hS, h300, h179⟩ := hS.lent h178
   obtain ⟨r44, h180, hf⟩ := bs hf
   refine oC 18 524287 1 rfl rfl rfl rfl hE rfl rfl rfl rfl (wire_All.calls h180 (hS.st.fore (L := [])) h179) fun a v w hR hE => ?_
   obtain ⟨D17, A34, c31, q16, rfl, hS1, h181⟩ := hR
   have le136 := hS1.dle
   have hS := hS.callR hS1 rfl (.c .n)
   refine ⟨⟨show RP [b1] _ _ from ⟨(hS.heapAt (j := 7) rfl).trans hp_b4981.symm, trivial⟩, fun _ => hS.st.sees.mono (le2 (le2 (le2 (le2 (le2 (le2 (le2 (le2 (le2 (le2 le1 le3) le10) le33) le48) le96) le97) le98) le99) le135) le136)⟩, ?_⟩
   clear hp_b4981
   refine wP 19 1048575 0 (.slice A34 (List.length (r44)) c31) hE fun a hE => ?_
   refine doneG (by kernel_rfl) ?_
   have hS := hS.p (.d 7 (.d 0 .n))
   exact ⟨r44, A34, c31, q16, D17, hE.wk, hS, (le2 (le2 (le2 (le2 (le2 (le2 (le2 (le2 (le2 (le2 le1 le3) le10) le33) le48) le96) le97) le98) le99) le135) le136), h181, hf⟩
  have hp_b4981 := hS.heapAt (j := 2) rfl
  obtain ⟨r6, h182, hf⟩ := bs hf
  refine (op_call rfl rfl rfl rfl hE rfl rfl rfl rfl (by kernel_rfl) (wire_Hash.calls h182 (hS.st.fore (L := [])) ) (fun a v w hR hE => ?_))
  obtain ⟨D125, A17, c14, q127, rfl, hS1, h11⟩ := hR
  have le7 := hS1.dle
  have hS := hS.callR hS1 rfl (.c .n)
  refine ⟨⟨show RP [b1] _ _ from ⟨(hS.heapAt (j := 3) rfl).trans hp_b4981.symm, trivial⟩, fun _ => hS.st.sees.mono (le2 (le2 le1 le3) le7)⟩, ?_⟩
  clear hp_b4981
  refine twoB (i := 0) (j := 16) (fuel := 5) (m1 := 65533) (m2 := 131068) (by kernel_rfl) (by kernel_rfl) (by kernel_rfl) ?_ ?_
  ·have hp_b4981 := hS.heapAt (j := 3) rfl
   refine (op_buildSlice (K := (kdInt .u8)) (e := 5) (cs := [.int .u8 ((105 : Int))] ++ ([.int .u8 ((110 : Int))] ++ ([.int .u8 ((115 : Int))] ++ ([.int .u8 ((112 : Int))] ++ [])))) ([(105 : Int), (110 : Int), (115 : Int), (112 : Int)] : List Int) rfl rfl rfl rfl hE rfl hS rfl (by kernel_rfl) rfl rfl (by exact ⟨_, _, rfl, rfl, ⟨_, _, rfl, rfl, ⟨_, _, rfl, rfl, ⟨_, _, rfl, rfl, rfl⟩⟩⟩⟩) (fun a A35 q128 w _ hE h27 hS => ?_))
   refine ⟨⟨show RP [b1] _ _ from ⟨(hS.heapAt (j := 4) rfl).trans hp_b4981.symm, trivial⟩, fun _ => hS.st.sees.mono (le2 (le2 le1 le3) le7)⟩, ?_⟩
   clear hp_b4981
   refine twoB (i := 1) (j := 16) (fuel := 4) (m1 := 65535) (m2 := 131069) (by kernel_rfl) (by kernel_rfl) (by kernel_rfl) ?_ ?_
   ·have hp_b4981 := hS.heapAt (j := 4) rfl
    refine (op_lit (T := 5) (l := ([(105 : Int), (110 : Int), (115 : Int), (112 : Int)] : List Int)) rfl rfl rfl rfl hE rfl hS rfl (by kernel_rfl) h27 (by kernel_rfl) (fun a D126 w _ le34 hE h28 hS => ?_))
    have h301 := OwnL.full 5 h28 rfl
    have hS := hS.nils
    refine ⟨⟨show RP [b1] _ _ from ⟨(hS.heapAt (j := 4) rfl).trans hp_b4981.symm, trivial⟩, fun _ => hS.st.sees.mono (le2 (le2 (le2 le1 le3) le7) le34)⟩, ?_⟩
    clear hp_b4981
    have hp_b4981 := hS.heapAt (j := 4) rfl
    obtain ⟨r45, h183, hf⟩ := bs hf
    refine oC 16 131071 3 rfl rfl rfl rfl hE rfl rfl rfl rfl (bundle_list_api_Sig.calls h183 (hS.st.fore (L := [])) (h4.mono (le2 (le2 (le2 (le2 le11 le1) le3) le7) le34))) fun a v w hR hE => ?_
    obtain ⟨D127, A62, c58, q129, rfl, hS1, h184⟩ := hR
    have le49 := hS1.dle
    have hS := hS.callR hS1 rfl (.c .n)
    refine ⟨⟨show RP [b1] _ _ from ⟨(hS.heapAt (j := 5) rfl).trans hp_b4981.symm, trivial⟩, fun _ => hS.st.sees.mono (le2 (le2 (le2 (le2 le1 le3) le7) le34) le49)⟩, ?_⟩
    clear hp_b4981
    have hp_b4981 := hS.heapAt (j := 5) rfl
    have hS := hS.p (.d 4 (.d 0 (.d 1 (.d 2 (.d 3 (.d 5 .n))))))
    obtain ⟨D128, q130, le100, hS, h302, h185⟩ := hS.lent (h1.mono (le2 (le2 (le2 le3 le7) le34) le49))
    have hS := hS.p (.d 4 (.d 0 (.d 1 (.d 2 (.d 3 (.d 5 .n))))))
    obtain ⟨D129, q131, le101, hS, h303, h186⟩ := hS.lent (h2.mono (le2 (le2 (le2 le7 le34) le49) le100))
    have hS := hS.p (.d 4 (.d 0 (.d 1 (.d 2 (.d 3 (.d 5 .n))))))
    obtain ⟨D130, q132, le102, hS, h304, h187⟩ := hS.lent (h11.mono (le2 (le2 (le2 le34 le49) le100) le101))
    have hS := hS.p (.d 3 (.d 0 (.d 1 (.d 2 (.d 4 (.d 5 .n))))))
    obtain ⟨D131, q133, le103, hS, h305, h188⟩ := hS.lent (h184.mono (le2 (le2 le100 le101) le102))
    refine oG 17 262143 (fuel := 2) (by kernel_rfl) (op_buildSlice (K := (kdSlice (kdInt .u8))) (e := 33) (cs := [.slice A35 (List.length (([(105 : Int), (110 : Int), (115 : Int), (112 : Int)] : List Int))) 4] ++ ([.slice A1 (List.length (r1)) c1] ++ ([.slice A3 (List.length (r2)) c2] ++ ([.slice A17 (List.length (r6)) c14] ++ ([.slice A62 (List.length (r45)) c58] ++ []))))) ([([(105 : Int), (110 : Int), (115 : Int), (112 : Int)] : List Int), r1, r2, r6, r45] : List (List Int)) rfl rfl rfl rfl hE rfl hS rfl (by kernel_rfl) rfl rfl (by exact ⟨_, _, rfl, (kslice (h28.mono (le2 (le2 (le2 (le2 le49 le100) le101) le102) le103))), ⟨_, _, rfl, (kslice (h185.mono (le2 (le2 le101 le102) le103))), ⟨_, _, rfl, (kslice (h186.mono (le2 le102 le103))), ⟨_, _, rfl, (kslice (h187.mono le103)), ⟨_, _, rfl, (kslice h188), rfl⟩⟩⟩⟩⟩) (fun a A78 q134 w _ hE h189 hS => ?_))
    refine ⟨⟨show RP [b1] _ _ from ⟨(hS.heapAt (j := 6) rfl).trans hp_b4981.symm, trivial⟩, fun _ => hS.st.sees.mono (le2 (le2 (le2 (le2 (le2 (le2 (le2 (le2 le1 le3) le7) le34) le49) le100) le101) le102) le103)⟩, ?_⟩
    clear hp_b4981
    have hp_b4981 := hS.heapAt (j := 6) rfl
    obtain ⟨D132, q135, le137, hS, h306, h190⟩ := hS.lent h189
    obtain ⟨r46, h191, hf⟩ := bs hf
    refine oC 18 524287 1 rfl rfl rfl rfl hE rfl rfl rfl rfl (wire_All.calls h191 (hS.st.fore (L := [])) h190) fun a v w hR hE => ?_
    obtain ⟨D18, A36, c32, q17, rfl, hS1, h192⟩ := hR
    have le138 := hS1.dle
    have hS := hS.callR hS1 rfl (.c .n)
    refine ⟨⟨show RP [b1] _ _ from ⟨(hS.heapAt (j := 7) rfl).trans hp_b4981.symm, trivial⟩, fun _ => hS.st.sees.mono (le2 (le2 (le2 (le2 (le2 (le2 (le2 (le2 (le2 (le2 le1 le3) le7) le34) le49) le100) le101) le102) le103) le137) le138)⟩, ?_⟩
    clear hp_b4981
    refine wP 19 1048575 0 (.slice A36 (List.length (r46)) c32) hE fun a hE => ?_
    refine doneG (by kernel_rfl) ?_
    have hS := hS.p (.d 7 (.d 0 .n))
    exact ⟨r46, A36, c32, q17, D18, hE.wk, hS, (le2 (le2 (le2 (le2 (le2 (le2 (le2 (le2 (le2 (le2 le1 le3) le7) le34) le49) le100) le101) le102) le103) le137) le138), h192, hf⟩
   have hp_b4981 := hS.heapAt (j := 4) rfl
   obtain ⟨r47, h193, hf⟩ := bs hf
   refine (op_call rfl rfl rfl rfl hE rfl rfl rfl rfl (by kernel_rfl) (bundle_list_api_Sig.calls h193 (hS.st.fore (L := [])) (h4.mono (le2 (le2 (le2 le11 le1) le3) le7))) (fun a v w hR hE => ?_))
   obtain ⟨D133, A63, c59, q136, rfl, hS1, h194⟩ := hR
   have le35 := hS1.dle
   have hS := hS.callR hS1 rfl (.c .n)
   refine ⟨⟨show RP [b1] _ _ from ⟨(hS.heapAt (j := 5) rfl).trans hp_b4981.symm, trivial⟩, fun _ => hS.st.sees.mono (le2 (le2 (le2 le1 le3) le7) le35)⟩, ?_⟩
   clear hp_b4981
   have hp_b4981 := hS.heapAt (j := 5) rfl
   have hS := hS.p (.d 1 (.d 0 (.d 2 (.d 3 (.d 4 (.d 5 .n))))))
   refine oG 1 131071 (fuel := 3) (by kernel_rfl) (op_lit (T := 5) (l := ([(105 : Int), (110 : Int), (115 : Int), (112 : Int)] : List Int)) rfl rfl rfl rfl hE rfl hS rfl (by kernel_rfl) (h27.mono le35) (by kernel_rfl) (fun a D134 w _ le50 hE h29 hS => ?_))
   have h307 := OwnL.full 5 h29 rfl
   have hS := hS.nils
   refine ⟨⟨show RP [b1] _ _ from ⟨(hS.heapAt (j := 5) rfl).trans hp_b4981.symm, trivial⟩, fun _ => hS.st.sees.mono (le2 (le2 (le2 (le2 le1 le3) le7) le35) le50)⟩, ?_⟩
   clear hp_b4981
   have hp_b4981 := hS.heapAt (j := 5) rfl
   have hS := hS.p (.d 4 (.d 0 (.d 1 (.d 2 (.d 3 (.d 5 .n))))))
   obtain ⟨D135, q137, le104, hS, h308, h195⟩ := hS.lent (h1.mono (le2 (le2 (le2 le3 le7) le35) le50))
   have hS := hS.p (.d 4 (.d 0 (.d 1 (.d 2 (.d 3 (.d 5 .n))))))
   obtain ⟨D136, q138, le105, hS, h309, h196⟩ := hS.lent (h2.mono (le2 (le2 (le2 le7 le35) le50) le104))
   have hS := hS.p (.d 4 (.d 0 (.d 1 (.d 2 (.d 3 (.d 5 .n))))))
   obtain ⟨D137, q139, le106, hS, h310, h197⟩ := hS.lent (h11.mono (le2 (le2 (le2 le35 le50) le104) le105))
   have hS := hS.p (.d 4 (.d 0 (.d 1 (.d 2 (.d 3 (.d 5 .n))))))
   obtain ⟨D138, q140, le107, hS, h311, h198⟩ := hS.lent (h194.mono (le2 (le2 (le2 le50 le104) le105) le106))
   refine oG 17 262143 (fuel := 2) (by kernel_rfl) (op_buildSlice (K := (kdSlice (kdInt .u8))) (e := 33) (cs := [.slice A35 (List.length (([(105 : Int), (110 : Int), (115 : Int), (112 : Int)] : List Int))) 4] ++ ([.slice A1 (List.length (r1)) c1] ++ ([.slice A3 (List.length (r2)) c2] ++ ([.slice A17 (List.length (r6)) c14] ++ ([.slice A63 (List.length (r47)) c59] ++ []))))) ([([(105 : Int), (110 : Int), (115 : Int), (112 : Int)] : List Int), r1, r2, r6, r47] : List (List Int)) rfl rfl rfl rfl hE rfl hS rfl (by kernel_rfl) rfl rfl (by exact ⟨_, _, rfl, (kslice (h29.mono (le2 (le2 (le2 le104 le105) le106) le107))), ⟨_, _, rfl, (kslice (h195.mono (le2 (le2 le105 le106) le107))), ⟨_, _, rfl, (kslice (h196.mono (le2 le106 le107))), ⟨_, _, rfl, (kslice (h197.mono le107)), ⟨_, _, rfl, (kslice h198), rfl⟩⟩⟩⟩⟩) (fun a A79 q141 w _ hE h199 hS => ?_))
   refine ⟨⟨show RP [b1] _ _ from ⟨(hS.heapAt (j := 6) rfl).trans hp_b4981.symm, trivial⟩, fun _ => hS.st.sees.mono (le2 (le2 (le2 (le2 (le2 (le2 (le2 (le2 le1 le3) le7) le35) le50) le104) le105) le106) le107)⟩, ?_⟩
   clear hp_b4981
   have hp_b4981 := hS.heapAt (j := 6) rfl
   obtain ⟨D139, q142, le139, hS, h312, h200⟩ := hS.lent h199
   obtain ⟨r48, h201, hf⟩ := bs hf
   refine oC 18 524287 1 rfl rfl rfl rfl hE rfl rfl rfl rfl (wire_All.calls h201 (hS.st.fore (L := [])) h200) fun a v w hR hE => ?_
   obtain ⟨D19, A37, c33, q18, rfl, hS1, h202⟩ := hR
   have le140 := hS1.dle
   have hS := hS.callR hS1 rfl (.c .n)
   refine ⟨⟨show RP [b1] _ _ from ⟨(hS.heapAt (j := 7) rfl).trans hp_b4981.symm, trivial⟩, fun _ => hS.st.sees.mono (le2 (le2 (le2 (le2 (le2 (le2 (le2 (le2 (le2 (le2 le1 le3) le7) le35) le50) le104) le105) le106) le107) le139) le140)⟩, ?_⟩
   clear hp_b4981
   refine wP 19 1048575 0 (.slice A37 (List.length (r48)) c33) hE fun a hE => ?_
   refine doneG (by kernel_rfl) ?_
   have hS := hS.p (.d 7 (.d 0 .n))
   exact ⟨r48, A37, c33, q18, D19, hE.wk, hS, (le2 (le2 (le2 (le2 (le2 (le2 (le2 (le2 (le2 (le2 le1 le3) le7) le35) le50) le104) le105) le106) le107) le139) le140), h202, hf⟩
  have hp_b4981 := hS.heapAt (j := 3) rfl
  obtain ⟨r49, h203, hf⟩ := bs hf
  refine (op_call rfl rfl rfl rfl hE rfl rfl rfl rfl (by kernel_rfl) (bundle_list_api_Sig.calls h203 (hS.st.fore (L := [])) (h4.mono (le2 (le2 (le2 le11 le1) le3) le7))) (fun a v w hR hE => ?_))
  obtain ⟨D140, A64, c60, q143, rfl, hS1, h204⟩ := hR
  have le36 := hS1.dle
  have hS := hS.callR hS1 rfl (.c .n)
  refine ⟨⟨show RP [b1] _ _ from ⟨(hS.heapAt (j := 4) rfl).trans hp_b4981.symm, trivial⟩, fun _ => hS.st.sees.mono (le2 (le2 (le2 le1 le3) le7) le36)⟩, ?_⟩
  clear hp_b4981
  have hp_b4981 := hS.heapAt (j := 4) rfl
  refine oG 0 131069 (fuel := 4) (by kernel_rfl) (op_buildSlice (K := (kdInt .u8)) (e := 5) (cs := [.int .u8 ((105 : Int))] ++ ([.int .u8 ((110 : Int))] ++ ([.int .u8 ((115 : Int))] ++ ([.int .u8 ((112 : Int))] ++ [])))) ([(105 : Int), (110 : Int), (115 : Int), (112 : Int)] : List Int) rfl rfl rfl rfl hE rfl hS rfl (by kernel_rfl) rfl rfl (by exact ⟨_, _, rfl, rfl, ⟨_, _, rfl, rfl, ⟨_, _, rfl, rfl, ⟨_, _, rfl, rfl, rfl⟩⟩⟩⟩) (fun a A65 q144 w _ hE h205 hS => ?_))
  refine ⟨⟨show RP [b1] _ _ from ⟨(hS.heapAt (j := 5) rfl).trans hp_b4981.symm, trivial⟩, fun _ => hS.st.sees.mono (le2 (le2 (le2 le1 le3) le7) le36)⟩, ?_⟩
  clear hp_b4981
  have hp_b4981 := hS.heapAt (j := 5) rfl
  refine oG 1 131071 (fuel := 3) (by kernel_rfl) (op_lit (T := 5) (l := ([(105 : Int), (110 : Int), (115 : Int), (112 : Int)] : List Int)) rfl rfl rfl rfl hE rfl hS rfl (by kernel_rfl) h205 (by kernel_rfl) (fun a D141 w _ le51 hE h30 hS => ?_))
  have h313 := OwnL.full 5 h30 rfl
  have hS := hS.nils
  refine ⟨⟨show RP [b1] _ _ from ⟨(hS.heapAt (j := 5) rfl).trans hp_b4981.symm, trivial⟩, fun _ => hS.st.sees.mono (le2 (le2 (le2 (le2 le1 le3) le7) le36) le51)⟩, ?_⟩
  clear hp_b4981
  have hp_b4981 := hS.heapAt (j := 5) rfl
  have hS := hS.p (.d 4 (.d 0 (.d 1 (.d 2 (.d 3 (.d 5 .n))))))
  obtain ⟨D142, q145, le108, hS, h314, h206⟩ := hS.lent (h1.mono (le2 (le2 (le2 le3 le7) le36) le51))
  have hS := hS.p (.d 4 (.d 0 (.d 1 (.d 2 (.d 3 (.d 5 .n))))))
  obtain ⟨D143, q146, le109, hS, h315, h207⟩ := hS.lent (h2.mono (le2 (le2 (le2 le7 le36) le51) le108))
  have hS := hS.p (.d 4 (.d 0 (.d 1 (.d 2 (.d 3 (.d 5 .n))))))
  obtain ⟨D144, q147, le110, hS, h316, h208⟩ := hS.lent (h11.mono (le2 (le2 (le2 le36 le51) le108) le109))
  have hS := hS.p (.d 4 (.d 0 (.d 1 (.d 2 (.d 3 (.d 5 .n))))))
  obtain ⟨D145, q148, le111, hS, h317, h209⟩ := hS.lent (h204.mono (le2 (le2 (le2 le51 le108) le109) le110))
  refine oG 17 262143 (fuel := 2) (by kernel_rfl) (op_buildSlice (K := (kdSlice (kdInt .u8))) (e := 33) (cs := [.slice A65 (List.length (([(105 : Int), (110 : Int), (115 : Int), (112 : Int)] : List Int))) 4] ++ ([.slice A1 (List.length (r1)) c1] ++ ([.slice A3 (List.length (r2)) c2] ++ ([.slice A17 (List.length (r6)) c14] ++ ([.slice A64 (List.length (r49)) c60] ++ []))))) ([([(105 : Int), (110 : Int), (115 : Int), (112 : Int)] : List Int), r1, r2, r6, r49] : List (List Int)) rfl rfl rfl rfl hE rfl hS rfl (by kernel_rfl) rfl rfl (by exact ⟨_, _, rfl, (kslice (h30.mono (le2 (le2 (le2 le108 le109) le110) le111))), ⟨_, _, rfl, (kslice (h206.mono (le2 (le2 le109 le110) le111))), ⟨_, _, rfl, (kslice (h207.mono (le2 le110 le111))), ⟨_, _, rfl, (kslice (h208.mono le111)), ⟨_, _, rfl, (kslice h209), rfl⟩⟩⟩⟩⟩) (fun a A80 q149 w _ hE h210 hS => ?_))
  refine ⟨⟨show RP [b1] _ _ from ⟨(hS.heapAt (j := 6) rfl).trans hp_b4981.symm, trivial⟩, fun _ => hS.st.sees.mono (le2 (le2 (le2 (le2 (le2 (le2 (le2 (le2 le1 le3) le7) le36) le51) le108) le109) le110) le111)⟩, ?_⟩
  clear hp_b4981
  have hp_b4981 := hS.heapAt (j := 6) rfl
  obtain ⟨D146, q150, le141, hS, h318, h211⟩ := hS.lent h210
  obtain ⟨r50, h212, hf⟩ := bs hf
  refine oC 18 524287 1 rfl rfl rfl rfl hE rfl rfl rfl rfl (wire_All.calls h212 (hS.st.fore (L := [])) h211) fun a v w hR hE => ?_
  obtain ⟨D20, A38, c34, q19, rfl, hS1, h213⟩ := hR
  have le142 := hS1.dle
  have hS := hS.callR hS1 rfl (.c .n)
  refine ⟨⟨show RP [b1] _ _ from ⟨(hS.heapAt (j := 7) rfl).trans hp_b4981.symm, trivial⟩, fun _ => hS.st.sees.mono (le2 (le2 (le2 (le2 (le2 (le2 (le2 (le2 (le2 (le2 le1 le3) le7) le36) le51) le108) le109) le110) le111) le141) le142)⟩, ?_⟩
  clear hp_b4981
  refine wP 19 1048575 0 (.slice A38 (List.length (r50)) c34) hE fun a hE => ?_
  refine doneG (by kernel_rfl) ?_
  have hS := hS.p (.d 7 (.d 0 .n))
  exact ⟨r50, A38, c34, q19, D20, hE.wk, hS, (le2 (le2 (le2 (le2 (le2 (le2 (le2 (le2 (le2 (le2 le1 le3) le7) le36) le51) le108) le109) le110) le111) le141) le142), h213, hf⟩
 clear hE hS
 rintro a w ⟨y2, A6, c5, q1, D2, hE, hS, le143, h31, hf⟩
 replace hf := hj1 _ hf
 clear hj1
 refine sq (sq (ra ?_))
 refine sM 3 3 [0] [(30, .bool ((!x1.fWhole)))] hE hS fun a hE => ?_
 refine ae ?_
 refine cond_split hE (b := (!x1.fWhole)) rfl (fun hb => ?_) (fun hb => ?_)
 ·replace hf := ct hb hf
  refine sq (ra ?_)
  refine sM 3 3 [0] [(31, .slice A6 (List.length (y2)) c5), (33, .slice A5 (List.length (x1.fItems)) c6)] hE hS fun a hE => ?_
  obtain ⟨r51, h214, hf⟩ := bs hf
  refine aC rfl rfl rfl rfl hE rfl rfl rfl rfl (bundle_list_api_Item.calls h214 (hS.st.fore (L := [])) (h7.mono (le2 le11 le143))) fun a v w hR hE => ?_
  obtain ⟨D147, A81, c61, q151, rfl, hS1, h215⟩ := hR
  have le146 := hS1.dle
  have hS := hS.callR hS1 rfl (.c .n)
  obtain ⟨D21, q152, le147, hS, h319, h216⟩ := hS.lent h215
  have hS := hS.p (.d 2 (.d 0 (.d 1 .n)))
  obtain ⟨l1, h217, hf⟩ := bs hf
  refine at_op (g_append (K := (kdInt .u8)) (e := 5) (bytes := 1) (l := y2) (m := r51) rfl rfl rfl rfl hE rfl hS rfl rfl (by kernel_rfl) rfl rfl (h31.mono (le2 le146 le147)) h216 h217 (fun a A18 c15 q20 w _ hE h218 hS => ?_)) rfl
  refine sN 1 6 [(2, .slice A18 (List.length (l1)) c15)] hE fun a hE => ?_
  refine ae ?_
  refine wpIn_ret ?_
  obtain rfl := si hf
  refine ret_ ?_
  refine rT 2 (.slice A18 (List.length (l1)) c15) hE ?_
  have hS := hS.p (.d 0 .n)
  exact ⟨_, rfl, D21, A18, c15, q20, rfl, hS, h218⟩
 replace hf := cf hb hf
 refine wpIn_skip ?_
 refine sq (sq (ra ?_))
 refine sM 4 4 [0] [(37, .slice A5 (List.length (x1.fItems)) c6), (38, .int .i64 (((List.length (x1.fItems) : Nat) : Int))), (39, .int .i64 ((0 : Int)))] hE hS fun a hE => ?_
 refine ae ?_
 obtain ⟨s1, hf, hs1⟩ := bs hf
 have hS := hS.p (.d 1 .n)
 refine block_loop (fun a w => ∃ (z1 : (List Int)), ∃ A4, ∃ c4, ∃ q2, ∃ D3, Env a 50 [] [(3, .slice A4 (List.length (z1)) c4)] ∧ Stp g w0 D0 [] w D3 [q2] ∧ Snap.le D2 D3 ∧ OwnD (kdInt .u8) 5 D3 A4 c4 (z1) q2 ∧ z1 = s1) (fun k a w => ∃ (y1 : (List Int) × Int), ∃ A8, ∃ c7, ∃ q3, ∃ D4, Env a 50 [] [(3, .slice A8 (List.length (y1.1)) c7), (37, .slice A5 (List.length (x1.fItems)) c6), (38, .int .i64 (((List.length (x1.fItems) : Nat) : Int))), (39, .int .i64 (y1.2))] ∧ Stp g w0 D0 [] w D4 [q3] ∧ Snap.le D2 D4 ∧ OwnD (kdInt .u8) 5 D4 A8 c7 (y1.1) q3 ∧ bundle_Put_l1.l K x1 k y1 = some s1) K ?_ ?_ ?_
 ·exact ⟨(y2, (0 : Int)), A6, c5, q1, D2, hE.wk, hS, lr, h31, hf⟩
 ·clear hE hS hf
  rintro a w ⟨z1, A4, c4, q2, D3, hE, hS, le148, h219, rfl⟩
  have hf := hs1
  clear hs1
  refine sq (ra ?_)
  refine sN 2 2 [(2, .slice A4 (List.length (z1)) c4)] hE fun a hE => ?_
  refine ae ?_
  refine wpIn_ret ?_
  obtain rfl := si hf
  refine ret_ ?_
  refine rT 2 (.slice A4 (List.length (z1)) c4) hE ?_
  exact ⟨_, rfl, D3, A4, c4, q2, rfl, hS, h219⟩
 clear hE hS hf
 rintro k a w ⟨y1, A8, c7, q3, D4, hE, hS, le112, h32, hf⟩
 obtain ⟨k, rfl, hf⟩ := bundle_Put_l1.some _ hf
 refine ⟨k, rfl, ?_⟩
 unfold bundle_Put_l1.b at hf
 refine sq (ra ?_)
 refine sN 1 1 [(40, .bool ((decide (y1.2 < ((List.length (x1.fItems) : Nat) : Int)))))] hE fun a hE => ?_
 refine ae ?_
 refine sq ?_
 refine cond_split hE (b := (decide (y1.2 < ((List.length (x1.fItems) : Nat) : Int)))) rfl (fun hb => ?_) (fun hb => ?_)
 ·replace hf := ct hb hf
  refine wpIn_skip ?_
  refine sq ?_
  refine wpIn_block ?_
  refine sq (ra ?_)
  obtain ⟨x2, h220, hf⟩ := bs hf
  refine at_op (op_tk hE (g_index (K := kd_T_api_Item) (e := 43) (by_ := 256) (zl := 111) rfl rfl rfl rfl hE rfl rfl rfl (by kernel_rfl) rfl (h7.mono (le2 (le2 le11 le143) le112)) h220 (fun a b2 o1 hE h221 => ?_))) rfl
  obtain ⟨cs1, C1, T1, fr1, hr1, hb1, hc1⟩ := id h221
  obtain ⟨A9, c8, A10, c9, A13, c11, rfl, h222, h223, h320⟩ := kd_T_api_Item_el hr1
  refine at_op (op_tk hE (tk_loadX (off0 := o1) (off := 0) (c := c_T_api_Item (x2) A9 c8 A10 c9 A13 c11) (.agg (List.toArray (c_T_api_Item (x2) A9 c8 A10 c9 A13 c11))) rfl rfl rfl rfl hE rfl hS rfl hb1 hc1 (by kernel_rfl) (by kernel_rfl) (kD hS dn_nil) (fun a hE => ?_))) rfl
  refine at_op (op_alloc (z := .agg (List.toArray (c_T_api_Item (z_T_api_Item) none 0 none 0 none 0))) rfl rfl rfl rfl hE rfl hS (by kernel_rfl) (fun a b3 w _ hE hS => ?_)) rfl
  refine at_op (op_store (v := .agg (List.toArray (c_T_api_Item (x2) A9 c8 A10 c9 A13 c11))) (c_T_api_Item (x2) A9 c8 A10 c9 A13 c11) rfl rfl rfl rfl hE hS rfl rfl (by kernel_rfl) (by kernel_rfl) (by kernel_rfl) (by kernel_rfl) (by kernel_rfl) (fun a w _ hE hS => ?_)) rfl
  refine ae ?_
  refine ra ?_
  refine sM 3 3 [0] [(43, .slice A8 (List.length (y1.1)) c7), (45, .agg (List.toArray (c_T_api_Rec (x2.fRec) A9 c8 A10 c9)))] hE hS fun a hE => ?_
  obtain ⟨r52, h224, hf⟩ := bs hf
  refine aC rfl rfl rfl rfl hE rfl rfl rfl rfl (rec_Open.calls h224 (hS.st.fore (L := [])) h222 h223) fun a v w hR hE => ?_
  obtain ⟨D148, A82, c62, q153, rfl, hS1, h225⟩ := hR
  have le144 := hS1.dle
  have hS := hS.callR hS1 rfl (.c .n)
  obtain ⟨D22, q154, le145, hS, h321, h226⟩ := hS.lent h225
  have hS := hS.p (.d 2 (.d 0 (.d 1 .n)))
  obtain ⟨l2, h227, hf⟩ := bs hf
  refine at_op (g_append (K := (kdInt .u8)) (e := 5) (bytes := 1) (l := y1.1) (m := r52) rfl rfl rfl rfl hE rfl hS rfl rfl (by kernel_rfl) rfl rfl (h32.mono (le2 le144 le145)) h226 h227 (fun a A39 c35 q21 w _ hE h228 hS => ?_)) rfl
  refine sN 1 6 [(3, .slice A39 (List.length (l2)) c35)] hE fun a hE => ?_
  refine ae ?_
  refine ra ?_
  refine sN 2 2 [(39, .int .i64 ((IntKind.wrap .i64 (y1.2 + (1 : Int)))))] hE fun a hE => ?_
  refine ae ?_
  have hS := hS.p (.d 0 .n)
  exact ⟨(l2, (IntKind.wrap .i64 (y1.2 + (1 : Int)))), A39, c35, q21, D22, hE.wk, hS, (le2 (le2 le112 le144) le145), h228, hf⟩
 replace hf := cf hb hf
 refine wpIn_exit ?_
 obtain rfl := si hf
 exact ⟨y1.1, A8, c7, q3, D4, hE.wk, hS, le112, h32, rfl⟩
set_option maxRecDepth 100000 in
theorem bytes_HasPrefix.calls {K : Nat} {g w0 : World} {D0 : Snap} {x1 : (List Int)} {x5 : (List Int)} {A2 : Option Addr} {c3 : Nat} {A6 : Option Addr} {c7 : Nat} {r : (Bool)} (hf : bytes_HasPrefix.f K x1 x5 = some r) (hS0 : St g w0 D0 []) (h4 : Sl (kdInt .u8) D0 A2 c3 (x1)) (h8 : Sl (kdInt .u8) D0 A6 c7 (x5)) :
  CallsIn (Fw none) 0 Tryz.prog 72 (List.toArray [.slice A2 (List.length (x1)) c3, .slice A6 (List.length (x5)) c7]) w0 (fun e w' => ∃ v, e = .returned v ∧ ∃ D1, v = .bool (r) ∧ Stp g w0 D0 [] w' D1 []) := by
 unfold bytes_HasPrefix.f at hf
 have hS := Stp.refl hS0
 clear hS0
 refine calls_body (n := 18) Tryz.func72 rfl Tryz.ntmps72 rfl fun a hE => ?_
 have hE : Env a 18 [] [(0, .slice A2 (List.length (x1)) c3), (1, .slice A6 (List.length (x5)) c7)] := hE
 refine sq (ra ?_)
 refine sN 1 1 [(4, .bool false)] hE fun a hE => ?_
 refine ae ?_
 refine sq (ra ?_)
 refine sN 6 6 [(10, .bool ((decide (((List.length (x5) : Nat) : Int) ≤ ((List.length (x1) : Nat) : Int)))))] hE fun a hE => ?_
 refine bo ((decide (((List.length (x5) : Nat) : Int) ≤ ((List.length (x1) : Nat) : Int)))) (fun hb => ?_) fun hb => ?_
 ·replace hf := cf hb hf
  have hE := hE.know (t := 10) rfl hb
  refine sN 8 14 [(4, .bool false)] hE fun a hE => ?_
  refine ae ?_
  refine wpIn_ret ?_
  obtain rfl := si hf
  refine ret_ ?_
  refine rT 4 (.bool false) hE ?_
  exact ⟨_, rfl, D0, rfl, hS⟩
 replace hf := ct hb hf
 have hE := hE.know (t := 10) rfl hb
 refine sN 3 9 [(11, .slice A2 (List.length (x1)) c3), (13, .int .i64 (((List.length (x5) : Nat) : Int)))] hE fun a hE => ?_
 obtain ⟨l39, h40, hf⟩ := bs hf
 refine at_op (op_tk hE (g_slice (K := (kdInt .u8)) (e := 5) (by_ := 1) (zl := 1) rfl rfl rfl rfl hE rfl rfl (by kernel_rfl) rfl ⟨_, rfl⟩ h4 h40 (fun a A41 c42 hE h43 => ?_))) rfl
 refine sN 1 11 [(15, .slice A6 (List.length (x5)) c7)] hE fun a hE => ?_
 obtain ⟨r44, h45, hf⟩ := bs hf
 refine aC rfl rfl rfl rfl hE rfl rfl rfl rfl (bytes_Equal.calls h45 (hS.st.fore (L := [])) h43 h8) fun a v w hR hE => ?_
 obtain ⟨D46, rfl, hS1⟩ := hR
 have le48 := hS1.dle
 have hS := hS.callR hS1 rfl .n
 refine sN 2 14 [(4, .bool (r44))] hE fun a hE => ?_
 refine ae ?_
 refine wpIn_ret ?_
 obtain rfl := si hf
 refine ret_ ?_
 refine rT 4 (.bool (r44)) hE ?_
 exact ⟨_, rfl, D46, rfl, hS⟩
set_option maxRecDepth 100000 in
theorem bytes_CutPrefix.calls {K : Nat} {g w0 : World} {D0 : Snap} {x1 : (List Int)} {x5 : (List Int)} {A2 : Option Addr} {c3 : Nat} {A6 : Option Addr} {c7 : Nat} {r : ((List Int) × Bool)} (hf : bytes_CutPrefix.f K x1 x5 = some r) (hS0 : St g w0 D0 []) (h4 : Sl (kdInt .u8) D0 A2 c3 (x1)) (h8 : Sl (kdInt .u8) D0 A6 c7 (x5)) :
  CallsIn (Fw none) 0 Tryz.prog 38 (List.toArray [.slice A2 (List.length (x1)) c3, .slice A6 (List.length (x5)) c7]) w0 (fun e w' => ∃ v, e = .returned v ∧ ∃ (D1 : Snap) (A24 : Option Addr) (c25 : Nat), v = .tuple #[.slice A24 (List.length (r.1)) c25, .bool (r.2)] ∧ Stp g w0 D0 [] w' D1 [] ∧ Sl (kdInt .u8) D1 A24 c25 (r.1)) := by
 unfold bytes_CutPrefix.f at hf
 have hS := Stp.refl hS0
 clear hS0
 refine calls_body (n := 15) Tryz.func38 rfl Tryz.ntmps38 rfl fun a hE => ?_
 have hE : Env a 15 [] [(0, .slice A2 (List.length (x1)) c3), (1, .slice A6 (List.length (x5)) c7)] := hE
 refine sq (ra ?_)
 refine sN 2 2 [(4, .slice none 0 0), (5, .bool false)] hE fun a hE => ?_
 refine ae ?_
 refine sq (sq (ra ?_))
 refine sN 2 2 [(6, .slice A2 (List.length (x1)) c3), (7, .slice A6 (List.length (x5)) c7)] hE fun a hE => ?_
 obtain ⟨r32, h33, hf⟩ := bs hf
 refine aC rfl rfl rfl rfl hE rfl rfl rfl rfl (bytes_HasPrefix.calls h33 (hS.st.fore (L := [])) h4 h8) fun a v w hR hE => ?_
 obtain ⟨D34, rfl, hS1⟩ := hR
 have le36 := hS1.dle
 have hS := hS.callR hS1 rfl .n
 refine sN 1 4 [(9, .bool ((!r32)))] hE fun a hE => ?_
 refine ae ?_
 refine cond_split hE (b := (!r32)) rfl (fun hb => ?_) (fun hb => ?_)
 ·replace hf := ct hb hf
  refine sq (ra ?_)
  refine sN 3 3 [(4, .slice A2 (List.length (x1)) c3), (5, .bool false)] hE fun a hE => ?_
  refine ae ?_
  refine wpIn_ret ?_
  obtain rfl := si hf
  refine ret_ ?_
  refine ret_gen ([.slice A2 (List.length (x1)) c3, .bool false]) hE (by rw [show Tryz.f38.results.toList = [.tmp 4, .tmp 5] from rfl]; exact ⟨_, _, rfl, rfl, ⟨_, _, rfl, rfl, rfl⟩⟩) ?_
  exact ⟨_, rfl, D34, A2, c3, rfl, hS, (h4.mono le36)⟩
 replace hf := cf hb hf
 refine wpIn_skip ?_
 refine sq (ra ?_)
 refine sN 3 3 [(11, .slice A2 (List.length (x1)) c3), (13, .int .i64 (((List.length (x5) : Nat) : Int)))] hE fun a hE => ?_
 obtain ⟨l37, h38, hf⟩ := bs hf
 refine at_op (op_tk hE (g_slice (K := (kdInt .u8)) (e := 5) (by_ := 1) (zl := 1) rfl rfl rfl rfl hE rfl rfl (by kernel_rfl) ⟨_, rfl⟩ rfl (h4.mono le36) h38 (fun a A39 c40 hE h41 => ?_))) rfl
 refine sN 2 6 [(4, .slice A39 (List.length (l37)) c40), (5, .bool true)] hE fun a hE => ?_
 refine ae ?_
 refine wpIn_ret ?_
 obtain rfl := si hf
 refine ret_ ?_
 refine ret_gen ([.slice A39 (List.length (l37)) c40, .bool true]) hE (by rw [show Tryz.f38.results.toList = [.tmp 4, .tmp 5] from rfl]; exact ⟨_, _, rfl, rfl, ⟨_, _, rfl, rfl, rfl⟩⟩) ?_
 exact ⟨_, rfl, D34, A39, c40, rfl, hS, h41⟩
set_option maxRecDepth 100000 in
theorem wire_Read.calls {K : Nat} {g w0 : World} {D0 : Snap} {x1 : (List Int)} {A2 : Option Addr} {c3 : Nat} {r : (T_wire_Reader)} (hf : wire_Read.f K x1 = some r) (hS0 : St g w0 D0 []) (h4 : Sl (kdInt .u8) D0 A2 c3 (x1)) :
  CallsIn (Fw none) 0 Tryz.prog 39 (List.toArray [.slice A2 (List.length (x1)) c3]) w0 (fun e w' => ∃ v, e = .returned v ∧ ∃ (D1 : Snap) (b22 : Nat) (A24 : Option Addr) (c25 : Nat), v = .pointer (some ⟨b22, 0, none⟩) ∧ Stp g w0 D0 [] w' D1 [bx b22 100 (c_T_wire_Reader ((T_wire_Reader.mk (r.fB) (r.fBad))) A24 c25)] ∧ Sl (kdInt .u8) D1 A24 c25 (r.fB)) := by
 unfold wire_Read.f at hf
 have hS := Stp.refl hS0
 clear hS0
 refine calls_body (n := 7) Tryz.func39 rfl Tryz.ntmps39 rfl fun a hE => ?_
 have hE : Env a 7 [] [(0, .slice A2 (List.length (x1)) c3)] := hE
 refine sq (ra ?_)
 refine sN 1 1 [(2, .pointer none)] hE fun a hE => ?_
 refine ae ?_
 refine sq (ra ?_)
 refine sN 1 1 [(3, .slice A2 (List.length (x1)) c3)] hE fun a hE => ?_
 obtain ⟨r27, h28, hf⟩ := bs hf
 refine aC rfl rfl rfl rfl hE rfl rfl rfl rfl (slices_Clone_byte_byte.calls h28 (hS.st.fore (L := [])) h4) fun a v w hR hE => ?_
 obtain ⟨D29, A31, c32, q33, rfl, hS1, h34⟩ := hR
 have le36 := hS1.dle
 have hS := hS.callR hS1 rfl (.c .n)
 obtain ⟨D37, q40, le38, hS, h41, h39⟩ := hS.lent h34
 refine at_op (op_tk hE (tk_build (c_T_wire_Reader ((T_wire_Reader.mk (r27) ((0 : Int)))) A31 c32) rfl rfl rfl rfl hE rfl rfl (by kernel_rfl) (fun a hE => ?_))) rfl
 refine at_op (op_box rfl rfl rfl rfl hE rfl hS rfl (fun a b42 w _ hE hS => ?_)) rfl
 refine sN 1 5 [(2, .pointer (some ⟨b42, 0, none⟩))] hE fun a hE => ?_
 refine ae ?_
 refine wpIn_ret ?_
 obtain rfl := si hf
 refine ret_ ?_
 refine rT 2 (.pointer (some ⟨b42, 0, none⟩)) hE ?_
 have hS := hS.p (.d 0 .n)
 exact ⟨_, rfl, D37, b42, A31, c32, rfl, hS, h39⟩
set_option maxRecDepth 100000 in
theorem wire_Reader_Bad.calls {K : Nat} {g w0 : World} {D0 : Snap} {x3 : T_wire_Reader} {b1 : Nat} {A4 : Option Addr} {c5 : Nat} {r : (Int)} (hf : wire_Reader_Bad.f K x3 = some r) (hS0 : St g w0 D0 [bx b1 100 (c_T_wire_Reader (x3) A4 c5)]) (h6 : Sl (kdInt .u8) D0 A4 c5 (x3.fB)) :
  CallsIn (Fw none) 0 Tryz.prog 79 (List.toArray [.pointer (some ⟨b1, 0, none⟩)]) w0 (fun e w' => ∃ v, e = .returned v ∧ ∃ D1, v = .int .i64 (r) ∧ Stp g w0 D0 [bx b1 100 (c_T_wire_Reader (x3) A4 c5)] w' D1 [bx b1 100 (c_T_wire_Reader (x3) A4 c5)]) := by
 unfold wire_Reader_Bad.f at hf
 have hS := Stp.refl hS0
 clear hS0
 refine calls_body (n := 9) Tryz.func79 rfl Tryz.ntmps79 rfl fun a hE => ?_
 have hE : Env a 9 [] [(0, .pointer (some ⟨b1, 0, none⟩))] := hE
 refine sq (ra ?_)
 refine sN 1 1 [(2, .int .i64 ((0 : Int)))] hE fun a hE => ?_
 refine ae ?_
 refine sq (sq (ra ?_))
 refine sN 1 1 [(3, .pointer (some ⟨b1, 0, none⟩))] hE fun a hE => ?_
 refine at_op (op_tk hE (tk_bin (r := .bool false) rfl rfl rfl rfl hE rfl rfl rfl (eqptr_run (by kernel_rfl) _) (fun a hE => ?_))) rfl
 refine ae ?_
 refine wpIn_cond_false (hE.eval rfl) ?_
 refine wpIn_skip ?_
 refine sq (ra ?_)
 refine sM 5 5 [0] [(2, .int .i64 (x3.fBad))] hE hS fun a hE => ?_
 refine ae ?_
 refine wpIn_ret ?_
 obtain rfl := si hf
 refine ret_ ?_
 refine rT 2 (.int .i64 (x3.fBad)) hE ?_
 exact ⟨_, rfl, D0, rfl, hS⟩
set_option maxRecDepth 100000 in
theorem wire_Reader_Flag_1.calls {K : Nat} {g w0 : World} {D0 : Snap} {x1 : (List Int)} {A2 : Option Addr} {c3 : Nat} {r : (Bool × Int × Int)} (hf : wire_Reader_Flag_1.f K x1 = some r) (hS0 : St g w0 D0 []) (h4 : Sl (kdInt .u8) D0 A2 c3 (x1)) :
  CallsIn (Fw none) 0 Tryz.prog 74 (List.toArray [.slice A2 (List.length (x1)) c3]) w0 (fun e w' => ∃ v, e = .returned v ∧ ∃ D1, v = .tuple #[.bool (r.1), .int .i64 (r.2.1), .int .i64 (r.2.2)] ∧ Stp g w0 D0 [] w' D1 []) := by
 unfold wire_Reader_Flag_1.f at hf
 have hS := Stp.refl hS0
 clear hS0
 refine calls_body (n := 18) Tryz.func74 rfl Tryz.ntmps74 rfl fun a hE => ?_
 have hE : Env a 18 [] [(0, .slice A2 (List.length (x1)) c3)] := hE
 refine sq (ra ?_)
 refine sN 3 3 [(2, .bool false), (3, .int .i64 ((0 : Int))), (4, .int .i64 ((0 : Int)))] hE fun a hE => ?_
 refine ae ?_
 refine sq ?_
 refine wpIn_block ?_
 refine sq (ra ?_)
 refine sN 4 4 [(5, .bool ((decide (((List.length (x1) : Nat) : Int) = (0 : Int)))))] hE fun a hE => ?_
 refine ae ?_
 refine cond_split hE (b := (decide (((List.length (x1) : Nat) : Int) = (0 : Int)))) rfl (fun hb => ?_) (fun hb => ?_)
 ·replace hf := ct hb hf
  refine sq (ra ?_)
  refine sN 3 3 [(2, .bool false), (3, .int .i64 ((0 : Int))), (4, .int .i64 ((3 : Int)))] hE fun a hE => ?_
  refine ae ?_
  refine wpIn_ret ?_
  obtain rfl := si hf
  refine ret_ ?_
  refine ret_gen ([.bool false, .int .i64 ((0 : Int)), .int .i64 ((3 : Int))]) hE (by rw [show Tryz.f74.results.toList = [.tmp 2, .tmp 3, .tmp 4] from rfl]; exact ⟨_, _, rfl, rfl, ⟨_, _, rfl, rfl, ⟨_, _, rfl, rfl, rfl⟩⟩⟩) ?_
  exact ⟨_, rfl, D0, rfl, hS⟩
 replace hf := cf hb hf
 refine sq (ra ?_)
 refine sN 1 1 [(10, .slice A2 (List.length (x1)) c3)] hE fun a hE => ?_
 obtain ⟨x81, h82, hf⟩ := bs hf
 refine at_op (op_tk hE (g_index (K := (kdInt .u8)) (e := 5) (by_ := 1) (zl := 1) rfl rfl rfl rfl hE rfl rfl rfl (by kernel_rfl) rfl h4 h82 (fun a b83 o84 hE h85 => ?_))) rfl
 obtain ⟨cs93, C94, T95, fr96, hr97, hb98, hc99⟩ := id h85
 obtain rfl := hr97
 refine at_op (op_tk hE (tk_loadX (off0 := o84) (off := 0) (c := [.int .u8 (x81)]) (.int .u8 (x81)) rfl rfl rfl rfl hE rfl hS rfl hb98 hc99 (by kernel_rfl) (by kernel_rfl) (kD hS dn_nil) (fun a hE => ?_))) rfl
 refine sN 2 5 [(9, .bool ((decide ((1 : Int) < x81))))] hE fun a hE => ?_
 refine ae ?_
 refine cond_split hE (b := (decide ((1 : Int) < x81))) rfl (fun hb => ?_) (fun hb => ?_)
 ·replace hf := ct hb hf
  refine sq (ra ?_)
  refine sN 3 3 [(2, .bool false), (3, .int .i64 ((0 : Int))), (4, .int .i64 ((2 : Int)))] hE fun a hE => ?_
  refine ae ?_
  refine wpIn_ret ?_
  obtain rfl := si hf
  refine ret_ ?_
  refine ret_gen ([.bool false, .int .i64 ((0 : Int)), .int .i64 ((2 : Int))]) hE (by rw [show Tryz.f74.results.toList = [.tmp 2, .tmp 3, .tmp 4] from rfl]; exact ⟨_, _, rfl, rfl, ⟨_, _, rfl, rfl, ⟨_, _, rfl, rfl, rfl⟩⟩⟩) ?_
  exact ⟨_, rfl, D0, rfl, hS⟩
 replace hf := cf hb hf
 refine wpIn_skip ?_
 refine sq (ra ?_)
 refine sN 1 1 [(14, .slice A2 (List.length (x1)) c3)] hE fun a hE => ?_
 obtain ⟨x2, h1, hf⟩ := bs hf
 refine at_op (op_tk hE (g_index (K := (kdInt .u8)) (e := 5) (by_ := 1) (zl := 1) rfl rfl rfl rfl hE rfl rfl rfl (by kernel_rfl) rfl h4 h1 (fun a b1 o1 hE h2 => ?_))) rfl
 obtain ⟨cs1, C1, T1, fr1, hr1, hb1, hc1⟩ := id h2
 obtain rfl := hr1
 refine at_op (op_tk hE (tk_loadX (off0 := o1) (off := 0) (c := [.int .u8 (x2)]) (.int .u8 (x2)) rfl rfl rfl rfl hE rfl hS rfl hb1 hc1 (by kernel_rfl) (by kernel_rfl) (kD hS dn_nil) (fun a hE => ?_))) rfl
 refine sN 4 7 [(2, .bool ((decide (x2 = (1 : Int))))), (3, .int .i64 ((1 : Int))), (4, .int .i64 ((0 : Int)))] hE fun a hE => ?_
 refine ae ?_
 refine wpIn_ret ?_
 obtain rfl := si hf
 refine ret_ ?_
 refine ret_gen ([.bool ((decide (x2 = (1 : Int)))), .int .i64 ((1 : Int)), .int .i64 ((0 : Int))]) hE (by rw [show Tryz.f74.results.toList = [.tmp 2, .tmp 3, .tmp 4] from rfl]; exact ⟨_, _, rfl, rfl, ⟨_, _, rfl, rfl, ⟨_, _, rfl, rfl, rfl⟩⟩⟩) ?_
 exact ⟨_, rfl, D0, rfl, hS⟩
set_option maxRecDepth 100000 in
theorem wire_Reader_Fail.calls {K : Nat} {g w0 : World} {D0 : Snap} {x3 : Int} {x4 : T_wire_Reader} {b1 : Nat} {A5 : Option Addr} {c6 : Nat} {r : (T_wire_Reader)} (hf : wire_Reader_Fail.f K x3 x4 = some r) (hS0 : St g w0 D0 [bx b1 100 (c_T_wire_Reader (x4) A5 c6)]) (h7 : Sl (kdInt .u8) D0 A5 c6 (x4.fB)) :
  CallsIn (Fw none) 0 Tryz.prog 42 (List.toArray [.pointer (some ⟨b1, 0, none⟩), .int .i64 (x3)]) w0 (fun e w' => ∃ v, e = .returned v ∧ ∃ (D1 : Snap) (A17 : Option Addr) (c18 : Nat), v = .tuple #[] ∧ Stp g w0 D0 [bx b1 100 (c_T_wire_Reader (x4) A5 c6)] w' D1 [bx b1 100 (c_T_wire_Reader ((T_wire_Reader.mk (r.fB) (r.fBad))) A17 c18)] ∧ Sl (kdInt .u8) D1 A17 c18 (r.fB)) := by
 unfold wire_Reader_Fail.f at hf
 have hS := Stp.refl hS0
 clear hS0
 refine calls_body (n := 24) Tryz.func42 rfl Tryz.ntmps42 rfl fun a hE => ?_
 have hE : Env a 24 [] [(0, .pointer (some ⟨b1, 0, none⟩)), (1, .int .i64 (x3))] := hE
 obtain ⟨j27, hj28, hf⟩ := jn_elim hf
 refine seq_join (fun a w => ∃ (y20 : Bool), ∃ D21, Env a 24 [] [(0, .pointer (some ⟨b1, 0, none⟩)), (1, .int .i64 (x3)), (16, .bool (y20))] ∧ Stp g w0 D0 [bx b1 100 (c_T_wire_Reader (x4) A5 c6)] w D21 [bx b1 100 (c_T_wire_Reader (x4) A5 c6)] ∧ Snap.le D0 D21 ∧ j27 y20 = some r) ?_ ?_
 ·clear hj28
  refine ra ?_
  refine sN 1 1 [(4, .pointer (some ⟨b1, 0, none⟩))] hE fun a hE => ?_
  refine at_op (op_tk hE (tk_bin (r := .bool true) rfl rfl rfl rfl hE rfl rfl rfl (neptr_run (by kernel_rfl) _) (fun a hE => ?_))) rfl
  refine sM 8 10 [0] [(13, .bool ((decide (x4.fBad = (0 : Int)))))] hE hS fun a hE => ?_
  refine bo ((decide (x4.fBad = (0 : Int)))) (fun hb => ?_) fun hb => ?_
  ·replace hf := cf hb hf
   have hE := hE.know (t := 13) rfl hb
   refine sN 3 13 [(16, .bool false)] hE fun a hE => ?_
   exact ae ⟨false, D0, hE.wk, hS, lr, hf⟩
  replace hf := ct hb hf
  have hE := hE.know (t := 13) rfl hb
  refine sN 3 13 [(16, .bool ((!decide (x3 = (0 : Int)))))] hE fun a hE => ?_
  exact ae ⟨(!decide (x3 = (0 : Int))), D0, hE.wk, hS, lr, hf⟩
 clear hE hS
 rintro a w ⟨y20, D21, hE, hS, le22, hf⟩
 replace hf := hj28 _ hf
 clear hj28
 refine cond_split hE (b := y20) rfl (fun hb => ?_) (fun hb => ?_)
 ·replace hf := ct hb hf
  refine ra ?_
  refine sM 5 5 [] [(18, .pointer (some ⟨b1, 0, none⟩)), (19, .int .i64 (x3)), (21, .pointer (some ⟨b1, 0, none⟩))] hE hS fun a hE => ?_
  obtain ⟨v23, hv24, hf⟩ := bs hf
  replace hv24 := Option.some.inj hv24
  refine at_op (op_store (v := .slice none 0 0) (c_T_wire_Reader ((T_wire_Reader.mk (([] : List Int)) (v23.fBad))) none 0) rfl rfl rfl rfl hE hS rfl rfl (by kernel_rfl) (by kernel_rfl) (by kernel_rfl) (by kernel_rfl) (by rw [← hv24]; kernel_rfl) (fun a w _ hE hS => ?_)) rfl
  refine sM 2 8 [] [(23, .pointer (some ⟨b1, 1, none⟩))] hE hS fun a hE => ?_
  obtain ⟨v25, hv26, hf⟩ := bs hf
  replace hv26 := Option.some.inj hv26
  refine at_op (op_store (v := .int .i64 (x3)) (c_T_wire_Reader ((T_wire_Reader.mk (([] : List Int)) (v25.fBad))) none 0) rfl rfl rfl rfl hE hS rfl rfl (by kernel_rfl) (by kernel_rfl) (by kernel_rfl) (by kernel_rfl) (by rw [← hv26]; kernel_rfl) (fun a w _ hE hS => ?_)) rfl
  refine ae ?_
  obtain rfl := si hf
  refine ret_genN ([]) hE (by rw [show Tryz.f42.results.toList = [] from rfl]; exact rfl) ?_
  exact ⟨_, rfl, D21, none, 0, rfl, hS, (Sl.nil (kdInt .u8) D21)⟩
 replace hf := cf hb hf
 refine wpIn_skip ?_
 obtain rfl := si hf
 refine ret_genN ([]) hE (by rw [show Tryz.f42.results.toList = [] from rfl]; exact rfl) ?_
 exact ⟨_, rfl, D21, A5, c6, rfl, hS, (h7.mono le22)⟩
set_option maxRecDepth 100000 in
theorem wire_take_bool.calls {K : Nat} {g w0 : World} {D0 : Snap} {x3 : T_wire_Reader} {b1 : Nat} {A4 : Option Addr} {c5 : Nat} {r : (Bool × T_wire_Reader)} (hf : wire_take_bool.f K x3 = some r) (hS0 : St g w0 D0 [bx b1 100 (c_T_wire_Reader (x3) A4 c5)]) (h6 : Sl (kdInt .u8) D0 A4 c5 (x3.fB)) :
  CallsIn (Fw none) 0 Tryz.prog 73 (List.toArray [.pointer (some ⟨b1, 0, none⟩), .func (.func 74) #[] #[]]) w0 (fun e w' => ∃ v, e = .returned v ∧ ∃ (D1 : Snap) (A46 : Option Addr) (c47 : Nat), v = .bool (r.1) ∧ Stp g w0 D0 [bx b1 100 (c_T_wire_Reader (x3) A4 c5)] w' D1 [bx b1 100 (c_T_wire_Reader ((T_wire_Reader.mk (r.2.fB) (r.2.fBad))) A46 c47)] ∧ Sl (kdInt .u8) D1 A46 c47 (r.2.fB)) := by
 unfold wire_take_bool.f at hf
 have hS := Stp.refl hS0
 clear hS0
 refine calls_body (n := 39) Tryz.func73 rfl Tryz.ntmps73 rfl fun a hE => ?_
 have hE : Env a 39 [] [(0, .pointer (some ⟨b1, 0, none⟩)), (1, .func (.func 74) #[] #[])] := hE
 refine sq (ra ?_)
 refine sN 1 1 [(4, .bool false)] hE fun a hE => ?_
 refine ae ?_
 refine sq (ra ?_)
 refine sN 1 1 [(5, .bool false)] hE fun a hE => ?_
 refine ae ?_
 refine sq (sq (ra ?_))
 refine sN 1 1 [(9, .pointer (some ⟨b1, 0, none⟩))] hE fun a hE => ?_
 obtain ⟨r54, h55, hf⟩ := bs hf
 refine aC rfl rfl rfl rfl hE rfl rfl rfl rfl (wire_Reader_Bad.calls h55 (hS.st.fore (L := [bx b1 100 (c_T_wire_Reader (x3) A4 c5)])) h6) fun a v w hR hE => ?_
 obtain ⟨D56, rfl, hS1⟩ := hR
 have le58 := hS1.dle
 have hS := hS.callR hS1 rfl (.c .n)
 refine sN 1 3 [(11, .bool ((!decide (r54 = (0 : Int)))))] hE fun a hE => ?_
 refine ae ?_
 refine cond_split hE (b := (!decide (r54 = (0 : Int)))) rfl (fun hb => ?_) (fun hb => ?_)
 ·replace hf := ct hb hf
  refine sq (ra ?_)
  refine sN 2 2 [(4, .bool false)] hE fun a hE => ?_
  refine ae ?_
  refine wpIn_ret ?_
  obtain rfl := si hf
  refine ret_ ?_
  refine rT 4 (.bool false) hE ?_
  exact ⟨_, rfl, D56, A4, c5, rfl, hS, (h6.mono le58)⟩
 replace hf := cf hb hf
 refine wpIn_skip ?_
 refine sq (ra ?_)
 refine sM 5 5 [0] [(14, .func (.func 74) #[] #[]), (18, .slice A4 (List.length (x3.fB)) c5)] hE hS fun a hE => ?_
 obtain ⟨r59, h60, hf⟩ := bs hf
 refine aC rfl rfl rfl rfl hE rfl rfl rfl rfl (wire_Reader_Flag_1.calls h60 (hS.st.fore (L := [])) (h6.mono le58)) fun a v w hR hE => ?_
 obtain ⟨D61, rfl, hS1⟩ := hR
 have le63 := hS1.dle
 have hS := hS.callR hS1 rfl .n
 refine sN 7 13 [(6, .bool (r59.1)), (7, .int .i64 (r59.2.1)), (8, .int .i64 (r59.2.2))] hE fun a hE => ?_
 refine ae ?_
 refine sq (sq (ra ?_))
 refine sN 2 2 [(24, .bool ((!decide (r59.2.2 = (0 : Int)))))] hE fun a hE => ?_
 refine ae ?_
 refine cond_split hE (b := (!decide (r59.2.2 = (0 : Int)))) rfl (fun hb => ?_) (fun hb => ?_)
 ·replace hf := ct hb hf
  refine sq (ra ?_)
  refine sN 2 2 [(25, .pointer (some ⟨b1, 0, none⟩)), (26, .int .i64 (r59.2.2))] hE fun a hE => ?_
  obtain ⟨r72, h73, hf⟩ := bs hf
  refine aC rfl rfl rfl rfl hE rfl rfl rfl rfl (wire_Reader_Fail.calls h73 (hS.st.fore (L := [bx b1 100 (c_T_wire_Reader (x3) A4 c5)])) (h6.mono (le2 le58 le63))) fun a v w hR hE => ?_
  obtain ⟨D74, A76, c77, rfl, hS1, h78⟩ := hR
  have le79 := hS1.dle
  have hS := hS.callR hS1 rfl (.c .n)
  refine ae ?_
  refine sq (ra ?_)
  refine sN 2 2 [(4, .bool false)] hE fun a hE => ?_
  refine ae ?_
  refine wpIn_ret ?_
  obtain rfl := si hf
  refine ret_ ?_
  refine rT 4 (.bool false) hE ?_
  exact ⟨_, rfl, D74, A76, c77, rfl, hS, h78⟩
 replace hf := cf hb hf
 refine wpIn_skip ?_
 refine sq (ra ?_)
 refine sM 6 6 [0] [(29, .pointer (some ⟨b1, 0, none⟩)), (33, .slice A4 (List.length (x3.fB)) c5), (34, .int .i64 (r59.2.1))] hE hS fun a hE => ?_
 obtain ⟨l80, h81, hf⟩ := bs hf
 refine at_op (op_tk hE (g_slice (K := (kdInt .u8)) (e := 5) (by_ := 1) (zl := 1) rfl rfl rfl rfl hE rfl rfl (by kernel_rfl) ⟨_, rfl⟩ rfl (h6.mono (le2 le58 le63)) h81 (fun a A82 c83 hE h84 => ?_))) rfl
 refine sM 2 9 [] [(37, .pointer (some ⟨b1, 0, none⟩))] hE hS fun a hE => ?_
 obtain ⟨v85, hv86, hf⟩ := bs hf
 replace hv86 := Option.some.inj hv86
 refine at_op (op_store (v := .slice A82 (List.length (l80)) c83) (c_T_wire_Reader (v85) A82 c83) rfl rfl rfl rfl hE hS rfl rfl (by kernel_rfl) (by kernel_rfl) (by kernel_rfl) (by kernel_rfl) (by rw [← hv86]; kernel_rfl) (fun a w _ hE hS => ?_)) rfl
 have h87 : Sl (kdInt .u8) D61 A82 c83 (v85.fB) := by rw [← hv86]; exact h84
 refine ae ?_
 refine sq (ra ?_)
 refine sN 2 2 [(4, .bool (r59.1))] hE fun a hE => ?_
 refine ae ?_
 refine wpIn_ret ?_
 obtain rfl := si hf
 refine ret_ ?_
 refine rT 4 (.bool (r59.1)) hE ?_
 exact ⟨_, rfl, D61, A82, c83, rfl, hS, h87⟩
set_option maxRecDepth 100000 in
theorem wire_Reader_Flag.calls {K : Nat} {g w0 : World} {D0 : Snap} {x3 : T_wire_Reader} {b1 : Nat} {A4 : Option Addr} {c5 : Nat} {r : (Bool × T_wire_Reader)} (hf : wire_Reader_Flag.f K x3 = some r) (hS0 : St g w0 D0 [bx b1 100 (c_T_wire_Reader (x3) A4 c5)]) (h6 : Sl (kdInt .u8) D0 A4 c5 (x3.fB)) :
  CallsIn (Fw none) 0 Tryz.prog 40 (List.toArray [.pointer (some ⟨b1, 0, none⟩)]) w0 (fun e w' => ∃ v, e = .returned v ∧ ∃ (D1 : Snap) (A15 : Option Addr) (c16 : Nat), v = .bool (r.1) ∧ Stp g w0 D0 [bx b1 100 (c_T_wire_Reader (x3) A4 c5)] w' D1 [bx b1 100 (c_T_wire_Reader ((T_wire_Reader.mk (r.2.fB) (r.2.fBad))) A15 c16)] ∧ Sl (kdInt .u8) D1 A15 c16 (r.2.fB)) := by
 unfold wire_Reader_Flag.f at hf
 have hS := Stp.refl hS0
 clear hS0
 refine calls_body (n := 5) Tryz.func40 rfl Tryz.ntmps40 rfl fun a hE => ?_
 have hE : Env a 5 [] [(0, .pointer (some ⟨b1, 0, none⟩))] := hE
 refine sq (ra ?_)
 refine sN 1 1 [(2, .bool false)] hE fun a hE => ?_
 refine ae ?_
 refine sq (ra ?_)
 refine sN 1 1 [(3, .pointer (some ⟨b1, 0, none⟩))] hE fun a hE => ?_
 obtain ⟨r18, h19, hf⟩ := bs hf
 refine aC rfl rfl rfl rfl hE rfl rfl rfl rfl (wire_take_bool.calls h19 (hS.st.fore (L := [bx b1 100 (c_T_wire_Reader (x3) A4 c5)])) h6) fun a v w hR hE => ?_
 obtain ⟨D20, A22, c23, rfl, hS1, h24⟩ := hR
 have le25 := hS1.dle
 have hS := hS.callR hS1 rfl (.c .n)
 refine sN 1 3 [(2, .bool (r18.1))] hE fun a hE => ?_
 refine ae ?_
 refine wpIn_ret ?_
 obtain rfl := si hf
 refine ret_ ?_
 refine rT 2 (.bool (r18.1)) hE ?_
 exact ⟨_, rfl, D20, A22, c23, rfl, hS, h24⟩
set_option maxRecDepth 100000 in
theorem wire_number.calls {K : Nat} {g w0 : World} {D0 : Snap} {x1 : (List Int)} {A2 : Option Addr} {c3 : Nat} {r : (Int × Int × Int)} (hf : wire_number.f K x1 = some r) (hS0 : St g w0 D0 []) (h4 : Sl (kdInt .u8) D0 A2 c3 (x1)) :
  CallsIn (Fw none) 0 Tryz.prog 76 (List.toArray [.slice A2 (List.length (x1)) c3]) w0 (fun e w' => ∃ v, e = .returned v ∧ ∃ D1, v = .tuple #[.int .i64 (r.1), .int .i64 (r.2.1), .int .i64 (r.2.2)] ∧ Stp g w0 D0 [] w' D1 []) := by
 unfold wire_number.f at hf
 have hS := Stp.refl hS0
 clear hS0
 refine calls_body (n := 39) Tryz.func76 rfl Tryz.ntmps76 rfl fun a hE => ?_
 have hE : Env a 39 [] [(0, .slice A2 (List.length (x1)) c3)] := hE
 refine sq (ra ?_)
 refine sN 3 3 [(2, .int .i64 ((0 : Int))), (3, .int .i64 ((0 : Int))), (4, .int .i64 ((0 : Int)))] hE fun a hE => ?_
 refine ae ?_
 refine sq (ra ?_)
 refine sN 1 1 [(5, .int .i64 ((0 : Int)))] hE fun a hE => ?_
 refine ae ?_
 refine sq (sq (ra ?_))
 refine sN 3 3 [(8, .slice A2 (List.length (x1)) c3), (9, .int .i64 (((List.length (x1) : Nat) : Int))), (10, .int .i64 ((0 : Int)))] hE fun a hE => ?_
 refine ae ?_
 obtain ⟨s1, hf, hs1⟩ := bs hf
 refine block_loop (fun a w => ∃ (z1 : Unit), ∃ D4, Env a 39 [] [] ∧ Stp g w0 D0 [] w D4 [] ∧ Snap.le D0 D4 ∧ (Sum.inr z1) = s1) (fun k a w => ∃ (y1 : Int × Int), ∃ D2, Env a 39 [] [(5, .int .i64 (y1.1)), (8, .slice A2 (List.length (x1)) c3), (9, .int .i64 (((List.length (x1) : Nat) : Int))), (10, .int .i64 (y1.2))] ∧ Stp g w0 D0 [] w D2 [] ∧ Snap.le D0 D2 ∧ wire_number_l1.l K x1 k y1 = some s1) K ?_ ?_ ?_
 ·exact ⟨((0 : Int), (0 : Int)), D0, hE.wk, hS, lr, hf⟩
 ·clear hE hS hf
  rintro a w ⟨z1, D4, hE, hS, le4, rfl⟩
  have hf := hs1
  clear hs1
  refine sq (ra ?_)
  refine sN 3 3 [(2, .int .i64 ((0 : Int))), (3, .int .i64 ((0 : Int))), (4, .int .i64 ((3 : Int)))] hE fun a hE => ?_
  refine ae ?_
  refine wpIn_ret ?_
  obtain rfl := si hf
  refine ret_ ?_
  refine ret_gen ([.int .i64 ((0 : Int)), .int .i64 ((0 : Int)), .int .i64 ((3 : Int))]) hE (by rw [show Tryz.f76.results.toList = [.tmp 2, .tmp 3, .tmp 4] from rfl]; exact ⟨_, _, rfl, rfl, ⟨_, _, rfl, rfl, ⟨_, _, rfl, rfl, rfl⟩⟩⟩) ?_
  exact ⟨_, rfl, D4, rfl, hS⟩
 clear hE hS hf
 rintro k a w ⟨y1, D2, hE, hS, le1, hf⟩
 obtain ⟨k, rfl, hf⟩ := wire_number_l1.some _ hf
 refine ⟨k, rfl, ?_⟩
 unfold wire_number_l1.b at hf
 refine sq (ra ?_)
 refine sN 1 1 [(11, .bool ((decide (y1.2 < ((List.length (x1) : Nat) : Int)))))] hE fun a hE => ?_
 refine ae ?_
 refine sq ?_
 refine cond_split hE (b := (decide (y1.2 < ((List.length (x1) : Nat) : Int)))) rfl (fun hb => ?_) (fun hb => ?_)
 ·replace hf := ct hb hf
  refine wpIn_skip ?_
  refine sq ?_
  refine wpIn_block ?_
  refine sq (ra ?_)
  refine sN 1 1 [(12, .int .i64 (y1.2))] hE fun a hE => ?_
  obtain ⟨x2, h1, hf⟩ := bs hf
  refine at_op (op_tk hE (g_index (K := (kdInt .u8)) (e := 5) (by_ := 1) (zl := 1) rfl rfl rfl rfl hE rfl rfl rfl (by kernel_rfl) rfl (h4.mono le1) h1 (fun a b1 o1 hE h2 => ?_))) rfl
  obtain ⟨cs1, C1, T1, fr1, hr1, hb1, hc1⟩ := id h2
  obtain rfl := hr1
  refine at_op (op_tk hE (tk_loadX (off0 := o1) (off := 0) (c := [.int .u8 (x2)]) (.int .u8 (x2)) rfl rfl rfl rfl hE rfl hS rfl hb1 hc1 (by kernel_rfl) (by kernel_rfl) (kD hS dn_nil) (fun a hE => ?_))) rfl
  refine sN 2 5 [(6, .int .i64 (y1.2)), (7, .int .u8 (x2))] hE fun a hE => ?_
  refine ae ?_
  refine sq ?_
  obtain ⟨j1, hj1, hf⟩ := jn_elim hf
  refine seq_join (fun a w => ∃ (y2 : Bool), ∃ D3, Env a 39 [] [(5, .int .i64 (y1.1)), (6, .int .i64 (y1.2)), (7, .int .u8 (x2)), (8, .slice A2 (List.length (x1)) c3), (9, .int .i64 (((List.length (x1) : Nat) : Int))), (10, .int .i64 (y1.2)), (24, .bool (y2))] ∧ Stp g w0 D0 [] w D3 [] ∧ Snap.le D2 D3 ∧ j1 y2 = some s1) ?_ ?_
  ·clear hj1
   refine ra ?_
   refine sN 3 3 [(17, .bool ((decide (y1.2 = (0 : Int)))))] hE fun a hE => ?_
   refine bo ((decide (y1.2 = (0 : Int)))) (fun hb => ?_) fun hb => ?_
   ·replace hf := cf hb hf
    have hE := hE.know (t := 17) rfl hb
    refine sN 7 10 [(24, .bool ((decide (y1.2 = (5 : Int)))))] hE fun a hE => ?_
    exact ae ⟨(decide (y1.2 = (5 : Int))), D2, hE.wk, hS, lr, hf⟩
   replace hf := ct hb hf
   have hE := hE.know (t := 17) rfl hb
   refine sN 4 7 [(21, .bool ((decide (x2 = (128 : Int)))))] hE fun a hE => ?_
   refine bo ((decide (x2 = (128 : Int)))) (fun hb => ?_) fun hb => ?_
   ·replace hf := cf hb hf
    have hE := hE.know (t := 21) rfl hb
    refine sN 3 10 [(24, .bool ((decide (y1.2 = (5 : Int)))))] hE fun a hE => ?_
    exact ae ⟨(decide (y1.2 = (5 : Int))), D2, hE.wk, hS, lr, hf⟩
   replace hf := ct hb hf
   have hE := hE.know (t := 21) rfl hb
   refine sN 3 10 [(24, .bool true)] hE fun a hE => ?_
   exact ae ⟨true, D2, hE.wk, hS, lr, hf⟩
  clear hE hS
  rintro a w ⟨y2, D3, hE, hS, le3, hf⟩
  replace hf := hj1 _ hf
  clear hj1
  refine cond_split hE (b := y2) rfl (fun hb => ?_) (fun hb => ?_)
  ·replace hf := ct hb hf
   refine sq (ra ?_)
   refine sN 3 3 [(2, .int .i64 ((0 : Int))), (3, .int .i64 ((0 : Int))), (4, .int .i64 ((2 : Int)))] hE fun a hE => ?_
   refine ae ?_
   refine wpIn_ret ?_
   obtain rfl := si hf
   replace hf := hs1
   obtain rfl := si hf
   refine ret_ ?_
   refine ret_gen ([.int .i64 ((0 : Int)), .int .i64 ((0 : Int)), .int .i64 ((2 : Int))]) hE (by rw [show Tryz.f76.results.toList = [.tmp 2, .tmp 3, .tmp 4] from rfl]; exact ⟨_, _, rfl, rfl, ⟨_, _, rfl, rfl, ⟨_, _, rfl, rfl, rfl⟩⟩⟩) ?_
   exact ⟨_, rfl, D3, rfl, hS⟩
  replace hf := cf hb hf
  refine wpIn_skip ?_
  refine sq (ra ?_)
  refine sN 7 7 [(5, .int .i64 ((bor .i64 (IntKind.wrap .i64 (y1.1 * 2 ^ 7)) (IntKind.wrap .i64 (Int.tmod x2 128)))))] hE fun a hE => ?_
  refine ae ?_
  refine sq (ra ?_)
  refine sN 2 2 [(32, .bool ((decide (x2 < (128 : Int)))))] hE fun a hE => ?_
  refine ae ?_
  refine cond_split hE (b := (decide (x2 < (128 : Int)))) rfl (fun hb => ?_) (fun hb => ?_)
  ·replace hf := ct hb hf
   refine sq (sq (ra ?_))
   refine sN 2 2 [(34, .bool ((decide ((2147483647 : Int) < (bor .i64 (IntKind.wrap .i64 (y1.1 * 2 ^ 7)) (IntKind.wrap .i64 (Int.tmod x2 128)))))))] hE fun a hE => ?_
   refine ae ?_
   refine cond_split hE (b := (decide ((2147483647 : Int) < (bor .i64 (IntKind.wrap .i64 (y1.1 * 2 ^ 7)) (IntKind.wrap .i64 (Int.tmod x2 128)))))) rfl (fun hb => ?_) (fun hb => ?_)
   ·replace hf := ct hb hf
    refine sq (ra ?_)
    refine sN 3 3 [(2, .int .i64 ((0 : Int))), (3, .int .i64 ((0 : Int))), (4, .int .i64 ((2 : Int)))] hE fun a hE => ?_
    refine ae ?_
    refine wpIn_ret ?_
    obtain rfl := si hf
    replace hf := hs1
    obtain rfl := si hf
    refine ret_ ?_
    refine ret_gen ([.int .i64 ((0 : Int)), .int .i64 ((0 : Int)), .int .i64 ((2 : Int))]) hE (by rw [show Tryz.f76.results.toList = [.tmp 2, .tmp 3, .tmp 4] from rfl]; exact ⟨_, _, rfl, rfl, ⟨_, _, rfl, rfl, ⟨_, _, rfl, rfl, rfl⟩⟩⟩) ?_
    exact ⟨_, rfl, D3, rfl, hS⟩
   replace hf := cf hb hf
   refine wpIn_skip ?_
   refine sq (ra ?_)
   refine sN 6 6 [(2, .int .i64 ((bor .i64 (IntKind.wrap .i64 (y1.1 * 2 ^ 7)) (IntKind.wrap .i64 (Int.tmod x2 128))))), (3, .int .i64 ((IntKind.wrap .i64 (y1.2 + (1 : Int))))), (4, .int .i64 ((0 : Int)))] hE fun a hE => ?_
   refine ae ?_
   refine wpIn_ret ?_
   obtain rfl := si hf
   replace hf := hs1
   obtain rfl := si hf
   refine ret_ ?_
   refine ret_gen ([.int .i64 ((bor .i64 (IntKind.wrap .i64 (y1.1 * 2 ^ 7)) (IntKind.wrap .i64 (Int.tmod x2 128)))), .int .i64 ((IntKind.wrap .i64 (y1.2 + (1 : Int)))), .int .i64 ((0 : Int))]) hE (by rw [show Tryz.f76.results.toList = [.tmp 2, .tmp 3, .tmp 4] from rfl]; exact ⟨_, _, rfl, rfl, ⟨_, _, rfl, rfl, ⟨_, _, rfl, rfl, rfl⟩⟩⟩) ?_
   exact ⟨_, rfl, D3, rfl, hS⟩
  replace hf := cf hb hf
  refine wpIn_skip ?_
  refine ra ?_
  refine sN 2 2 [(10, .int .i64 ((IntKind.wrap .i64 (y1.2 + (1 : Int)))))] hE fun a hE => ?_
  exact ae ⟨((bor .i64 (IntKind.wrap .i64 (y1.1 * 2 ^ 7)) (IntKind.wrap .i64 (Int.tmod x2 128))), (IntKind.wrap .i64 (y1.2 + (1 : Int)))), D3, hE.wk, hS, (le2 le1 le3), hf⟩
 replace hf := cf hb hf
 refine wpIn_exit ?_
 obtain rfl := si hf
 exact ⟨(), D2, hE.wk, hS, le1, rfl⟩
set_option maxRecDepth 100000 in
theorem wire_take_int.calls {K : Nat} {g w0 : World} {D0 : Snap} {x3 : T_wire_Reader} {b1 : Nat} {A4 : Option Addr} {c5 : Nat} {r : (Int × T_wire_Reader)} (hf : wire_take_int.f K x3 = some r) (hS0 : St g w0 D0 [bx b1 100 (c_T_wire_Reader (x3) A4 c5)]) (h6 : Sl (kdInt .u8) D0 A4 c5 (x3.fB)) :
  CallsIn (Fw none) 0 Tryz.prog 75 (List.toArray [.pointer (some ⟨b1, 0, none⟩), .func (.func 76) #[] #[]]) w0 (fun e w' => ∃ v, e = .returned v ∧ ∃ (D1 : Snap) (A46 : Option Addr) (c47 : Nat), v = .int .i64 (r.1) ∧ Stp g w0 D0 [bx b1 100 (c_T_wire_Reader (x3) A4 c5)] w' D1 [bx b1 100 (c_T_wire_Reader ((T_wire_Reader.mk (r.2.fB) (r.2.fBad))) A46 c47)] ∧ Sl (kdInt .u8) D1 A46 c47 (r.2.fB)) := by
 unfold wire_take_int.f at hf
 have hS := Stp.refl hS0
 clear hS0
 refine calls_body (n := 39) Tryz.func75 rfl Tryz.ntmps75 rfl fun a hE => ?_
 have hE : Env a 39 [] [(0, .pointer (some ⟨b1, 0, none⟩)), (1, .func (.func 76) #[] #[])] := hE
 refine sq (ra ?_)
 refine sN 1 1 [(4, .int .i64 ((0 : Int)))] hE fun a hE => ?_
 refine ae ?_
 refine sq (ra ?_)
 refine sN 1 1 [(5, .int .i64 ((0 : Int)))] hE fun a hE => ?_
 refine ae ?_
 refine sq (sq (ra ?_))
 refine sN 1 1 [(9, .pointer (some ⟨b1, 0, none⟩))] hE fun a hE => ?_
 obtain ⟨r54, h55, hf⟩ := bs hf
 refine aC rfl rfl rfl rfl hE rfl rfl rfl rfl (wire_Reader_Bad.calls h55 (hS.st.fore (L := [bx b1 100 (c_T_wire_Reader (x3) A4 c5)])) h6) fun a v w hR hE => ?_
 obtain ⟨D56, rfl, hS1⟩ := hR
 have le58 := hS1.dle
 have hS := hS.callR hS1 rfl (.c .n)
 refine sN 1 3 [(11, .bool ((!decide (r54 = (0 : Int)))))] hE fun a hE => ?_
 refine ae ?_
 refine cond_split hE (b := (!decide (r54 = (0 : Int)))) rfl (fun hb => ?_) (fun hb => ?_)
 ·replace hf := ct hb hf
  refine sq (ra ?_)
  refine sN 2 2 [(4, .int .i64 ((0 : Int)))] hE fun a hE => ?_
  refine ae ?_
  refine wpIn_ret ?_
  obtain rfl := si hf
  refine ret_ ?_
  refine rT 4 (.int .i64 ((0 : Int))) hE ?_
  exact ⟨_, rfl, D56, A4, c5, rfl, hS, (h6.mono le58)⟩
 replace hf := cf hb hf
 refine wpIn_skip ?_
 refine sq (ra ?_)
 refine sM 5 5 [0] [(14, .func (.func 76) #[] #[]), (18, .slice A4 (List.length (x3.fB)) c5)] hE hS fun a hE => ?_
 obtain ⟨r59, h60, hf⟩ := bs hf
 refine aC rfl rfl rfl rfl hE rfl rfl rfl rfl (wire_number.calls h60 (hS.st.fore (L := [])) (h6.mono le58)) fun a v w hR hE => ?_
 obtain ⟨D61, rfl, hS1⟩ := hR
 have le63 := hS1.dle
 have hS := hS.callR hS1 rfl .n
 refine sN 7 13 [(6, .int .i64 (r59.1)), (7, .int .i64 (r59.2.1)), (8, .int .i64 (r59.2.2))] hE fun a hE => ?_
 refine ae ?_
 refine sq (sq (ra ?_))
 refine sN 2 2 [(24, .bool ((!decide (r59.2.2 = (0 : Int)))))] hE fun a hE => ?_
 refine ae ?_
 refine cond_split hE (b := (!decide (r59.2.2 = (0 : Int)))) rfl (fun hb => ?_) (fun hb => ?_)
 ·replace hf := ct hb hf
  refine sq (ra ?_)
  refine sN 2 2 [(25, .pointer (some ⟨b1, 0, none⟩)), (26, .int .i64 (r59.2.2))] hE fun a hE => ?_
  obtain ⟨r72, h73, hf⟩ := bs hf
  refine aC rfl rfl rfl rfl hE rfl rfl rfl rfl (wire_Reader_Fail.calls h73 (hS.st.fore (L := [bx b1 100 (c_T_wire_Reader (x3) A4 c5)])) (h6.mono (le2 le58 le63))) fun a v w hR hE => ?_
  obtain ⟨D74, A76, c77, rfl, hS1, h78⟩ := hR
  have le79 := hS1.dle
  have hS := hS.callR hS1 rfl (.c .n)
  refine ae ?_
  refine sq (ra ?_)
  refine sN 2 2 [(4, .int .i64 ((0 : Int)))] hE fun a hE => ?_
  refine ae ?_
  refine wpIn_ret ?_
  obtain rfl := si hf
  refine ret_ ?_
  refine rT 4 (.int .i64 ((0 : Int))) hE ?_
  exact ⟨_, rfl, D74, A76, c77, rfl, hS, h78⟩
 replace hf := cf hb hf
 refine wpIn_skip ?_
 refine sq (ra ?_)
 refine sM 6 6 [0] [(29, .pointer (some ⟨b1, 0, none⟩)), (33, .slice A4 (List.length (x3.fB)) c5), (34, .int .i64 (r59.2.1))] hE hS fun a hE => ?_
 obtain ⟨l80, h81, hf⟩ := bs hf
 refine at_op (op_tk hE (g_slice (K := (kdInt .u8)) (e := 5) (by_ := 1) (zl := 1) rfl rfl rfl rfl hE rfl rfl (by kernel_rfl) ⟨_, rfl⟩ rfl (h6.mono (le2 le58 le63)) h81 (fun a A82 c83 hE h84 => ?_))) rfl
 refine sM 2 9 [] [(37, .pointer (some ⟨b1, 0, none⟩))] hE hS fun a hE => ?_
 obtain ⟨v85, hv86, hf⟩ := bs hf
 replace hv86 := Option.some.inj hv86
 refine at_op (op_store (v := .slice A82 (List.length (l80)) c83) (c_T_wire_Reader (v85) A82 c83) rfl rfl rfl rfl hE hS rfl rfl (by kernel_rfl) (by kernel_rfl) (by kernel_rfl) (by kernel_rfl) (by rw [← hv86]; kernel_rfl) (fun a w _ hE hS => ?_)) rfl
 have h87 : Sl (kdInt .u8) D61 A82 c83 (v85.fB) := by rw [← hv86]; exact h84
 refine ae ?_
 refine sq (ra ?_)
 refine sN 2 2 [(4, .int .i64 (r59.1))] hE fun a hE => ?_
 refine ae ?_
 refine wpIn_ret ?_
 obtain rfl := si hf
 refine ret_ ?_
 refine rT 4 (.int .i64 (r59.1)) hE ?_
 exact ⟨_, rfl, D61, A82, c83, rfl, hS, h87⟩
set_option maxRecDepth 100000 in
theorem wire_Reader_Num.calls {K : Nat} {g w0 : World} {D0 : Snap} {x3 : T_wire_Reader} {b1 : Nat} {A4 : Option Addr} {c5 : Nat} {r : (Int × T_wire_Reader)} (hf : wire_Reader_Num.f K x3 = some r) (hS0 : St g w0 D0 [bx b1 100 (c_T_wire_Reader (x3) A4 c5)]) (h6 : Sl (kdInt .u8) D0 A4 c5 (x3.fB)) :
  CallsIn (Fw none) 0 Tryz.prog 41 (List.toArray [.pointer (some ⟨b1, 0, none⟩)]) w0 (fun e w' => ∃ v, e = .returned v ∧ ∃ (D1 : Snap) (A15 : Option Addr) (c16 : Nat), v = .int .i64 (r.1) ∧ Stp g w0 D0 [bx b1 100 (c_T_wire_Reader (x3) A4 c5)] w' D1 [bx b1 100 (c_T_wire_Reader ((T_wire_Reader.mk (r.2.fB) (r.2.fBad))) A15 c16)] ∧ Sl (kdInt .u8) D1 A15 c16 (r.2.fB)) := by
 unfold wire_Reader_Num.f at hf
 have hS := Stp.refl hS0
 clear hS0
 refine calls_body (n := 5) Tryz.func41 rfl Tryz.ntmps41 rfl fun a hE => ?_
 have hE : Env a 5 [] [(0, .pointer (some ⟨b1, 0, none⟩))] := hE
 refine sq (ra ?_)
 refine sN 1 1 [(2, .int .i64 ((0 : Int)))] hE fun a hE => ?_
 refine ae ?_
 refine sq (ra ?_)
 refine sN 1 1 [(3, .pointer (some ⟨b1, 0, none⟩))] hE fun a hE => ?_
 obtain ⟨r18, h19, hf⟩ := bs hf
 refine aC rfl rfl rfl rfl hE rfl rfl rfl rfl (wire_take_int.calls h19 (hS.st.fore (L := [bx b1 100 (c_T_wire_Reader (x3) A4 c5)])) h6) fun a v w hR hE => ?_
 obtain ⟨D20, A22, c23, rfl, hS1, h24⟩ := hR
 have le25 := hS1.dle
 have hS := hS.callR hS1 rfl (.c .n)
 refine sN 1 3 [(2, .int .i64 (r18.1))] hE fun a hE => ?_
 refine ae ?_
 refine wpIn_ret ?_
 obtain rfl := si hf
 refine ret_ ?_
 refine rT 2 (.int .i64 (r18.1)) hE ?_
 exact ⟨_, rfl, D20, A22, c23, rfl, hS, h24⟩
set_option maxRecDepth 100000 in
theorem wire_Reader_Hash_1.calls {K : Nat} {g w0 : World} {D0 : Snap} {x1 : (List Int)} {A2 : Option Addr} {c3 : Nat} {r : ((Vector Int 32) × Int × Int)} (hf : wire_Reader_Hash_1.f K x1 = some r) (hS0 : St g w0 D0 []) (h4 : Sl (kdInt .u8) D0 A2 c3 (x1)) :
  CallsIn (Fw none) 0 Tryz.prog 78 (List.toArray [.slice A2 (List.length (x1)) c3]) w0 (fun e w' => ∃ v, e = .returned v ∧ ∃ D1, v = .tuple #[.agg (List.toArray (acells .u8 32 (r.1))), .int .i64 (r.2.1), .int .i64 (r.2.2)] ∧ Stp g w0 D0 [] w' D1 []) := by
 unfold wire_Reader_Hash_1.f at hf
 have hS := Stp.refl hS0
 clear hS0
 refine calls_body (n := 14) Tryz.func78 rfl Tryz.ntmps78 rfl fun a hE => ?_
 have hE : Env a 14 [] [(0, .slice A2 (List.length (x1)) c3)] := hE
 refine sq (ra ?_)
 refine at_op (op_alloc (z := .agg (List.toArray (acells .u8 32 ((Vector.replicate 32 (0 : Int)))))) rfl rfl rfl rfl hE rfl hS (by kernel_rfl) (fun a b32 w _ hE hS => ?_)) rfl
 refine sN 2 3 [(3, .int .i64 ((0 : Int))), (4, .int .i64 ((0 : Int)))] hE fun a hE => ?_
 refine ae ?_
 refine sq (ra ?_)
 refine at_op (op_alloc (z := .agg (List.toArray (acells .u8 32 ((Vector.replicate 32 (0 : Int)))))) rfl rfl rfl rfl hE rfl hS (by kernel_rfl) (fun a b34 w _ hE hS => ?_)) rfl
 refine ae ?_
 refine sq (sq (ra ?_))
 refine sN 3 3 [(8, .bool ((decide (((List.length (x1) : Nat) : Int) < (32 : Int)))))] hE fun a hE => ?_
 refine ae ?_
 refine cond_split hE (b := (decide (((List.length (x1) : Nat) : Int) < (32 : Int)))) rfl (fun hb => ?_) (fun hb => ?_)
 ·replace hf := ct hb hf
  refine sq (ra ?_)
  refine sM 1 1 [0] [(9, .agg (List.toArray (acells .u8 32 ((Vector.replicate 32 (0 : Int))))))] hE hS fun a hE => ?_
  have hS := hS.p (.d 1 (.d 0 .n))
  refine at_op (op_store (v := .agg (List.toArray (acells .u8 32 ((Vector.replicate 32 (0 : Int)))))) (acells .u8 32 ((Vector.replicate 32 (0 : Int)))) rfl rfl rfl rfl hE hS rfl rfl (by kernel_rfl) (by kernel_rfl) (by kernel_rfl) (by kernel_rfl) (by kernel_rfl) (fun a w _ hE hS => ?_)) rfl
  refine sN 2 4 [(3, .int .i64 ((0 : Int))), (4, .int .i64 ((3 : Int)))] hE fun a hE => ?_
  refine ae ?_
  refine wpIn_ret ?_
  obtain rfl := si hf
  refine ret_ ?_
  refine ret_gen ([.agg (List.toArray (acells .u8 32 ((Vector.replicate 32 (0 : Int))))), .int .i64 ((0 : Int)), .int .i64 ((3 : Int))]) hE (by rw [show Tryz.f78.results.toList = [.cell 2 23, .tmp 3, .tmp 4] from rfl]; exact ⟨_, _, _, 0, _, _, rfl, rfl, hS.heapAt (j := 0) rfl, by kernel_rfl, ⟨_, _, rfl, rfl, ⟨_, _, rfl, rfl, rfl⟩⟩⟩) ?_
  have hS := hS.p .n
  exact ⟨_, rfl, D0, rfl, hS⟩
 replace hf := cf hb hf
 refine wpIn_skip ?_
 refine sq (ra ?_)
 refine sN 1 1 [(10, .slice A2 (List.length (x1)) c3)] hE fun a hE => ?_
 obtain ⟨l36, h37, hf⟩ := bs hf
 refine at_op (op_tk hE (g_slice (K := (kdInt .u8)) (e := 5) (by_ := 1) (zl := 1) rfl rfl rfl rfl hE rfl rfl (by kernel_rfl) rfl ⟨_, rfl⟩ h4 h37 (fun a A38 c39 hE h40 => ?_))) rfl
 obtain ⟨h44, hf⟩ := chk_some hf
 refine at_op (op_tk hE (g_s2a (kk := .u8) (e := 5) (N := 32) rfl rfl rfl rfl hE rfl rfl (by kernel_rfl) rfl h40 h44 (fun a b41 o42 hE h43 => ?_))) rfl
 obtain ⟨cs52, C53, T54, fr55, hr56, hb57, hc58⟩ := id h43
 obtain rfl := hr56
 refine at_op (op_tk hE (tk_loadX (off0 := o42) (off := 0) (c := acells .u8 32 ((vofL 32 (l36)))) (.agg (List.toArray (acells .u8 32 ((vofL 32 (l36)))))) rfl rfl rfl rfl hE rfl hS rfl hb57 hc58 (by kernel_rfl) (by kernel_rfl) (kD hS dn_nil) (fun a hE => ?_))) rfl
 have hS := hS.p (.d 1 (.d 0 .n))
 refine at_op (op_store (v := .agg (List.toArray (acells .u8 32 ((vofL 32 (l36)))))) (acells .u8 32 ((vofL 32 (l36)))) rfl rfl rfl rfl hE hS rfl rfl (by kernel_rfl) (by kernel_rfl) (by kernel_rfl) (by kernel_rfl) (by kernel_rfl) (fun a w _ hE hS => ?_)) rfl
 refine sN 2 7 [(3, .int .i64 ((32 : Int))), (4, .int .i64 ((0 : Int)))] hE fun a hE => ?_
 refine ae ?_
 refine wpIn_ret ?_
 obtain rfl := si hf
 refine ret_ ?_
 refine ret_gen ([.agg (List.toArray (acells .u8 32 ((vofL 32 (l36))))), .int .i64 ((32 : Int)), .int .i64 ((0 : Int))]) hE (by rw [show Tryz.f78.results.toList = [.cell 2 23, .tmp 3, .tmp 4] from rfl]; exact ⟨_, _, _, 0, _, _, rfl, rfl, hS.heapAt (j := 0) rfl, by kernel_rfl, ⟨_, _, rfl, rfl, ⟨_, _, rfl, rfl, rfl⟩⟩⟩) ?_
 have hS := hS.p .n
 exact ⟨_, rfl, D0, rfl, hS⟩
set_option maxRecDepth 100000 in
theorem wire_take_api_Hash.calls {K : Nat} {g w0 : World} {D0 : Snap} {x3 : T_wire_Reader} {b1 : Nat} {A4 : Option Addr} {c5 : Nat} {r : ((Vector Int 32) × T_wire_Reader)} (hf : wire_take_api_Hash.f K x3 = some r) (hS0 : St g w0 D0 [bx b1 100 (c_T_wire_Reader (x3) A4 c5)]) (h6 : Sl (kdInt .u8) D0 A4 c5 (x3.fB)) :
  CallsIn (Fw none) 0 Tryz.prog 77 (List.toArray [.pointer (some ⟨b1, 0, none⟩), .func (.func 78) #[] #[]]) w0 (fun e w' => ∃ v, e = .returned v ∧ ∃ (D1 : Snap) (A52 : Option Addr) (c53 : Nat), v = .agg (List.toArray (acells .u8 32 (r.1))) ∧ Stp g w0 D0 [bx b1 100 (c_T_wire_Reader (x3) A4 c5)] w' D1 [bx b1 100 (c_T_wire_Reader ((T_wire_Reader.mk (r.2.fB) (r.2.fBad))) A52 c53)] ∧ Sl (kdInt .u8) D1 A52 c53 (r.2.fB)) := by
 unfold wire_take_api_Hash.f at hf
 have hS := Stp.refl hS0
 clear hS0
 refine calls_body (n := 39) Tryz.func77 rfl Tryz.ntmps77 rfl fun a hE => ?_
 have hE : Env a 39 [] [(0, .pointer (some ⟨b1, 0, none⟩)), (1, .func (.func 78) #[] #[])] := hE
 refine sq (ra ?_)
 refine at_op (op_alloc (z := .agg (List.toArray (acells .u8 32 ((Vector.replicate 32 (0 : Int)))))) rfl rfl rfl rfl hE rfl hS (by kernel_rfl) (fun a b55 w _ hE hS => ?_)) rfl
 refine ae ?_
 refine sq (ra ?_)
 refine at_op (op_alloc (z := .agg (List.toArray (acells .u8 32 ((Vector.replicate 32 (0 : Int)))))) rfl rfl rfl rfl hE rfl hS (by kernel_rfl) (fun a b57 w _ hE hS => ?_)) rfl
 refine ae ?_
 refine sq (sq (ra ?_))
 refine sN 1 1 [(9, .pointer (some ⟨b1, 0, none⟩))] hE fun a hE => ?_
 have hS := hS.p (.d 2 (.d 0 (.d 1 .n)))
 obtain ⟨r64, h65, hf⟩ := bs hf
 refine aC rfl rfl rfl rfl hE rfl rfl rfl rfl (wire_Reader_Bad.calls h65 (hS.st.fore (L := [bx b1 100 (c_T_wire_Reader (x3) A4 c5)])) h6) fun a v w hR hE => ?_
 obtain ⟨D66, rfl, hS1⟩ := hR
 have le68 := hS1.dle
 have hS := hS.callR hS1 rfl (.c .n)
 refine sN 1 3 [(11, .bool ((!decide (r64 = (0 : Int)))))] hE fun a hE => ?_
 refine ae ?_
 refine cond_split hE (b := (!decide (r64 = (0 : Int)))) rfl (fun hb => ?_) (fun hb => ?_)
 ·replace hf := ct hb hf
  refine sq (ra ?_)
  refine sM 1 1 [1] [(12, .agg (List.toArray (acells .u8 32 ((Vector.replicate 32 (0 : Int))))))] hE hS fun a hE => ?_
  have hS := hS.p (.d 2 (.d 0 (.d 1 .n)))
  refine at_op (op_store (v := .agg (List.toArray (acells .u8 32 ((Vector.replicate 32 (0 : Int)))))) (acells .u8 32 ((Vector.replicate 32 (0 : Int)))) rfl rfl rfl rfl hE hS rfl rfl (by kernel_rfl) (by kernel_rfl) (by kernel_rfl) (by kernel_rfl) (by kernel_rfl) (fun a w _ hE hS => ?_)) rfl
  refine ae ?_
  refine wpIn_ret ?_
  obtain rfl := si hf
  refine ret_ ?_
  refine ret_gen ([.agg (List.toArray (acells .u8 32 ((Vector.replicate 32 (0 : Int)))))]) hE (by rw [show Tryz.f77.results.toList = [.cell 4 23] from rfl]; exact ⟨_, _, _, 0, _, _, rfl, rfl, hS.heapAt (j := 0) rfl, by kernel_rfl, rfl⟩) ?_
  have hS := hS.p (.d 1 .n)
  exact ⟨_, rfl, D66, A4, c5, rfl, hS, (h6.mono le68)⟩
 replace hf := cf hb hf
 refine wpIn_skip ?_
 refine sq (ra ?_)
 refine sM 5 5 [0] [(14, .func (.func 78) #[] #[]), (18, .slice A4 (List.length (x3.fB)) c5)] hE hS fun a hE => ?_
 obtain ⟨r69, h70, hf⟩ := bs hf
 refine aC rfl rfl rfl rfl hE rfl rfl rfl rfl (wire_Reader_Hash_1.calls h70 (hS.st.fore (L := [])) (h6.mono le68)) fun a v w hR hE => ?_
 obtain ⟨D71, rfl, hS1⟩ := hR
 have le73 := hS1.dle
 have hS := hS.callR hS1 rfl .n
 refine sN 4 10 [(20, .agg (List.toArray (acells .u8 32 (r69.1)))), (21, .int .i64 (r69.2.1)), (22, .int .i64 (r69.2.2))] hE fun a hE => ?_
 refine at_op (op_alloc (z := .agg (List.toArray (acells .u8 32 ((Vector.replicate 32 (0 : Int)))))) rfl rfl rfl rfl hE rfl hS (by kernel_rfl) (fun a b74 w _ hE hS => ?_)) rfl
 refine at_op (op_store (v := .agg (List.toArray (acells .u8 32 (r69.1)))) (acells .u8 32 (r69.1)) rfl rfl rfl rfl hE hS rfl rfl (by kernel_rfl) (by kernel_rfl) (by kernel_rfl) (by kernel_rfl) (by kernel_rfl) (fun a w _ hE hS => ?_)) rfl
 refine sN 2 14 [(7, .int .i64 (r69.2.1)), (8, .int .i64 (r69.2.2))] hE fun a hE => ?_
 refine ae ?_
 refine sq (sq (ra ?_))
 refine sN 2 2 [(24, .bool ((!decide (r69.2.2 = (0 : Int)))))] hE fun a hE => ?_
 refine ae ?_
 refine cond_split hE (b := (!decide (r69.2.2 = (0 : Int)))) rfl (fun hb => ?_) (fun hb => ?_)
 ·replace hf := ct hb hf
  refine sq (ra ?_)
  refine sN 2 2 [(25, .pointer (some ⟨b1, 0, none⟩)), (26, .int .i64 (r69.2.2))] hE fun a hE => ?_
  have hS := hS.p (.d 1 (.d 0 (.d 2 (.d 3 .n))))
  obtain ⟨r84, h85, hf⟩ := bs hf
  refine aC rfl rfl rfl rfl hE rfl rfl rfl rfl (wire_Reader_Fail.calls h85 (hS.st.fore (L := [bx b1 100 (c_T_wire_Reader (x3) A4 c5)])) (h6.mono (le2 le68 le73))) fun a v w hR hE => ?_
  obtain ⟨D86, A88, c89, rfl, hS1, h90⟩ := hR
  have le91 := hS1.dle
  have hS := hS.callR hS1 rfl (.c .n)
  refine ae ?_
  refine sq (ra ?_)
  refine sM 1 1 [2] [(28, .agg (List.toArray (acells .u8 32 ((Vector.replicate 32 (0 : Int))))))] hE hS fun a hE => ?_
  have hS := hS.p (.d 3 (.d 0 (.d 1 (.d 2 .n))))
  refine at_op (op_store (v := .agg (List.toArray (acells .u8 32 ((Vector.replicate 32 (0 : Int)))))) (acells .u8 32 ((Vector.replicate 32 (0 : Int)))) rfl rfl rfl rfl hE hS rfl rfl (by kernel_rfl) (by kernel_rfl) (by kernel_rfl) (by kernel_rfl) (by kernel_rfl) (fun a w _ hE hS => ?_)) rfl
  refine ae ?_
  refine wpIn_ret ?_
  obtain rfl := si hf
  refine ret_ ?_
  refine ret_gen ([.agg (List.toArray (acells .u8 32 ((Vector.replicate 32 (0 : Int)))))]) hE (by rw [show Tryz.f77.results.toList = [.cell 4 23] from rfl]; exact ⟨_, _, _, 0, _, _, rfl, rfl, hS.heapAt (j := 0) rfl, by kernel_rfl, rfl⟩) ?_
  have hS := hS.p (.d 1 .n)
  exact ⟨_, rfl, D86, A88, c89, rfl, hS, h90⟩
 replace hf := cf hb hf
 refine wpIn_skip ?_
 refine sq (ra ?_)
 refine sM 6 6 [1] [(29, .pointer (some ⟨b1, 0, none⟩)), (33, .slice A4 (List.length (x3.fB)) c5), (34, .int .i64 (r69.2.1))] hE hS fun a hE => ?_
 obtain ⟨l92, h93, hf⟩ := bs hf
 refine at_op (op_tk hE (g_slice (K := (kdInt .u8)) (e := 5) (by_ := 1) (zl := 1) rfl rfl rfl rfl hE rfl rfl (by kernel_rfl) ⟨_, rfl⟩ rfl (h6.mono (le2 le68 le73)) h93 (fun a A94 c95 hE h96 => ?_))) rfl
 refine sM 2 9 [] [(37, .pointer (some ⟨b1, 0, none⟩))] hE hS fun a hE => ?_
 have hS := hS.p (.d 1 (.d 0 (.d 2 (.d 3 .n))))
 obtain ⟨v97, hv98, hf⟩ := bs hf
 replace hv98 := Option.some.inj hv98
 refine at_op (op_store (v := .slice A94 (List.length (l92)) c95) (c_T_wire_Reader (v97) A94 c95) rfl rfl rfl rfl hE hS rfl rfl (by kernel_rfl) (by kernel_rfl) (by kernel_rfl) (by kernel_rfl) (by rw [← hv98]; kernel_rfl) (fun a w _ hE hS => ?_)) rfl
 have h99 : Sl (kdInt .u8) D71 A94 c95 (v97.fB) := by rw [← hv98]; exact h96
 refine ae ?_
 refine sq (ra ?_)
 refine sM 1 1 [1] [(38, .agg (List.toArray (acells .u8 32 (r69.1))))] hE hS fun a hE => ?_
 have hS := hS.p (.d 3 (.d 0 (.d 1 (.d 2 .n))))
 refine at_op (op_store (v := .agg (List.toArray (acells .u8 32 (r69.1)))) (acells .u8 32 (r69.1)) rfl rfl rfl rfl hE hS rfl rfl (by kernel_rfl) (by kernel_rfl) (by kernel_rfl) (by kernel_rfl) (by kernel_rfl) (fun a w _ hE hS => ?_)) rfl
 refine ae ?_
 refine wpIn_ret ?_
 obtain rfl := si hf
 refine ret_ ?_
 refine ret_gen ([.agg (List.toArray (acells .u8 32 (r69.1)))]) hE (by rw [show Tryz.f77.results.toList = [.cell 4 23] from rfl]; exact ⟨_, _, _, 0, _, _, rfl, rfl, hS.heapAt (j := 0) rfl, by kernel_rfl, rfl⟩) ?_
 have hS := hS.p (.d 1 .n)
 exact ⟨_, rfl, D71, A94, c95, rfl, hS, h99⟩
set_option maxRecDepth 100000 in
theorem wire_Reader_Hash.calls {K : Nat} {g w0 : World} {D0 : Snap} {x3 : T_wire_Reader} {b1 : Nat} {A4 : Option Addr} {c5 : Nat} {r : ((Vector Int 32) × T_wire_Reader)} (hf : wire_Reader_Hash.f K x3 = some r) (hS0 : St g w0 D0 [bx b1 100 (c_T_wire_Reader (x3) A4 c5)]) (h6 : Sl (kdInt .u8) D0 A4 c5 (x3.fB)) :
  CallsIn (Fw none) 0 Tryz.prog 43 (List.toArray [.pointer (some ⟨b1, 0, none⟩)]) w0 (fun e w' => ∃ v, e = .returned v ∧ ∃ (D1 : Snap) (A17 : Option Addr) (c18 : Nat), v = .agg (List.toArray (acells .u8 32 (r.1))) ∧ Stp g w0 D0 [bx b1 100 (c_T_wire_Reader (x3) A4 c5)] w' D1 [bx b1 100 (c_T_wire_Reader ((T_wire_Reader.mk (r.2.fB) (r.2.fBad))) A17 c18)] ∧ Sl (kdInt .u8) D1 A17 c18 (r.2.fB)) := by
 unfold wire_Reader_Hash.f at hf
 have hS := Stp.refl hS0
 clear hS0
 refine calls_body (n := 5) Tryz.func43 rfl Tryz.ntmps43 rfl fun a hE => ?_
 have hE : Env a 5 [] [(0, .pointer (some ⟨b1, 0, none⟩))] := hE
 refine sq (ra ?_)
 refine at_op (op_alloc (z := .agg (List.toArray (acells .u8 32 ((Vector.replicate 32 (0 : Int)))))) rfl rfl rfl rfl hE rfl hS (by kernel_rfl) (fun a b20 w _ hE hS => ?_)) rfl
 refine ae ?_
 refine sq (ra ?_)
 refine sN 1 1 [(3, .pointer (some ⟨b1, 0, none⟩))] hE fun a hE => ?_
 have hS := hS.p (.d 1 (.d 0 .n))
 obtain ⟨r22, h23, hf⟩ := bs hf
 refine aC rfl rfl rfl rfl hE rfl rfl rfl rfl (wire_take_api_Hash.calls h23 (hS.st.fore (L := [bx b1 100 (c_T_wire_Reader (x3) A4 c5)])) h6) fun a v w hR hE => ?_
 obtain ⟨D24, A26, c27, rfl, hS1, h28⟩ := hR
 have le29 := hS1.dle
 have hS := hS.callR hS1 rfl (.c .n)
 have hS := hS.p (.d 1 (.d 0 .n))
 refine at_op (op_store (v := .agg (List.toArray (acells .u8 32 (r22.1)))) (acells .u8 32 (r22.1)) rfl rfl rfl rfl hE hS rfl rfl (by kernel_rfl) (by kernel_rfl) (by kernel_rfl) (by kernel_rfl) (by kernel_rfl) (fun a w _ hE hS => ?_)) rfl
 refine ae ?_
 refine wpIn_ret ?_
 obtain rfl := si hf
 refine ret_ ?_
 refine ret_gen ([.agg (List.toArray (acells .u8 32 (r22.1)))]) hE (by rw [show Tryz.f43.results.toList = [.cell 2 23] from rfl]; exact ⟨_, _, _, 0, _, _, rfl, rfl, hS.heapAt (j := 0) rfl, by kernel_rfl, rfl⟩) ?_
 have hS := hS.p (.d 1 .n)
 exact ⟨_, rfl, D24, A26, c27, rfl, hS, h28⟩
set_option maxRecDepth 100000 in
theorem bundle_Get_1.calls {K : Nat} {g w0 : World} {D0 : Snap} {x5 : Int} {x6 : T_wire_Reader} {b1 : Nat} {b2 : Nat} {A7 : Option Addr} {c8 : Nat} {r : (T_api_Sig × T_wire_Reader)} (hf : bundle_Get_1.f K x5 x6 = some r) (hS0 : St g w0 D0 [bx b1 68 ([.pointer (some ⟨b2, 0, none⟩)]), bx b2 100 (c_T_wire_Reader (x6) A7 c8)]) (h9 : Sl (kdInt .u8) D0 A7 c8 (x6.fB)) :
  CallsIn (Fw none) 0 Tryz.prog 45 (List.toArray [.int .i64 (x5), .pointer (some ⟨b1, 0, none⟩)]) w0 (fun e w' => ∃ v, e = .returned v ∧ ∃ (D1 : Snap) (A48 : Option Addr) (c49 : Nat), v = .agg (List.toArray (c_T_api_Sig ((T_api_Sig.mk (r.1.fWit) (r.1.fTag))))) ∧ Stp g w0 D0 [bx b1 68 ([.pointer (some ⟨b2, 0, none⟩)]), bx b2 100 (c_T_wire_Reader (x6) A7 c8)] w' D1 [bx b1 68 ([.pointer (some ⟨b2, 0, none⟩)]), bx b2 100 (c_T_wire_Reader ((T_wire_Reader.mk (r.2.fB) (r.2.fBad))) A48 c49)] ∧ Sl (kdInt .u8) D1 A48 c49 (r.2.fB)) := by
 unfold bundle_Get_1.f at hf
 have hS := Stp.refl hS0
 clear hS0
 refine calls_body (n := 9) Tryz.func45 rfl Tryz.ntmps45 rfl fun a hE => ?_
 have hE : Env a 9 [] [(0, .int .i64 (x5)), (1, .pointer (some ⟨b1, 0, none⟩))] := hE
 refine sq (ra ?_)
 refine at_op (op_alloc (z := .agg (List.toArray (c_T_api_Sig ((T_api_Sig.mk ((0 : Int)) ((Vector.replicate 32 (0 : Int)))))))) rfl rfl rfl rfl hE rfl hS (by kernel_rfl) (fun a b51 w _ hE hS => ?_)) rfl
 refine ae ?_
 refine sq ?_
 refine region_draw (fun j => Keeps (mfOf [(1, [b2]), (3, [b2]), (5, [b51])] j)) (by kernel_rfl) ?_
 have hS := hS.drew
 first | generalize w.drew = w at hS ⊢ | generalize w0.drew = w at hS ⊢
 refine tS (T := [(1, [b2]), (3, [b2]), (5, [b51])]) [] [0, 1, 3, 4, 5] 0 1 (fuel := 5) (by kernel_rfl) hE (tk_load 1 (.pointer (some ⟨b2, 0, none⟩)) rfl rfl rfl rfl hE rfl hS rfl rfl (by kernel_rfl) (kL (j := 1) hS rfl List.not_mem_nil) (fun a hE => ?_))
 refine tN (T := [(1, [b2]), (3, [b2]), (5, [b51])]) [1] 2 5 (fuel := 4) (by kernel_rfl) hE (tk_load 1 (.pointer (some ⟨b2, 0, none⟩)) rfl rfl rfl rfl hE rfl hS rfl rfl (by kernel_rfl) (kL (j := 1) hS rfl (show b1 ∉ [b2] from (nm_cons (hS.ne (i := 1) (j := 2) (by decide) rfl rfl) List.not_mem_nil))) (fun a hE => ?_))
 have hS := hS.p (.d 2 (.d 0 (.d 1 .n)))
 obtain ⟨r71, h72, hf⟩ := bs hf
 refine oC 1 7 3 rfl rfl rfl rfl hE rfl rfl rfl rfl (wire_Reader_Num.calls h72 (hS.st.fore (L := [bx b2 100 (c_T_wire_Reader (x6) A7 c8)])) h9) fun a v w hR hE => ?_
 obtain ⟨D73, A75, c76, rfl, hS1, h77⟩ := hR
 refine ⟨(hS1.keeps.sub (M' := [b2]) ⟨.inl (List.Mem.head _), trivial⟩).mono (fun _ h => h), ?_⟩
 have le78 := hS1.dle
 have hS := hS.callR hS1 rfl (.c .n)
 obtain ⟨r79, h80, hf⟩ := bs hf
 refine oC 3 15 2 rfl rfl rfl rfl hE rfl rfl rfl rfl (wire_Reader_Hash.calls h80 (hS.st.fore (L := [bx b2 100 (c_T_wire_Reader (r71.2) A75 c76)])) h77) fun a v w hR hE => ?_
 obtain ⟨D81, A83, c84, rfl, hS1, h85⟩ := hR
 refine ⟨(hS1.keeps.sub (M' := [b2]) ⟨.inl (List.Mem.head _), trivial⟩).mono (fun _ h => h), ?_⟩
 have le86 := hS1.dle
 have hS := hS.callR hS1 rfl (.c .n)
 refine tW 4 31 (fuel := 1) (by kernel_rfl) hE (fun M => tk_build (c_T_api_Sig ((T_api_Sig.mk (r71.1) (r79.1)))) rfl rfl rfl rfl hE rfl rfl (by kernel_rfl) (fun a hE => ?_))
 have hS := hS.p (.d 1 (.d 0 (.d 2 .n)))
 obtain ⟨v87, hv88, hf⟩ := bs hf
 replace hv88 := Option.some.inj hv88
 refine oG 5 63 (fuel := 0) (by kernel_rfl) (op_store (v := .agg (List.toArray (c_T_api_Sig ((T_api_Sig.mk (r71.1) (r79.1)))))) (c_T_api_Sig (v87)) rfl rfl rfl rfl hE hS rfl rfl (by kernel_rfl) (by kernel_rfl) (by kernel_rfl) (by kernel_rfl) (by rw [← hv88]; kernel_rfl) (fun a w hkp hE hS => ⟨hkp.mono (fun _ h => h), ?_⟩))
 clear hkp
 refine doneG (by kernel_rfl) ?_
 refine wpIn_ret ?_
 obtain rfl := si hf
 refine ret_ ?_
 refine ret_gen ([.agg (List.toArray (c_T_api_Sig (v87)))]) hE (by rw [show Tryz.f45.results.toList = [.cell 3 37] from rfl]; exact ⟨_, _, _, 0, _, _, rfl, rfl, hS.heapAt (j := 0) rfl, by kernel_rfl, rfl⟩) ?_
 have hS := hS.p (.d 2 (.d 1 .n))
 exact ⟨_, rfl, D81, A83, c84, rfl, hS, h85⟩
set_option maxRecDepth 100000 in
theorem bundle_read_api_Sig.calls {K : Nat} {g w0 : World} {D0 : Snap} {x5 : Int} {x6 : Int} {x7 : T_wire_Reader} {b1 : Nat} {b2 : Nat} {A8 : Option Addr} {c9 : Nat} {r : ((List T_api_Sig) × T_wire_Reader)} (hf : bundle_read_api_Sig.f K x5 x6 x7 = some r) (hS0 : St g w0 D0 [bx b1 100 (c_T_wire_Reader (x7) A8 c9), bx b2 68 ([.pointer (some ⟨b1, 0, none⟩)])]) (h10 : Sl (kdInt .u8) D0 A8 c9 (x7.fB)) :
  CallsIn (Fw none) 0 Tryz.prog 44 (List.toArray [.pointer (some ⟨b1, 0, none⟩), .int .i64 (x5), .int .i64 (x6), .func (.func 45) #[] #[.pointer (some ⟨b2, 0, none⟩)]]) w0 (fun e w' => ∃ v, e = .returned v ∧ ∃ (D1 : Snap) (A6 : Option Addr) (c6 : Nat) (q3 : Blk) (A7 : Option Addr) (c7 : Nat), v = .slice A6 (List.length (r.1)) c6 ∧ Stp g w0 D0 [bx b1 100 (c_T_wire_Reader (x7) A8 c9), bx b2 68 ([.pointer (some ⟨b1, 0, none⟩)])] w' D1 [bx b1 100 (c_T_wire_Reader ((T_wire_Reader.mk (r.2.fB) (r.2.fBad))) A7 c7), bx b2 68 ([.pointer (some ⟨b1, 0, none⟩)]), q3] ∧ OwnD kd_T_api_Sig 37 D1 A6 c6 (r.1) q3 ∧ Sl (kdInt .u8) D1 A7 c7 (r.2.fB)) := by
 unfold bundle_read_api_Sig.f at hf
 have hS := Stp.refl hS0
 clear hS0
 refine calls_body (n := 31) Tryz.func44 rfl Tryz.ntmps44 rfl fun a hE => ?_
 have hE : Env a 31 [] [(0, .pointer (some ⟨b1, 0, none⟩)), (1, .int .i64 (x5)), (2, .int .i64 (x6)), (3, .func (.func 45) #[] #[.pointer (some ⟨b2, 0, none⟩)])] := hE
 refine sq (ra ?_)
 refine sN 1 1 [(8, .slice none 0 0)] hE fun a hE => ?_
 refine ae ?_
 obtain ⟨j1, hj1, hf⟩ := jn_elim hf
 refine seq_join (fun a w => ∃ (y2 : T_wire_Reader), ∃ A4, ∃ c4, ∃ D2, Env a 31 [] [(0, .pointer (some ⟨b1, 0, none⟩)), (1, .int .i64 (x5)), (3, .func (.func 45) #[] #[.pointer (some ⟨b2, 0, none⟩)])] ∧ Stp g w0 D0 [bx b1 100 (c_T_wire_Reader (x7) A8 c9), bx b2 68 ([.pointer (some ⟨b1, 0, none⟩)])] w D2 [bx b1 100 (c_T_wire_Reader (y2) A4 c4), bx b2 68 ([.pointer (some ⟨b1, 0, none⟩)])] ∧ Snap.le D0 D2 ∧ Sl (kdInt .u8) D2 A4 c4 (y2.fB) ∧ j1 y2 = some r) ?_ ?_
 ·clear hj1
  refine sq (ra ?_)
  refine sN 3 3 [(13, .bool ((decide (x6 < x5))))] hE fun a hE => ?_
  refine ae ?_
  refine cond_split hE (b := (decide (x6 < x5))) rfl (fun hb => ?_) (fun hb => ?_)
  ·replace hf := ct hb hf
   refine ra ?_
   refine sN 1 1 [(14, .pointer (some ⟨b1, 0, none⟩))] hE fun a hE => ?_
   obtain ⟨r3, h3, hf⟩ := bs hf
   refine aC rfl rfl rfl rfl hE rfl rfl rfl rfl (wire_Reader_Fail.calls h3 (hS.st.fore (L := [bx b1 100 (c_T_wire_Reader (x7) A8 c9)])) h10) fun a v w hR hE => ?_
   obtain ⟨D5, A10, c10, rfl, hS1, h4⟩ := hR
   have le6 := hS1.dle
   have hS := hS.callR hS1 rfl (.c .n)
   exact ae ⟨r3, A10, c10, D5, hE.wk, hS, le6, h4, hf⟩
  replace hf := cf hb hf
  refine wpIn_skip ?_
  exact ⟨x7, A8, c9, D0, hE.wk, hS, lr, h10, hf⟩
 clear hE hS
 rintro a w ⟨y2, A4, c4, D2, hE, hS, le7, h5, hf⟩
 replace hf := hj1 _ hf
 clear hj1
 refine sq (ra ?_)
 refine sN 1 1 [(9, .slice none 0 0)] hE fun a hE => ?_
 refine ae ?_
 refine sq (sq (ra ?_))
 refine sN 2 2 [(16, .int .i64 (x5)), (17, .int .i64 ((0 : Int)))] hE fun a hE => ?_
 refine ae ?_
 obtain ⟨s1, hf, hs1⟩ := bs hf
 have hS := hS.nils
 have hS := hS.p (.d 1 (.d 2 (.d 0 .n)))
 refine block_loop (fun a w => ∃ (z1 : (List T_api_Sig) × T_wire_Reader), ∃ A2, ∃ c2, ∃ q2, ∃ A5, ∃ c5, ∃ D3, Env a 31 [] [(9, .slice A2 (List.length (z1.1)) c2)] ∧ Stp g w0 D0 [bx b1 100 (c_T_wire_Reader (x7) A8 c9), bx b2 68 ([.pointer (some ⟨b1, 0, none⟩)])] w D3 [bx b1 100 (c_T_wire_Reader (z1.2) A5 c5), bx b2 68 ([.pointer (some ⟨b1, 0, none⟩)]), q2] ∧ Snap.le D2 D3 ∧ OwnD kd_T_api_Sig 37 D3 A2 c2 (z1.1) q2 ∧ Sl (kdInt .u8) D3 A5 c5 (z1.2.fB) ∧ z1 = s1) (fun k a w => ∃ (y1 : (List T_api_Sig) × Int × T_wire_Reader), ∃ A3, ∃ c3, ∃ q1, ∃ A1, ∃ c1, ∃ D4, Env a 31 [] [(0, .pointer (some ⟨b1, 0, none⟩)), (3, .func (.func 45) #[] #[.pointer (some ⟨b2, 0, none⟩)]), (9, .slice A3 (List.length (y1.1)) c3), (16, .int .i64 (x5)), (17, .int .i64 (y1.2.1))] ∧ Stp g w0 D0 [bx b1 100 (c_T_wire_Reader (x7) A8 c9), bx b2 68 ([.pointer (some ⟨b1, 0, none⟩)])] w D4 [bx b1 100 (c_T_wire_Reader (y1.2.2) A1 c1), bx b2 68 ([.pointer (some ⟨b1, 0, none⟩)]), q1] ∧ Snap.le D2 D4 ∧ OwnD kd_T_api_Sig 37 D4 A3 c3 (y1.1) q1 ∧ Sl (kdInt .u8) D4 A1 c1 (y1.2.2.fB) ∧ bundle_read_api_Sig_l1.l K x5 k y1 = some s1) K ?_ ?_ ?_
 ·exact ⟨(([] : List T_api_Sig), (0 : Int), y2), none, 0, none, A4, c4, D2, hE.wk, hS, lr, (OwnD.nil kd_T_api_Sig 37 D2), h5, hf⟩
 ·clear hE hS hf
  rintro a w ⟨z1, A2, c2, q2, A5, c5, D3, hE, hS, le8, h6, h7, rfl⟩
  have hf := hs1
  clear hs1
  refine sq (ra ?_)
  refine sN 2 2 [(8, .slice A2 (List.length (z1.1)) c2)] hE fun a hE => ?_
  refine ae ?_
  refine wpIn_ret ?_
  obtain rfl := si hf
  refine ret_ ?_
  refine rT 8 (.slice A2 (List.length (z1.1)) c2) hE ?_
  exact ⟨_, rfl, D3, A2, c2, q2, A5, c5, rfl, hS, h6, h7⟩
 clear hE hS hf
 rintro k a w ⟨y1, A3, c3, q1, A1, c1, D4, hE, hS, le3, h2, h1, hf⟩
 obtain ⟨k, rfl, hf⟩ := bundle_read_api_Sig_l1.some _ hf
 refine ⟨k, rfl, ?_⟩
 unfold bundle_read_api_Sig_l1.b at hf
 refine sq (ra ?_)
 refine sN 1 1 [(18, .bool ((decide (y1.2.1 < x5))))] hE fun a hE => ?_
 refine ae ?_
 refine sq ?_
 refine cond_split hE (b := (decide (y1.2.1 < x5))) rfl (fun hb => ?_) (fun hb => ?_)
 ·replace hf := ct hb hf
  refine wpIn_skip ?_
  refine sq ?_
  refine wpIn_block ?_
  refine sq (ra ?_)
  refine sN 2 2 [(10, .int .i64 (y1.2.1))] hE fun a hE => ?_
  refine ae ?_
  refine sq (sq (ra ?_))
  refine sN 1 1 [(20, .pointer (some ⟨b1, 0, none⟩))] hE fun a hE => ?_
  obtain ⟨r2, h8, hf⟩ := bs hf
  refine aC rfl rfl rfl rfl hE rfl rfl rfl rfl (wire_Reader_Bad.calls h8 (hS.st.fore (L := [bx b1 100 (c_T_wire_Reader (y1.2.2) A1 c1)])) h1) fun a v w hR hE => ?_
  obtain ⟨D6, rfl, hS1⟩ := hR
  have le1 := hS1.dle
  have hS := hS.callR hS1 rfl (.c .n)
  refine sN 1 3 [(22, .bool ((!decide (r2 = (0 : Int)))))] hE fun a hE => ?_
  refine ae ?_
  refine cond_split hE (b := (!decide (r2 = (0 : Int)))) rfl (fun hb => ?_) (fun hb => ?_)
  ·replace hf := ct hb hf
   refine wpIn_exit ?_
   obtain rfl := si hf
   exact ⟨(y1.1, y1.2.2), A3, c3, q1, A1, c1, D6, hE.wk, hS, (le2 le3 le1), (h2.mono le1), (h1.mono le1), rfl⟩
  replace hf := cf hb hf
  refine wpIn_skip ?_
  refine ra ?_
  refine sN 3 3 [(23, .slice A3 (List.length (y1.1)) c3), (24, .func (.func 45) #[] #[.pointer (some ⟨b2, 0, none⟩)]), (25, .int .i64 (y1.2.1))] hE fun a hE => ?_
  have hS := hS.p (.d 1 (.d 0 (.d 2 .n)))
  obtain ⟨r1, h9, hf⟩ := bs hf
  refine aC rfl rfl rfl rfl hE rfl rfl rfl rfl (bundle_Get_1.calls h9 (hS.st.fore (L := [bx b2 68 ([.pointer (some ⟨b1, 0, none⟩)]), bx b1 100 (c_T_wire_Reader (y1.2.2) A1 c1)])) (h1.mono le1)) fun a v w hR hE => ?_
  obtain ⟨D7, A11, c11, rfl, hS1, h11⟩ := hR
  have le5 := hS1.dle
  have hS := hS.callR hS1 rfl (.c (.c .n))
  refine at_op (op_buildSlice (K := kd_T_api_Sig) (e := 37) (cs := (c_T_api_Sig (r1.1)) ++ []) ([r1.1] : List T_api_Sig) rfl rfl rfl rfl hE rfl hS rfl (by kernel_rfl) rfl rfl (by exact ⟨_, _, rfl, (kd_T_api_Sig_mk (D := D7) (x := r1.1) rfl rfl), rfl⟩) (fun a A12 q5 w _ hE h12 hS => ?_)) rfl
  obtain ⟨D8, q6, le4, hS, h16, h13⟩ := hS.lent h12
  have hS := hS.p (.d 3 (.d 0 (.d 1 (.d 2 .n))))
  obtain ⟨l1, h14, hf⟩ := bs hf
  refine at_op (g_append (K := kd_T_api_Sig) (e := 37) (bytes := 40) (l := y1.1) (m := ([r1.1] : List T_api_Sig)) rfl rfl rfl rfl hE rfl hS rfl rfl (by kernel_rfl) rfl rfl (h2.mono (le2 (le2 le1 le5) le4)) h13 h14 (fun a A9 c8 q4 w _ hE h15 hS => ?_)) rfl
  refine sN 1 7 [(9, .slice A9 (List.length (l1)) c8)] hE fun a hE => ?_
  refine ae ?_
  refine ra ?_
  refine sN 2 2 [(17, .int .i64 ((IntKind.wrap .i64 (y1.2.1 + (1 : Int)))))] hE fun a hE => ?_
  refine ae ?_
  have hS := hS.p (.d 3 (.d 2 (.d 0 .n)))
  exact ⟨(l1, (IntKind.wrap .i64 (y1.2.1 + (1 : Int))), r1.2), A9, c8, q4, A11, c11, D8, hE.wk, hS, (le2 (le2 (le2 le3 le1) le5) le4), h15, (h11.mono le4), hf⟩
 replace hf := cf hb hf
 refine wpIn_exit ?_
 obtain rfl := si hf
 exact ⟨(y1.1, y1.2.2), A3, c3, q1, A1, c1, D4, hE.wk, hS, le3, h2, h1, rfl⟩
set_option maxRecDepth 100000 in
theorem rec_steps.calls {K : Nat} {g w0 : World} {D0 : Snap} {x3 : T_wire_Reader} {b1 : Nat} {A4 : Option Addr} {c5 : Nat} {r : ((List T_api_Step) × T_wire_Reader)} (hf : rec_steps.f K x3 = some r) (hS0 : St g w0 D0 [bx b1 100 (c_T_wire_Reader (x3) A4 c5)]) (h6 : Sl (kdInt .u8) D0 A4 c5 (x3.fB)) :
  CallsIn (Fw none) 0 Tryz.prog 80 (List.toArray [.pointer (some ⟨b1, 0, none⟩)]) w0 (fun e w' => ∃ v, e = .returned v ∧ ∃ (D1 : Snap) (A7 : Option Addr) (c7 : Nat) (q3 : Blk) (A8 : Option Addr) (c8 : Nat), v = .slice A7 (List.length (r.1)) c7 ∧ Stp g w0 D0 [bx b1 100 (c_T_wire_Reader (x3) A4 c5)] w' D1 [bx b1 100 (c_T_wire_Reader ((T_wire_Reader.mk (r.2.fB) (r.2.fBad))) A8 c8), q3] ∧ OwnD kd_T_api_Step 85 D1 A7 c7 (r.1) q3 ∧ Sl (kdInt .u8) D1 A8 c8 (r.2.fB)) := by
 unfold rec_steps.f at hf
 have hS := Stp.refl hS0
 clear hS0
 refine calls_body (n := 27) Tryz.func80 rfl Tryz.ntmps80 rfl fun a hE => ?_
 have hE : Env a 27 [] [(0, .pointer (some ⟨b1, 0, none⟩))] := hE
 refine sq (ra ?_)
 refine sN 1 1 [(2, .slice none 0 0)] hE fun a hE => ?_
 refine ae ?_
 refine sq (ra ?_)
 refine sN 1 1 [(5, .pointer (some ⟨b1, 0, none⟩))] hE fun a hE => ?_
 obtain ⟨r1, h4, hf⟩ := bs hf
 refine aC rfl rfl rfl rfl hE rfl rfl rfl rfl (wire_Reader_Num.calls h4 (hS.st.fore (L := [bx b1 100 (c_T_wire_Reader (x3) A4 c5)])) h6) fun a v w hR hE => ?_
 obtain ⟨D5, A9, c9, rfl, hS1, h3⟩ := hR
 have le8 := hS1.dle
 have hS := hS.callR hS1 rfl (.c .n)
 refine sN 1 3 [(3, .int .i64 (r1.1))] hE fun a hE => ?_
 refine ae ?_
 obtain ⟨j1, hj1, hf⟩ := jn_elim hf
 refine seq_join (fun a w => ∃ (y2 : T_wire_Reader), ∃ A5, ∃ c4, ∃ D2, Env a 27 [] [(0, .pointer (some ⟨b1, 0, none⟩)), (3, .int .i64 (r1.1))] ∧ Stp g w0 D0 [bx b1 100 (c_T_wire_Reader (x3) A4 c5)] w D2 [bx b1 100 (c_T_wire_Reader (y2) A5 c4)] ∧ Snap.le D5 D2 ∧ Sl (kdInt .u8) D2 A5 c4 (y2.fB) ∧ j1 y2 = some r) ?_ ?_
 ·clear hj1
  refine sq (ra ?_)
  refine sN 2 2 [(8, .bool ((decide ((6 : Int) < r1.1))))] hE fun a hE => ?_
  refine ae ?_
  refine cond_split hE (b := (decide ((6 : Int) < r1.1))) rfl (fun hb => ?_) (fun hb => ?_)
  ·replace hf := ct hb hf
   refine ra ?_
   refine sN 1 1 [(9, .pointer (some ⟨b1, 0, none⟩))] hE fun a hE => ?_
   obtain ⟨r5, h5, hf⟩ := bs hf
   refine aC rfl rfl rfl rfl hE rfl rfl rfl rfl (wire_Reader_Fail.calls h5 (hS.st.fore (L := [bx b1 100 (c_T_wire_Reader (r1.2) A9 c9)])) h3) fun a v w hR hE => ?_
   obtain ⟨D6, A11, c11, rfl, hS1, h7⟩ := hR
   have le7 := hS1.dle
   have hS := hS.callR hS1 rfl (.c .n)
   exact ae ⟨r5, A11, c11, D6, hE.wk, hS, le7, h7, hf⟩
  replace hf := cf hb hf
  refine wpIn_skip ?_
  exact ⟨r1.2, A9, c9, D5, hE.wk, hS, lr, h3, hf⟩
 clear hE hS
 rintro a w ⟨y2, A5, c4, D2, hE, hS, le9, h8, hf⟩
 replace hf := hj1 _ hf
 clear hj1
 refine sq (ra ?_)
 refine sN 1 1 [(4, .slice none 0 0)] hE fun a hE => ?_
 refine ae ?_
 refine sq (sq (ra ?_))
 refine sN 2 2 [(11, .int .i64 (r1.1)), (12, .int .i64 ((0 : Int)))] hE fun a hE => ?_
 refine ae ?_
 obtain ⟨s1, hf, hs1⟩ := bs hf
 have hS := hS.nils
 have hS := hS.p (.d 1 (.d 0 .n))
 refine block_loop (fun a w => ∃ (z1 : (List T_api_Step) × T_wire_Reader), ∃ A2, ∃ c2, ∃ q2, ∃ A6, ∃ c6, ∃ D3, Env a 27 [] [(4, .slice A2 (List.length (z1.1)) c2)] ∧ Stp g w0 D0 [bx b1 100 (c_T_wire_Reader (x3) A4 c5)] w D3 [bx b1 100 (c_T_wire_Reader (z1.2) A6 c6), q2] ∧ Snap.le D2 D3 ∧ OwnD kd_T_api_Step 85 D3 A2 c2 (z1.1) q2 ∧ Sl (kdInt .u8) D3 A6 c6 (z1.2.fB) ∧ z1 = s1) (fun k a w => ∃ (y1 : (List T_api_Step) × Int × T_wire_Reader), ∃ A3, ∃ c3, ∃ q1, ∃ A1, ∃ c1, ∃ D4, Env a 27 [] [(0, .pointer (some ⟨b1, 0, none⟩)), (4, .slice A3 (List.length (y1.1)) c3), (11, .int .i64 (r1.1)), (12, .int .i64 (y1.2.1))] ∧ Stp g w0 D0 [bx b1 100 (c_T_wire_Reader (x3) A4 c5)] w D4 [bx b1 100 (c_T_wire_Reader (y1.2.2) A1 c1), q1] ∧ Snap.le D2 D4 ∧ OwnD kd_T_api_Step 85 D4 A3 c3 (y1.1) q1 ∧ Sl (kdInt .u8) D4 A1 c1 (y1.2.2.fB) ∧ rec_steps_l1.l K r1 k y1 = some s1) K ?_ ?_ ?_
 ·exact ⟨(([] : List T_api_Step), (0 : Int), y2), none, 0, none, A5, c4, D2, hE.wk, hS, lr, (OwnD.nil kd_T_api_Step 85 D2), h8, hf⟩
 ·clear hE hS hf
  rintro a w ⟨z1, A2, c2, q2, A6, c6, D3, hE, hS, le10, h9, h10, rfl⟩
  have hf := hs1
  clear hs1
  refine sq (ra ?_)
  refine sN 2 2 [(2, .slice A2 (List.length (z1.1)) c2)] hE fun a hE => ?_
  refine ae ?_
  refine wpIn_ret ?_
  obtain rfl := si hf
  refine ret_ ?_
  refine rT 2 (.slice A2 (List.length (z1.1)) c2) hE ?_
  exact ⟨_, rfl, D3, A2, c2, q2, A6, c6, rfl, hS, h9, h10⟩
 clear hE hS hf
 rintro k a w ⟨y1, A3, c3, q1, A1, c1, D4, hE, hS, le3, h2, h1, hf⟩
 obtain ⟨k, rfl, hf⟩ := rec_steps_l1.some _ hf
 refine ⟨k, rfl, ?_⟩
 unfold rec_steps_l1.b at hf
 refine sq (ra ?_)
 refine sN 1 1 [(13, .bool ((decide (y1.2.1 < r1.1))))] hE fun a hE => ?_
 refine ae ?_
 refine sq ?_
 refine cond_split hE (b := (decide (y1.2.1 < r1.1))) rfl (fun hb => ?_) (fun hb => ?_)
 ·replace hf := ct hb hf
  refine wpIn_skip ?_
  refine sq ?_
  refine wpIn_block ?_
  refine sq (sq (ra ?_))
  refine sN 1 1 [(14, .pointer (some ⟨b1, 0, none⟩))] hE fun a hE => ?_
  obtain ⟨r4, h11, hf⟩ := bs hf
  refine aC rfl rfl rfl rfl hE rfl rfl rfl rfl (wire_Reader_Bad.calls h11 (hS.st.fore (L := [bx b1 100 (c_T_wire_Reader (y1.2.2) A1 c1)])) h1) fun a v w hR hE => ?_
  obtain ⟨D7, rfl, hS1⟩ := hR
  have le1 := hS1.dle
  have hS := hS.callR hS1 rfl (.c .n)
  refine sN 1 3 [(16, .bool ((!decide (r4 = (0 : Int)))))] hE fun a hE => ?_
  refine ae ?_
  refine cond_split hE (b := (!decide (r4 = (0 : Int)))) rfl (fun hb => ?_) (fun hb => ?_)
  ·replace hf := ct hb hf
   refine wpIn_exit ?_
   obtain rfl := si hf
   exact ⟨(y1.1, y1.2.2), A3, c3, q1, A1, c1, D7, hE.wk, hS, (le2 le3 le1), (h2.mono le1), (h1.mono le1), rfl⟩
  replace hf := cf hb hf
  refine wpIn_skip ?_
  refine ra ?_
  refine sN 2 2 [(17, .slice A3 (List.length (y1.1)) c3), (18, .pointer (some ⟨b1, 0, none⟩))] hE fun a hE => ?_
  obtain ⟨r2, h12, hf⟩ := bs hf
  refine aC rfl rfl rfl rfl hE rfl rfl rfl rfl (wire_Reader_Num.calls h12 (hS.st.fore (L := [bx b1 100 (c_T_wire_Reader (y1.2.2) A1 c1)])) (h1.mono le1)) fun a v w hR hE => ?_
  obtain ⟨D10, A12, c12, rfl, hS1, h13⟩ := hR
  have le5 := hS1.dle
  have hS := hS.callR hS1 rfl (.c .n)
  refine sN 1 4 [(20, .pointer (some ⟨b1, 0, none⟩))] hE fun a hE => ?_
  obtain ⟨r3, h14, hf⟩ := bs hf
  refine aC rfl rfl rfl rfl hE rfl rfl rfl rfl (wire_Reader_Num.calls h14 (hS.st.fore (L := [bx b1 100 (c_T_wire_Reader (r2.2) A12 c12)])) h13) fun a v w hR hE => ?_
  obtain ⟨D8, A13, c13, rfl, hS1, h15⟩ := hR
  have le6 := hS1.dle
  have hS := hS.callR hS1 rfl (.c .n)
  refine at_op (op_tk hE (tk_build (c_T_api_Step ((T_api_Step.mk (r2.1) (r3.1)))) rfl rfl rfl rfl hE rfl rfl (by kernel_rfl) (fun a hE => ?_))) rfl
  refine at_op (op_buildSlice (K := kd_T_api_Step) (e := 85) (cs := (c_T_api_Step ((T_api_Step.mk (r2.1) (r3.1)))) ++ []) ([(T_api_Step.mk (r2.1) (r3.1))] : List T_api_Step) rfl rfl rfl rfl hE rfl hS rfl (by kernel_rfl) rfl rfl (by exact ⟨_, _, rfl, (kd_T_api_Step_mk (D := D8) (x := (T_api_Step.mk (r2.1) (r3.1))) rfl rfl), rfl⟩) (fun a A14 q5 w _ hE h16 hS => ?_)) rfl
  obtain ⟨D9, q6, le4, hS, h20, h17⟩ := hS.lent h16
  have hS := hS.p (.d 2 (.d 0 (.d 1 .n)))
  obtain ⟨l1, h18, hf⟩ := bs hf
  refine at_op (g_append (K := kd_T_api_Step) (e := 85) (bytes := 16) (l := y1.1) (m := ([(T_api_Step.mk (r2.1) (r3.1))] : List T_api_Step)) rfl rfl rfl rfl hE rfl hS rfl rfl (by kernel_rfl) rfl rfl (h2.mono (le2 (le2 (le2 le1 le5) le6) le4)) h17 h18 (fun a A10 c10 q4 w _ hE h19 hS => ?_)) rfl
  refine sN 1 9 [(4, .slice A10 (List.length (l1)) c10)] hE fun a hE => ?_
  refine ae ?_
  refine ra ?_
  refine sN 2 2 [(12, .int .i64 ((IntKind.wrap .i64 (y1.2.1 + (1 : Int)))))] hE fun a hE => ?_
  refine ae ?_
  have hS := hS.p (.d 2 (.d 0 .n))
  exact ⟨(l1, (IntKind.wrap .i64 (y1.2.1 + (1 : Int))), r3.2), A10, c10, q4, A13, c13, D9, hE.wk, hS, (le2 (le2 (le2 (le2 le3 le1) le5) le6) le4), h19, (h15.mono le4), hf⟩
 replace hf := cf hb hf
 refine wpIn_exit ?_
 obtain rfl := si hf
 exact ⟨(y1.1, y1.2.2), A3, c3, q1, A1, c1, D4, hE.wk, hS, le3, h2, h1, rfl⟩
set_option maxRecDepth 100000 in
theorem wire_Reader_Bytes_1.calls {K : Nat} {g w0 : World} {D0 : Snap} {x3 : (List Int)} {x7 : Int} {b1 : Nat} {A4 : Option Addr} {c5 : Nat} {r : ((List Int) × Int × Int)} (hf : wire_Reader_Bytes_1.f K x3 x7 = some r) (hS0 : St g w0 D0 [bx b1 3 ([.int .i64 (x7)])]) (h6 : Sl (kdInt .u8) D0 A4 c5 (x3)) :
  CallsIn (Fw none) 0 Tryz.prog 90 (List.toArray [.slice A4 (List.length (x3)) c5, .pointer (some ⟨b1, 0, none⟩)]) w0 (fun e w' => ∃ v, e = .returned v ∧ ∃ (D1 : Snap) (A28 : Option Addr) (c29 : Nat) (q30 : Blk), v = .tuple #[.slice A28 (List.length (r.1)) c29, .int .i64 (r.2.1), .int .i64 (r.2.2)] ∧ Stp g w0 D0 [bx b1 3 ([.int .i64 (x7)])] w' D1 [bx b1 3 ([.int .i64 (x7)]), q30] ∧ OwnD (kdInt .u8) 5 D1 A28 c29 (r.1) q30) := by
 unfold wire_Reader_Bytes_1.f at hf
 have hS := Stp.refl hS0
 clear hS0
 refine calls_body (n := 40) Tryz.func90 rfl Tryz.ntmps90 rfl fun a hE => ?_
 have hE : Env a 40 [] [(0, .slice A4 (List.length (x3)) c5), (1, .pointer (some ⟨b1, 0, none⟩))] := hE
 refine sq (ra ?_)
 refine sN 3 3 [(3, .slice none 0 0), (4, .int .i64 ((0 : Int))), (5, .int .i64 ((0 : Int)))] hE fun a hE => ?_
 refine ae ?_
 refine sq (ra ?_)
 refine sN 1 1 [(10, .slice A4 (List.length (x3)) c5)] hE fun a hE => ?_
 obtain ⟨r33, h34, hf⟩ := bs hf
 refine aC rfl rfl rfl rfl hE rfl rfl rfl rfl (wire_number.calls h34 (hS.st.fore (L := [])) h6) fun a v w hR hE => ?_
 obtain ⟨D35, rfl, hS1⟩ := hR
 have le37 := hS1.dle
 have hS := hS.callR hS1 rfl .n
 refine sN 7 9 [(6, .int .i64 (r33.1)), (7, .int .i64 (r33.2.1)), (8, .int .i64 (r33.2.2))] hE fun a hE => ?_
 refine ae ?_
 refine sq ?_
 refine wpIn_block ?_
 refine sq (ra ?_)
 refine sN 3 3 [(15, .bool ((!decide (r33.2.2 = (0 : Int)))))] hE fun a hE => ?_
 refine ae ?_
 refine cond_split hE (b := (!decide (r33.2.2 = (0 : Int)))) rfl (fun hb => ?_) (fun hb => ?_)
 ·replace hf := ct hb hf
  refine sq (ra ?_)
  refine sN 4 4 [(3, .slice none 0 0), (4, .int .i64 ((0 : Int))), (5, .int .i64 (r33.2.2))] hE fun a hE => ?_
  refine ae ?_
  refine wpIn_ret ?_
  have hS := hS.nils
  obtain rfl := si hf
  refine ret_ ?_
  refine ret_gen ([.slice none 0 0, .int .i64 ((0 : Int)), .int .i64 (r33.2.2)]) hE (by rw [show Tryz.f90.results.toList = [.tmp 3, .tmp 4, .tmp 5] from rfl]; exact ⟨_, _, rfl, rfl, ⟨_, _, rfl, rfl, ⟨_, _, rfl, rfl, rfl⟩⟩⟩) ?_
  have hS := hS.p (.d 1 (.d 0 .n))
  exact ⟨_, rfl, D35, none, 0, none, rfl, hS, (OwnD.nil (kdInt .u8) 5 D35)⟩
 replace hf := cf hb hf
 refine sq (ra ?_)
 refine sM 4 4 [0] [(19, .bool ((decide (x7 < r33.1))))] hE hS fun a hE => ?_
 refine ae ?_
 refine cond_split hE (b := (decide (x7 < r33.1))) rfl (fun hb => ?_) (fun hb => ?_)
 ·replace hf := ct hb hf
  refine sq (ra ?_)
  refine sN 3 3 [(3, .slice none 0 0), (4, .int .i64 ((0 : Int))), (5, .int .i64 ((4 : Int)))] hE fun a hE => ?_
  refine ae ?_
  refine wpIn_ret ?_
  have hS := hS.nils
  obtain rfl := si hf
  refine ret_ ?_
  refine ret_gen ([.slice none 0 0, .int .i64 ((0 : Int)), .int .i64 ((4 : Int))]) hE (by rw [show Tryz.f90.results.toList = [.tmp 3, .tmp 4, .tmp 5] from rfl]; exact ⟨_, _, rfl, rfl, ⟨_, _, rfl, rfl, ⟨_, _, rfl, rfl, rfl⟩⟩⟩) ?_
  have hS := hS.p (.d 1 (.d 0 .n))
  exact ⟨_, rfl, D35, none, 0, none, rfl, hS, (OwnD.nil (kdInt .u8) 5 D35)⟩
 replace hf := cf hb hf
 refine sq (ra ?_)
 refine sN 7 7 [(23, .bool ((decide ((IntKind.wrap .i64 (((List.length (x3) : Nat) : Int) - r33.2.1)) < r33.1))))] hE fun a hE => ?_
 refine ae ?_
 refine cond_split hE (b := (decide ((IntKind.wrap .i64 (((List.length (x3) : Nat) : Int) - r33.2.1)) < r33.1))) rfl (fun hb => ?_) (fun hb => ?_)
 ·replace hf := ct hb hf
  refine sq (ra ?_)
  refine sN 3 3 [(3, .slice none 0 0), (4, .int .i64 ((0 : Int))), (5, .int .i64 ((3 : Int)))] hE fun a hE => ?_
  refine ae ?_
  refine wpIn_ret ?_
  have hS := hS.nils
  obtain rfl := si hf
  refine ret_ ?_
  refine ret_gen ([.slice none 0 0, .int .i64 ((0 : Int)), .int .i64 ((3 : Int))]) hE (by rw [show Tryz.f90.results.toList = [.tmp 3, .tmp 4, .tmp 5] from rfl]; exact ⟨_, _, rfl, rfl, ⟨_, _, rfl, rfl, ⟨_, _, rfl, rfl, rfl⟩⟩⟩) ?_
  have hS := hS.p (.d 1 (.d 0 .n))
  exact ⟨_, rfl, D35, none, 0, none, rfl, hS, (OwnD.nil (kdInt .u8) 5 D35)⟩
 replace hf := cf hb hf
 refine wpIn_skip ?_
 refine sq (ra ?_)
 refine sN 5 5 [(30, .slice A4 (List.length (x3)) c5), (31, .int .i64 (r33.2.1)), (34, .int .i64 ((IntKind.wrap .i64 (r33.2.1 + r33.1))))] hE fun a hE => ?_
 obtain ⟨l41, h42, hf⟩ := bs hf
 refine at_op (op_tk hE (g_slice (K := (kdInt .u8)) (e := 5) (by_ := 1) (zl := 1) rfl rfl rfl rfl hE rfl rfl (by kernel_rfl) ⟨_, rfl⟩ ⟨_, rfl⟩ (h6.mono le37) h42 (fun a A43 c44 hE h45 => ?_))) rfl
 obtain ⟨r46, h47, hf⟩ := bs hf
 refine aC rfl rfl rfl rfl hE rfl rfl rfl rfl (slices_Clone_byte_byte.calls h47 (hS.st.fore (L := [])) h45) fun a v w hR hE => ?_
 obtain ⟨D48, A50, c51, q52, rfl, hS1, h53⟩ := hR
 have le55 := hS1.dle
 have hS := hS.callR hS1 rfl (.c .n)
 refine sN 6 13 [(3, .slice A50 (List.length (r46)) c51), (4, .int .i64 ((IntKind.wrap .i64 (r33.2.1 + r33.1)))), (5, .int .i64 ((0 : Int)))] hE fun a hE => ?_
 refine ae ?_
 refine wpIn_ret ?_
 obtain rfl := si hf
 refine ret_ ?_
 refine ret_gen ([.slice A50 (List.length (r46)) c51, .int .i64 ((IntKind.wrap .i64 (r33.2.1 + r33.1))), .int .i64 ((0 : Int))]) hE (by rw [show Tryz.f90.results.toList = [.tmp 3, .tmp 4, .tmp 5] from rfl]; exact ⟨_, _, rfl, rfl, ⟨_, _, rfl, rfl, ⟨_, _, rfl, rfl, rfl⟩⟩⟩) ?_
 have hS := hS.p (.d 1 (.d 0 .n))
 exact ⟨_, rfl, D48, A50, c51, q52, rfl, hS, h53⟩
set_option maxRecDepth 100000 in
theorem wire_take_byte.calls {K : Nat} {g w0 : World} {D0 : Snap} {x5 : T_wire_Reader} {x9 : Int} {b1 : Nat} {b2 : Nat} {A6 : Option Addr} {c7 : Nat} {r : ((List Int) × T_wire_Reader)} (hf : wire_take_byte.f K x5 x9 = some r) (hS0 : St g w0 D0 [bx b1 100 (c_T_wire_Reader (x5) A6 c7), bx b2 3 ([.int .i64 (x9)])]) (h8 : Sl (kdInt .u8) D0 A6 c7 (x5.fB)) :
  CallsIn (Fw none) 0 Tryz.prog 89 (List.toArray [.pointer (some ⟨b1, 0, none⟩), .func (.func 90) #[] #[.pointer (some ⟨b2, 0, none⟩)]]) w0 (fun e w' => ∃ v, e = .returned v ∧ ∃ (D1 : Snap) (A54 : Option Addr) (c55 : Nat) (q56 : Blk) (A59 : Option Addr) (c60 : Nat), v = .slice A54 (List.length (r.1)) c55 ∧ Stp g w0 D0 [bx b1 100 (c_T_wire_Reader (x5) A6 c7), bx b2 3 ([.int .i64 (x9)])] w' D1 [bx b1 100 (c_T_wire_Reader ((T_wire_Reader.mk (r.2.fB) (r.2.fBad))) A59 c60), bx b2 3 ([.int .i64 (x9)]), q56] ∧ OwnD (kdInt .u8) 5 D1 A54 c55 (r.1) q56 ∧ Sl (kdInt .u8) D1 A59 c60 (r.2.fB)) := by
 unfold wire_take_byte.f at hf
 have hS := Stp.refl hS0
 clear hS0
 refine calls_body (n := 39) Tryz.func89 rfl Tryz.ntmps89 rfl fun a hE => ?_
 have hE : Env a 39 [] [(0, .pointer (some ⟨b1, 0, none⟩)), (1, .func (.func 90) #[] #[.pointer (some ⟨b2, 0, none⟩)])] := hE
 refine sq (ra ?_)
 refine sN 1 1 [(4, .slice none 0 0)] hE fun a hE => ?_
 refine ae ?_
 refine sq (ra ?_)
 refine sN 1 1 [(5, .slice none 0 0)] hE fun a hE => ?_
 refine ae ?_
 refine sq (sq (ra ?_))
 refine sN 1 1 [(9, .pointer (some ⟨b1, 0, none⟩))] hE fun a hE => ?_
 obtain ⟨r67, h68, hf⟩ := bs hf
 refine aC rfl rfl rfl rfl hE rfl rfl rfl rfl (wire_Reader_Bad.calls h68 (hS.st.fore (L := [bx b1 100 (c_T_wire_Reader (x5) A6 c7)])) h8) fun a v w hR hE => ?_
 obtain ⟨D69, rfl, hS1⟩ := hR
 have le71 := hS1.dle
 have hS := hS.callR hS1 rfl (.c .n)
 refine sN 1 3 [(11, .bool ((!decide (r67 = (0 : Int)))))] hE fun a hE => ?_
 refine ae ?_
 refine cond_split hE (b := (!decide (r67 = (0 : Int)))) rfl (fun hb => ?_) (fun hb => ?_)
 ·replace hf := ct hb hf
  refine sq (ra ?_)
  refine sN 2 2 [(4, .slice none 0 0)] hE fun a hE => ?_
  refine ae ?_
  refine wpIn_ret ?_
  have hS := hS.nils
  obtain rfl := si hf
  refine ret_ ?_
  refine rT 4 (.slice none 0 0) hE ?_
  have hS := hS.p (.d 1 (.d 2 (.d 0 .n)))
  exact ⟨_, rfl, D69, none, 0, none, A6, c7, rfl, hS, (OwnD.nil (kdInt .u8) 5 D69), (h8.mono le71)⟩
 replace hf := cf hb hf
 refine wpIn_skip ?_
 refine sq (ra ?_)
 refine sM 5 5 [0] [(14, .func (.func 90) #[] #[.pointer (some ⟨b2, 0, none⟩)]), (18, .slice A6 (List.length (x5.fB)) c7)] hE hS fun a hE => ?_
 have hS := hS.p (.d 1 (.d 0 .n))
 obtain ⟨r73, h74, hf⟩ := bs hf
 refine aC rfl rfl rfl rfl hE rfl rfl rfl rfl (wire_Reader_Bytes_1.calls h74 (hS.st.fore (L := [bx b2 3 ([.int .i64 (x9)])])) (h8.mono le71)) fun a v w hR hE => ?_
 obtain ⟨D75, A77, c78, q79, rfl, hS1, h80⟩ := hR
 have le82 := hS1.dle
 have hS := hS.callR hS1 rfl (.c (.c .n))
 refine sN 7 13 [(6, .slice A77 (List.length (r73.1)) c78), (7, .int .i64 (r73.2.1)), (8, .int .i64 (r73.2.2))] hE fun a hE => ?_
 refine ae ?_
 refine sq (sq (ra ?_))
 refine sN 2 2 [(24, .bool ((!decide (r73.2.2 = (0 : Int)))))] hE fun a hE => ?_
 refine ae ?_
 refine cond_split hE (b := (!decide (r73.2.2 = (0 : Int)))) rfl (fun hb => ?_) (fun hb => ?_)
 ·replace hf := ct hb hf
  refine sq (ra ?_)
  refine sN 2 2 [(25, .pointer (some ⟨b1, 0, none⟩)), (26, .int .i64 (r73.2.2))] hE fun a hE => ?_
  have hS := hS.p (.d 2 (.d 0 (.d 1 .n)))
  obtain ⟨r91, h92, hf⟩ := bs hf
  refine aC rfl rfl rfl rfl hE rfl rfl rfl rfl (wire_Reader_Fail.calls h92 (hS.st.fore (L := [bx b1 100 (c_T_wire_Reader (x5) A6 c7)])) (h8.mono (le2 le71 le82))) fun a v w hR hE => ?_
  obtain ⟨D93, A95, c96, rfl, hS1, h97⟩ := hR
  have le98 := hS1.dle
  have hS := hS.callR hS1 rfl (.c .n)
  refine ae ?_
  refine sq (ra ?_)
  refine sN 2 2 [(4, .slice none 0 0)] hE fun a hE => ?_
  refine ae ?_
  refine wpIn_ret ?_
  have hS := hS.nils
  obtain rfl := si hf
  refine ret_ ?_
  refine rT 4 (.slice none 0 0) hE ?_
  have hS := hS.p (.d 1 (.d 2 (.d 0 .n)))
  exact ⟨_, rfl, D93, none, 0, none, A95, c96, rfl, hS, (OwnD.nil (kdInt .u8) 5 D93), h97⟩
 replace hf := cf hb hf
 refine wpIn_skip ?_
 refine sq (ra ?_)
 refine sM 6 6 [2] [(29, .pointer (some ⟨b1, 0, none⟩)), (33, .slice A6 (List.length (x5.fB)) c7), (34, .int .i64 (r73.2.1))] hE hS fun a hE => ?_
 obtain ⟨l1, h1, hf⟩ := bs hf
 refine at_op (op_tk hE (g_slice (K := (kdInt .u8)) (e := 5) (by_ := 1) (zl := 1) rfl rfl rfl rfl hE rfl rfl (by kernel_rfl) ⟨_, rfl⟩ rfl (h8.mono (le2 le71 le82)) h1 (fun a A1 c1 hE h2 => ?_))) rfl
 refine sM 2 9 [] [(37, .pointer (some ⟨b1, 0, none⟩))] hE hS fun a hE => ?_
 have hS := hS.p (.d 2 (.d 0 (.d 1 .n)))
 obtain ⟨v1, hv1, hf⟩ := bs hf
 replace hv1 := Option.some.inj hv1
 refine at_op (op_store (v := .slice A1 (List.length (l1)) c1) (c_T_wire_Reader (v1) A1 c1) rfl rfl rfl rfl hE hS rfl rfl (by kernel_rfl) (by kernel_rfl) (by kernel_rfl) (by kernel_rfl) (by rw [← hv1]; kernel_rfl) (fun a w _ hE hS => ?_)) rfl
 have h3 : Sl (kdInt .u8) D75 A1 c1 (v1.fB) := by rw [← hv1]; exact h2
 refine ae ?_
 refine sq (ra ?_)
 refine sN 2 2 [(4, .slice A77 (List.length (r73.1)) c78)] hE fun a hE => ?_
 refine ae ?_
 refine wpIn_ret ?_
 obtain rfl := si hf
 refine ret_ ?_
 refine rT 4 (.slice A77 (List.length (r73.1)) c78) hE ?_
 exact ⟨_, rfl, D75, A77, c78, q79, A1, c1, rfl, hS, h80, h3⟩
set_option maxRecDepth 100000 in
theorem wire_Reader_Bytes.calls {K : Nat} {g w0 : World} {D0 : Snap} {x3 : Int} {x4 : T_wire_Reader} {b1 : Nat} {A5 : Option Addr} {c6 : Nat} {r : ((List Int) × T_wire_Reader)} (hf : wire_Reader_Bytes.f K x3 x4 = some r) (hS0 : St g w0 D0 [bx b1 100 (c_T_wire_Reader (x4) A5 c6)]) (h7 : Sl (kdInt .u8) D0 A5 c6 (x4.fB)) :
  CallsIn (Fw none) 0 Tryz.prog 81 (List.toArray [.pointer (some ⟨b1, 0, none⟩), .int .i64 (x3)]) w0 (fun e w' => ∃ v, e = .returned v ∧ ∃ (D1 : Snap) (A23 : Option Addr) (c24 : Nat) (q25 : Blk) (A28 : Option Addr) (c29 : Nat), v = .slice A23 (List.length (r.1)) c24 ∧ Stp g w0 D0 [bx b1 100 (c_T_wire_Reader (x4) A5 c6)] w' D1 [bx b1 100 (c_T_wire_Reader ((T_wire_Reader.mk (r.2.fB) (r.2.fBad))) A28 c29), q25] ∧ OwnD (kdInt .u8) 5 D1 A23 c24 (r.1) q25 ∧ Sl (kdInt .u8) D1 A28 c29 (r.2.fB)) := by
 unfold wire_Reader_Bytes.f at hf
 have hS := Stp.refl hS0
 clear hS0
 refine calls_body (n := 8) Tryz.func81 rfl Tryz.ntmps81 rfl fun a hE => ?_
 have hE : Env a 8 [] [(0, .pointer (some ⟨b1, 0, none⟩)), (1, .int .i64 (x3))] := hE
 refine sq (ra ?_)
 refine at_op (op_box rfl rfl rfl rfl hE rfl hS rfl (fun a b31 w _ hE hS => ?_)) rfl
 refine sN 1 2 [(4, .slice none 0 0)] hE fun a hE => ?_
 refine ae ?_
 refine sq (ra ?_)
 refine sN 2 2 [(5, .pointer (some ⟨b1, 0, none⟩)), (6, .func (.func 90) #[] #[.pointer (some ⟨b31, 0, none⟩)])] hE fun a hE => ?_
 have hS := hS.p (.d 1 (.d 0 .n))
 obtain ⟨r33, h34, hf⟩ := bs hf
 refine aC rfl rfl rfl rfl hE rfl rfl rfl rfl (wire_take_byte.calls h34 (hS.st.fore (L := [bx b1 100 (c_T_wire_Reader (x4) A5 c6), bx b31 3 ([.int .i64 (x3)])])) h7) fun a v w hR hE => ?_
 obtain ⟨D35, A37, c38, q39, A42, c43, rfl, hS1, h40, h44⟩ := hR
 have le45 := hS1.dle
 have hS := hS.callR hS1 rfl (.c (.c (.c .n)))
 refine sN 1 4 [(4, .slice A37 (List.length (r33.1)) c38)] hE fun a hE => ?_
 refine ae ?_
 refine wpIn_ret ?_
 obtain rfl := si hf
 refine ret_ ?_
 refine rT 4 (.slice A37 (List.length (r33.1)) c38) hE ?_
 have hS := hS.p (.d 0 (.d 2 .n))
 exact ⟨_, rfl, D35, A37, c38, q39, A42, c43, rfl, hS, h40, h44⟩
end Go.Proofs.YtjgaokcplofimaaGreatDoor
