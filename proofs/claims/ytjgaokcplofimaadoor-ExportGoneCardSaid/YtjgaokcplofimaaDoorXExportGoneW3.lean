/-
  Proved, text by text: a call of a function of the cut comes to what its plain function computes.
  Conditions: those that each theorem names.
-/
import Derived.Test.YtjgaokcplofimaaDoorProg
import Derived.Test.YtjgaokcplofimaaDoorSepN
import Derived.Test.YtjgaokcplofimaaDoorXExportGoneW2
set_option linter.unusedVariables false
set_option maxHeartbeats 4000000
namespace Go.Proofs.YtjgaokcplofimaaDoor
open Go Go.Sep
set_option maxRecDepth 100000 in
theorem rec_put_v2.calls {K : Nat} {g w0 : World} {D0 : Snap} {x3 : T_api_Rec} {x10 : T_api_Rec} {b1 : Nat} {A4 : Option Addr} {c5 : Nat} {A7 : Option Addr} {c8 : Nat} {A11 : Option Addr} {c12 : Nat} {A14 : Option Addr} {c15 : Nat} {r : ((List Int))} (hf : rec_put_v2.f K x3 x10 = some r) (hS0 : St g w0 D0 [bx b1 39 (c_T_api_Rec (x10) A11 c12 A14 c15)]) (h6 : Sl kd_T_api_Step D0 A4 c5 (x3.fSteps)) (h9 : Sl (kdInt .u8) D0 A7 c8 (x3.fData)) (h13 : Sl kd_T_api_Step D0 A11 c12 (x10.fSteps)) (h16 : Sl (kdInt .u8) D0 A14 c15 (x10.fData)) :
  CallsIn (Fw none) 0 Tryd.prog 55 (List.toArray [.agg (List.toArray (c_T_api_Rec (x3) A4 c5 A7 c8)), .func (.func 75) #[] #[.pointer (some ⟨b1, 0, none⟩)]]) w0 (fun e w' => ∃ v, e = .returned v ∧ ∃ (D1 : Snap) (A5 : Option Addr) (c4 : Nat) (q2 : Blk), v = .slice A5 (List.length (r)) c4 ∧ Stp g w0 D0 [bx b1 39 (c_T_api_Rec (x10) A11 c12 A14 c15)] w' D1 [bx b1 39 (c_T_api_Rec (x10) A11 c12 A14 c15), q2] ∧ OwnD (kdInt .u8) 5 D1 A5 c4 (r) q2) := by
 unfold rec_put_v2.f at hf
 have hS := Stp.refl hS0
 clear hS0
 refine calls_body (n := 29) Tryd.func55 rfl Tryd.ntmps55 rfl fun a hE => ?_
 have hE : Env a 29 [] [(0, .agg (List.toArray (c_T_api_Rec (x3) A4 c5 A7 c8))), (1, .func (.func 75) #[] #[.pointer (some ⟨b1, 0, none⟩)])] := hE
 refine sq (ra ?_)
 refine at_op (op_box rfl rfl rfl rfl hE rfl hS rfl (fun a b2 w _ hE hS => ?_)) rfl
 refine sN 1 2 [(4, .slice none 0 0)] hE fun a hE => ?_
 refine ae ?_
 refine sq (sq (ra ?_))
 refine sM 1 1 [0] [(6, .agg (List.toArray (c_T_api_Rec (x3) A4 c5 A7 c8)))] hE hS fun a hE => ?_
 obtain ⟨r2, h3, hf⟩ := bs hf
 refine aC rfl rfl rfl rfl hE rfl rfl rfl rfl (rec_Right.calls h3 (hS.st.fore (L := [])) h6 h9) fun a v w hR hE => ?_
 obtain ⟨D3, rfl, hS1⟩ := hR
 have le4 := hS1.dle
 have hS := hS.callR hS1 rfl .n
 refine sN 1 3 [(8, .bool ((!r2)))] hE fun a hE => ?_
 refine ae ?_
 refine cond_split hE (b := (!r2)) rfl (fun hb => ?_) (fun hb => ?_)
 ·replace hf := ct hb hf
  refine sq (ra ?_)
  refine sN 1 1 [(4, .slice none 0 0)] hE fun a hE => ?_
  refine ae ?_
  refine wpIn_ret ?_
  have hS := hS.nils
  obtain rfl := si hf
  refine ret_ ?_
  refine rT 4 (.slice none 0 0) hE ?_
  have hS := hS.p (.d 2 (.d 0 .n))
  exact ⟨_, rfl, D3, none, 0, none, rfl, hS, (OwnD.nil (kdInt .u8) 5 D3)⟩
 replace hf := cf hb hf
 refine wpIn_skip ?_
 obtain ⟨j1, hj1, hf⟩ := jn_elim hf
 refine seq_join (fun a w => ∃ (y1 : (List Int)), ∃ A1, ∃ c1, ∃ q1, ∃ D2, Env a 29 [] [(1, .func (.func 75) #[] #[.pointer (some ⟨b1, 0, none⟩)]), (2, .pointer (some ⟨b2, 0, none⟩)), (5, .slice A1 (List.length (y1)) c1)] ∧ Stp g w0 D0 [bx b1 39 (c_T_api_Rec (x10) A11 c12 A14 c15)] w D2 [bx b1 39 (c_T_api_Rec (x10) A11 c12 A14 c15), bx b2 39 (c_T_api_Rec (x3) A4 c5 A7 c8), q1] ∧ Snap.le D3 D2 ∧ OwnD (kdInt .u8) 5 D2 A1 c1 (y1) q1 ∧ j1 y1 = some r) ?_ ?_
 ·clear hj1
  refine region_draw (fun j => Keeps (mfOf [] j)) (by kernel_rfl) ?_
  have hS := hS.drew
  first | generalize w.drew = w at hS ⊢ | generalize w0.drew = w at hS ⊢
  refine wF 0 1 12 0 3 0 hE fun a hE => ?_
  refine tL 1 3 11 0 (.int .i64 (x3.fKind)) hE hS fun a hE => ?_
  refine wF 4 19 10 0 3 0 hE fun a hE => ?_
  refine tL 5 51 9 0 (.int .i64 (x3.fKind)) hE hS fun a hE => ?_
  refine tL 8 307 8 0 (.agg (List.toArray (c_T_api_Rec (x3) A4 c5 A7 c8))) hE hS fun a hE => ?_
  obtain ⟨r1, h4, hf⟩ := bs hf
  refine oC 2 311 7 rfl rfl rfl rfl hE rfl rfl rfl rfl (wire_Num.calls h4 (hS.st.fore (L := [])) ) fun a v w hR hE => ?_
  obtain ⟨D11, A2, c2, q10, rfl, hS1, h1⟩ := hR
  refine ⟨(hS1.keeps.sub (M' := []) trivial).mono (fun _ h => h), ?_⟩
  have le3 := hS1.dle
  have hS := hS.callR hS1 rfl (.c .n)
  obtain ⟨r16, h5, hf⟩ := bs hf
  refine oC 3 319 6 rfl rfl rfl rfl hE rfl rfl rfl rfl (rec_forms.calls h5 (hS.st.fore (L := [])) ) fun a v w hR hE => ?_
  obtain ⟨D12, rfl, hS1⟩ := hR
  refine ⟨(hS1.keeps.sub (M' := []) trivial).mono (fun _ h => h), ?_⟩
  have le1 := hS1.dle
  have hS := hS.callR hS1 rfl .n
  cases hb : decide (x3.fKind = (0 : Int))
  ·replace hf := cf hb hf
   cases hb : decide (x3.fKind = (1 : Int))
   ·replace hf := cf hb hf
    cases hb : decide (x3.fKind = (2 : Int))
    ·replace hf := cf hb hf
     cases hb : decide (x3.fKind = (3 : Int))
     ·replace hf := cf hb hf
      cases hb : decide (x3.fKind = (4 : Int))
      ·replace hf := cf hb hf
       cases hb : decide (x3.fKind = (5 : Int))
       ·replace hf := cf hb hf
        cases hb : decide (x3.fKind = (6 : Int))
        ·replace hf := cf hb hf
         cases hf
        replace hf := ct hb hf
        have hk2163 := of_decide_eq_true hb
        refine tW 6 383 (fuel := 5) (by kernel_rfl) hE (fun M => tk_indexV (N := 7) (e := 123) (sz := 1) (cs := ([.nilFunc]) ++ (([.func (.func 102) #[] #[]]) ++ (([.func (.func 103) #[] #[]]) ++ (([.func (.func 104) #[] #[]]) ++ (([.func (.func 103) #[] #[]]) ++ (([.func (.func 106) #[] #[]]) ++ (([.func (.func 107) #[] #[]])))))))) 6 (.agg (List.toArray ([.func (.func 107) #[] #[]]))) rfl rfl rfl rfl hE rfl rfl rfl hk2163 (by kernel_rfl) (by kernel_rfl) (by kernel_rfl) (fun a hE => ?_))
        refine tW 7 511 (fuel := 4) (by kernel_rfl) hE (fun M => g_field (cs := [.func (.func 107) #[] #[]]) (fo := 0) (ft := 63) (.func (.func 107) #[] #[]) rfl rfl rfl rfl hE rfl rfl (by kernel_rfl) (by kernel_rfl) (fun a hE => ?_))
        obtain ⟨r3, h7, hf⟩ := bs hf
        refine oC 9 1023 3 rfl rfl rfl rfl hE rfl rfl rfl rfl (rec_forms_3.calls h7 (hS.st.fore (L := [])) (h6.mono (le2 (le2 le4 le3) le1)) (h9.mono (le2 (le2 le4 le3) le1))) fun a v w hR hE => ?_
        obtain ⟨D13, A15, c14, q11, rfl, hS1, h8⟩ := hR
        refine ⟨(hS1.keeps.sub (M' := []) trivial).mono (fun _ h => h), ?_⟩
        have le5 := hS1.dle
        have hS := hS.callR hS1 rfl (.c .n)
        have hS := hS.p (.d 1 (.d 0 (.d 2 (.d 3 .n))))
        obtain ⟨D14, q12, le6, hS, h63, h10⟩ := hS.lent (h1.mono (le2 le1 le5))
        have hS := hS.p (.d 1 (.d 0 (.d 2 (.d 3 .n))))
        obtain ⟨D15, q13, le7, hS, h64, h11⟩ := hS.lent (h8.mono le6)
        refine oG 10 2047 (fuel := 2) (by kernel_rfl) (op_buildSlice (K := (kdSlice (kdInt .u8))) (e := 37) (cs := [.slice A2 (List.length (r1)) c2] ++ ([.slice A15 (List.length (r3)) c14] ++ [])) ([r1, r3] : List (List Int)) rfl rfl rfl rfl hE rfl hS rfl (by kernel_rfl) rfl rfl (by exact ⟨_, _, rfl, (kslice (h10.mono le7)), ⟨_, _, rfl, (kslice h11), rfl⟩⟩) (fun a A21 q14 w hkp hE h12 hS => ⟨hkp.mono (fun _ h => absurd h List.not_mem_nil), ?_⟩))
        clear hkp
        obtain ⟨D16, q15, le24, hS, h65, h14⟩ := hS.lent h12
        obtain ⟨r4, h15, hf⟩ := bs hf
        refine oC 11 4095 1 rfl rfl rfl rfl hE rfl rfl rfl rfl (wire_All.calls h15 (hS.st.fore (L := [])) h14) fun a v w hR hE => ?_
        obtain ⟨D4, A6, c6, q3, rfl, hS1, h17⟩ := hR
        refine ⟨(hS1.keeps.sub (M' := []) trivial).mono (fun _ h => h), ?_⟩
        have le25 := hS1.dle
        have hS := hS.callR hS1 rfl (.c .n)
        refine wP 12 8191 0 (.slice A6 (List.length (r4)) c6) hE fun a hE => ?_
        refine doneG (by kernel_rfl) ?_
        have hS := hS.p (.d 5 (.d 4 (.d 0 .n)))
        exact ⟨r4, A6, c6, q3, D4, hE.wk, hS, (le2 (le2 (le2 (le2 (le2 (le2 le3 le1) le5) le6) le7) le24) le25), h17, hf⟩
       replace hf := ct hb hf
       have hk2123 := of_decide_eq_true hb
       refine tW 6 383 (fuel := 5) (by kernel_rfl) hE (fun M => tk_indexV (N := 7) (e := 123) (sz := 1) (cs := ([.nilFunc]) ++ (([.func (.func 102) #[] #[]]) ++ (([.func (.func 103) #[] #[]]) ++ (([.func (.func 104) #[] #[]]) ++ (([.func (.func 103) #[] #[]]) ++ (([.func (.func 106) #[] #[]]) ++ (([.func (.func 107) #[] #[]])))))))) 5 (.agg (List.toArray ([.func (.func 106) #[] #[]]))) rfl rfl rfl rfl hE rfl rfl rfl hk2123 (by kernel_rfl) (by kernel_rfl) (by kernel_rfl) (fun a hE => ?_))
       refine tW 7 511 (fuel := 4) (by kernel_rfl) hE (fun M => g_field (cs := [.func (.func 106) #[] #[]]) (fo := 0) (ft := 63) (.func (.func 106) #[] #[]) rfl rfl rfl rfl hE rfl rfl (by kernel_rfl) (by kernel_rfl) (fun a hE => ?_))
       obtain ⟨r5, h18, hf⟩ := bs hf
       refine oC 9 1023 3 rfl rfl rfl rfl hE rfl rfl rfl rfl (rec_forms_2.calls h18 (hS.st.fore (L := [])) (h6.mono (le2 (le2 le4 le3) le1)) (h9.mono (le2 (le2 le4 le3) le1))) fun a v w hR hE => ?_
       obtain ⟨D17, A16, c16, q16, rfl, hS1, h19⟩ := hR
       refine ⟨(hS1.keeps.sub (M' := []) trivial).mono (fun _ h => h), ?_⟩
       have le8 := hS1.dle
       have hS := hS.callR hS1 rfl (.c .n)
       have hS := hS.p (.d 1 (.d 0 (.d 2 (.d 3 .n))))
       obtain ⟨D18, q17, le9, hS, h66, h20⟩ := hS.lent (h1.mono (le2 le1 le8))
       have hS := hS.p (.d 1 (.d 0 (.d 2 (.d 3 .n))))
       obtain ⟨D19, q18, le10, hS, h67, h21⟩ := hS.lent (h19.mono le9)
       refine oG 10 2047 (fuel := 2) (by kernel_rfl) (op_buildSlice (K := (kdSlice (kdInt .u8))) (e := 37) (cs := [.slice A2 (List.length (r1)) c2] ++ ([.slice A16 (List.length (r5)) c16] ++ [])) ([r1, r5] : List (List Int)) rfl rfl rfl rfl hE rfl hS rfl (by kernel_rfl) rfl rfl (by exact ⟨_, _, rfl, (kslice (h20.mono le10)), ⟨_, _, rfl, (kslice h21), rfl⟩⟩) (fun a A22 q19 w hkp hE h22 hS => ⟨hkp.mono (fun _ h => absurd h List.not_mem_nil), ?_⟩))
       clear hkp
       obtain ⟨D20, q20, le26, hS, h68, h23⟩ := hS.lent h22
       obtain ⟨r6, h24, hf⟩ := bs hf
       refine oC 11 4095 1 rfl rfl rfl rfl hE rfl rfl rfl rfl (wire_All.calls h24 (hS.st.fore (L := [])) h23) fun a v w hR hE => ?_
       obtain ⟨D5, A8, c7, q4, rfl, hS1, h25⟩ := hR
       refine ⟨(hS1.keeps.sub (M' := []) trivial).mono (fun _ h => h), ?_⟩
       have le27 := hS1.dle
       have hS := hS.callR hS1 rfl (.c .n)
       refine wP 12 8191 0 (.slice A8 (List.length (r6)) c7) hE fun a hE => ?_
       refine doneG (by kernel_rfl) ?_
       have hS := hS.p (.d 5 (.d 4 (.d 0 .n)))
       exact ⟨r6, A8, c7, q4, D5, hE.wk, hS, (le2 (le2 (le2 (le2 (le2 (le2 le3 le1) le8) le9) le10) le26) le27), h25, hf⟩
      replace hf := ct hb hf
      have hk2083 := of_decide_eq_true hb
      refine tW 6 383 (fuel := 5) (by kernel_rfl) hE (fun M => tk_indexV (N := 7) (e := 123) (sz := 1) (cs := ([.nilFunc]) ++ (([.func (.func 102) #[] #[]]) ++ (([.func (.func 103) #[] #[]]) ++ (([.func (.func 104) #[] #[]]) ++ (([.func (.func 103) #[] #[]]) ++ (([.func (.func 106) #[] #[]]) ++ (([.func (.func 107) #[] #[]])))))))) 4 (.agg (List.toArray ([.func (.func 103) #[] #[]]))) rfl rfl rfl rfl hE rfl rfl rfl hk2083 (by kernel_rfl) (by kernel_rfl) (by kernel_rfl) (fun a hE => ?_))
      refine tW 7 511 (fuel := 4) (by kernel_rfl) hE (fun M => g_field (cs := [.func (.func 103) #[] #[]]) (fo := 0) (ft := 63) (.func (.func 103) #[] #[]) rfl rfl rfl rfl hE rfl rfl (by kernel_rfl) (by kernel_rfl) (fun a hE => ?_))
      obtain ⟨r7, h26, hf⟩ := bs hf
      refine oC 9 1023 3 rfl rfl rfl rfl hE rfl rfl rfl rfl (rec_call.calls h26 (hS.st.fore (L := [])) (h6.mono (le2 (le2 le4 le3) le1)) (h9.mono (le2 (le2 le4 le3) le1))) fun a v w hR hE => ?_
      obtain ⟨D21, A17, c17, q21, rfl, hS1, h27⟩ := hR
      refine ⟨(hS1.keeps.sub (M' := []) trivial).mono (fun _ h => h), ?_⟩
      have le11 := hS1.dle
      have hS := hS.callR hS1 rfl (.c .n)
      have hS := hS.p (.d 1 (.d 0 (.d 2 (.d 3 .n))))
      obtain ⟨D22, q22, le12, hS, h69, h28⟩ := hS.lent (h1.mono (le2 le1 le11))
      have hS := hS.p (.d 1 (.d 0 (.d 2 (.d 3 .n))))
      obtain ⟨D23, q23, le13, hS, h70, h29⟩ := hS.lent (h27.mono le12)
      refine oG 10 2047 (fuel := 2) (by kernel_rfl) (op_buildSlice (K := (kdSlice (kdInt .u8))) (e := 37) (cs := [.slice A2 (List.length (r1)) c2] ++ ([.slice A17 (List.length (r7)) c17] ++ [])) ([r1, r7] : List (List Int)) rfl rfl rfl rfl hE rfl hS rfl (by kernel_rfl) rfl rfl (by exact ⟨_, _, rfl, (kslice (h28.mono le13)), ⟨_, _, rfl, (kslice h29), rfl⟩⟩) (fun a A23 q24 w hkp hE h30 hS => ⟨hkp.mono (fun _ h => absurd h List.not_mem_nil), ?_⟩))
      clear hkp
      obtain ⟨D24, q25, le28, hS, h71, h31⟩ := hS.lent h30
      obtain ⟨r8, h32, hf⟩ := bs hf
      refine oC 11 4095 1 rfl rfl rfl rfl hE rfl rfl rfl rfl (wire_All.calls h32 (hS.st.fore (L := [])) h31) fun a v w hR hE => ?_
      obtain ⟨D6, A9, c9, q5, rfl, hS1, h33⟩ := hR
      refine ⟨(hS1.keeps.sub (M' := []) trivial).mono (fun _ h => h), ?_⟩
      have le29 := hS1.dle
      have hS := hS.callR hS1 rfl (.c .n)
      refine wP 12 8191 0 (.slice A9 (List.length (r8)) c9) hE fun a hE => ?_
      refine doneG (by kernel_rfl) ?_
      have hS := hS.p (.d 5 (.d 4 (.d 0 .n)))
      exact ⟨r8, A9, c9, q5, D6, hE.wk, hS, (le2 (le2 (le2 (le2 (le2 (le2 le3 le1) le11) le12) le13) le28) le29), h33, hf⟩
     replace hf := ct hb hf
     have hk2043 := of_decide_eq_true hb
     refine tW 6 383 (fuel := 5) (by kernel_rfl) hE (fun M => tk_indexV (N := 7) (e := 123) (sz := 1) (cs := ([.nilFunc]) ++ (([.func (.func 102) #[] #[]]) ++ (([.func (.func 103) #[] #[]]) ++ (([.func (.func 104) #[] #[]]) ++ (([.func (.func 103) #[] #[]]) ++ (([.func (.func 106) #[] #[]]) ++ (([.func (.func 107) #[] #[]])))))))) 3 (.agg (List.toArray ([.func (.func 104) #[] #[]]))) rfl rfl rfl rfl hE rfl rfl rfl hk2043 (by kernel_rfl) (by kernel_rfl) (by kernel_rfl) (fun a hE => ?_))
     refine tW 7 511 (fuel := 4) (by kernel_rfl) hE (fun M => g_field (cs := [.func (.func 104) #[] #[]]) (fo := 0) (ft := 63) (.func (.func 104) #[] #[]) rfl rfl rfl rfl hE rfl rfl (by kernel_rfl) (by kernel_rfl) (fun a hE => ?_))
     obtain ⟨r9, h34, hf⟩ := bs hf
     refine oC 9 1023 3 rfl rfl rfl rfl hE rfl rfl rfl rfl (rec_forms_1.calls h34 (hS.st.fore (L := [])) (h6.mono (le2 (le2 le4 le3) le1)) (h9.mono (le2 (le2 le4 le3) le1))) fun a v w hR hE => ?_
     obtain ⟨D25, A18, c18, q26, rfl, hS1, h35⟩ := hR
     refine ⟨(hS1.keeps.sub (M' := []) trivial).mono (fun _ h => h), ?_⟩
     have le14 := hS1.dle
     have hS := hS.callR hS1 rfl (.c .n)
     have hS := hS.p (.d 1 (.d 0 (.d 2 (.d 3 .n))))
     obtain ⟨D26, q27, le15, hS, h72, h36⟩ := hS.lent (h1.mono (le2 le1 le14))
     have hS := hS.p (.d 1 (.d 0 (.d 2 (.d 3 .n))))
     obtain ⟨D27, q28, le16, hS, h73, h37⟩ := hS.lent (h35.mono le15)
     refine oG 10 2047 (fuel := 2) (by kernel_rfl) (op_buildSlice (K := (kdSlice (kdInt .u8))) (e := 37) (cs := [.slice A2 (List.length (r1)) c2] ++ ([.slice A18 (List.length (r9)) c18] ++ [])) ([r1, r9] : List (List Int)) rfl rfl rfl rfl hE rfl hS rfl (by kernel_rfl) rfl rfl (by exact ⟨_, _, rfl, (kslice (h36.mono le16)), ⟨_, _, rfl, (kslice h37), rfl⟩⟩) (fun a A24 q29 w hkp hE h38 hS => ⟨hkp.mono (fun _ h => absurd h List.not_mem_nil), ?_⟩))
     clear hkp
     obtain ⟨D28, q30, le30, hS, h74, h39⟩ := hS.lent h38
     obtain ⟨r10, h40, hf⟩ := bs hf
     refine oC 11 4095 1 rfl rfl rfl rfl hE rfl rfl rfl rfl (wire_All.calls h40 (hS.st.fore (L := [])) h39) fun a v w hR hE => ?_
     obtain ⟨D7, A10, c10, q6, rfl, hS1, h41⟩ := hR
     refine ⟨(hS1.keeps.sub (M' := []) trivial).mono (fun _ h => h), ?_⟩
     have le31 := hS1.dle
     have hS := hS.callR hS1 rfl (.c .n)
     refine wP 12 8191 0 (.slice A10 (List.length (r10)) c10) hE fun a hE => ?_
     refine doneG (by kernel_rfl) ?_
     have hS := hS.p (.d 5 (.d 4 (.d 0 .n)))
     exact ⟨r10, A10, c10, q6, D7, hE.wk, hS, (le2 (le2 (le2 (le2 (le2 (le2 le3 le1) le14) le15) le16) le30) le31), h41, hf⟩
    replace hf := ct hb hf
    have hk2003 := of_decide_eq_true hb
    refine tW 6 383 (fuel := 5) (by kernel_rfl) hE (fun M => tk_indexV (N := 7) (e := 123) (sz := 1) (cs := ([.nilFunc]) ++ (([.func (.func 102) #[] #[]]) ++ (([.func (.func 103) #[] #[]]) ++ (([.func (.func 104) #[] #[]]) ++ (([.func (.func 103) #[] #[]]) ++ (([.func (.func 106) #[] #[]]) ++ (([.func (.func 107) #[] #[]])))))))) 2 (.agg (List.toArray ([.func (.func 103) #[] #[]]))) rfl rfl rfl rfl hE rfl rfl rfl hk2003 (by kernel_rfl) (by kernel_rfl) (by kernel_rfl) (fun a hE => ?_))
    refine tW 7 511 (fuel := 4) (by kernel_rfl) hE (fun M => g_field (cs := [.func (.func 103) #[] #[]]) (fo := 0) (ft := 63) (.func (.func 103) #[] #[]) rfl rfl rfl rfl hE rfl rfl (by kernel_rfl) (by kernel_rfl) (fun a hE => ?_))
    obtain ⟨r11, h42, hf⟩ := bs hf
    refine oC 9 1023 3 rfl rfl rfl rfl hE rfl rfl rfl rfl (rec_call.calls h42 (hS.st.fore (L := [])) (h6.mono (le2 (le2 le4 le3) le1)) (h9.mono (le2 (le2 le4 le3) le1))) fun a v w hR hE => ?_
    obtain ⟨D29, A19, c19, q31, rfl, hS1, h43⟩ := hR
    refine ⟨(hS1.keeps.sub (M' := []) trivial).mono (fun _ h => h), ?_⟩
    have le17 := hS1.dle
    have hS := hS.callR hS1 rfl (.c .n)
    have hS := hS.p (.d 1 (.d 0 (.d 2 (.d 3 .n))))
    obtain ⟨D30, q32, le18, hS, h75, h44⟩ := hS.lent (h1.mono (le2 le1 le17))
    have hS := hS.p (.d 1 (.d 0 (.d 2 (.d 3 .n))))
    obtain ⟨D31, q33, le19, hS, h76, h45⟩ := hS.lent (h43.mono le18)
    refine oG 10 2047 (fuel := 2) (by kernel_rfl) (op_buildSlice (K := (kdSlice (kdInt .u8))) (e := 37) (cs := [.slice A2 (List.length (r1)) c2] ++ ([.slice A19 (List.length (r11)) c19] ++ [])) ([r1, r11] : List (List Int)) rfl rfl rfl rfl hE rfl hS rfl (by kernel_rfl) rfl rfl (by exact ⟨_, _, rfl, (kslice (h44.mono le19)), ⟨_, _, rfl, (kslice h45), rfl⟩⟩) (fun a A25 q34 w hkp hE h46 hS => ⟨hkp.mono (fun _ h => absurd h List.not_mem_nil), ?_⟩))
    clear hkp
    obtain ⟨D32, q35, le32, hS, h77, h47⟩ := hS.lent h46
    obtain ⟨r12, h48, hf⟩ := bs hf
    refine oC 11 4095 1 rfl rfl rfl rfl hE rfl rfl rfl rfl (wire_All.calls h48 (hS.st.fore (L := [])) h47) fun a v w hR hE => ?_
    obtain ⟨D8, A12, c11, q7, rfl, hS1, h49⟩ := hR
    refine ⟨(hS1.keeps.sub (M' := []) trivial).mono (fun _ h => h), ?_⟩
    have le33 := hS1.dle
    have hS := hS.callR hS1 rfl (.c .n)
    refine wP 12 8191 0 (.slice A12 (List.length (r12)) c11) hE fun a hE => ?_
    refine doneG (by kernel_rfl) ?_
    have hS := hS.p (.d 5 (.d 4 (.d 0 .n)))
    exact ⟨r12, A12, c11, q7, D8, hE.wk, hS, (le2 (le2 (le2 (le2 (le2 (le2 le3 le1) le17) le18) le19) le32) le33), h49, hf⟩
   replace hf := ct hb hf
   have hk1963 := of_decide_eq_true hb
   refine tW 6 383 (fuel := 5) (by kernel_rfl) hE (fun M => tk_indexV (N := 7) (e := 123) (sz := 1) (cs := ([.nilFunc]) ++ (([.func (.func 102) #[] #[]]) ++ (([.func (.func 103) #[] #[]]) ++ (([.func (.func 104) #[] #[]]) ++ (([.func (.func 103) #[] #[]]) ++ (([.func (.func 106) #[] #[]]) ++ (([.func (.func 107) #[] #[]])))))))) 1 (.agg (List.toArray ([.func (.func 102) #[] #[]]))) rfl rfl rfl rfl hE rfl rfl rfl hk1963 (by kernel_rfl) (by kernel_rfl) (by kernel_rfl) (fun a hE => ?_))
   refine tW 7 511 (fuel := 4) (by kernel_rfl) hE (fun M => g_field (cs := [.func (.func 102) #[] #[]]) (fo := 0) (ft := 63) (.func (.func 102) #[] #[]) rfl rfl rfl rfl hE rfl rfl (by kernel_rfl) (by kernel_rfl) (fun a hE => ?_))
   obtain ⟨r13, h50, hf⟩ := bs hf
   refine oC 9 1023 3 rfl rfl rfl rfl hE rfl rfl rfl rfl (rec_begin.calls h50 (hS.st.fore (L := [])) (h6.mono (le2 (le2 le4 le3) le1)) (h9.mono (le2 (le2 le4 le3) le1))) fun a v w hR hE => ?_
   obtain ⟨D33, A20, c20, q36, rfl, hS1, h51⟩ := hR
   refine ⟨(hS1.keeps.sub (M' := []) trivial).mono (fun _ h => h), ?_⟩
   have le20 := hS1.dle
   have hS := hS.callR hS1 rfl (.c .n)
   have hS := hS.p (.d 1 (.d 0 (.d 2 (.d 3 .n))))
   obtain ⟨D34, q37, le21, hS, h78, h52⟩ := hS.lent (h1.mono (le2 le1 le20))
   have hS := hS.p (.d 1 (.d 0 (.d 2 (.d 3 .n))))
   obtain ⟨D35, q38, le22, hS, h79, h53⟩ := hS.lent (h51.mono le21)
   refine oG 10 2047 (fuel := 2) (by kernel_rfl) (op_buildSlice (K := (kdSlice (kdInt .u8))) (e := 37) (cs := [.slice A2 (List.length (r1)) c2] ++ ([.slice A20 (List.length (r13)) c20] ++ [])) ([r1, r13] : List (List Int)) rfl rfl rfl rfl hE rfl hS rfl (by kernel_rfl) rfl rfl (by exact ⟨_, _, rfl, (kslice (h52.mono le22)), ⟨_, _, rfl, (kslice h53), rfl⟩⟩) (fun a A26 q39 w hkp hE h54 hS => ⟨hkp.mono (fun _ h => absurd h List.not_mem_nil), ?_⟩))
   clear hkp
   obtain ⟨D36, q40, le34, hS, h80, h55⟩ := hS.lent h54
   obtain ⟨r14, h56, hf⟩ := bs hf
   refine oC 11 4095 1 rfl rfl rfl rfl hE rfl rfl rfl rfl (wire_All.calls h56 (hS.st.fore (L := [])) h55) fun a v w hR hE => ?_
   obtain ⟨D9, A13, c13, q8, rfl, hS1, h57⟩ := hR
   refine ⟨(hS1.keeps.sub (M' := []) trivial).mono (fun _ h => h), ?_⟩
   have le35 := hS1.dle
   have hS := hS.callR hS1 rfl (.c .n)
   refine wP 12 8191 0 (.slice A13 (List.length (r14)) c13) hE fun a hE => ?_
   refine doneG (by kernel_rfl) ?_
   have hS := hS.p (.d 5 (.d 4 (.d 0 .n)))
   exact ⟨r14, A13, c13, q8, D9, hE.wk, hS, (le2 (le2 (le2 (le2 (le2 (le2 le3 le1) le20) le21) le22) le34) le35), h57, hf⟩
  replace hf := ct hb hf
  have hk1962 := of_decide_eq_true hb
  refine tW 6 383 (fuel := 5) (by kernel_rfl) hE (fun M => tk_indexV (N := 7) (e := 123) (sz := 1) (cs := ([.nilFunc]) ++ (([.func (.func 102) #[] #[]]) ++ (([.func (.func 103) #[] #[]]) ++ (([.func (.func 104) #[] #[]]) ++ (([.func (.func 103) #[] #[]]) ++ (([.func (.func 106) #[] #[]]) ++ (([.func (.func 107) #[] #[]])))))))) 0 (.agg (List.toArray ([.nilFunc]))) rfl rfl rfl rfl hE rfl rfl rfl hk1962 (by kernel_rfl) (by kernel_rfl) (by kernel_rfl) (fun a hE => ?_))
  refine tW 7 511 (fuel := 4) (by kernel_rfl) hE (fun M => g_field (cs := [.nilFunc]) (fo := 0) (ft := 63) (.nilFunc) rfl rfl rfl rfl hE rfl rfl (by kernel_rfl) (by kernel_rfl) (fun a hE => ?_))
  cases hf
 clear hE hS
 rintro a w ⟨y1, A1, c1, q1, D2, hE, hS, le23, h2, hf⟩
 replace hf := hj1 _ hf
 clear hj1
 refine sq (sq (ra ?_))
 refine sM 3 3 [1] [(23, .bool ((decide (x3.fKind = (1 : Int)))))] hE hS fun a hE => ?_
 refine ae ?_
 refine cond_split hE (b := (decide (x3.fKind = (1 : Int)))) rfl (fun hb => ?_) (fun hb => ?_)
 ·replace hf := ct hb hf
  refine ra ?_
  refine sN 2 2 [(24, .slice A1 (List.length (y1)) c1), (25, .func (.func 75) #[] #[.pointer (some ⟨b1, 0, none⟩)])] hE fun a hE => ?_
  obtain ⟨r15, h58, hf⟩ := bs hf
  refine aC rfl rfl rfl rfl hE rfl rfl rfl rfl (rec_Open_1.calls h58 (hS.st.fore (L := [bx b1 39 (c_T_api_Rec (x10) A11 c12 A14 c15)])) (h13.mono (le2 le4 le23)) (h16.mono (le2 le4 le23))) fun a v w hR hE => ?_
  obtain ⟨D37, A27, c21, q41, rfl, hS1, h59⟩ := hR
  have le36 := hS1.dle
  have hS := hS.callR hS1 rfl (.c (.c .n))
  have hS := hS.p (.d 1 (.d 0 (.d 2 (.d 3 .n))))
  obtain ⟨D10, q42, le37, hS, h81, h60⟩ := hS.lent h59
  have hS := hS.p (.d 3 (.d 0 (.d 1 (.d 2 .n))))
  obtain ⟨l1, h61, hf⟩ := bs hf
  refine at_op (g_append (K := (kdInt .u8)) (e := 5) (bytes := 1) (l := y1) (m := r15) rfl rfl rfl rfl hE rfl hS rfl rfl (by kernel_rfl) rfl rfl (h2.mono (le2 le36 le37)) h60 h61 (fun a A3 c3 q9 w _ hE h62 hS => ?_)) rfl
  refine sN 1 5 [(5, .slice A3 (List.length (l1)) c3)] hE fun a hE => ?_
  refine ae ?_
  refine sq (ra ?_)
  refine sN 2 2 [(4, .slice A3 (List.length (l1)) c3)] hE fun a hE => ?_
  refine ae ?_
  refine wpIn_ret ?_
  obtain rfl := si hf
  refine ret_ ?_
  refine rT 4 (.slice A3 (List.length (l1)) c3) hE ?_
  have hS := hS.p (.d 2 (.d 0 .n))
  exact ⟨_, rfl, D10, A3, c3, q9, rfl, hS, h62⟩
 replace hf := cf hb hf
 refine wpIn_skip ?_
 refine sq (ra ?_)
 refine sN 2 2 [(4, .slice A1 (List.length (y1)) c1)] hE fun a hE => ?_
 refine ae ?_
 refine wpIn_ret ?_
 obtain rfl := si hf
 refine ret_ ?_
 refine rT 4 (.slice A1 (List.length (y1)) c1) hE ?_
 have hS := hS.p (.d 0 (.d 2 .n))
 exact ⟨_, rfl, D2, A1, c1, q1, rfl, hS, h2⟩
set_option maxRecDepth 100000 in
theorem rec_Open.calls {K : Nat} {g w0 : World} {D0 : Snap} {x1 : T_api_Rec} {A2 : Option Addr} {c3 : Nat} {A5 : Option Addr} {c6 : Nat} {r : ((List Int))} (hf : rec_Open.f K x1 = some r) (hS0 : St g w0 D0 []) (h4 : Sl kd_T_api_Step D0 A2 c3 (x1.fSteps)) (h7 : Sl (kdInt .u8) D0 A5 c6 (x1.fData)) :
  CallsIn (Fw none) 0 Tryd.prog 48 (List.toArray [.agg (List.toArray (c_T_api_Rec (x1) A2 c3 A5 c6))]) w0 (fun e w' => ∃ v, e = .returned v ∧ ∃ (D1 : Snap) (A20 : Option Addr) (c21 : Nat) (q22 : Blk), v = .slice A20 (List.length (r)) c21 ∧ Stp g w0 D0 [] w' D1 [q22] ∧ OwnD (kdInt .u8) 5 D1 A20 c21 (r) q22) := by
 unfold rec_Open.f at hf
 have hS := Stp.refl hS0
 clear hS0
 refine calls_body (n := 6) Tryd.func48 rfl Tryd.ntmps48 rfl fun a hE => ?_
 have hE : Env a 6 [] [(0, .agg (List.toArray (c_T_api_Rec (x1) A2 c3 A5 c6)))] := hE
 refine sq (ra ?_)
 refine at_op (op_box rfl rfl rfl rfl hE rfl hS rfl (fun a b25 w _ hE hS => ?_)) rfl
 refine sN 1 2 [(2, .slice none 0 0)] hE fun a hE => ?_
 refine ae ?_
 refine sq (ra ?_)
 refine sM 2 2 [0] [(3, .agg (List.toArray (c_T_api_Rec (x1) A2 c3 A5 c6))), (4, .func (.func 75) #[] #[.pointer (some ⟨b25, 0, none⟩)])] hE hS fun a hE => ?_
 obtain ⟨r27, h28, hf⟩ := bs hf
 refine aC rfl rfl rfl rfl hE rfl rfl rfl rfl (rec_put_v2.calls h28 (hS.st.fore (L := [bx b25 39 (c_T_api_Rec (x1) A2 c3 A5 c6)])) h4 h7 h4 h7) fun a v w hR hE => ?_
 obtain ⟨D29, A31, c32, q33, rfl, hS1, h34⟩ := hR
 have le36 := hS1.dle
 have hS := hS.callR hS1 rfl (.c (.c .n))
 refine sN 1 4 [(2, .slice A31 (List.length (r27)) c32)] hE fun a hE => ?_
 refine ae ?_
 refine wpIn_ret ?_
 obtain rfl := si hf
 refine ret_ ?_
 refine rT 2 (.slice A31 (List.length (r27)) c32) hE ?_
 have hS := hS.p (.d 1 .n)
 exact ⟨_, rfl, D29, A31, c32, q33, rfl, hS, h34⟩
set_option maxRecDepth 100000 in
theorem bundle_list_api_Hash.calls {K : Nat} {g w0 : World} {D0 : Snap} {x1 : (List (Vector Int 32))} {A2 : Option Addr} {c3 : Nat} {r : ((List Int))} (hf : bundle_list_api_Hash.f K x1 = some r) (hS0 : St g w0 D0 []) (h4 : Sl (kdArr .u8 32) D0 A2 c3 (x1)) :
  CallsIn (Fw none) 0 Tryd.prog 74 (List.toArray [.slice A2 (List.length (x1)) c3, .func (.func 43) #[] #[]]) w0 (fun e w' => ∃ v, e = .returned v ∧ ∃ (D1 : Snap) (A4 : Option Addr) (c4 : Nat) (q3 : Blk), v = .slice A4 (List.length (r)) c4 ∧ Stp g w0 D0 [] w' D1 [q3] ∧ OwnD (kdInt .u8) 5 D1 A4 c4 (r) q3) := by
 unfold bundle_list_api_Hash.f at hf
 have hS := Stp.refl hS0
 clear hS0
 refine calls_body (n := 24) Tryd.func74 rfl Tryd.ntmps74 rfl fun a hE => ?_
 have hE : Env a 24 [] [(0, .slice A2 (List.length (x1)) c3), (1, .func (.func 43) #[] #[])] := hE
 refine sq (ra ?_)
 refine sN 1 1 [(4, .slice none 0 0)] hE fun a hE => ?_
 refine ae ?_
 refine sq (ra ?_)
 refine sN 2 2 [(9, .int .i64 (((List.length (x1) : Nat) : Int)))] hE fun a hE => ?_
 obtain ⟨r1, h2, hf⟩ := bs hf
 refine aC rfl rfl rfl rfl hE rfl rfl rfl rfl (wire_Num.calls h2 (hS.st.fore (L := [])) ) fun a v w hR hE => ?_
 obtain ⟨D4, A5, c5, q4, rfl, hS1, h3⟩ := hR
 have le5 := hS1.dle
 have hS := hS.callR hS1 rfl (.c .n)
 refine sN 1 4 [(5, .slice A5 (List.length (r1)) c5)] hE fun a hE => ?_
 refine ae ?_
 refine sq (sq (ra ?_))
 refine sN 3 3 [(11, .slice A2 (List.length (x1)) c3), (12, .int .i64 (((List.length (x1) : Nat) : Int))), (13, .int .i64 ((0 : Int)))] hE fun a hE => ?_
 refine ae ?_
 obtain ⟨s1, hf, hs1⟩ := bs hf
 refine block_loop (fun a w => ∃ (z1 : (List Int)), ∃ A1, ∃ c1, ∃ q1, ∃ D2, Env a 24 [] [(5, .slice A1 (List.length (z1)) c1)] ∧ Stp g w0 D0 [] w D2 [q1] ∧ Snap.le D4 D2 ∧ OwnD (kdInt .u8) 5 D2 A1 c1 (z1) q1 ∧ z1 = s1) (fun k a w => ∃ (y1 : (List Int) × Int), ∃ A3, ∃ c2, ∃ q2, ∃ D3, Env a 24 [] [(1, .func (.func 43) #[] #[]), (5, .slice A3 (List.length (y1.1)) c2), (11, .slice A2 (List.length (x1)) c3), (12, .int .i64 (((List.length (x1) : Nat) : Int))), (13, .int .i64 (y1.2))] ∧ Stp g w0 D0 [] w D3 [q2] ∧ Snap.le D4 D3 ∧ OwnD (kdInt .u8) 5 D3 A3 c2 (y1.1) q2 ∧ bundle_list_api_Hash_l1.l K x1 k y1 = some s1) K ?_ ?_ ?_
 ·exact ⟨(r1, (0 : Int)), A5, c5, q4, D4, hE.wk, hS, lr, h3, hf⟩
 ·clear hE hS hf
  rintro a w ⟨z1, A1, c1, q1, D2, hE, hS, le6, h5, rfl⟩
  have hf := hs1
  clear hs1
  refine sq (ra ?_)
  refine sN 2 2 [(4, .slice A1 (List.length (z1)) c1)] hE fun a hE => ?_
  refine ae ?_
  refine wpIn_ret ?_
  obtain rfl := si hf
  refine ret_ ?_
  refine rT 4 (.slice A1 (List.length (z1)) c1) hE ?_
  exact ⟨_, rfl, D2, A1, c1, q1, rfl, hS, h5⟩
 clear hE hS hf
 rintro k a w ⟨y1, A3, c2, q2, D3, hE, hS, le1, h1, hf⟩
 obtain ⟨k, rfl, hf⟩ := bundle_list_api_Hash_l1.some _ hf
 refine ⟨k, rfl, ?_⟩
 unfold bundle_list_api_Hash_l1.b at hf
 refine sq (ra ?_)
 refine sN 1 1 [(14, .bool ((decide (y1.2 < ((List.length (x1) : Nat) : Int)))))] hE fun a hE => ?_
 refine ae ?_
 refine sq ?_
 refine cond_split hE (b := (decide (y1.2 < ((List.length (x1) : Nat) : Int)))) rfl (fun hb => ?_) (fun hb => ?_)
 ·replace hf := ct hb hf
  refine wpIn_skip ?_
  refine sq ?_
  refine wpIn_block ?_
  refine sq (ra ?_)
  obtain ⟨x2, h6, hf⟩ := bs hf
  refine at_op (op_tk hE (g_index (K := (kdArr .u8 32)) (e := 24) (by_ := 32) (zl := 32) rfl rfl rfl rfl hE rfl rfl rfl (by kernel_rfl) rfl (h4.mono (le2 le5 le1)) h6 (fun a b1 o1 hE h7 => ?_))) rfl
  obtain ⟨cs1, C1, T1, fr1, hr1, hb1, hc1⟩ := id h7
  obtain rfl := hr1
  refine at_op (op_tk hE (tk_loadX (off0 := o1) (off := 0) (c := acells .u8 32 (x2)) (.agg (List.toArray (acells .u8 32 (x2)))) rfl rfl rfl rfl hE rfl hS rfl hb1 hc1 (by kernel_rfl) (by kernel_rfl) (kD hS dn_nil) (fun a hE => ?_))) rfl
  refine at_op (op_alloc (z := .agg (List.toArray (acells .u8 32 ((Vector.replicate 32 (0 : Int)))))) rfl rfl rfl rfl hE rfl hS (by kernel_rfl) (fun a b2 w _ hE hS => ?_)) rfl
  refine at_op (op_store (v := .agg (List.toArray (acells .u8 32 (x2)))) (acells .u8 32 (x2)) rfl rfl rfl rfl hE hS rfl rfl (by kernel_rfl) (by kernel_rfl) (by kernel_rfl) (by kernel_rfl) (by kernel_rfl) (fun a w _ hE hS => ?_)) rfl
  refine ae ?_
  refine ra ?_
  refine sM 3 3 [0] [(17, .slice A3 (List.length (y1.1)) c2), (18, .func (.func 43) #[] #[]), (19, .agg (List.toArray (acells .u8 32 (x2))))] hE hS fun a hE => ?_
  obtain ⟨r2, h8, hf⟩ := bs hf
  refine aC rfl rfl rfl rfl hE rfl rfl rfl rfl (wire_Hash.calls h8 (hS.st.fore (L := [])) ) fun a v w hR hE => ?_
  obtain ⟨D6, A7, c7, q6, rfl, hS1, h9⟩ := hR
  have le3 := hS1.dle
  have hS := hS.callR hS1 rfl (.c .n)
  obtain ⟨D5, q7, le4, hS, h13, h10⟩ := hS.lent h9
  have hS := hS.p (.d 2 (.d 0 (.d 1 .n)))
  obtain ⟨l1, h11, hf⟩ := bs hf
  refine at_op (g_append (K := (kdInt .u8)) (e := 5) (bytes := 1) (l := y1.1) (m := r2) rfl rfl rfl rfl hE rfl hS rfl rfl (by kernel_rfl) rfl rfl (h1.mono (le2 le3 le4)) h10 h11 (fun a A6 c6 q5 w _ hE h12 hS => ?_)) rfl
  refine sN 1 6 [(5, .slice A6 (List.length (l1)) c6)] hE fun a hE => ?_
  refine ae ?_
  refine ra ?_
  refine sN 2 2 [(13, .int .i64 ((IntKind.wrap .i64 (y1.2 + (1 : Int)))))] hE fun a hE => ?_
  refine ae ?_
  have hS := hS.p (.d 0 .n)
  exact ⟨(l1, (IntKind.wrap .i64 (y1.2 + (1 : Int)))), A6, c6, q5, D5, hE.wk, hS, (le2 (le2 le1 le3) le4), h12, hf⟩
 replace hf := cf hb hf
 refine wpIn_exit ?_
 obtain rfl := si hf
 exact ⟨y1.1, A3, c2, q2, D3, hE.wk, hS, le1, h1, rfl⟩
set_option maxRecDepth 100000 in
theorem bundle_item.calls {K : Nat} {g w0 : World} {D0 : Snap} {x1 : T_api_Item} {A2 : Option Addr} {c3 : Nat} {A5 : Option Addr} {c6 : Nat} {A8 : Option Addr} {c9 : Nat} {r : ((List Int))} (hf : bundle_item.f K x1 = some r) (hS0 : St g w0 D0 []) (h4 : Sl kd_T_api_Step D0 A2 c3 (x1.fRec.fSteps)) (h7 : Sl (kdInt .u8) D0 A5 c6 (x1.fRec.fData)) (h10 : Sl (kdArr .u8 32) D0 A8 c9 (x1.fPath)) :
  CallsIn (Fw none) 0 Tryd.prog 47 (List.toArray [.agg (List.toArray (c_T_api_Item (x1) A2 c3 A5 c6 A8 c9))]) w0 (fun e w' => ∃ v, e = .returned v ∧ ∃ (D1 : Snap) (A3 : Option Addr) (c2 : Nat) (q1 : Blk), v = .slice A3 (List.length (r)) c2 ∧ Stp g w0 D0 [] w' D1 [q1] ∧ OwnD (kdInt .u8) 5 D1 A3 c2 (r) q1) := by
 unfold bundle_item.f at hf
 have hS := Stp.refl hS0
 clear hS0
 refine calls_body (n := 14) Tryd.func47 rfl Tryd.ntmps47 rfl fun a hE => ?_
 have hE : Env a 14 [] [(0, .agg (List.toArray (c_T_api_Item (x1) A2 c3 A5 c6 A8 c9)))] := hE
 refine sq (ra ?_)
 refine at_op (op_box rfl rfl rfl rfl hE rfl hS rfl (fun a b1 w _ hE hS => ?_)) rfl
 refine sN 1 2 [(2, .slice none 0 0)] hE fun a hE => ?_
 refine ae ?_
 refine sq ?_
 refine region_draw (fun j => Keeps (mfOf [] j)) (by kernel_rfl) ?_
 have hS := hS.drew
 first | generalize w.drew = w at hS ⊢ | generalize w0.drew = w at hS ⊢
 refine wF 0 1 11 0 3 0 hE fun a hE => ?_
 refine tL 1 3 10 0 (.int .i64 (x1.fAt)) hE hS fun a hE => ?_
 refine wF 3 11 9 1 39 1 hE fun a hE => ?_
 refine tL 4 27 8 0 (.agg (List.toArray (c_T_api_Rec (x1.fRec) A2 c3 A5 c6))) hE hS fun a hE => ?_
 refine wF 6 91 7 110 40 110 hE fun a hE => ?_
 refine tL 7 219 6 0 (.slice A8 (List.length (x1.fPath)) c9) hE hS fun a hE => ?_
 obtain ⟨r1, h1, hf⟩ := bs hf
 refine oC 2 223 5 rfl rfl rfl rfl hE rfl rfl rfl rfl (wire_Num.calls h1 (hS.st.fore (L := [])) ) fun a v w hR hE => ?_
 obtain ⟨D3, A4, c4, q3, rfl, hS1, h2⟩ := hR
 refine ⟨(hS1.keeps.sub (M' := []) trivial).mono (fun _ h => h), ?_⟩
 have le1 := hS1.dle
 have hS := hS.callR hS1 rfl (.c .n)
 obtain ⟨r2, h3, hf⟩ := bs hf
 refine oC 5 255 4 rfl rfl rfl rfl hE rfl rfl rfl rfl (rec_Open.calls h3 (hS.st.fore (L := [])) (h4.mono le1) (h7.mono le1)) fun a v w hR hE => ?_
 obtain ⟨D4, A6, c5, q4, rfl, hS1, h5⟩ := hR
 refine ⟨(hS1.keeps.sub (M' := []) trivial).mono (fun _ h => h), ?_⟩
 have le3 := hS1.dle
 have hS := hS.callR hS1 rfl (.c .n)
 obtain ⟨r3, h6, hf⟩ := bs hf
 refine oC 8 511 3 rfl rfl rfl rfl hE rfl rfl rfl rfl (bundle_list_api_Hash.calls h6 (hS.st.fore (L := [])) (h10.mono (le2 le1 le3))) fun a v w hR hE => ?_
 obtain ⟨D5, A7, c7, q5, rfl, hS1, h8⟩ := hR
 refine ⟨(hS1.keeps.sub (M' := []) trivial).mono (fun _ h => h), ?_⟩
 have le4 := hS1.dle
 have hS := hS.callR hS1 rfl (.c .n)
 have hS := hS.p (.d 2 (.d 0 (.d 1 (.d 3 .n))))
 obtain ⟨D6, q6, le5, hS, h17, h9⟩ := hS.lent (h2.mono (le2 le3 le4))
 have hS := hS.p (.d 2 (.d 0 (.d 1 (.d 3 .n))))
 obtain ⟨D7, q7, le6, hS, h18, h11⟩ := hS.lent (h5.mono (le2 le4 le5))
 have hS := hS.p (.d 2 (.d 0 (.d 1 (.d 3 .n))))
 obtain ⟨D8, q8, le7, hS, h19, h12⟩ := hS.lent (h8.mono (le2 le5 le6))
 refine oG 9 1023 (fuel := 2) (by kernel_rfl) (op_buildSlice (K := (kdSlice (kdInt .u8))) (e := 37) (cs := [.slice A4 (List.length (r1)) c4] ++ ([.slice A6 (List.length (r2)) c5] ++ ([.slice A7 (List.length (r3)) c7] ++ []))) ([r1, r2, r3] : List (List Int)) rfl rfl rfl rfl hE rfl hS rfl (by kernel_rfl) rfl rfl (by exact ⟨_, _, rfl, (kslice (h9.mono (le2 le6 le7))), ⟨_, _, rfl, (kslice (h11.mono le7)), ⟨_, _, rfl, (kslice h12), rfl⟩⟩⟩) (fun a A9 q9 w hkp hE h13 hS => ⟨hkp.mono (fun _ h => absurd h List.not_mem_nil), ?_⟩))
 clear hkp
 obtain ⟨D9, q10, le8, hS, h20, h14⟩ := hS.lent h13
 obtain ⟨r4, h15, hf⟩ := bs hf
 refine oC 10 2047 1 rfl rfl rfl rfl hE rfl rfl rfl rfl (wire_All.calls h15 (hS.st.fore (L := [])) h14) fun a v w hR hE => ?_
 obtain ⟨D2, A1, c1, q2, rfl, hS1, h16⟩ := hR
 refine ⟨(hS1.keeps.sub (M' := []) trivial).mono (fun _ h => h), ?_⟩
 have le9 := hS1.dle
 have hS := hS.callR hS1 rfl (.c .n)
 refine wP 11 4095 0 (.slice A1 (List.length (r4)) c1) hE fun a hE => ?_
 refine doneG (by kernel_rfl) ?_
 refine wpIn_ret ?_
 obtain rfl := si hf
 refine ret_ ?_
 refine rT 2 (.slice A1 (List.length (r4)) c1) hE ?_
 have hS := hS.p (.d 0 .n)
 exact ⟨_, rfl, D2, A1, c1, q2, rfl, hS, h16⟩
set_option maxRecDepth 100000 in
theorem bundle_list_api_Item.calls {K : Nat} {g w0 : World} {D0 : Snap} {x1 : (List T_api_Item)} {A2 : Option Addr} {c3 : Nat} {r : ((List Int))} (hf : bundle_list_api_Item.f K x1 = some r) (hS0 : St g w0 D0 []) (h4 : Sl kd_T_api_Item D0 A2 c3 (x1)) :
  CallsIn (Fw none) 0 Tryd.prog 46 (List.toArray [.slice A2 (List.length (x1)) c3, .func (.func 47) #[] #[]]) w0 (fun e w' => ∃ v, e = .returned v ∧ ∃ (D1 : Snap) (A7 : Option Addr) (c7 : Nat) (q3 : Blk), v = .slice A7 (List.length (r)) c7 ∧ Stp g w0 D0 [] w' D1 [q3] ∧ OwnD (kdInt .u8) 5 D1 A7 c7 (r) q3) := by
 unfold bundle_list_api_Item.f at hf
 have hS := Stp.refl hS0
 clear hS0
 refine calls_body (n := 24) Tryd.func46 rfl Tryd.ntmps46 rfl fun a hE => ?_
 have hE : Env a 24 [] [(0, .slice A2 (List.length (x1)) c3), (1, .func (.func 47) #[] #[])] := hE
 refine sq (ra ?_)
 refine sN 1 1 [(4, .slice none 0 0)] hE fun a hE => ?_
 refine ae ?_
 refine sq (ra ?_)
 refine sN 2 2 [(9, .int .i64 (((List.length (x1) : Nat) : Int)))] hE fun a hE => ?_
 obtain ⟨r1, h2, hf⟩ := bs hf
 refine aC rfl rfl rfl rfl hE rfl rfl rfl rfl (wire_Num.calls h2 (hS.st.fore (L := [])) ) fun a v w hR hE => ?_
 obtain ⟨D4, A8, c8, q4, rfl, hS1, h3⟩ := hR
 have le5 := hS1.dle
 have hS := hS.callR hS1 rfl (.c .n)
 refine sN 1 4 [(5, .slice A8 (List.length (r1)) c8)] hE fun a hE => ?_
 refine ae ?_
 refine sq (sq (ra ?_))
 refine sN 3 3 [(11, .slice A2 (List.length (x1)) c3), (12, .int .i64 (((List.length (x1) : Nat) : Int))), (13, .int .i64 ((0 : Int)))] hE fun a hE => ?_
 refine ae ?_
 obtain ⟨s1, hf, hs1⟩ := bs hf
 refine block_loop (fun a w => ∃ (z1 : (List Int)), ∃ A1, ∃ c1, ∃ q1, ∃ D2, Env a 24 [] [(5, .slice A1 (List.length (z1)) c1)] ∧ Stp g w0 D0 [] w D2 [q1] ∧ Snap.le D4 D2 ∧ OwnD (kdInt .u8) 5 D2 A1 c1 (z1) q1 ∧ z1 = s1) (fun k a w => ∃ (y1 : (List Int) × Int), ∃ A3, ∃ c2, ∃ q2, ∃ D3, Env a 24 [] [(1, .func (.func 47) #[] #[]), (5, .slice A3 (List.length (y1.1)) c2), (11, .slice A2 (List.length (x1)) c3), (12, .int .i64 (((List.length (x1) : Nat) : Int))), (13, .int .i64 (y1.2))] ∧ Stp g w0 D0 [] w D3 [q2] ∧ Snap.le D4 D3 ∧ OwnD (kdInt .u8) 5 D3 A3 c2 (y1.1) q2 ∧ bundle_list_api_Item_l1.l K x1 k y1 = some s1) K ?_ ?_ ?_
 ·exact ⟨(r1, (0 : Int)), A8, c8, q4, D4, hE.wk, hS, lr, h3, hf⟩
 ·clear hE hS hf
  rintro a w ⟨z1, A1, c1, q1, D2, hE, hS, le6, h5, rfl⟩
  have hf := hs1
  clear hs1
  refine sq (ra ?_)
  refine sN 2 2 [(4, .slice A1 (List.length (z1)) c1)] hE fun a hE => ?_
  refine ae ?_
  refine wpIn_ret ?_
  obtain rfl := si hf
  refine ret_ ?_
  refine rT 4 (.slice A1 (List.length (z1)) c1) hE ?_
  exact ⟨_, rfl, D2, A1, c1, q1, rfl, hS, h5⟩
 clear hE hS hf
 rintro k a w ⟨y1, A3, c2, q2, D3, hE, hS, le1, h1, hf⟩
 obtain ⟨k, rfl, hf⟩ := bundle_list_api_Item_l1.some _ hf
 refine ⟨k, rfl, ?_⟩
 unfold bundle_list_api_Item_l1.b at hf
 refine sq (ra ?_)
 refine sN 1 1 [(14, .bool ((decide (y1.2 < ((List.length (x1) : Nat) : Int)))))] hE fun a hE => ?_
 refine ae ?_
 refine sq ?_
 refine cond_split hE (b := (decide (y1.2 < ((List.length (x1) : Nat) : Int)))) rfl (fun hb => ?_) (fun hb => ?_)
 ·replace hf := ct hb hf
  refine wpIn_skip ?_
  refine sq ?_
  refine wpIn_block ?_
  refine sq (ra ?_)
  obtain ⟨x2, h6, hf⟩ := bs hf
  refine at_op (op_tk hE (g_index (K := kd_T_api_Item) (e := 42) (by_ := 256) (zl := 111) rfl rfl rfl rfl hE rfl rfl rfl (by kernel_rfl) rfl (h4.mono (le2 le5 le1)) h6 (fun a b1 o1 hE h7 => ?_))) rfl
  obtain ⟨cs1, C1, T1, fr1, hr1, hb1, hc1⟩ := id h7
  obtain ⟨A4, c4, A5, c5, A6, c6, rfl, h8, h9, h10⟩ := kd_T_api_Item_el hr1
  refine at_op (op_tk hE (tk_loadX (off0 := o1) (off := 0) (c := c_T_api_Item (x2) A4 c4 A5 c5 A6 c6) (.agg (List.toArray (c_T_api_Item (x2) A4 c4 A5 c5 A6 c6))) rfl rfl rfl rfl hE rfl hS rfl hb1 hc1 (by kernel_rfl) (by kernel_rfl) (kD hS dn_nil) (fun a hE => ?_))) rfl
  refine at_op (op_alloc (z := .agg (List.toArray (c_T_api_Item (z_T_api_Item) none 0 none 0 none 0))) rfl rfl rfl rfl hE rfl hS (by kernel_rfl) (fun a b2 w _ hE hS => ?_)) rfl
  refine at_op (op_store (v := .agg (List.toArray (c_T_api_Item (x2) A4 c4 A5 c5 A6 c6))) (c_T_api_Item (x2) A4 c4 A5 c5 A6 c6) rfl rfl rfl rfl hE hS rfl rfl (by kernel_rfl) (by kernel_rfl) (by kernel_rfl) (by kernel_rfl) (by kernel_rfl) (fun a w _ hE hS => ?_)) rfl
  refine ae ?_
  refine ra ?_
  refine sM 3 3 [0] [(17, .slice A3 (List.length (y1.1)) c2), (18, .func (.func 47) #[] #[]), (19, .agg (List.toArray (c_T_api_Item (x2) A4 c4 A5 c5 A6 c6)))] hE hS fun a hE => ?_
  obtain ⟨r2, h11, hf⟩ := bs hf
  refine aC rfl rfl rfl rfl hE rfl rfl rfl rfl (bundle_item.calls h11 (hS.st.fore (L := [])) h8 h9 h10) fun a v w hR hE => ?_
  obtain ⟨D6, A10, c10, q6, rfl, hS1, h12⟩ := hR
  have le3 := hS1.dle
  have hS := hS.callR hS1 rfl (.c .n)
  obtain ⟨D5, q7, le4, hS, h16, h13⟩ := hS.lent h12
  have hS := hS.p (.d 2 (.d 0 (.d 1 .n)))
  obtain ⟨l1, h14, hf⟩ := bs hf
  refine at_op (g_append (K := (kdInt .u8)) (e := 5) (bytes := 1) (l := y1.1) (m := r2) rfl rfl rfl rfl hE rfl hS rfl rfl (by kernel_rfl) rfl rfl (h1.mono (le2 le3 le4)) h13 h14 (fun a A9 c9 q5 w _ hE h15 hS => ?_)) rfl
  refine sN 1 6 [(5, .slice A9 (List.length (l1)) c9)] hE fun a hE => ?_
  refine ae ?_
  refine ra ?_
  refine sN 2 2 [(13, .int .i64 ((IntKind.wrap .i64 (y1.2 + (1 : Int)))))] hE fun a hE => ?_
  refine ae ?_
  have hS := hS.p (.d 0 .n)
  exact ⟨(l1, (IntKind.wrap .i64 (y1.2 + (1 : Int)))), A9, c9, q5, D5, hE.wk, hS, (le2 (le2 le1 le3) le4), h15, hf⟩
 replace hf := cf hb hf
 refine wpIn_exit ?_
 obtain rfl := si hf
 exact ⟨y1.1, A3, c2, q2, D3, hE.wk, hS, le1, h1, rfl⟩
set_option maxRecDepth 100000 in
theorem bundle_Put.calls {K : Nat} {g w0 : World} {D0 : Snap} {x1 : T_api_Bundle} {A2 : Option Addr} {c3 : Nat} {A5 : Option Addr} {c6 : Nat} {r : ((List Int))} (hf : bundle_Put.f K x1 = some r) (hS0 : St g w0 D0 []) (h4 : Sl kd_T_api_Sig D0 A2 c3 (x1.fPoint.fSigs)) (h7 : Sl kd_T_api_Item D0 A5 c6 (x1.fItems)) :
  CallsIn (Fw none) 0 Tryd.prog 19 (List.toArray [.agg (List.toArray (c_T_api_Bundle (x1) A2 c3 A5 c6))]) w0 (fun e w' => ∃ v, e = .returned v ∧ ∃ (D1 : Snap) (A19 : Option Addr) (c16 : Nat) (q4 : Blk), v = .slice A19 (List.length (r)) c16 ∧ Stp g w0 D0 [] w' D1 [q4] ∧ OwnD (kdInt .u8) 5 D1 A19 c16 (r) q4) := by
 unfold bundle_Put.f at hf
 have hS := Stp.refl hS0
 clear hS0
 refine calls_body (n := 50) Tryd.func19 rfl Tryd.ntmps19 rfl fun a hE => ?_
 have hE : Env a 50 [] [(0, .agg (List.toArray (c_T_api_Bundle (x1) A2 c3 A5 c6)))] := hE
 refine sq (ra ?_)
 refine at_op (op_box rfl rfl rfl rfl hE rfl hS rfl (fun a b1 w _ hE hS => ?_)) rfl
 refine sN 1 2 [(2, .slice none 0 0)] hE fun a hE => ?_
 refine ae ?_
 refine sq (sq (ra ?_))
 refine sM 1 1 [0] [(6, .agg (List.toArray (c_T_api_Bundle (x1) A2 c3 A5 c6)))] hE hS fun a hE => ?_
 obtain ⟨r10, h33, hf⟩ := bs hf
 refine aC rfl rfl rfl rfl hE rfl rfl rfl rfl (bundle_Right.calls h33 (hS.st.fore (L := [])) h4 h7) fun a v w hR hE => ?_
 obtain ⟨D5, rfl, hS1⟩ := hR
 have le11 := hS1.dle
 have hS := hS.callR hS1 rfl .n
 refine sN 1 3 [(8, .bool ((!r10)))] hE fun a hE => ?_
 refine ae ?_
 refine cond_split hE (b := (!r10)) rfl (fun hb => ?_) (fun hb => ?_)
 ·replace hf := ct hb hf
  refine sq (ra ?_)
  refine sN 1 1 [(2, .slice none 0 0)] hE fun a hE => ?_
  refine ae ?_
  refine wpIn_ret ?_
  have hS := hS.nils
  obtain rfl := si hf
  refine ret_ ?_
  refine rT 2 (.slice none 0 0) hE ?_
  have hS := hS.p (.d 0 .n)
  exact ⟨_, rfl, D5, none, 0, none, rfl, hS, (OwnD.nil (kdInt .u8) 5 D5)⟩
 replace hf := cf hb hf
 refine wpIn_skip ?_
 obtain ⟨j1, hj1, hf⟩ := jn_elim hf
 refine seq_join (fun a w => ∃ (y2 : (List Int)), ∃ A6, ∃ c5, ∃ q1, ∃ D2, Env a 50 [] [(1, .pointer (some ⟨b1, 0, none⟩)), (3, .slice A6 (List.length (y2)) c5)] ∧ Stp g w0 D0 [] w D2 [bx b1 32 (c_T_api_Bundle (x1) A2 c3 A5 c6), q1] ∧ Snap.le D5 D2 ∧ OwnD (kdInt .u8) 5 D2 A6 c5 (y2) q1 ∧ j1 y2 = some r) ?_ ?_
 ·clear hj1
  refine region_draw (fun j => RD D5 (plOf [] [b1] j)) (by kernel_rfl) ?_
  have hS := hS.drew
  first | generalize w.drew = w at hS ⊢ | generalize w0.drew = w at hS ⊢
  refine wF 2 4 19 0 4 0 hE fun a hE => ?_
  refine tD 3 12 (fuel := 18) (by kernel_rfl) hE (tk_load 0 (.bool (x1.fWhole)) rfl rfl rfl rfl hE rfl hS rfl rfl (by kernel_rfl) (fun _ h => h.1.at_ (List.Mem.head _)) (fun a hE => ?_))
  refine wF 5 44 17 1 27 1 hE fun a hE => ?_
  refine wF 6 108 16 0 3 1 hE fun a hE => ?_
  refine tD 7 236 (fuel := 15) (by kernel_rfl) hE (tk_load 0 (.int .i64 (x1.fPoint.fSize)) rfl rfl rfl rfl hE rfl hS rfl rfl (by kernel_rfl) (fun _ h => h.1.at_ (List.Mem.head _)) (fun a hE => ?_))
  refine wF 9 748 14 1 27 1 hE fun a hE => ?_
  refine wF 10 1772 13 1 24 2 hE fun a hE => ?_
  refine tD 11 3820 (fuel := 12) (by kernel_rfl) hE (tk_load 0 (.agg (List.toArray (acells .u8 32 (x1.fPoint.fRoot)))) rfl rfl rfl rfl hE rfl hS rfl rfl (by kernel_rfl) (fun _ h => h.1.at_ (List.Mem.head _)) (fun a hE => ?_))
  refine wF 13 12012 11 1 27 1 hE fun a hE => ?_
  refine wF 14 28396 10 33 25 34 hE fun a hE => ?_
  refine tD 15 61164 (fuel := 9) (by kernel_rfl) hE (tk_load 0 (.slice A2 (List.length (x1.fPoint.fSigs)) c3) rfl rfl rfl rfl hE rfl hS rfl rfl (by kernel_rfl) (fun _ h => h.1.at_ (List.Mem.head _)) (fun a hE => ?_))
  refine twoB (i := 0) (j := 4) (fuel := 8) (m1 := 61165) (m2 := 61180) (by kernel_rfl) (by kernel_rfl) (by kernel_rfl) ?_ ?_
  ·have hp_b4981 := hS.heapAt (j := 0) rfl
   refine (op_buildSlice (K := (kdInt .u8)) (e := 5) (cs := [.int .u8 ((105 : Int))] ++ ([.int .u8 ((110 : Int))] ++ ([.int .u8 ((115 : Int))] ++ ([.int .u8 ((112 : Int))] ++ [])))) ([(105 : Int), (110 : Int), (115 : Int), (112 : Int)] : List Int) rfl rfl rfl rfl hE rfl hS rfl (by kernel_rfl) rfl rfl (by exact ⟨_, _, rfl, rfl, ⟨_, _, rfl, rfl, ⟨_, _, rfl, rfl, ⟨_, _, rfl, rfl, rfl⟩⟩⟩⟩) (fun a A7 q22 w _ hE h3 hS => ?_))
   refine ⟨⟨show RP [b1] _ _ from ⟨(hS.heapAt (j := 1) rfl).trans hp_b4981.symm, trivial⟩, fun _ => hS.st.sees⟩, ?_⟩
   clear hp_b4981
   refine twoB (i := 1) (j := 4) (fuel := 7) (m1 := 61167) (m2 := 61181) (by kernel_rfl) (by kernel_rfl) (by kernel_rfl) ?_ ?_
   ·have hp_b4981 := hS.heapAt (j := 1) rfl
    refine (op_lit (T := 5) (l := ([(105 : Int), (110 : Int), (115 : Int), (112 : Int)] : List Int)) rfl rfl rfl rfl hE rfl hS rfl (by kernel_rfl) h3 (by kernel_rfl) (fun a D23 w _ le12 hE h12 hS => ?_))
    have h229 := OwnL.full 5 h12 rfl
    have hS := hS.nils
    refine ⟨⟨show RP [b1] _ _ from ⟨(hS.heapAt (j := 1) rfl).trans hp_b4981.symm, trivial⟩, fun _ => hS.st.sees.mono le12⟩, ?_⟩
    clear hp_b4981
    have hp_b4981 := hS.heapAt (j := 1) rfl
    obtain ⟨r11, h34, hf⟩ := bs hf
    refine oC 4 61183 6 rfl rfl rfl rfl hE rfl rfl rfl rfl (wire_Flag.calls h34 (hS.st.fore (L := [])) ) fun a v w hR hE => ?_
    obtain ⟨D24, A40, c36, q23, rfl, hS1, h35⟩ := hR
    have le13 := hS1.dle
    have hS := hS.callR hS1 rfl (.c .n)
    refine ⟨⟨show RP [b1] _ _ from ⟨(hS.heapAt (j := 2) rfl).trans hp_b4981.symm, trivial⟩, fun _ => hS.st.sees.mono (le2 le12 le13)⟩, ?_⟩
    clear hp_b4981
    have hp_b4981 := hS.heapAt (j := 2) rfl
    obtain ⟨r12, h36, hf⟩ := bs hf
    refine oC 8 61439 5 rfl rfl rfl rfl hE rfl rfl rfl rfl (wire_Num.calls h36 (hS.st.fore (L := [])) ) fun a v w hR hE => ?_
    obtain ⟨D25, A41, c37, q24, rfl, hS1, h37⟩ := hR
    have le14 := hS1.dle
    have hS := hS.callR hS1 rfl (.c .n)
    refine ⟨⟨show RP [b1] _ _ from ⟨(hS.heapAt (j := 3) rfl).trans hp_b4981.symm, trivial⟩, fun _ => hS.st.sees.mono (le2 (le2 le12 le13) le14)⟩, ?_⟩
    clear hp_b4981
    have hp_b4981 := hS.heapAt (j := 3) rfl
    obtain ⟨r13, h38, hf⟩ := bs hf
    refine oC 12 65535 4 rfl rfl rfl rfl hE rfl rfl rfl rfl (wire_Hash.calls h38 (hS.st.fore (L := [])) ) fun a v w hR hE => ?_
    obtain ⟨D26, A42, c38, q25, rfl, hS1, h39⟩ := hR
    have le15 := hS1.dle
    have hS := hS.callR hS1 rfl (.c .n)
    refine ⟨⟨show RP [b1] _ _ from ⟨(hS.heapAt (j := 4) rfl).trans hp_b4981.symm, trivial⟩, fun _ => hS.st.sees.mono (le2 (le2 (le2 le12 le13) le14) le15)⟩, ?_⟩
    clear hp_b4981
    have hp_b4981 := hS.heapAt (j := 4) rfl
    obtain ⟨r14, h40, hf⟩ := bs hf
    refine oC 16 131071 3 rfl rfl rfl rfl hE rfl rfl rfl rfl (bundle_list_api_Sig.calls h40 (hS.st.fore (L := [])) (h4.mono (le2 (le2 (le2 (le2 le11 le12) le13) le14) le15))) fun a v w hR hE => ?_
    obtain ⟨D27, A43, c39, q26, rfl, hS1, h41⟩ := hR
    have le37 := hS1.dle
    have hS := hS.callR hS1 rfl (.c .n)
    refine ⟨⟨show RP [b1] _ _ from ⟨(hS.heapAt (j := 5) rfl).trans hp_b4981.symm, trivial⟩, fun _ => hS.st.sees.mono (le2 (le2 (le2 (le2 le12 le13) le14) le15) le37)⟩, ?_⟩
    clear hp_b4981
    have hp_b4981 := hS.heapAt (j := 5) rfl
    have hS := hS.p (.d 3 (.d 0 (.d 1 (.d 2 (.d 4 (.d 5 .n))))))
    obtain ⟨D28, q27, le52, hS, h230, h42⟩ := hS.lent (h35.mono (le2 (le2 le14 le15) le37))
    have hS := hS.p (.d 3 (.d 0 (.d 1 (.d 2 (.d 4 (.d 5 .n))))))
    obtain ⟨D29, q28, le53, hS, h231, h43⟩ := hS.lent (h37.mono (le2 (le2 le15 le37) le52))
    have hS := hS.p (.d 3 (.d 0 (.d 1 (.d 2 (.d 4 (.d 5 .n))))))
    obtain ⟨D30, q29, le54, hS, h232, h44⟩ := hS.lent (h39.mono (le2 (le2 le37 le52) le53))
    have hS := hS.p (.d 3 (.d 0 (.d 1 (.d 2 (.d 4 (.d 5 .n))))))
    obtain ⟨D31, q30, le55, hS, h233, h45⟩ := hS.lent (h41.mono (le2 (le2 le52 le53) le54))
    refine oG 17 262143 (fuel := 2) (by kernel_rfl) (op_buildSlice (K := (kdSlice (kdInt .u8))) (e := 37) (cs := [.slice A7 (List.length (([(105 : Int), (110 : Int), (115 : Int), (112 : Int)] : List Int))) 4] ++ ([.slice A40 (List.length (r11)) c36] ++ ([.slice A41 (List.length (r12)) c37] ++ ([.slice A42 (List.length (r13)) c38] ++ ([.slice A43 (List.length (r14)) c39] ++ []))))) ([([(105 : Int), (110 : Int), (115 : Int), (112 : Int)] : List Int), r11, r12, r13, r14] : List (List Int)) rfl rfl rfl rfl hE rfl hS rfl (by kernel_rfl) rfl rfl (by exact ⟨_, _, rfl, (kslice (h12.mono (le2 (le2 (le2 (le2 (le2 (le2 (le2 le13 le14) le15) le37) le52) le53) le54) le55))), ⟨_, _, rfl, (kslice (h42.mono (le2 (le2 le53 le54) le55))), ⟨_, _, rfl, (kslice (h43.mono (le2 le54 le55))), ⟨_, _, rfl, (kslice (h44.mono le55)), ⟨_, _, rfl, (kslice h45), rfl⟩⟩⟩⟩⟩) (fun a A66 q31 w _ hE h46 hS => ?_))
    refine ⟨⟨show RP [b1] _ _ from ⟨(hS.heapAt (j := 6) rfl).trans hp_b4981.symm, trivial⟩, fun _ => hS.st.sees.mono (le2 (le2 (le2 (le2 (le2 (le2 (le2 (le2 le12 le13) le14) le15) le37) le52) le53) le54) le55)⟩, ?_⟩
    clear hp_b4981
    have hp_b4981 := hS.heapAt (j := 6) rfl
    obtain ⟨D32, q32, le113, hS, h234, h47⟩ := hS.lent h46
    obtain ⟨r15, h48, hf⟩ := bs hf
    refine oC 18 524287 1 rfl rfl rfl rfl hE rfl rfl rfl rfl (wire_All.calls h48 (hS.st.fore (L := [])) h47) fun a v w hR hE => ?_
    obtain ⟨D6, A20, c17, q5, rfl, hS1, h49⟩ := hR
    have le114 := hS1.dle
    have hS := hS.callR hS1 rfl (.c .n)
    refine ⟨⟨show RP [b1] _ _ from ⟨(hS.heapAt (j := 7) rfl).trans hp_b4981.symm, trivial⟩, fun _ => hS.st.sees.mono (le2 (le2 (le2 (le2 (le2 (le2 (le2 (le2 (le2 (le2 le12 le13) le14) le15) le37) le52) le53) le54) le55) le113) le114)⟩, ?_⟩
    clear hp_b4981
    refine wP 19 1048575 0 (.slice A20 (List.length (r15)) c17) hE fun a hE => ?_
    refine doneG (by kernel_rfl) ?_
    have hS := hS.p (.d 7 (.d 0 .n))
    exact ⟨r15, A20, c17, q5, D6, hE.wk, hS, (le2 (le2 (le2 (le2 (le2 (le2 (le2 (le2 (le2 (le2 le12 le13) le14) le15) le37) le52) le53) le54) le55) le113) le114), h49, hf⟩
   have hp_b4981 := hS.heapAt (j := 1) rfl
   obtain ⟨r3, h50, hf⟩ := bs hf
   refine (op_call rfl rfl rfl rfl hE rfl rfl rfl rfl (by kernel_rfl) (wire_Flag.calls h50 (hS.st.fore (L := [])) ) (fun a v w hR hE => ?_))
   obtain ⟨D33, A11, c10, q33, rfl, hS1, h5⟩ := hR
   have le4 := hS1.dle
   have hS := hS.callR hS1 rfl (.c .n)
   refine ⟨⟨show RP [b1] _ _ from ⟨(hS.heapAt (j := 2) rfl).trans hp_b4981.symm, trivial⟩, fun _ => hS.st.sees.mono le4⟩, ?_⟩
   clear hp_b4981
   refine twoB (i := 1) (j := 8) (fuel := 6) (m1 := 61183) (m2 := 61437) (by kernel_rfl) (by kernel_rfl) (by kernel_rfl) ?_ ?_
   ·have hp_b4981 := hS.heapAt (j := 2) rfl
    have hS := hS.p (.d 1 (.d 0 (.d 2 .n)))
    refine (op_lit (T := 5) (l := ([(105 : Int), (110 : Int), (115 : Int), (112 : Int)] : List Int)) rfl rfl rfl rfl hE rfl hS rfl (by kernel_rfl) (h3.mono le4) (by kernel_rfl) (fun a D34 w _ le16 hE h13 hS => ?_))
    have h235 := OwnL.full 5 h13 rfl
    have hS := hS.nils
    refine ⟨⟨show RP [b1] _ _ from ⟨(hS.heapAt (j := 2) rfl).trans hp_b4981.symm, trivial⟩, fun _ => hS.st.sees.mono (le2 le4 le16)⟩, ?_⟩
    clear hp_b4981
    have hp_b4981 := hS.heapAt (j := 2) rfl
    obtain ⟨r16, h51, hf⟩ := bs hf
    refine oC 8 61439 5 rfl rfl rfl rfl hE rfl rfl rfl rfl (wire_Num.calls h51 (hS.st.fore (L := [])) ) fun a v w hR hE => ?_
    obtain ⟨D35, A44, c40, q34, rfl, hS1, h52⟩ := hR
    have le17 := hS1.dle
    have hS := hS.callR hS1 rfl (.c .n)
    refine ⟨⟨show RP [b1] _ _ from ⟨(hS.heapAt (j := 3) rfl).trans hp_b4981.symm, trivial⟩, fun _ => hS.st.sees.mono (le2 (le2 le4 le16) le17)⟩, ?_⟩
    clear hp_b4981
    have hp_b4981 := hS.heapAt (j := 3) rfl
    obtain ⟨r17, h53, hf⟩ := bs hf
    refine oC 12 65535 4 rfl rfl rfl rfl hE rfl rfl rfl rfl (wire_Hash.calls h53 (hS.st.fore (L := [])) ) fun a v w hR hE => ?_
    obtain ⟨D36, A45, c41, q35, rfl, hS1, h54⟩ := hR
    have le18 := hS1.dle
    have hS := hS.callR hS1 rfl (.c .n)
    refine ⟨⟨show RP [b1] _ _ from ⟨(hS.heapAt (j := 4) rfl).trans hp_b4981.symm, trivial⟩, fun _ => hS.st.sees.mono (le2 (le2 (le2 le4 le16) le17) le18)⟩, ?_⟩
    clear hp_b4981
    have hp_b4981 := hS.heapAt (j := 4) rfl
    obtain ⟨r18, h55, hf⟩ := bs hf
    refine oC 16 131071 3 rfl rfl rfl rfl hE rfl rfl rfl rfl (bundle_list_api_Sig.calls h55 (hS.st.fore (L := [])) (h4.mono (le2 (le2 (le2 (le2 le11 le4) le16) le17) le18))) fun a v w hR hE => ?_
    obtain ⟨D37, A46, c42, q36, rfl, hS1, h56⟩ := hR
    have le38 := hS1.dle
    have hS := hS.callR hS1 rfl (.c .n)
    refine ⟨⟨show RP [b1] _ _ from ⟨(hS.heapAt (j := 5) rfl).trans hp_b4981.symm, trivial⟩, fun _ => hS.st.sees.mono (le2 (le2 (le2 (le2 le4 le16) le17) le18) le38)⟩, ?_⟩
    clear hp_b4981
    have hp_b4981 := hS.heapAt (j := 5) rfl
    have hS := hS.p (.d 4 (.d 0 (.d 1 (.d 2 (.d 3 (.d 5 .n))))))
    obtain ⟨D38, q37, le56, hS, h236, h57⟩ := hS.lent (h5.mono (le2 (le2 (le2 le16 le17) le18) le38))
    have hS := hS.p (.d 3 (.d 0 (.d 1 (.d 2 (.d 4 (.d 5 .n))))))
    obtain ⟨D39, q38, le57, hS, h237, h58⟩ := hS.lent (h52.mono (le2 (le2 le18 le38) le56))
    have hS := hS.p (.d 3 (.d 0 (.d 1 (.d 2 (.d 4 (.d 5 .n))))))
    obtain ⟨D40, q39, le58, hS, h238, h59⟩ := hS.lent (h54.mono (le2 (le2 le38 le56) le57))
    have hS := hS.p (.d 3 (.d 0 (.d 1 (.d 2 (.d 4 (.d 5 .n))))))
    obtain ⟨D41, q40, le59, hS, h239, h60⟩ := hS.lent (h56.mono (le2 (le2 le56 le57) le58))
    refine oG 17 262143 (fuel := 2) (by kernel_rfl) (op_buildSlice (K := (kdSlice (kdInt .u8))) (e := 37) (cs := [.slice A7 (List.length (([(105 : Int), (110 : Int), (115 : Int), (112 : Int)] : List Int))) 4] ++ ([.slice A11 (List.length (r3)) c10] ++ ([.slice A44 (List.length (r16)) c40] ++ ([.slice A45 (List.length (r17)) c41] ++ ([.slice A46 (List.length (r18)) c42] ++ []))))) ([([(105 : Int), (110 : Int), (115 : Int), (112 : Int)] : List Int), r3, r16, r17, r18] : List (List Int)) rfl rfl rfl rfl hE rfl hS rfl (by kernel_rfl) rfl rfl (by exact ⟨_, _, rfl, (kslice (h13.mono (le2 (le2 (le2 (le2 (le2 (le2 le17 le18) le38) le56) le57) le58) le59))), ⟨_, _, rfl, (kslice (h57.mono (le2 (le2 le57 le58) le59))), ⟨_, _, rfl, (kslice (h58.mono (le2 le58 le59))), ⟨_, _, rfl, (kslice (h59.mono le59)), ⟨_, _, rfl, (kslice h60), rfl⟩⟩⟩⟩⟩) (fun a A67 q41 w _ hE h61 hS => ?_))
    refine ⟨⟨show RP [b1] _ _ from ⟨(hS.heapAt (j := 6) rfl).trans hp_b4981.symm, trivial⟩, fun _ => hS.st.sees.mono (le2 (le2 (le2 (le2 (le2 (le2 (le2 (le2 le4 le16) le17) le18) le38) le56) le57) le58) le59)⟩, ?_⟩
    clear hp_b4981
    have hp_b4981 := hS.heapAt (j := 6) rfl
    obtain ⟨D42, q42, le115, hS, h240, h62⟩ := hS.lent h61
    obtain ⟨r19, h63, hf⟩ := bs hf
    refine oC 18 524287 1 rfl rfl rfl rfl hE rfl rfl rfl rfl (wire_All.calls h63 (hS.st.fore (L := [])) h62) fun a v w hR hE => ?_
    obtain ⟨D7, A21, c18, q6, rfl, hS1, h64⟩ := hR
    have le116 := hS1.dle
    have hS := hS.callR hS1 rfl (.c .n)
    refine ⟨⟨show RP [b1] _ _ from ⟨(hS.heapAt (j := 7) rfl).trans hp_b4981.symm, trivial⟩, fun _ => hS.st.sees.mono (le2 (le2 (le2 (le2 (le2 (le2 (le2 (le2 (le2 (le2 le4 le16) le17) le18) le38) le56) le57) le58) le59) le115) le116)⟩, ?_⟩
    clear hp_b4981
    refine wP 19 1048575 0 (.slice A21 (List.length (r19)) c18) hE fun a hE => ?_
    refine doneG (by kernel_rfl) ?_
    have hS := hS.p (.d 7 (.d 0 .n))
    exact ⟨r19, A21, c18, q6, D7, hE.wk, hS, (le2 (le2 (le2 (le2 (le2 (le2 (le2 (le2 (le2 (le2 le4 le16) le17) le18) le38) le56) le57) le58) le59) le115) le116), h64, hf⟩
   have hp_b4981 := hS.heapAt (j := 2) rfl
   obtain ⟨r4, h65, hf⟩ := bs hf
   refine (op_call rfl rfl rfl rfl hE rfl rfl rfl rfl (by kernel_rfl) (wire_Num.calls h65 (hS.st.fore (L := [])) ) (fun a v w hR hE => ?_))
   obtain ⟨D43, A14, c12, q43, rfl, hS1, h8⟩ := hR
   have le5 := hS1.dle
   have hS := hS.callR hS1 rfl (.c .n)
   refine ⟨⟨show RP [b1] _ _ from ⟨(hS.heapAt (j := 3) rfl).trans hp_b4981.symm, trivial⟩, fun _ => hS.st.sees.mono (le2 le4 le5)⟩, ?_⟩
   clear hp_b4981
   refine twoB (i := 1) (j := 12) (fuel := 5) (m1 := 61439) (m2 := 65533) (by kernel_rfl) (by kernel_rfl) (by kernel_rfl) ?_ ?_
   ·have hp_b4981 := hS.heapAt (j := 3) rfl
    have hS := hS.p (.d 2 (.d 0 (.d 1 (.d 3 .n))))
    refine (op_lit (T := 5) (l := ([(105 : Int), (110 : Int), (115 : Int), (112 : Int)] : List Int)) rfl rfl rfl rfl hE rfl hS rfl (by kernel_rfl) (h3.mono (le2 le4 le5)) (by kernel_rfl) (fun a D44 w _ le19 hE h14 hS => ?_))
    have h241 := OwnL.full 5 h14 rfl
    have hS := hS.nils
    refine ⟨⟨show RP [b1] _ _ from ⟨(hS.heapAt (j := 3) rfl).trans hp_b4981.symm, trivial⟩, fun _ => hS.st.sees.mono (le2 (le2 le4 le5) le19)⟩, ?_⟩
    clear hp_b4981
    have hp_b4981 := hS.heapAt (j := 3) rfl
    obtain ⟨r20, h66, hf⟩ := bs hf
    refine oC 12 65535 4 rfl rfl rfl rfl hE rfl rfl rfl rfl (wire_Hash.calls h66 (hS.st.fore (L := [])) ) fun a v w hR hE => ?_
    obtain ⟨D45, A47, c43, q44, rfl, hS1, h67⟩ := hR
    have le20 := hS1.dle
    have hS := hS.callR hS1 rfl (.c .n)
    refine ⟨⟨show RP [b1] _ _ from ⟨(hS.heapAt (j := 4) rfl).trans hp_b4981.symm, trivial⟩, fun _ => hS.st.sees.mono (le2 (le2 (le2 le4 le5) le19) le20)⟩, ?_⟩
    clear hp_b4981
    have hp_b4981 := hS.heapAt (j := 4) rfl
    obtain ⟨r21, h68, hf⟩ := bs hf
    refine oC 16 131071 3 rfl rfl rfl rfl hE rfl rfl rfl rfl (bundle_list_api_Sig.calls h68 (hS.st.fore (L := [])) (h4.mono (le2 (le2 (le2 (le2 le11 le4) le5) le19) le20))) fun a v w hR hE => ?_
    obtain ⟨D46, A48, c44, q45, rfl, hS1, h69⟩ := hR
    have le39 := hS1.dle
    have hS := hS.callR hS1 rfl (.c .n)
    refine ⟨⟨show RP [b1] _ _ from ⟨(hS.heapAt (j := 5) rfl).trans hp_b4981.symm, trivial⟩, fun _ => hS.st.sees.mono (le2 (le2 (le2 (le2 le4 le5) le19) le20) le39)⟩, ?_⟩
    clear hp_b4981
    have hp_b4981 := hS.heapAt (j := 5) rfl
    have hS := hS.p (.d 4 (.d 0 (.d 1 (.d 2 (.d 3 (.d 5 .n))))))
    obtain ⟨D47, q46, le60, hS, h242, h70⟩ := hS.lent (h5.mono (le2 (le2 (le2 le5 le19) le20) le39))
    have hS := hS.p (.d 4 (.d 0 (.d 1 (.d 2 (.d 3 (.d 5 .n))))))
    obtain ⟨D48, q47, le61, hS, h243, h71⟩ := hS.lent (h8.mono (le2 (le2 (le2 le19 le20) le39) le60))
    have hS := hS.p (.d 3 (.d 0 (.d 1 (.d 2 (.d 4 (.d 5 .n))))))
    obtain ⟨D49, q48, le62, hS, h244, h72⟩ := hS.lent (h67.mono (le2 (le2 le39 le60) le61))
    have hS := hS.p (.d 3 (.d 0 (.d 1 (.d 2 (.d 4 (.d 5 .n))))))
    obtain ⟨D50, q49, le63, hS, h245, h73⟩ := hS.lent (h69.mono (le2 (le2 le60 le61) le62))
    refine oG 17 262143 (fuel := 2) (by kernel_rfl) (op_buildSlice (K := (kdSlice (kdInt .u8))) (e := 37) (cs := [.slice A7 (List.length (([(105 : Int), (110 : Int), (115 : Int), (112 : Int)] : List Int))) 4] ++ ([.slice A11 (List.length (r3)) c10] ++ ([.slice A14 (List.length (r4)) c12] ++ ([.slice A47 (List.length (r20)) c43] ++ ([.slice A48 (List.length (r21)) c44] ++ []))))) ([([(105 : Int), (110 : Int), (115 : Int), (112 : Int)] : List Int), r3, r4, r20, r21] : List (List Int)) rfl rfl rfl rfl hE rfl hS rfl (by kernel_rfl) rfl rfl (by exact ⟨_, _, rfl, (kslice (h14.mono (le2 (le2 (le2 (le2 (le2 le20 le39) le60) le61) le62) le63))), ⟨_, _, rfl, (kslice (h70.mono (le2 (le2 le61 le62) le63))), ⟨_, _, rfl, (kslice (h71.mono (le2 le62 le63))), ⟨_, _, rfl, (kslice (h72.mono le63)), ⟨_, _, rfl, (kslice h73), rfl⟩⟩⟩⟩⟩) (fun a A68 q50 w _ hE h74 hS => ?_))
    refine ⟨⟨show RP [b1] _ _ from ⟨(hS.heapAt (j := 6) rfl).trans hp_b4981.symm, trivial⟩, fun _ => hS.st.sees.mono (le2 (le2 (le2 (le2 (le2 (le2 (le2 (le2 le4 le5) le19) le20) le39) le60) le61) le62) le63)⟩, ?_⟩
    clear hp_b4981
    have hp_b4981 := hS.heapAt (j := 6) rfl
    obtain ⟨D51, q51, le117, hS, h246, h75⟩ := hS.lent h74
    obtain ⟨r22, h76, hf⟩ := bs hf
    refine oC 18 524287 1 rfl rfl rfl rfl hE rfl rfl rfl rfl (wire_All.calls h76 (hS.st.fore (L := [])) h75) fun a v w hR hE => ?_
    obtain ⟨D8, A22, c19, q7, rfl, hS1, h77⟩ := hR
    have le118 := hS1.dle
    have hS := hS.callR hS1 rfl (.c .n)
    refine ⟨⟨show RP [b1] _ _ from ⟨(hS.heapAt (j := 7) rfl).trans hp_b4981.symm, trivial⟩, fun _ => hS.st.sees.mono (le2 (le2 (le2 (le2 (le2 (le2 (le2 (le2 (le2 (le2 le4 le5) le19) le20) le39) le60) le61) le62) le63) le117) le118)⟩, ?_⟩
    clear hp_b4981
    refine wP 19 1048575 0 (.slice A22 (List.length (r22)) c19) hE fun a hE => ?_
    refine doneG (by kernel_rfl) ?_
    have hS := hS.p (.d 7 (.d 0 .n))
    exact ⟨r22, A22, c19, q7, D8, hE.wk, hS, (le2 (le2 (le2 (le2 (le2 (le2 (le2 (le2 (le2 (le2 le4 le5) le19) le20) le39) le60) le61) le62) le63) le117) le118), h77, hf⟩
   have hp_b4981 := hS.heapAt (j := 3) rfl
   obtain ⟨r7, h78, hf⟩ := bs hf
   refine (op_call rfl rfl rfl rfl hE rfl rfl rfl rfl (by kernel_rfl) (wire_Hash.calls h78 (hS.st.fore (L := [])) ) (fun a v w hR hE => ?_))
   obtain ⟨D52, A23, c20, q52, rfl, hS1, h15⟩ := hR
   have le8 := hS1.dle
   have hS := hS.callR hS1 rfl (.c .n)
   refine ⟨⟨show RP [b1] _ _ from ⟨(hS.heapAt (j := 4) rfl).trans hp_b4981.symm, trivial⟩, fun _ => hS.st.sees.mono (le2 (le2 le4 le5) le8)⟩, ?_⟩
   clear hp_b4981
   refine twoB (i := 1) (j := 16) (fuel := 4) (m1 := 65535) (m2 := 131069) (by kernel_rfl) (by kernel_rfl) (by kernel_rfl) ?_ ?_
   ·have hp_b4981 := hS.heapAt (j := 4) rfl
    have hS := hS.p (.d 3 (.d 0 (.d 1 (.d 2 (.d 4 .n)))))
    refine (op_lit (T := 5) (l := ([(105 : Int), (110 : Int), (115 : Int), (112 : Int)] : List Int)) rfl rfl rfl rfl hE rfl hS rfl (by kernel_rfl) (h3.mono (le2 (le2 le4 le5) le8)) (by kernel_rfl) (fun a D53 w _ le21 hE h16 hS => ?_))
    have h247 := OwnL.full 5 h16 rfl
    have hS := hS.nils
    refine ⟨⟨show RP [b1] _ _ from ⟨(hS.heapAt (j := 4) rfl).trans hp_b4981.symm, trivial⟩, fun _ => hS.st.sees.mono (le2 (le2 (le2 le4 le5) le8) le21)⟩, ?_⟩
    clear hp_b4981
    have hp_b4981 := hS.heapAt (j := 4) rfl
    obtain ⟨r23, h79, hf⟩ := bs hf
    refine oC 16 131071 3 rfl rfl rfl rfl hE rfl rfl rfl rfl (bundle_list_api_Sig.calls h79 (hS.st.fore (L := [])) (h4.mono (le2 (le2 (le2 (le2 le11 le4) le5) le8) le21))) fun a v w hR hE => ?_
    obtain ⟨D54, A49, c45, q53, rfl, hS1, h80⟩ := hR
    have le40 := hS1.dle
    have hS := hS.callR hS1 rfl (.c .n)
    refine ⟨⟨show RP [b1] _ _ from ⟨(hS.heapAt (j := 5) rfl).trans hp_b4981.symm, trivial⟩, fun _ => hS.st.sees.mono (le2 (le2 (le2 (le2 le4 le5) le8) le21) le40)⟩, ?_⟩
    clear hp_b4981
    have hp_b4981 := hS.heapAt (j := 5) rfl
    have hS := hS.p (.d 4 (.d 0 (.d 1 (.d 2 (.d 3 (.d 5 .n))))))
    obtain ⟨D55, q54, le64, hS, h248, h81⟩ := hS.lent (h5.mono (le2 (le2 (le2 le5 le8) le21) le40))
    have hS := hS.p (.d 4 (.d 0 (.d 1 (.d 2 (.d 3 (.d 5 .n))))))
    obtain ⟨D56, q55, le65, hS, h249, h82⟩ := hS.lent (h8.mono (le2 (le2 (le2 le8 le21) le40) le64))
    have hS := hS.p (.d 4 (.d 0 (.d 1 (.d 2 (.d 3 (.d 5 .n))))))
    obtain ⟨D57, q56, le66, hS, h250, h83⟩ := hS.lent (h15.mono (le2 (le2 (le2 le21 le40) le64) le65))
    have hS := hS.p (.d 3 (.d 0 (.d 1 (.d 2 (.d 4 (.d 5 .n))))))
    obtain ⟨D58, q57, le67, hS, h251, h84⟩ := hS.lent (h80.mono (le2 (le2 le64 le65) le66))
    refine oG 17 262143 (fuel := 2) (by kernel_rfl) (op_buildSlice (K := (kdSlice (kdInt .u8))) (e := 37) (cs := [.slice A7 (List.length (([(105 : Int), (110 : Int), (115 : Int), (112 : Int)] : List Int))) 4] ++ ([.slice A11 (List.length (r3)) c10] ++ ([.slice A14 (List.length (r4)) c12] ++ ([.slice A23 (List.length (r7)) c20] ++ ([.slice A49 (List.length (r23)) c45] ++ []))))) ([([(105 : Int), (110 : Int), (115 : Int), (112 : Int)] : List Int), r3, r4, r7, r23] : List (List Int)) rfl rfl rfl rfl hE rfl hS rfl (by kernel_rfl) rfl rfl (by exact ⟨_, _, rfl, (kslice (h16.mono (le2 (le2 (le2 (le2 le40 le64) le65) le66) le67))), ⟨_, _, rfl, (kslice (h81.mono (le2 (le2 le65 le66) le67))), ⟨_, _, rfl, (kslice (h82.mono (le2 le66 le67))), ⟨_, _, rfl, (kslice (h83.mono le67)), ⟨_, _, rfl, (kslice h84), rfl⟩⟩⟩⟩⟩) (fun a A69 q58 w _ hE h85 hS => ?_))
    refine ⟨⟨show RP [b1] _ _ from ⟨(hS.heapAt (j := 6) rfl).trans hp_b4981.symm, trivial⟩, fun _ => hS.st.sees.mono (le2 (le2 (le2 (le2 (le2 (le2 (le2 (le2 le4 le5) le8) le21) le40) le64) le65) le66) le67)⟩, ?_⟩
    clear hp_b4981
    have hp_b4981 := hS.heapAt (j := 6) rfl
    obtain ⟨D59, q59, le119, hS, h252, h86⟩ := hS.lent h85
    obtain ⟨r24, h87, hf⟩ := bs hf
    refine oC 18 524287 1 rfl rfl rfl rfl hE rfl rfl rfl rfl (wire_All.calls h87 (hS.st.fore (L := [])) h86) fun a v w hR hE => ?_
    obtain ⟨D9, A24, c21, q8, rfl, hS1, h88⟩ := hR
    have le120 := hS1.dle
    have hS := hS.callR hS1 rfl (.c .n)
    refine ⟨⟨show RP [b1] _ _ from ⟨(hS.heapAt (j := 7) rfl).trans hp_b4981.symm, trivial⟩, fun _ => hS.st.sees.mono (le2 (le2 (le2 (le2 (le2 (le2 (le2 (le2 (le2 (le2 le4 le5) le8) le21) le40) le64) le65) le66) le67) le119) le120)⟩, ?_⟩
    clear hp_b4981
    refine wP 19 1048575 0 (.slice A24 (List.length (r24)) c21) hE fun a hE => ?_
    refine doneG (by kernel_rfl) ?_
    have hS := hS.p (.d 7 (.d 0 .n))
    exact ⟨r24, A24, c21, q8, D9, hE.wk, hS, (le2 (le2 (le2 (le2 (le2 (le2 (le2 (le2 (le2 (le2 le4 le5) le8) le21) le40) le64) le65) le66) le67) le119) le120), h88, hf⟩
   have hp_b4981 := hS.heapAt (j := 4) rfl
   obtain ⟨r25, h89, hf⟩ := bs hf
   refine (op_call rfl rfl rfl rfl hE rfl rfl rfl rfl (by kernel_rfl) (bundle_list_api_Sig.calls h89 (hS.st.fore (L := [])) (h4.mono (le2 (le2 (le2 le11 le4) le5) le8))) (fun a v w hR hE => ?_))
   obtain ⟨D60, A50, c46, q60, rfl, hS1, h90⟩ := hR
   have le22 := hS1.dle
   have hS := hS.callR hS1 rfl (.c .n)
   refine ⟨⟨show RP [b1] _ _ from ⟨(hS.heapAt (j := 5) rfl).trans hp_b4981.symm, trivial⟩, fun _ => hS.st.sees.mono (le2 (le2 (le2 le4 le5) le8) le22)⟩, ?_⟩
   clear hp_b4981
   have hp_b4981 := hS.heapAt (j := 5) rfl
   have hS := hS.p (.d 4 (.d 0 (.d 1 (.d 2 (.d 3 (.d 5 .n))))))
   refine oG 1 131071 (fuel := 3) (by kernel_rfl) (op_lit (T := 5) (l := ([(105 : Int), (110 : Int), (115 : Int), (112 : Int)] : List Int)) rfl rfl rfl rfl hE rfl hS rfl (by kernel_rfl) (h3.mono (le2 (le2 (le2 le4 le5) le8) le22)) (by kernel_rfl) (fun a D61 w _ le41 hE h17 hS => ?_))
   have h253 := OwnL.full 5 h17 rfl
   have hS := hS.nils
   refine ⟨⟨show RP [b1] _ _ from ⟨(hS.heapAt (j := 5) rfl).trans hp_b4981.symm, trivial⟩, fun _ => hS.st.sees.mono (le2 (le2 (le2 (le2 le4 le5) le8) le22) le41)⟩, ?_⟩
   clear hp_b4981
   have hp_b4981 := hS.heapAt (j := 5) rfl
   have hS := hS.p (.d 4 (.d 0 (.d 1 (.d 2 (.d 3 (.d 5 .n))))))
   obtain ⟨D62, q61, le68, hS, h254, h91⟩ := hS.lent (h5.mono (le2 (le2 (le2 le5 le8) le22) le41))
   have hS := hS.p (.d 4 (.d 0 (.d 1 (.d 2 (.d 3 (.d 5 .n))))))
   obtain ⟨D63, q62, le69, hS, h255, h92⟩ := hS.lent (h8.mono (le2 (le2 (le2 le8 le22) le41) le68))
   have hS := hS.p (.d 4 (.d 0 (.d 1 (.d 2 (.d 3 (.d 5 .n))))))
   obtain ⟨D64, q63, le70, hS, h256, h93⟩ := hS.lent (h15.mono (le2 (le2 (le2 le22 le41) le68) le69))
   have hS := hS.p (.d 4 (.d 0 (.d 1 (.d 2 (.d 3 (.d 5 .n))))))
   obtain ⟨D65, q64, le71, hS, h257, h94⟩ := hS.lent (h90.mono (le2 (le2 (le2 le41 le68) le69) le70))
   refine oG 17 262143 (fuel := 2) (by kernel_rfl) (op_buildSlice (K := (kdSlice (kdInt .u8))) (e := 37) (cs := [.slice A7 (List.length (([(105 : Int), (110 : Int), (115 : Int), (112 : Int)] : List Int))) 4] ++ ([.slice A11 (List.length (r3)) c10] ++ ([.slice A14 (List.length (r4)) c12] ++ ([.slice A23 (List.length (r7)) c20] ++ ([.slice A50 (List.length (r25)) c46] ++ []))))) ([([(105 : Int), (110 : Int), (115 : Int), (112 : Int)] : List Int), r3, r4, r7, r25] : List (List Int)) rfl rfl rfl rfl hE rfl hS rfl (by kernel_rfl) rfl rfl (by exact ⟨_, _, rfl, (kslice (h17.mono (le2 (le2 (le2 le68 le69) le70) le71))), ⟨_, _, rfl, (kslice (h91.mono (le2 (le2 le69 le70) le71))), ⟨_, _, rfl, (kslice (h92.mono (le2 le70 le71))), ⟨_, _, rfl, (kslice (h93.mono le71)), ⟨_, _, rfl, (kslice h94), rfl⟩⟩⟩⟩⟩) (fun a A70 q65 w _ hE h95 hS => ?_))
   refine ⟨⟨show RP [b1] _ _ from ⟨(hS.heapAt (j := 6) rfl).trans hp_b4981.symm, trivial⟩, fun _ => hS.st.sees.mono (le2 (le2 (le2 (le2 (le2 (le2 (le2 (le2 le4 le5) le8) le22) le41) le68) le69) le70) le71)⟩, ?_⟩
   clear hp_b4981
   have hp_b4981 := hS.heapAt (j := 6) rfl
   obtain ⟨D66, q66, le121, hS, h258, h96⟩ := hS.lent h95
   obtain ⟨r26, h97, hf⟩ := bs hf
   refine oC 18 524287 1 rfl rfl rfl rfl hE rfl rfl rfl rfl (wire_All.calls h97 (hS.st.fore (L := [])) h96) fun a v w hR hE => ?_
   obtain ⟨D10, A25, c22, q9, rfl, hS1, h98⟩ := hR
   have le122 := hS1.dle
   have hS := hS.callR hS1 rfl (.c .n)
   refine ⟨⟨show RP [b1] _ _ from ⟨(hS.heapAt (j := 7) rfl).trans hp_b4981.symm, trivial⟩, fun _ => hS.st.sees.mono (le2 (le2 (le2 (le2 (le2 (le2 (le2 (le2 (le2 (le2 le4 le5) le8) le22) le41) le68) le69) le70) le71) le121) le122)⟩, ?_⟩
   clear hp_b4981
   refine wP 19 1048575 0 (.slice A25 (List.length (r26)) c22) hE fun a hE => ?_
   refine doneG (by kernel_rfl) ?_
   have hS := hS.p (.d 7 (.d 0 .n))
   exact ⟨r26, A25, c22, q9, D10, hE.wk, hS, (le2 (le2 (le2 (le2 (le2 (le2 (le2 (le2 (le2 (le2 le4 le5) le8) le22) le41) le68) le69) le70) le71) le121) le122), h98, hf⟩
  have hp_b4981 := hS.heapAt (j := 0) rfl
  obtain ⟨r1, h99, hf⟩ := bs hf
  refine (op_call rfl rfl rfl rfl hE rfl rfl rfl rfl (by kernel_rfl) (wire_Flag.calls h99 (hS.st.fore (L := [])) ) (fun a v w hR hE => ?_))
  obtain ⟨D67, A1, c1, q67, rfl, hS1, h1⟩ := hR
  have le1 := hS1.dle
  have hS := hS.callR hS1 rfl (.c .n)
  refine ⟨⟨show RP [b1] _ _ from ⟨(hS.heapAt (j := 1) rfl).trans hp_b4981.symm, trivial⟩, fun _ => hS.st.sees.mono le1⟩, ?_⟩
  clear hp_b4981
  refine twoB (i := 0) (j := 8) (fuel := 7) (m1 := 61181) (m2 := 61436) (by kernel_rfl) (by kernel_rfl) (by kernel_rfl) ?_ ?_
  ·have hp_b4981 := hS.heapAt (j := 1) rfl
   refine (op_buildSlice (K := (kdInt .u8)) (e := 5) (cs := [.int .u8 ((105 : Int))] ++ ([.int .u8 ((110 : Int))] ++ ([.int .u8 ((115 : Int))] ++ ([.int .u8 ((112 : Int))] ++ [])))) ([(105 : Int), (110 : Int), (115 : Int), (112 : Int)] : List Int) rfl rfl rfl rfl hE rfl hS rfl (by kernel_rfl) rfl rfl (by exact ⟨_, _, rfl, rfl, ⟨_, _, rfl, rfl, ⟨_, _, rfl, rfl, ⟨_, _, rfl, rfl, rfl⟩⟩⟩⟩) (fun a A12 q68 w _ hE h6 hS => ?_))
   refine ⟨⟨show RP [b1] _ _ from ⟨(hS.heapAt (j := 2) rfl).trans hp_b4981.symm, trivial⟩, fun _ => hS.st.sees.mono le1⟩, ?_⟩
   clear hp_b4981
   refine twoB (i := 1) (j := 8) (fuel := 6) (m1 := 61183) (m2 := 61437) (by kernel_rfl) (by kernel_rfl) (by kernel_rfl) ?_ ?_
   ·have hp_b4981 := hS.heapAt (j := 2) rfl
    refine (op_lit (T := 5) (l := ([(105 : Int), (110 : Int), (115 : Int), (112 : Int)] : List Int)) rfl rfl rfl rfl hE rfl hS rfl (by kernel_rfl) h6 (by kernel_rfl) (fun a D68 w _ le23 hE h18 hS => ?_))
    have h259 := OwnL.full 5 h18 rfl
    have hS := hS.nils
    refine ⟨⟨show RP [b1] _ _ from ⟨(hS.heapAt (j := 2) rfl).trans hp_b4981.symm, trivial⟩, fun _ => hS.st.sees.mono (le2 le1 le23)⟩, ?_⟩
    clear hp_b4981
    have hp_b4981 := hS.heapAt (j := 2) rfl
    obtain ⟨r27, h100, hf⟩ := bs hf
    refine oC 8 61439 5 rfl rfl rfl rfl hE rfl rfl rfl rfl (wire_Num.calls h100 (hS.st.fore (L := [])) ) fun a v w hR hE => ?_
    obtain ⟨D69, A51, c47, q69, rfl, hS1, h101⟩ := hR
    have le24 := hS1.dle
    have hS := hS.callR hS1 rfl (.c .n)
    refine ⟨⟨show RP [b1] _ _ from ⟨(hS.heapAt (j := 3) rfl).trans hp_b4981.symm, trivial⟩, fun _ => hS.st.sees.mono (le2 (le2 le1 le23) le24)⟩, ?_⟩
    clear hp_b4981
    have hp_b4981 := hS.heapAt (j := 3) rfl
    obtain ⟨r28, h102, hf⟩ := bs hf
    refine oC 12 65535 4 rfl rfl rfl rfl hE rfl rfl rfl rfl (wire_Hash.calls h102 (hS.st.fore (L := [])) ) fun a v w hR hE => ?_
    obtain ⟨D70, A52, c48, q70, rfl, hS1, h103⟩ := hR
    have le25 := hS1.dle
    have hS := hS.callR hS1 rfl (.c .n)
    refine ⟨⟨show RP [b1] _ _ from ⟨(hS.heapAt (j := 4) rfl).trans hp_b4981.symm, trivial⟩, fun _ => hS.st.sees.mono (le2 (le2 (le2 le1 le23) le24) le25)⟩, ?_⟩
    clear hp_b4981
    have hp_b4981 := hS.heapAt (j := 4) rfl
    obtain ⟨r29, h104, hf⟩ := bs hf
    refine oC 16 131071 3 rfl rfl rfl rfl hE rfl rfl rfl rfl (bundle_list_api_Sig.calls h104 (hS.st.fore (L := [])) (h4.mono (le2 (le2 (le2 (le2 le11 le1) le23) le24) le25))) fun a v w hR hE => ?_
    obtain ⟨D71, A53, c49, q71, rfl, hS1, h105⟩ := hR
    have le42 := hS1.dle
    have hS := hS.callR hS1 rfl (.c .n)
    refine ⟨⟨show RP [b1] _ _ from ⟨(hS.heapAt (j := 5) rfl).trans hp_b4981.symm, trivial⟩, fun _ => hS.st.sees.mono (le2 (le2 (le2 (le2 le1 le23) le24) le25) le42)⟩, ?_⟩
    clear hp_b4981
    have hp_b4981 := hS.heapAt (j := 5) rfl
    have hS := hS.p (.d 4 (.d 0 (.d 1 (.d 2 (.d 3 (.d 5 .n))))))
    obtain ⟨D72, q72, le72, hS, h260, h106⟩ := hS.lent (h1.mono (le2 (le2 (le2 le23 le24) le25) le42))
    have hS := hS.p (.d 3 (.d 0 (.d 1 (.d 2 (.d 4 (.d 5 .n))))))
    obtain ⟨D73, q73, le73, hS, h261, h107⟩ := hS.lent (h101.mono (le2 (le2 le25 le42) le72))
    have hS := hS.p (.d 3 (.d 0 (.d 1 (.d 2 (.d 4 (.d 5 .n))))))
    obtain ⟨D74, q74, le74, hS, h262, h108⟩ := hS.lent (h103.mono (le2 (le2 le42 le72) le73))
    have hS := hS.p (.d 3 (.d 0 (.d 1 (.d 2 (.d 4 (.d 5 .n))))))
    obtain ⟨D75, q75, le75, hS, h263, h109⟩ := hS.lent (h105.mono (le2 (le2 le72 le73) le74))
    refine oG 17 262143 (fuel := 2) (by kernel_rfl) (op_buildSlice (K := (kdSlice (kdInt .u8))) (e := 37) (cs := [.slice A12 (List.length (([(105 : Int), (110 : Int), (115 : Int), (112 : Int)] : List Int))) 4] ++ ([.slice A1 (List.length (r1)) c1] ++ ([.slice A51 (List.length (r27)) c47] ++ ([.slice A52 (List.length (r28)) c48] ++ ([.slice A53 (List.length (r29)) c49] ++ []))))) ([([(105 : Int), (110 : Int), (115 : Int), (112 : Int)] : List Int), r1, r27, r28, r29] : List (List Int)) rfl rfl rfl rfl hE rfl hS rfl (by kernel_rfl) rfl rfl (by exact ⟨_, _, rfl, (kslice (h18.mono (le2 (le2 (le2 (le2 (le2 (le2 le24 le25) le42) le72) le73) le74) le75))), ⟨_, _, rfl, (kslice (h106.mono (le2 (le2 le73 le74) le75))), ⟨_, _, rfl, (kslice (h107.mono (le2 le74 le75))), ⟨_, _, rfl, (kslice (h108.mono le75)), ⟨_, _, rfl, (kslice h109), rfl⟩⟩⟩⟩⟩) (fun a A71 q76 w _ hE h110 hS => ?_))
    refine ⟨⟨show RP [b1] _ _ from ⟨(hS.heapAt (j := 6) rfl).trans hp_b4981.symm, trivial⟩, fun _ => hS.st.sees.mono (le2 (le2 (le2 (le2 (le2 (le2 (le2 (le2 le1 le23) le24) le25) le42) le72) le73) le74) le75)⟩, ?_⟩
    clear hp_b4981
    have hp_b4981 := hS.heapAt (j := 6) rfl
    obtain ⟨D76, q77, le123, hS, h264, h111⟩ := hS.lent h110
    obtain ⟨r30, h112, hf⟩ := bs hf
    refine oC 18 524287 1 rfl rfl rfl rfl hE rfl rfl rfl rfl (wire_All.calls h112 (hS.st.fore (L := [])) h111) fun a v w hR hE => ?_
    obtain ⟨D11, A26, c23, q10, rfl, hS1, h113⟩ := hR
    have le124 := hS1.dle
    have hS := hS.callR hS1 rfl (.c .n)
    refine ⟨⟨show RP [b1] _ _ from ⟨(hS.heapAt (j := 7) rfl).trans hp_b4981.symm, trivial⟩, fun _ => hS.st.sees.mono (le2 (le2 (le2 (le2 (le2 (le2 (le2 (le2 (le2 (le2 le1 le23) le24) le25) le42) le72) le73) le74) le75) le123) le124)⟩, ?_⟩
    clear hp_b4981
    refine wP 19 1048575 0 (.slice A26 (List.length (r30)) c23) hE fun a hE => ?_
    refine doneG (by kernel_rfl) ?_
    have hS := hS.p (.d 7 (.d 0 .n))
    exact ⟨r30, A26, c23, q10, D11, hE.wk, hS, (le2 (le2 (le2 (le2 (le2 (le2 (le2 (le2 (le2 (le2 le1 le23) le24) le25) le42) le72) le73) le74) le75) le123) le124), h113, hf⟩
   have hp_b4981 := hS.heapAt (j := 2) rfl
   obtain ⟨r5, h114, hf⟩ := bs hf
   refine (op_call rfl rfl rfl rfl hE rfl rfl rfl rfl (by kernel_rfl) (wire_Num.calls h114 (hS.st.fore (L := [])) ) (fun a v w hR hE => ?_))
   obtain ⟨D77, A15, c13, q78, rfl, hS1, h9⟩ := hR
   have le6 := hS1.dle
   have hS := hS.callR hS1 rfl (.c .n)
   refine ⟨⟨show RP [b1] _ _ from ⟨(hS.heapAt (j := 3) rfl).trans hp_b4981.symm, trivial⟩, fun _ => hS.st.sees.mono (le2 le1 le6)⟩, ?_⟩
   clear hp_b4981
   refine twoB (i := 1) (j := 12) (fuel := 5) (m1 := 61439) (m2 := 65533) (by kernel_rfl) (by kernel_rfl) (by kernel_rfl) ?_ ?_
   ·have hp_b4981 := hS.heapAt (j := 3) rfl
    have hS := hS.p (.d 1 (.d 0 (.d 2 (.d 3 .n))))
    refine (op_lit (T := 5) (l := ([(105 : Int), (110 : Int), (115 : Int), (112 : Int)] : List Int)) rfl rfl rfl rfl hE rfl hS rfl (by kernel_rfl) (h6.mono le6) (by kernel_rfl) (fun a D78 w _ le26 hE h19 hS => ?_))
    have h265 := OwnL.full 5 h19 rfl
    have hS := hS.nils
    refine ⟨⟨show RP [b1] _ _ from ⟨(hS.heapAt (j := 3) rfl).trans hp_b4981.symm, trivial⟩, fun _ => hS.st.sees.mono (le2 (le2 le1 le6) le26)⟩, ?_⟩
    clear hp_b4981
    have hp_b4981 := hS.heapAt (j := 3) rfl
    obtain ⟨r31, h115, hf⟩ := bs hf
    refine oC 12 65535 4 rfl rfl rfl rfl hE rfl rfl rfl rfl (wire_Hash.calls h115 (hS.st.fore (L := [])) ) fun a v w hR hE => ?_
    obtain ⟨D79, A54, c50, q79, rfl, hS1, h116⟩ := hR
    have le27 := hS1.dle
    have hS := hS.callR hS1 rfl (.c .n)
    refine ⟨⟨show RP [b1] _ _ from ⟨(hS.heapAt (j := 4) rfl).trans hp_b4981.symm, trivial⟩, fun _ => hS.st.sees.mono (le2 (le2 (le2 le1 le6) le26) le27)⟩, ?_⟩
    clear hp_b4981
    have hp_b4981 := hS.heapAt (j := 4) rfl
    obtain ⟨r32, h117, hf⟩ := bs hf
    refine oC 16 131071 3 rfl rfl rfl rfl hE rfl rfl rfl rfl (bundle_list_api_Sig.calls h117 (hS.st.fore (L := [])) (h4.mono (le2 (le2 (le2 (le2 le11 le1) le6) le26) le27))) fun a v w hR hE => ?_
    obtain ⟨D80, A55, c51, q80, rfl, hS1, h118⟩ := hR
    have le43 := hS1.dle
    have hS := hS.callR hS1 rfl (.c .n)
    refine ⟨⟨show RP [b1] _ _ from ⟨(hS.heapAt (j := 5) rfl).trans hp_b4981.symm, trivial⟩, fun _ => hS.st.sees.mono (le2 (le2 (le2 (le2 le1 le6) le26) le27) le43)⟩, ?_⟩
    clear hp_b4981
    have hp_b4981 := hS.heapAt (j := 5) rfl
    have hS := hS.p (.d 4 (.d 0 (.d 1 (.d 2 (.d 3 (.d 5 .n))))))
    obtain ⟨D81, q81, le76, hS, h266, h119⟩ := hS.lent (h1.mono (le2 (le2 (le2 le6 le26) le27) le43))
    have hS := hS.p (.d 4 (.d 0 (.d 1 (.d 2 (.d 3 (.d 5 .n))))))
    obtain ⟨D82, q82, le77, hS, h267, h120⟩ := hS.lent (h9.mono (le2 (le2 (le2 le26 le27) le43) le76))
    have hS := hS.p (.d 3 (.d 0 (.d 1 (.d 2 (.d 4 (.d 5 .n))))))
    obtain ⟨D83, q83, le78, hS, h268, h121⟩ := hS.lent (h116.mono (le2 (le2 le43 le76) le77))
    have hS := hS.p (.d 3 (.d 0 (.d 1 (.d 2 (.d 4 (.d 5 .n))))))
    obtain ⟨D84, q84, le79, hS, h269, h122⟩ := hS.lent (h118.mono (le2 (le2 le76 le77) le78))
    refine oG 17 262143 (fuel := 2) (by kernel_rfl) (op_buildSlice (K := (kdSlice (kdInt .u8))) (e := 37) (cs := [.slice A12 (List.length (([(105 : Int), (110 : Int), (115 : Int), (112 : Int)] : List Int))) 4] ++ ([.slice A1 (List.length (r1)) c1] ++ ([.slice A15 (List.length (r5)) c13] ++ ([.slice A54 (List.length (r31)) c50] ++ ([.slice A55 (List.length (r32)) c51] ++ []))))) ([([(105 : Int), (110 : Int), (115 : Int), (112 : Int)] : List Int), r1, r5, r31, r32] : List (List Int)) rfl rfl rfl rfl hE rfl hS rfl (by kernel_rfl) rfl rfl (by exact ⟨_, _, rfl, (kslice (h19.mono (le2 (le2 (le2 (le2 (le2 le27 le43) le76) le77) le78) le79))), ⟨_, _, rfl, (kslice (h119.mono (le2 (le2 le77 le78) le79))), ⟨_, _, rfl, (kslice (h120.mono (le2 le78 le79))), ⟨_, _, rfl, (kslice (h121.mono le79)), ⟨_, _, rfl, (kslice h122), rfl⟩⟩⟩⟩⟩) (fun a A72 q85 w _ hE h123 hS => ?_))
    refine ⟨⟨show RP [b1] _ _ from ⟨(hS.heapAt (j := 6) rfl).trans hp_b4981.symm, trivial⟩, fun _ => hS.st.sees.mono (le2 (le2 (le2 (le2 (le2 (le2 (le2 (le2 le1 le6) le26) le27) le43) le76) le77) le78) le79)⟩, ?_⟩
    clear hp_b4981
    have hp_b4981 := hS.heapAt (j := 6) rfl
    obtain ⟨D85, q86, le125, hS, h270, h124⟩ := hS.lent h123
    obtain ⟨r33, h125, hf⟩ := bs hf
    refine oC 18 524287 1 rfl rfl rfl rfl hE rfl rfl rfl rfl (wire_All.calls h125 (hS.st.fore (L := [])) h124) fun a v w hR hE => ?_
    obtain ⟨D12, A27, c24, q11, rfl, hS1, h126⟩ := hR
    have le126 := hS1.dle
    have hS := hS.callR hS1 rfl (.c .n)
    refine ⟨⟨show RP [b1] _ _ from ⟨(hS.heapAt (j := 7) rfl).trans hp_b4981.symm, trivial⟩, fun _ => hS.st.sees.mono (le2 (le2 (le2 (le2 (le2 (le2 (le2 (le2 (le2 (le2 le1 le6) le26) le27) le43) le76) le77) le78) le79) le125) le126)⟩, ?_⟩
    clear hp_b4981
    refine wP 19 1048575 0 (.slice A27 (List.length (r33)) c24) hE fun a hE => ?_
    refine doneG (by kernel_rfl) ?_
    have hS := hS.p (.d 7 (.d 0 .n))
    exact ⟨r33, A27, c24, q11, D12, hE.wk, hS, (le2 (le2 (le2 (le2 (le2 (le2 (le2 (le2 (le2 (le2 le1 le6) le26) le27) le43) le76) le77) le78) le79) le125) le126), h126, hf⟩
   have hp_b4981 := hS.heapAt (j := 3) rfl
   obtain ⟨r8, h127, hf⟩ := bs hf
   refine (op_call rfl rfl rfl rfl hE rfl rfl rfl rfl (by kernel_rfl) (wire_Hash.calls h127 (hS.st.fore (L := [])) ) (fun a v w hR hE => ?_))
   obtain ⟨D86, A28, c25, q87, rfl, hS1, h20⟩ := hR
   have le9 := hS1.dle
   have hS := hS.callR hS1 rfl (.c .n)
   refine ⟨⟨show RP [b1] _ _ from ⟨(hS.heapAt (j := 4) rfl).trans hp_b4981.symm, trivial⟩, fun _ => hS.st.sees.mono (le2 (le2 le1 le6) le9)⟩, ?_⟩
   clear hp_b4981
   refine twoB (i := 1) (j := 16) (fuel := 4) (m1 := 65535) (m2 := 131069) (by kernel_rfl) (by kernel_rfl) (by kernel_rfl) ?_ ?_
   ·have hp_b4981 := hS.heapAt (j := 4) rfl
    have hS := hS.p (.d 2 (.d 0 (.d 1 (.d 3 (.d 4 .n)))))
    refine (op_lit (T := 5) (l := ([(105 : Int), (110 : Int), (115 : Int), (112 : Int)] : List Int)) rfl rfl rfl rfl hE rfl hS rfl (by kernel_rfl) (h6.mono (le2 le6 le9)) (by kernel_rfl) (fun a D87 w _ le28 hE h21 hS => ?_))
    have h271 := OwnL.full 5 h21 rfl
    have hS := hS.nils
    refine ⟨⟨show RP [b1] _ _ from ⟨(hS.heapAt (j := 4) rfl).trans hp_b4981.symm, trivial⟩, fun _ => hS.st.sees.mono (le2 (le2 (le2 le1 le6) le9) le28)⟩, ?_⟩
    clear hp_b4981
    have hp_b4981 := hS.heapAt (j := 4) rfl
    obtain ⟨r34, h128, hf⟩ := bs hf
    refine oC 16 131071 3 rfl rfl rfl rfl hE rfl rfl rfl rfl (bundle_list_api_Sig.calls h128 (hS.st.fore (L := [])) (h4.mono (le2 (le2 (le2 (le2 le11 le1) le6) le9) le28))) fun a v w hR hE => ?_
    obtain ⟨D88, A56, c52, q88, rfl, hS1, h129⟩ := hR
    have le44 := hS1.dle
    have hS := hS.callR hS1 rfl (.c .n)
    refine ⟨⟨show RP [b1] _ _ from ⟨(hS.heapAt (j := 5) rfl).trans hp_b4981.symm, trivial⟩, fun _ => hS.st.sees.mono (le2 (le2 (le2 (le2 le1 le6) le9) le28) le44)⟩, ?_⟩
    clear hp_b4981
    have hp_b4981 := hS.heapAt (j := 5) rfl
    have hS := hS.p (.d 4 (.d 0 (.d 1 (.d 2 (.d 3 (.d 5 .n))))))
    obtain ⟨D89, q89, le80, hS, h272, h130⟩ := hS.lent (h1.mono (le2 (le2 (le2 le6 le9) le28) le44))
    have hS := hS.p (.d 4 (.d 0 (.d 1 (.d 2 (.d 3 (.d 5 .n))))))
    obtain ⟨D90, q90, le81, hS, h273, h131⟩ := hS.lent (h9.mono (le2 (le2 (le2 le9 le28) le44) le80))
    have hS := hS.p (.d 4 (.d 0 (.d 1 (.d 2 (.d 3 (.d 5 .n))))))
    obtain ⟨D91, q91, le82, hS, h274, h132⟩ := hS.lent (h20.mono (le2 (le2 (le2 le28 le44) le80) le81))
    have hS := hS.p (.d 3 (.d 0 (.d 1 (.d 2 (.d 4 (.d 5 .n))))))
    obtain ⟨D92, q92, le83, hS, h275, h133⟩ := hS.lent (h129.mono (le2 (le2 le80 le81) le82))
    refine oG 17 262143 (fuel := 2) (by kernel_rfl) (op_buildSlice (K := (kdSlice (kdInt .u8))) (e := 37) (cs := [.slice A12 (List.length (([(105 : Int), (110 : Int), (115 : Int), (112 : Int)] : List Int))) 4] ++ ([.slice A1 (List.length (r1)) c1] ++ ([.slice A15 (List.length (r5)) c13] ++ ([.slice A28 (List.length (r8)) c25] ++ ([.slice A56 (List.length (r34)) c52] ++ []))))) ([([(105 : Int), (110 : Int), (115 : Int), (112 : Int)] : List Int), r1, r5, r8, r34] : List (List Int)) rfl rfl rfl rfl hE rfl hS rfl (by kernel_rfl) rfl rfl (by exact ⟨_, _, rfl, (kslice (h21.mono (le2 (le2 (le2 (le2 le44 le80) le81) le82) le83))), ⟨_, _, rfl, (kslice (h130.mono (le2 (le2 le81 le82) le83))), ⟨_, _, rfl, (kslice (h131.mono (le2 le82 le83))), ⟨_, _, rfl, (kslice (h132.mono le83)), ⟨_, _, rfl, (kslice h133), rfl⟩⟩⟩⟩⟩) (fun a A73 q93 w _ hE h134 hS => ?_))
    refine ⟨⟨show RP [b1] _ _ from ⟨(hS.heapAt (j := 6) rfl).trans hp_b4981.symm, trivial⟩, fun _ => hS.st.sees.mono (le2 (le2 (le2 (le2 (le2 (le2 (le2 (le2 le1 le6) le9) le28) le44) le80) le81) le82) le83)⟩, ?_⟩
    clear hp_b4981
    have hp_b4981 := hS.heapAt (j := 6) rfl
    obtain ⟨D93, q94, le127, hS, h276, h135⟩ := hS.lent h134
    obtain ⟨r35, h136, hf⟩ := bs hf
    refine oC 18 524287 1 rfl rfl rfl rfl hE rfl rfl rfl rfl (wire_All.calls h136 (hS.st.fore (L := [])) h135) fun a v w hR hE => ?_
    obtain ⟨D13, A29, c26, q12, rfl, hS1, h137⟩ := hR
    have le128 := hS1.dle
    have hS := hS.callR hS1 rfl (.c .n)
    refine ⟨⟨show RP [b1] _ _ from ⟨(hS.heapAt (j := 7) rfl).trans hp_b4981.symm, trivial⟩, fun _ => hS.st.sees.mono (le2 (le2 (le2 (le2 (le2 (le2 (le2 (le2 (le2 (le2 le1 le6) le9) le28) le44) le80) le81) le82) le83) le127) le128)⟩, ?_⟩
    clear hp_b4981
    refine wP 19 1048575 0 (.slice A29 (List.length (r35)) c26) hE fun a hE => ?_
    refine doneG (by kernel_rfl) ?_
    have hS := hS.p (.d 7 (.d 0 .n))
    exact ⟨r35, A29, c26, q12, D13, hE.wk, hS, (le2 (le2 (le2 (le2 (le2 (le2 (le2 (le2 (le2 (le2 le1 le6) le9) le28) le44) le80) le81) le82) le83) le127) le128), h137, hf⟩
   have hp_b4981 := hS.heapAt (j := 4) rfl
   obtain ⟨r36, h138, hf⟩ := bs hf
   refine (op_call rfl rfl rfl rfl hE rfl rfl rfl rfl (by kernel_rfl) (bundle_list_api_Sig.calls h138 (hS.st.fore (L := [])) (h4.mono (le2 (le2 (le2 le11 le1) le6) le9))) (fun a v w hR hE => ?_))
   obtain ⟨D94, A57, c53, q95, rfl, hS1, h139⟩ := hR
   have le29 := hS1.dle
   have hS := hS.callR hS1 rfl (.c .n)
   refine ⟨⟨show RP [b1] _ _ from ⟨(hS.heapAt (j := 5) rfl).trans hp_b4981.symm, trivial⟩, fun _ => hS.st.sees.mono (le2 (le2 (le2 le1 le6) le9) le29)⟩, ?_⟩
   clear hp_b4981
   have hp_b4981 := hS.heapAt (j := 5) rfl
   have hS := hS.p (.d 3 (.d 0 (.d 1 (.d 2 (.d 4 (.d 5 .n))))))
   refine oG 1 131071 (fuel := 3) (by kernel_rfl) (op_lit (T := 5) (l := ([(105 : Int), (110 : Int), (115 : Int), (112 : Int)] : List Int)) rfl rfl rfl rfl hE rfl hS rfl (by kernel_rfl) (h6.mono (le2 (le2 le6 le9) le29)) (by kernel_rfl) (fun a D95 w _ le45 hE h22 hS => ?_))
   have h277 := OwnL.full 5 h22 rfl
   have hS := hS.nils
   refine ⟨⟨show RP [b1] _ _ from ⟨(hS.heapAt (j := 5) rfl).trans hp_b4981.symm, trivial⟩, fun _ => hS.st.sees.mono (le2 (le2 (le2 (le2 le1 le6) le9) le29) le45)⟩, ?_⟩
   clear hp_b4981
   have hp_b4981 := hS.heapAt (j := 5) rfl
   have hS := hS.p (.d 4 (.d 0 (.d 1 (.d 2 (.d 3 (.d 5 .n))))))
   obtain ⟨D96, q96, le84, hS, h278, h140⟩ := hS.lent (h1.mono (le2 (le2 (le2 le6 le9) le29) le45))
   have hS := hS.p (.d 4 (.d 0 (.d 1 (.d 2 (.d 3 (.d 5 .n))))))
   obtain ⟨D97, q97, le85, hS, h279, h141⟩ := hS.lent (h9.mono (le2 (le2 (le2 le9 le29) le45) le84))
   have hS := hS.p (.d 4 (.d 0 (.d 1 (.d 2 (.d 3 (.d 5 .n))))))
   obtain ⟨D98, q98, le86, hS, h280, h142⟩ := hS.lent (h20.mono (le2 (le2 (le2 le29 le45) le84) le85))
   have hS := hS.p (.d 4 (.d 0 (.d 1 (.d 2 (.d 3 (.d 5 .n))))))
   obtain ⟨D99, q99, le87, hS, h281, h143⟩ := hS.lent (h139.mono (le2 (le2 (le2 le45 le84) le85) le86))
   refine oG 17 262143 (fuel := 2) (by kernel_rfl) (op_buildSlice (K := (kdSlice (kdInt .u8))) (e := 37) (cs := [.slice A12 (List.length (([(105 : Int), (110 : Int), (115 : Int), (112 : Int)] : List Int))) 4] ++ ([.slice A1 (List.length (r1)) c1] ++ ([.slice A15 (List.length (r5)) c13] ++ ([.slice A28 (List.length (r8)) c25] ++ ([.slice A57 (List.length (r36)) c53] ++ []))))) ([([(105 : Int), (110 : Int), (115 : Int), (112 : Int)] : List Int), r1, r5, r8, r36] : List (List Int)) rfl rfl rfl rfl hE rfl hS rfl (by kernel_rfl) rfl rfl (by exact ⟨_, _, rfl, (kslice (h22.mono (le2 (le2 (le2 le84 le85) le86) le87))), ⟨_, _, rfl, (kslice (h140.mono (le2 (le2 le85 le86) le87))), ⟨_, _, rfl, (kslice (h141.mono (le2 le86 le87))), ⟨_, _, rfl, (kslice (h142.mono le87)), ⟨_, _, rfl, (kslice h143), rfl⟩⟩⟩⟩⟩) (fun a A74 q100 w _ hE h144 hS => ?_))
   refine ⟨⟨show RP [b1] _ _ from ⟨(hS.heapAt (j := 6) rfl).trans hp_b4981.symm, trivial⟩, fun _ => hS.st.sees.mono (le2 (le2 (le2 (le2 (le2 (le2 (le2 (le2 le1 le6) le9) le29) le45) le84) le85) le86) le87)⟩, ?_⟩
   clear hp_b4981
   have hp_b4981 := hS.heapAt (j := 6) rfl
   obtain ⟨D100, q101, le129, hS, h282, h145⟩ := hS.lent h144
   obtain ⟨r37, h146, hf⟩ := bs hf
   refine oC 18 524287 1 rfl rfl rfl rfl hE rfl rfl rfl rfl (wire_All.calls h146 (hS.st.fore (L := [])) h145) fun a v w hR hE => ?_
   obtain ⟨D14, A30, c27, q13, rfl, hS1, h147⟩ := hR
   have le130 := hS1.dle
   have hS := hS.callR hS1 rfl (.c .n)
   refine ⟨⟨show RP [b1] _ _ from ⟨(hS.heapAt (j := 7) rfl).trans hp_b4981.symm, trivial⟩, fun _ => hS.st.sees.mono (le2 (le2 (le2 (le2 (le2 (le2 (le2 (le2 (le2 (le2 le1 le6) le9) le29) le45) le84) le85) le86) le87) le129) le130)⟩, ?_⟩
   clear hp_b4981
   refine wP 19 1048575 0 (.slice A30 (List.length (r37)) c27) hE fun a hE => ?_
   refine doneG (by kernel_rfl) ?_
   have hS := hS.p (.d 7 (.d 0 .n))
   exact ⟨r37, A30, c27, q13, D14, hE.wk, hS, (le2 (le2 (le2 (le2 (le2 (le2 (le2 (le2 (le2 (le2 le1 le6) le9) le29) le45) le84) le85) le86) le87) le129) le130), h147, hf⟩
  have hp_b4981 := hS.heapAt (j := 1) rfl
  obtain ⟨r2, h148, hf⟩ := bs hf
  refine (op_call rfl rfl rfl rfl hE rfl rfl rfl rfl (by kernel_rfl) (wire_Num.calls h148 (hS.st.fore (L := [])) ) (fun a v w hR hE => ?_))
  obtain ⟨D101, A3, c2, q102, rfl, hS1, h2⟩ := hR
  have le3 := hS1.dle
  have hS := hS.callR hS1 rfl (.c .n)
  refine ⟨⟨show RP [b1] _ _ from ⟨(hS.heapAt (j := 2) rfl).trans hp_b4981.symm, trivial⟩, fun _ => hS.st.sees.mono (le2 le1 le3)⟩, ?_⟩
  clear hp_b4981
  refine twoB (i := 0) (j := 12) (fuel := 6) (m1 := 61437) (m2 := 65532) (by kernel_rfl) (by kernel_rfl) (by kernel_rfl) ?_ ?_
  ·have hp_b4981 := hS.heapAt (j := 2) rfl
   refine (op_buildSlice (K := (kdInt .u8)) (e := 5) (cs := [.int .u8 ((105 : Int))] ++ ([.int .u8 ((110 : Int))] ++ ([.int .u8 ((115 : Int))] ++ ([.int .u8 ((112 : Int))] ++ [])))) ([(105 : Int), (110 : Int), (115 : Int), (112 : Int)] : List Int) rfl rfl rfl rfl hE rfl hS rfl (by kernel_rfl) rfl rfl (by exact ⟨_, _, rfl, rfl, ⟨_, _, rfl, rfl, ⟨_, _, rfl, rfl, ⟨_, _, rfl, rfl, rfl⟩⟩⟩⟩) (fun a A16 q103 w _ hE h10 hS => ?_))
   refine ⟨⟨show RP [b1] _ _ from ⟨(hS.heapAt (j := 3) rfl).trans hp_b4981.symm, trivial⟩, fun _ => hS.st.sees.mono (le2 le1 le3)⟩, ?_⟩
   clear hp_b4981
   refine twoB (i := 1) (j := 12) (fuel := 5) (m1 := 61439) (m2 := 65533) (by kernel_rfl) (by kernel_rfl) (by kernel_rfl) ?_ ?_
   ·have hp_b4981 := hS.heapAt (j := 3) rfl
    refine (op_lit (T := 5) (l := ([(105 : Int), (110 : Int), (115 : Int), (112 : Int)] : List Int)) rfl rfl rfl rfl hE rfl hS rfl (by kernel_rfl) h10 (by kernel_rfl) (fun a D102 w _ le30 hE h23 hS => ?_))
    have h283 := OwnL.full 5 h23 rfl
    have hS := hS.nils
    refine ⟨⟨show RP [b1] _ _ from ⟨(hS.heapAt (j := 3) rfl).trans hp_b4981.symm, trivial⟩, fun _ => hS.st.sees.mono (le2 (le2 le1 le3) le30)⟩, ?_⟩
    clear hp_b4981
    have hp_b4981 := hS.heapAt (j := 3) rfl
    obtain ⟨r38, h149, hf⟩ := bs hf
    refine oC 12 65535 4 rfl rfl rfl rfl hE rfl rfl rfl rfl (wire_Hash.calls h149 (hS.st.fore (L := [])) ) fun a v w hR hE => ?_
    obtain ⟨D103, A58, c54, q104, rfl, hS1, h150⟩ := hR
    have le31 := hS1.dle
    have hS := hS.callR hS1 rfl (.c .n)
    refine ⟨⟨show RP [b1] _ _ from ⟨(hS.heapAt (j := 4) rfl).trans hp_b4981.symm, trivial⟩, fun _ => hS.st.sees.mono (le2 (le2 (le2 le1 le3) le30) le31)⟩, ?_⟩
    clear hp_b4981
    have hp_b4981 := hS.heapAt (j := 4) rfl
    obtain ⟨r39, h151, hf⟩ := bs hf
    refine oC 16 131071 3 rfl rfl rfl rfl hE rfl rfl rfl rfl (bundle_list_api_Sig.calls h151 (hS.st.fore (L := [])) (h4.mono (le2 (le2 (le2 (le2 le11 le1) le3) le30) le31))) fun a v w hR hE => ?_
    obtain ⟨D104, A59, c55, q105, rfl, hS1, h152⟩ := hR
    have le46 := hS1.dle
    have hS := hS.callR hS1 rfl (.c .n)
    refine ⟨⟨show RP [b1] _ _ from ⟨(hS.heapAt (j := 5) rfl).trans hp_b4981.symm, trivial⟩, fun _ => hS.st.sees.mono (le2 (le2 (le2 (le2 le1 le3) le30) le31) le46)⟩, ?_⟩
    clear hp_b4981
    have hp_b4981 := hS.heapAt (j := 5) rfl
    have hS := hS.p (.d 4 (.d 0 (.d 1 (.d 2 (.d 3 (.d 5 .n))))))
    obtain ⟨D105, q106, le88, hS, h284, h153⟩ := hS.lent (h1.mono (le2 (le2 (le2 le3 le30) le31) le46))
    have hS := hS.p (.d 4 (.d 0 (.d 1 (.d 2 (.d 3 (.d 5 .n))))))
    obtain ⟨D106, q107, le89, hS, h285, h154⟩ := hS.lent (h2.mono (le2 (le2 (le2 le30 le31) le46) le88))
    have hS := hS.p (.d 3 (.d 0 (.d 1 (.d 2 (.d 4 (.d 5 .n))))))
    obtain ⟨D107, q108, le90, hS, h286, h155⟩ := hS.lent (h150.mono (le2 (le2 le46 le88) le89))
    have hS := hS.p (.d 3 (.d 0 (.d 1 (.d 2 (.d 4 (.d 5 .n))))))
    obtain ⟨D108, q109, le91, hS, h287, h156⟩ := hS.lent (h152.mono (le2 (le2 le88 le89) le90))
    refine oG 17 262143 (fuel := 2) (by kernel_rfl) (op_buildSlice (K := (kdSlice (kdInt .u8))) (e := 37) (cs := [.slice A16 (List.length (([(105 : Int), (110 : Int), (115 : Int), (112 : Int)] : List Int))) 4] ++ ([.slice A1 (List.length (r1)) c1] ++ ([.slice A3 (List.length (r2)) c2] ++ ([.slice A58 (List.length (r38)) c54] ++ ([.slice A59 (List.length (r39)) c55] ++ []))))) ([([(105 : Int), (110 : Int), (115 : Int), (112 : Int)] : List Int), r1, r2, r38, r39] : List (List Int)) rfl rfl rfl rfl hE rfl hS rfl (by kernel_rfl) rfl rfl (by exact ⟨_, _, rfl, (kslice (h23.mono (le2 (le2 (le2 (le2 (le2 le31 le46) le88) le89) le90) le91))), ⟨_, _, rfl, (kslice (h153.mono (le2 (le2 le89 le90) le91))), ⟨_, _, rfl, (kslice (h154.mono (le2 le90 le91))), ⟨_, _, rfl, (kslice (h155.mono le91)), ⟨_, _, rfl, (kslice h156), rfl⟩⟩⟩⟩⟩) (fun a A75 q110 w _ hE h157 hS => ?_))
    refine ⟨⟨show RP [b1] _ _ from ⟨(hS.heapAt (j := 6) rfl).trans hp_b4981.symm, trivial⟩, fun _ => hS.st.sees.mono (le2 (le2 (le2 (le2 (le2 (le2 (le2 (le2 le1 le3) le30) le31) le46) le88) le89) le90) le91)⟩, ?_⟩
    clear hp_b4981
    have hp_b4981 := hS.heapAt (j := 6) rfl
    obtain ⟨D109, q111, le131, hS, h288, h158⟩ := hS.lent h157
    obtain ⟨r40, h159, hf⟩ := bs hf
    refine oC 18 524287 1 rfl rfl rfl rfl hE rfl rfl rfl rfl (wire_All.calls h159 (hS.st.fore (L := [])) h158) fun a v w hR hE => ?_
    obtain ⟨D15, A31, c28, q14, rfl, hS1, h160⟩ := hR
    have le132 := hS1.dle
    have hS := hS.callR hS1 rfl (.c .n)
    refine ⟨⟨show RP [b1] _ _ from ⟨(hS.heapAt (j := 7) rfl).trans hp_b4981.symm, trivial⟩, fun _ => hS.st.sees.mono (le2 (le2 (le2 (le2 (le2 (le2 (le2 (le2 (le2 (le2 le1 le3) le30) le31) le46) le88) le89) le90) le91) le131) le132)⟩, ?_⟩
    clear hp_b4981
    refine wP 19 1048575 0 (.slice A31 (List.length (r40)) c28) hE fun a hE => ?_
    refine doneG (by kernel_rfl) ?_
    have hS := hS.p (.d 7 (.d 0 .n))
    exact ⟨r40, A31, c28, q14, D15, hE.wk, hS, (le2 (le2 (le2 (le2 (le2 (le2 (le2 (le2 (le2 (le2 le1 le3) le30) le31) le46) le88) le89) le90) le91) le131) le132), h160, hf⟩
   have hp_b4981 := hS.heapAt (j := 3) rfl
   obtain ⟨r9, h161, hf⟩ := bs hf
   refine (op_call rfl rfl rfl rfl hE rfl rfl rfl rfl (by kernel_rfl) (wire_Hash.calls h161 (hS.st.fore (L := [])) ) (fun a v w hR hE => ?_))
   obtain ⟨D110, A32, c29, q112, rfl, hS1, h24⟩ := hR
   have le10 := hS1.dle
   have hS := hS.callR hS1 rfl (.c .n)
   refine ⟨⟨show RP [b1] _ _ from ⟨(hS.heapAt (j := 4) rfl).trans hp_b4981.symm, trivial⟩, fun _ => hS.st.sees.mono (le2 (le2 le1 le3) le10)⟩, ?_⟩
   clear hp_b4981
   refine twoB (i := 1) (j := 16) (fuel := 4) (m1 := 65535) (m2 := 131069) (by kernel_rfl) (by kernel_rfl) (by kernel_rfl) ?_ ?_
   ·have hp_b4981 := hS.heapAt (j := 4) rfl
    have hS := hS.p (.d 1 (.d 0 (.d 2 (.d 3 (.d 4 .n)))))
    refine (op_lit (T := 5) (l := ([(105 : Int), (110 : Int), (115 : Int), (112 : Int)] : List Int)) rfl rfl rfl rfl hE rfl hS rfl (by kernel_rfl) (h10.mono le10) (by kernel_rfl) (fun a D111 w _ le32 hE h25 hS => ?_))
    have h289 := OwnL.full 5 h25 rfl
    have hS := hS.nils
    refine ⟨⟨show RP [b1] _ _ from ⟨(hS.heapAt (j := 4) rfl).trans hp_b4981.symm, trivial⟩, fun _ => hS.st.sees.mono (le2 (le2 (le2 le1 le3) le10) le32)⟩, ?_⟩
    clear hp_b4981
    have hp_b4981 := hS.heapAt (j := 4) rfl
    obtain ⟨r41, h162, hf⟩ := bs hf
    refine oC 16 131071 3 rfl rfl rfl rfl hE rfl rfl rfl rfl (bundle_list_api_Sig.calls h162 (hS.st.fore (L := [])) (h4.mono (le2 (le2 (le2 (le2 le11 le1) le3) le10) le32))) fun a v w hR hE => ?_
    obtain ⟨D112, A60, c56, q113, rfl, hS1, h163⟩ := hR
    have le47 := hS1.dle
    have hS := hS.callR hS1 rfl (.c .n)
    refine ⟨⟨show RP [b1] _ _ from ⟨(hS.heapAt (j := 5) rfl).trans hp_b4981.symm, trivial⟩, fun _ => hS.st.sees.mono (le2 (le2 (le2 (le2 le1 le3) le10) le32) le47)⟩, ?_⟩
    clear hp_b4981
    have hp_b4981 := hS.heapAt (j := 5) rfl
    have hS := hS.p (.d 4 (.d 0 (.d 1 (.d 2 (.d 3 (.d 5 .n))))))
    obtain ⟨D113, q114, le92, hS, h290, h164⟩ := hS.lent (h1.mono (le2 (le2 (le2 le3 le10) le32) le47))
    have hS := hS.p (.d 4 (.d 0 (.d 1 (.d 2 (.d 3 (.d 5 .n))))))
    obtain ⟨D114, q115, le93, hS, h291, h165⟩ := hS.lent (h2.mono (le2 (le2 (le2 le10 le32) le47) le92))
    have hS := hS.p (.d 4 (.d 0 (.d 1 (.d 2 (.d 3 (.d 5 .n))))))
    obtain ⟨D115, q116, le94, hS, h292, h166⟩ := hS.lent (h24.mono (le2 (le2 (le2 le32 le47) le92) le93))
    have hS := hS.p (.d 3 (.d 0 (.d 1 (.d 2 (.d 4 (.d 5 .n))))))
    obtain ⟨D116, q117, le95, hS, h293, h167⟩ := hS.lent (h163.mono (le2 (le2 le92 le93) le94))
    refine oG 17 262143 (fuel := 2) (by kernel_rfl) (op_buildSlice (K := (kdSlice (kdInt .u8))) (e := 37) (cs := [.slice A16 (List.length (([(105 : Int), (110 : Int), (115 : Int), (112 : Int)] : List Int))) 4] ++ ([.slice A1 (List.length (r1)) c1] ++ ([.slice A3 (List.length (r2)) c2] ++ ([.slice A32 (List.length (r9)) c29] ++ ([.slice A60 (List.length (r41)) c56] ++ []))))) ([([(105 : Int), (110 : Int), (115 : Int), (112 : Int)] : List Int), r1, r2, r9, r41] : List (List Int)) rfl rfl rfl rfl hE rfl hS rfl (by kernel_rfl) rfl rfl (by exact ⟨_, _, rfl, (kslice (h25.mono (le2 (le2 (le2 (le2 le47 le92) le93) le94) le95))), ⟨_, _, rfl, (kslice (h164.mono (le2 (le2 le93 le94) le95))), ⟨_, _, rfl, (kslice (h165.mono (le2 le94 le95))), ⟨_, _, rfl, (kslice (h166.mono le95)), ⟨_, _, rfl, (kslice h167), rfl⟩⟩⟩⟩⟩) (fun a A76 q118 w _ hE h168 hS => ?_))
    refine ⟨⟨show RP [b1] _ _ from ⟨(hS.heapAt (j := 6) rfl).trans hp_b4981.symm, trivial⟩, fun _ => hS.st.sees.mono (le2 (le2 (le2 (le2 (le2 (le2 (le2 (le2 le1 le3) le10) le32) le47) le92) le93) le94) le95)⟩, ?_⟩
    clear hp_b4981
    have hp_b4981 := hS.heapAt (j := 6) rfl
    obtain ⟨D117, q119, le133, hS, h294, h169⟩ := hS.lent h168
    obtain ⟨r42, h170, hf⟩ := bs hf
    refine oC 18 524287 1 rfl rfl rfl rfl hE rfl rfl rfl rfl (wire_All.calls h170 (hS.st.fore (L := [])) h169) fun a v w hR hE => ?_
    obtain ⟨D16, A33, c30, q15, rfl, hS1, h171⟩ := hR
    have le134 := hS1.dle
    have hS := hS.callR hS1 rfl (.c .n)
    refine ⟨⟨show RP [b1] _ _ from ⟨(hS.heapAt (j := 7) rfl).trans hp_b4981.symm, trivial⟩, fun _ => hS.st.sees.mono (le2 (le2 (le2 (le2 (le2 (le2 (le2 (le2 (le2 (le2 le1 le3) le10) le32) le47) le92) le93) le94) le95) le133) le134)⟩, ?_⟩
    clear hp_b4981
    refine wP 19 1048575 0 (.slice A33 (List.length (r42)) c30) hE fun a hE => ?_
    refine doneG (by kernel_rfl) ?_
    have hS := hS.p (.d 7 (.d 0 .n))
    exact ⟨r42, A33, c30, q15, D16, hE.wk, hS, (le2 (le2 (le2 (le2 (le2 (le2 (le2 (le2 (le2 (le2 le1 le3) le10) le32) le47) le92) le93) le94) le95) le133) le134), h171, hf⟩
   have hp_b4981 := hS.heapAt (j := 4) rfl
   obtain ⟨r43, h172, hf⟩ := bs hf
   refine (op_call rfl rfl rfl rfl hE rfl rfl rfl rfl (by kernel_rfl) (bundle_list_api_Sig.calls h172 (hS.st.fore (L := [])) (h4.mono (le2 (le2 (le2 le11 le1) le3) le10))) (fun a v w hR hE => ?_))
   obtain ⟨D118, A61, c57, q120, rfl, hS1, h173⟩ := hR
   have le33 := hS1.dle
   have hS := hS.callR hS1 rfl (.c .n)
   refine ⟨⟨show RP [b1] _ _ from ⟨(hS.heapAt (j := 5) rfl).trans hp_b4981.symm, trivial⟩, fun _ => hS.st.sees.mono (le2 (le2 (le2 le1 le3) le10) le33)⟩, ?_⟩
   clear hp_b4981
   have hp_b4981 := hS.heapAt (j := 5) rfl
   have hS := hS.p (.d 2 (.d 0 (.d 1 (.d 3 (.d 4 (.d 5 .n))))))
   refine oG 1 131071 (fuel := 3) (by kernel_rfl) (op_lit (T := 5) (l := ([(105 : Int), (110 : Int), (115 : Int), (112 : Int)] : List Int)) rfl rfl rfl rfl hE rfl hS rfl (by kernel_rfl) (h10.mono (le2 le10 le33)) (by kernel_rfl) (fun a D119 w _ le48 hE h26 hS => ?_))
   have h295 := OwnL.full 5 h26 rfl
   have hS := hS.nils
   refine ⟨⟨show RP [b1] _ _ from ⟨(hS.heapAt (j := 5) rfl).trans hp_b4981.symm, trivial⟩, fun _ => hS.st.sees.mono (le2 (le2 (le2 (le2 le1 le3) le10) le33) le48)⟩, ?_⟩
   clear hp_b4981
   have hp_b4981 := hS.heapAt (j := 5) rfl
   have hS := hS.p (.d 4 (.d 0 (.d 1 (.d 2 (.d 3 (.d 5 .n))))))
   obtain ⟨D120, q121, le96, hS, h296, h174⟩ := hS.lent (h1.mono (le2 (le2 (le2 le3 le10) le33) le48))
   have hS := hS.p (.d 4 (.d 0 (.d 1 (.d 2 (.d 3 (.d 5 .n))))))
   obtain ⟨D121, q122, le97, hS, h297, h175⟩ := hS.lent (h2.mono (le2 (le2 (le2 le10 le33) le48) le96))
   have hS := hS.p (.d 4 (.d 0 (.d 1 (.d 2 (.d 3 (.d 5 .n))))))
   obtain ⟨D122, q123, le98, hS, h298, h176⟩ := hS.lent (h24.mono (le2 (le2 (le2 le33 le48) le96) le97))
   have hS := hS.p (.d 4 (.d 0 (.d 1 (.d 2 (.d 3 (.d 5 .n))))))
   obtain ⟨D123, q124, le99, hS, h299, h177⟩ := hS.lent (h173.mono (le2 (le2 (le2 le48 le96) le97) le98))
   refine oG 17 262143 (fuel := 2) (by kernel_rfl) (op_buildSlice (K := (kdSlice (kdInt .u8))) (e := 37) (cs := [.slice A16 (List.length (([(105 : Int), (110 : Int), (115 : Int), (112 : Int)] : List Int))) 4] ++ ([.slice A1 (List.length (r1)) c1] ++ ([.slice A3 (List.length (r2)) c2] ++ ([.slice A32 (List.length (r9)) c29] ++ ([.slice A61 (List.length (r43)) c57] ++ []))))) ([([(105 : Int), (110 : Int), (115 : Int), (112 : Int)] : List Int), r1, r2, r9, r43] : List (List Int)) rfl rfl rfl rfl hE rfl hS rfl (by kernel_rfl) rfl rfl (by exact ⟨_, _, rfl, (kslice (h26.mono (le2 (le2 (le2 le96 le97) le98) le99))), ⟨_, _, rfl, (kslice (h174.mono (le2 (le2 le97 le98) le99))), ⟨_, _, rfl, (kslice (h175.mono (le2 le98 le99))), ⟨_, _, rfl, (kslice (h176.mono le99)), ⟨_, _, rfl, (kslice h177), rfl⟩⟩⟩⟩⟩) (fun a A77 q125 w _ hE h178 hS => ?_))
   refine ⟨⟨show RP [b1] _ _ from ⟨(hS.heapAt (j := 6) rfl).trans hp_b4981.symm, trivial⟩, fun _ => hS.st.sees.mono (le2 (le2 (le2 (le2 (le2 (le2 (le2 (le2 le1 le3) le10) le33) le48) le96) le97) le98) le99)⟩, ?_⟩
   clear hp_b4981
   have hp_b4981 := hS.heapAt (j := 6) rfl
   obtain ⟨D124, q126, le135, hS, h300, h179⟩ := hS.lent h178
   obtain ⟨r44, h180, hf⟩ := bs hf
   refine oC 18 524287 1 rfl rfl rfl rfl hE rfl rfl rfl rfl (wire_All.calls h180 (hS.st.fore (L := [])) h179) fun a v w hR hE => ?_
   obtain ⟨D17, A34, c31, q16, rfl, hS1, h181⟩ := hR
   have le136 := hS1.dle
   have hS := hS.callR hS1 rfl (.c .n)
   refine ⟨⟨show RP [b1] _ _ from ⟨(hS.heapAt (j := 7) rfl).trans hp_b4981.symm, trivial⟩, fun _ => hS.st.sees.mono (le2 (le2 (le2 (le2 (le2 (le2 (le2 (le2 (le2 (le2 le1 le3) le10) le33) le48) le96) le97) le98) le99) le135) le136)⟩, ?_⟩
   clear hp_b4981
   refine wP 19 1048575 0 (.slice A34 (List.length (r44)) c31) hE fun a hE => ?_
   refine doneG (by kernel_rfl) ?_
   have hS := hS.p (.d 7 (.d 0 .n))
   exact ⟨r44, A34, c31, q16, D17, hE.wk, hS, (le2 (le2 (le2 (le2 (le2 (le2 (le2 (le2 (le2 (le2 le1 le3) le10) le33) le48) le96) le97) le98) le99) le135) le136), h181, hf⟩
  have hp_b4981 := hS.heapAt (j := 2) rfl
  obtain ⟨r6, h182, hf⟩ := bs hf
  refine (op_call rfl rfl rfl rfl hE rfl rfl rfl rfl (by kernel_rfl) (wire_Hash.calls h182 (hS.st.fore (L := [])) ) (fun a v w hR hE => ?_))
  obtain ⟨D125, A17, c14, q127, rfl, hS1, h11⟩ := hR
  have le7 := hS1.dle
  have hS := hS.callR hS1 rfl (.c .n)
  refine ⟨⟨show RP [b1] _ _ from ⟨(hS.heapAt (j := 3) rfl).trans hp_b4981.symm, trivial⟩, fun _ => hS.st.sees.mono (le2 (le2 le1 le3) le7)⟩, ?_⟩
  clear hp_b4981
  refine twoB (i := 0) (j := 16) (fuel := 5) (m1 := 65533) (m2 := 131068) (by kernel_rfl) (by kernel_rfl) (by kernel_rfl) ?_ ?_
  ·have hp_b4981 := hS.heapAt (j := 3) rfl
   refine (op_buildSlice (K := (kdInt .u8)) (e := 5) (cs := [.int .u8 ((105 : Int))] ++ ([.int .u8 ((110 : Int))] ++ ([.int .u8 ((115 : Int))] ++ ([.int .u8 ((112 : Int))] ++ [])))) ([(105 : Int), (110 : Int), (115 : Int), (112 : Int)] : List Int) rfl rfl rfl rfl hE rfl hS rfl (by kernel_rfl) rfl rfl (by exact ⟨_, _, rfl, rfl, ⟨_, _, rfl, rfl, ⟨_, _, rfl, rfl, ⟨_, _, rfl, rfl, rfl⟩⟩⟩⟩) (fun a A35 q128 w _ hE h27 hS => ?_))
   refine ⟨⟨show RP [b1] _ _ from ⟨(hS.heapAt (j := 4) rfl).trans hp_b4981.symm, trivial⟩, fun _ => hS.st.sees.mono (le2 (le2 le1 le3) le7)⟩, ?_⟩
   clear hp_b4981
   refine twoB (i := 1) (j := 16) (fuel := 4) (m1 := 65535) (m2 := 131069) (by kernel_rfl) (by kernel_rfl) (by kernel_rfl) ?_ ?_
   ·have hp_b4981 := hS.heapAt (j := 4) rfl
    refine (op_lit (T := 5) (l := ([(105 : Int), (110 : Int), (115 : Int), (112 : Int)] : List Int)) rfl rfl rfl rfl hE rfl hS rfl (by kernel_rfl) h27 (by kernel_rfl) (fun a D126 w _ le34 hE h28 hS => ?_))
    have h301 := OwnL.full 5 h28 rfl
    have hS := hS.nils
    refine ⟨⟨show RP [b1] _ _ from ⟨(hS.heapAt (j := 4) rfl).trans hp_b4981.symm, trivial⟩, fun _ => hS.st.sees.mono (le2 (le2 (le2 le1 le3) le7) le34)⟩, ?_⟩
    clear hp_b4981
    have hp_b4981 := hS.heapAt (j := 4) rfl
    obtain ⟨r45, h183, hf⟩ := bs hf
    refine oC 16 131071 3 rfl rfl rfl rfl hE rfl rfl rfl rfl (bundle_list_api_Sig.calls h183 (hS.st.fore (L := [])) (h4.mono (le2 (le2 (le2 (le2 le11 le1) le3) le7) le34))) fun a v w hR hE => ?_
    obtain ⟨D127, A62, c58, q129, rfl, hS1, h184⟩ := hR
    have le49 := hS1.dle
    have hS := hS.callR hS1 rfl (.c .n)
    refine ⟨⟨show RP [b1] _ _ from ⟨(hS.heapAt (j := 5) rfl).trans hp_b4981.symm, trivial⟩, fun _ => hS.st.sees.mono (le2 (le2 (le2 (le2 le1 le3) le7) le34) le49)⟩, ?_⟩
    clear hp_b4981
    have hp_b4981 := hS.heapAt (j := 5) rfl
    have hS := hS.p (.d 4 (.d 0 (.d 1 (.d 2 (.d 3 (.d 5 .n))))))
    obtain ⟨D128, q130, le100, hS, h302, h185⟩ := hS.lent (h1.mono (le2 (le2 (le2 le3 le7) le34) le49))
    have hS := hS.p (.d 4 (.d 0 (.d 1 (.d 2 (.d 3 (.d 5 .n))))))
    obtain ⟨D129, q131, le101, hS, h303, h186⟩ := hS.lent (h2.mono (le2 (le2 (le2 le7 le34) le49) le100))
    have hS := hS.p (.d 4 (.d 0 (.d 1 (.d 2 (.d 3 (.d 5 .n))))))
    obtain ⟨D130, q132, le102, hS, h304, h187⟩ := hS.lent (h11.mono (le2 (le2 (le2 le34 le49) le100) le101))
    have hS := hS.p (.d 3 (.d 0 (.d 1 (.d 2 (.d 4 (.d 5 .n))))))
    obtain ⟨D131, q133, le103, hS, h305, h188⟩ := hS.lent (h184.mono (le2 (le2 le100 le101) le102))
    refine oG 17 262143 (fuel := 2) (by kernel_rfl) (op_buildSlice (K := (kdSlice (kdInt .u8))) (e := 37) (cs := [.slice A35 (List.length (([(105 : Int), (110 : Int), (115 : Int), (112 : Int)] : List Int))) 4] ++ ([.slice A1 (List.length (r1)) c1] ++ ([.slice A3 (List.length (r2)) c2] ++ ([.slice A17 (List.length (r6)) c14] ++ ([.slice A62 (List.length (r45)) c58] ++ []))))) ([([(105 : Int), (110 : Int), (115 : Int), (112 : Int)] : List Int), r1, r2, r6, r45] : List (List Int)) rfl rfl rfl rfl hE rfl hS rfl (by kernel_rfl) rfl rfl (by exact ⟨_, _, rfl, (kslice (h28.mono (le2 (le2 (le2 (le2 le49 le100) le101) le102) le103))), ⟨_, _, rfl, (kslice (h185.mono (le2 (le2 le101 le102) le103))), ⟨_, _, rfl, (kslice (h186.mono (le2 le102 le103))), ⟨_, _, rfl, (kslice (h187.mono le103)), ⟨_, _, rfl, (kslice h188), rfl⟩⟩⟩⟩⟩) (fun a A78 q134 w _ hE h189 hS => ?_))
    refine ⟨⟨show RP [b1] _ _ from ⟨(hS.heapAt (j := 6) rfl).trans hp_b4981.symm, trivial⟩, fun _ => hS.st.sees.mono (le2 (le2 (le2 (le2 (le2 (le2 (le2 (le2 le1 le3) le7) le34) le49) le100) le101) le102) le103)⟩, ?_⟩
    clear hp_b4981
    have hp_b4981 := hS.heapAt (j := 6) rfl
    obtain ⟨D132, q135, le137, hS, h306, h190⟩ := hS.lent h189
    obtain ⟨r46, h191, hf⟩ := bs hf
    refine oC 18 524287 1 rfl rfl rfl rfl hE rfl rfl rfl rfl (wire_All.calls h191 (hS.st.fore (L := [])) h190) fun a v w hR hE => ?_
    obtain ⟨D18, A36, c32, q17, rfl, hS1, h192⟩ := hR
    have le138 := hS1.dle
    have hS := hS.callR hS1 rfl (.c .n)
    refine ⟨⟨show RP [b1] _ _ from ⟨(hS.heapAt (j := 7) rfl).trans hp_b4981.symm, trivial⟩, fun _ => hS.st.sees.mono (le2 (le2 (le2 (le2 (le2 (le2 (le2 (le2 (le2 (le2 le1 le3) le7) le34) le49) le100) le101) le102) le103) le137) le138)⟩, ?_⟩
    clear hp_b4981
    refine wP 19 1048575 0 (.slice A36 (List.length (r46)) c32) hE fun a hE => ?_
    refine doneG (by kernel_rfl) ?_
    have hS := hS.p (.d 7 (.d 0 .n))
    exact ⟨r46, A36, c32, q17, D18, hE.wk, hS, (le2 (le2 (le2 (le2 (le2 (le2 (le2 (le2 (le2 (le2 le1 le3) le7) le34) le49) le100) le101) le102) le103) le137) le138), h192, hf⟩
   have hp_b4981 := hS.heapAt (j := 4) rfl
   obtain ⟨r47, h193, hf⟩ := bs hf
   refine (op_call rfl rfl rfl rfl hE rfl rfl rfl rfl (by kernel_rfl) (bundle_list_api_Sig.calls h193 (hS.st.fore (L := [])) (h4.mono (le2 (le2 (le2 le11 le1) le3) le7))) (fun a v w hR hE => ?_))
   obtain ⟨D133, A63, c59, q136, rfl, hS1, h194⟩ := hR
   have le35 := hS1.dle
   have hS := hS.callR hS1 rfl (.c .n)
   refine ⟨⟨show RP [b1] _ _ from ⟨(hS.heapAt (j := 5) rfl).trans hp_b4981.symm, trivial⟩, fun _ => hS.st.sees.mono (le2 (le2 (le2 le1 le3) le7) le35)⟩, ?_⟩
   clear hp_b4981
   have hp_b4981 := hS.heapAt (j := 5) rfl
   have hS := hS.p (.d 1 (.d 0 (.d 2 (.d 3 (.d 4 (.d 5 .n))))))
   refine oG 1 131071 (fuel := 3) (by kernel_rfl) (op_lit (T := 5) (l := ([(105 : Int), (110 : Int), (115 : Int), (112 : Int)] : List Int)) rfl rfl rfl rfl hE rfl hS rfl (by kernel_rfl) (h27.mono le35) (by kernel_rfl) (fun a D134 w _ le50 hE h29 hS => ?_))
   have h307 := OwnL.full 5 h29 rfl
   have hS := hS.nils
   refine ⟨⟨show RP [b1] _ _ from ⟨(hS.heapAt (j := 5) rfl).trans hp_b4981.symm, trivial⟩, fun _ => hS.st.sees.mono (le2 (le2 (le2 (le2 le1 le3) le7) le35) le50)⟩, ?_⟩
   clear hp_b4981
   have hp_b4981 := hS.heapAt (j := 5) rfl
   have hS := hS.p (.d 4 (.d 0 (.d 1 (.d 2 (.d 3 (.d 5 .n))))))
   obtain ⟨D135, q137, le104, hS, h308, h195⟩ := hS.lent (h1.mono (le2 (le2 (le2 le3 le7) le35) le50))
   have hS := hS.p (.d 4 (.d 0 (.d 1 (.d 2 (.d 3 (.d 5 .n))))))
   obtain ⟨D136, q138, le105, hS, h309, h196⟩ := hS.lent (h2.mono (le2 (le2 (le2 le7 le35) le50) le104))
   have hS := hS.p (.d 4 (.d 0 (.d 1 (.d 2 (.d 3 (.d 5 .n))))))
   obtain ⟨D137, q139, le106, hS, h310, h197⟩ := hS.lent (h11.mono (le2 (le2 (le2 le35 le50) le104) le105))
   have hS := hS.p (.d 4 (.d 0 (.d 1 (.d 2 (.d 3 (.d 5 .n))))))
   obtain ⟨D138, q140, le107, hS, h311, h198⟩ := hS.lent (h194.mono (le2 (le2 (le2 le50 le104) le105) le106))
   refine oG 17 262143 (fuel := 2) (by kernel_rfl) (op_buildSlice (K := (kdSlice (kdInt .u8))) (e := 37) (cs := [.slice A35 (List.length (([(105 : Int), (110 : Int), (115 : Int), (112 : Int)] : List Int))) 4] ++ ([.slice A1 (List.length (r1)) c1] ++ ([.slice A3 (List.length (r2)) c2] ++ ([.slice A17 (List.length (r6)) c14] ++ ([.slice A63 (List.length (r47)) c59] ++ []))))) ([([(105 : Int), (110 : Int), (115 : Int), (112 : Int)] : List Int), r1, r2, r6, r47] : List (List Int)) rfl rfl rfl rfl hE rfl hS rfl (by kernel_rfl) rfl rfl (by exact ⟨_, _, rfl, (kslice (h29.mono (le2 (le2 (le2 le104 le105) le106) le107))), ⟨_, _, rfl, (kslice (h195.mono (le2 (le2 le105 le106) le107))), ⟨_, _, rfl, (kslice (h196.mono (le2 le106 le107))), ⟨_, _, rfl, (kslice (h197.mono le107)), ⟨_, _, rfl, (kslice h198), rfl⟩⟩⟩⟩⟩) (fun a A79 q141 w _ hE h199 hS => ?_))
   refine ⟨⟨show RP [b1] _ _ from ⟨(hS.heapAt (j := 6) rfl).trans hp_b4981.symm, trivial⟩, fun _ => hS.st.sees.mono (le2 (le2 (le2 (le2 (le2 (le2 (le2 (le2 le1 le3) le7) le35) le50) le104) le105) le106) le107)⟩, ?_⟩
   clear hp_b4981
   have hp_b4981 := hS.heapAt (j := 6) rfl
   obtain ⟨D139, q142, le139, hS, h312, h200⟩ := hS.lent h199
   obtain ⟨r48, h201, hf⟩ := bs hf
   refine oC 18 524287 1 rfl rfl rfl rfl hE rfl rfl rfl rfl (wire_All.calls h201 (hS.st.fore (L := [])) h200) fun a v w hR hE => ?_
   obtain ⟨D19, A37, c33, q18, rfl, hS1, h202⟩ := hR
   have le140 := hS1.dle
   have hS := hS.callR hS1 rfl (.c .n)
   refine ⟨⟨show RP [b1] _ _ from ⟨(hS.heapAt (j := 7) rfl).trans hp_b4981.symm, trivial⟩, fun _ => hS.st.sees.mono (le2 (le2 (le2 (le2 (le2 (le2 (le2 (le2 (le2 (le2 le1 le3) le7) le35) le50) le104) le105) le106) le107) le139) le140)⟩, ?_⟩
   clear hp_b4981
   refine wP 19 1048575 0 (.slice A37 (List.length (r48)) c33) hE fun a hE => ?_
   refine doneG (by kernel_rfl) ?_
   have hS := hS.p (.d 7 (.d 0 .n))
   exact ⟨r48, A37, c33, q18, D19, hE.wk, hS, (le2 (le2 (le2 (le2 (le2 (le2 (le2 (le2 (le2 (le2 le1 le3) le7) le35) le50) le104) le105) le106) le107) le139) le140), h202, hf⟩
  have hp_b4981 := hS.heapAt (j := 3) rfl
  obtain ⟨r49, h203, hf⟩ := bs hf
  refine (op_call rfl rfl rfl rfl hE rfl rfl rfl rfl (by kernel_rfl) (bundle_list_api_Sig.calls h203 (hS.st.fore (L := [])) (h4.mono (le2 (le2 (le2 le11 le1) le3) le7))) (fun a v w hR hE => ?_))
  obtain ⟨D140, A64, c60, q143, rfl, hS1, h204⟩ := hR
  have le36 := hS1.dle
  have hS := hS.callR hS1 rfl (.c .n)
  refine ⟨⟨show RP [b1] _ _ from ⟨(hS.heapAt (j := 4) rfl).trans hp_b4981.symm, trivial⟩, fun _ => hS.st.sees.mono (le2 (le2 (le2 le1 le3) le7) le36)⟩, ?_⟩
  clear hp_b4981
  have hp_b4981 := hS.heapAt (j := 4) rfl
  refine oG 0 131069 (fuel := 4) (by kernel_rfl) (op_buildSlice (K := (kdInt .u8)) (e := 5) (cs := [.int .u8 ((105 : Int))] ++ ([.int .u8 ((110 : Int))] ++ ([.int .u8 ((115 : Int))] ++ ([.int .u8 ((112 : Int))] ++ [])))) ([(105 : Int), (110 : Int), (115 : Int), (112 : Int)] : List Int) rfl rfl rfl rfl hE rfl hS rfl (by kernel_rfl) rfl rfl (by exact ⟨_, _, rfl, rfl, ⟨_, _, rfl, rfl, ⟨_, _, rfl, rfl, ⟨_, _, rfl, rfl, rfl⟩⟩⟩⟩) (fun a A65 q144 w _ hE h205 hS => ?_))
  refine ⟨⟨show RP [b1] _ _ from ⟨(hS.heapAt (j := 5) rfl).trans hp_b4981.symm, trivial⟩, fun _ => hS.st.sees.mono (le2 (le2 (le2 le1 le3) le7) le36)⟩, ?_⟩
  clear hp_b4981
  have hp_b4981 := hS.heapAt (j := 5) rfl
  refine oG 1 131071 (fuel := 3) (by kernel_rfl) (op_lit (T := 5) (l := ([(105 : Int), (110 : Int), (115 : Int), (112 : Int)] : List Int)) rfl rfl rfl rfl hE rfl hS rfl (by kernel_rfl) h205 (by kernel_rfl) (fun a D141 w _ le51 hE h30 hS => ?_))
  have h313 := OwnL.full 5 h30 rfl
  have hS := hS.nils
  refine ⟨⟨show RP [b1] _ _ from ⟨(hS.heapAt (j := 5) rfl).trans hp_b4981.symm, trivial⟩, fun _ => hS.st.sees.mono (le2 (le2 (le2 (le2 le1 le3) le7) le36) le51)⟩, ?_⟩
  clear hp_b4981
  have hp_b4981 := hS.heapAt (j := 5) rfl
  have hS := hS.p (.d 4 (.d 0 (.d 1 (.d 2 (.d 3 (.d 5 .n))))))
  obtain ⟨D142, q145, le108, hS, h314, h206⟩ := hS.lent (h1.mono (le2 (le2 (le2 le3 le7) le36) le51))
  have hS := hS.p (.d 4 (.d 0 (.d 1 (.d 2 (.d 3 (.d 5 .n))))))
  obtain ⟨D143, q146, le109, hS, h315, h207⟩ := hS.lent (h2.mono (le2 (le2 (le2 le7 le36) le51) le108))
  have hS := hS.p (.d 4 (.d 0 (.d 1 (.d 2 (.d 3 (.d 5 .n))))))
  obtain ⟨D144, q147, le110, hS, h316, h208⟩ := hS.lent (h11.mono (le2 (le2 (le2 le36 le51) le108) le109))
  have hS := hS.p (.d 4 (.d 0 (.d 1 (.d 2 (.d 3 (.d 5 .n))))))
  obtain ⟨D145, q148, le111, hS, h317, h209⟩ := hS.lent (h204.mono (le2 (le2 (le2 le51 le108) le109) le110))
  refine oG 17 262143 (fuel := 2) (by kernel_rfl) (op_buildSlice (K := (kdSlice (kdInt .u8))) (e := 37) (cs := [.slice A65 (List.length (([(105 : Int), (110 : Int), (115 : Int), (112 : Int)] : List Int))) 4] ++ ([.slice A1 (List.length (r1)) c1] ++ ([.slice A3 (List.length (r2)) c2] ++ ([.slice A17 (List.length (r6)) c14] ++ ([.slice A64 (List.length (r49)) c60] ++ []))))) ([([(105 : Int), (110 : Int), (115 : Int), (112 : Int)] : List Int), r1, r2, r6, r49] : List (List Int)) rfl rfl rfl rfl hE rfl hS rfl (by kernel_rfl) rfl rfl (by exact ⟨_, _, rfl, (kslice (h30.mono (le2 (le2 (le2 le108 le109) le110) le111))), ⟨_, _, rfl, (kslice (h206.mono (le2 (le2 le109 le110) le111))), ⟨_, _, rfl, (kslice (h207.mono (le2 le110 le111))), ⟨_, _, rfl, (kslice (h208.mono le111)), ⟨_, _, rfl, (kslice h209), rfl⟩⟩⟩⟩⟩) (fun a A80 q149 w _ hE h210 hS => ?_))
  refine ⟨⟨show RP [b1] _ _ from ⟨(hS.heapAt (j := 6) rfl).trans hp_b4981.symm, trivial⟩, fun _ => hS.st.sees.mono (le2 (le2 (le2 (le2 (le2 (le2 (le2 (le2 le1 le3) le7) le36) le51) le108) le109) le110) le111)⟩, ?_⟩
  clear hp_b4981
  have hp_b4981 := hS.heapAt (j := 6) rfl
  obtain ⟨D146, q150, le141, hS, h318, h211⟩ := hS.lent h210
  obtain ⟨r50, h212, hf⟩ := bs hf
  refine oC 18 524287 1 rfl rfl rfl rfl hE rfl rfl rfl rfl (wire_All.calls h212 (hS.st.fore (L := [])) h211) fun a v w hR hE => ?_
  obtain ⟨D20, A38, c34, q19, rfl, hS1, h213⟩ := hR
  have le142 := hS1.dle
  have hS := hS.callR hS1 rfl (.c .n)
  refine ⟨⟨show RP [b1] _ _ from ⟨(hS.heapAt (j := 7) rfl).trans hp_b4981.symm, trivial⟩, fun _ => hS.st.sees.mono (le2 (le2 (le2 (le2 (le2 (le2 (le2 (le2 (le2 (le2 le1 le3) le7) le36) le51) le108) le109) le110) le111) le141) le142)⟩, ?_⟩
  clear hp_b4981
  refine wP 19 1048575 0 (.slice A38 (List.length (r50)) c34) hE fun a hE => ?_
  refine doneG (by kernel_rfl) ?_
  have hS := hS.p (.d 7 (.d 0 .n))
  exact ⟨r50, A38, c34, q19, D20, hE.wk, hS, (le2 (le2 (le2 (le2 (le2 (le2 (le2 (le2 (le2 (le2 le1 le3) le7) le36) le51) le108) le109) le110) le111) le141) le142), h213, hf⟩
 clear hE hS
 rintro a w ⟨y2, A6, c5, q1, D2, hE, hS, le143, h31, hf⟩
 replace hf := hj1 _ hf
 clear hj1
 refine sq (sq (ra ?_))
 refine sM 3 3 [0] [(30, .bool ((!x1.fWhole)))] hE hS fun a hE => ?_
 refine ae ?_
 refine cond_split hE (b := (!x1.fWhole)) rfl (fun hb => ?_) (fun hb => ?_)
 ·replace hf := ct hb hf
  refine sq (ra ?_)
  refine sM 3 3 [0] [(31, .slice A6 (List.length (y2)) c5), (33, .slice A5 (List.length (x1.fItems)) c6)] hE hS fun a hE => ?_
  obtain ⟨r51, h214, hf⟩ := bs hf
  refine aC rfl rfl rfl rfl hE rfl rfl rfl rfl (bundle_list_api_Item.calls h214 (hS.st.fore (L := [])) (h7.mono (le2 le11 le143))) fun a v w hR hE => ?_
  obtain ⟨D147, A81, c61, q151, rfl, hS1, h215⟩ := hR
  have le146 := hS1.dle
  have hS := hS.callR hS1 rfl (.c .n)
  obtain ⟨D21, q152, le147, hS, h319, h216⟩ := hS.lent h215
  have hS := hS.p (.d 2 (.d 0 (.d 1 .n)))
  obtain ⟨l1, h217, hf⟩ := bs hf
  refine at_op (g_append (K := (kdInt .u8)) (e := 5) (bytes := 1) (l := y2) (m := r51) rfl rfl rfl rfl hE rfl hS rfl rfl (by kernel_rfl) rfl rfl (h31.mono (le2 le146 le147)) h216 h217 (fun a A18 c15 q20 w _ hE h218 hS => ?_)) rfl
  refine sN 1 6 [(2, .slice A18 (List.length (l1)) c15)] hE fun a hE => ?_
  refine ae ?_
  refine wpIn_ret ?_
  obtain rfl := si hf
  refine ret_ ?_
  refine rT 2 (.slice A18 (List.length (l1)) c15) hE ?_
  have hS := hS.p (.d 0 .n)
  exact ⟨_, rfl, D21, A18, c15, q20, rfl, hS, h218⟩
 replace hf := cf hb hf
 refine wpIn_skip ?_
 refine sq (sq (ra ?_))
 refine sM 4 4 [0] [(37, .slice A5 (List.length (x1.fItems)) c6), (38, .int .i64 (((List.length (x1.fItems) : Nat) : Int))), (39, .int .i64 ((0 : Int)))] hE hS fun a hE => ?_
 refine ae ?_
 obtain ⟨s1, hf, hs1⟩ := bs hf
 have hS := hS.p (.d 1 .n)
 refine block_loop (fun a w => ∃ (z1 : (List Int)), ∃ A4, ∃ c4, ∃ q2, ∃ D3, Env a 50 [] [(3, .slice A4 (List.length (z1)) c4)] ∧ Stp g w0 D0 [] w D3 [q2] ∧ Snap.le D2 D3 ∧ OwnD (kdInt .u8) 5 D3 A4 c4 (z1) q2 ∧ z1 = s1) (fun k a w => ∃ (y1 : (List Int) × Int), ∃ A8, ∃ c7, ∃ q3, ∃ D4, Env a 50 [] [(3, .slice A8 (List.length (y1.1)) c7), (37, .slice A5 (List.length (x1.fItems)) c6), (38, .int .i64 (((List.length (x1.fItems) : Nat) : Int))), (39, .int .i64 (y1.2))] ∧ Stp g w0 D0 [] w D4 [q3] ∧ Snap.le D2 D4 ∧ OwnD (kdInt .u8) 5 D4 A8 c7 (y1.1) q3 ∧ bundle_Put_l1.l K x1 k y1 = some s1) K ?_ ?_ ?_
 ·exact ⟨(y2, (0 : Int)), A6, c5, q1, D2, hE.wk, hS, lr, h31, hf⟩
 ·clear hE hS hf
  rintro a w ⟨z1, A4, c4, q2, D3, hE, hS, le148, h219, rfl⟩
  have hf := hs1
  clear hs1
  refine sq (ra ?_)
  refine sN 2 2 [(2, .slice A4 (List.length (z1)) c4)] hE fun a hE => ?_
  refine ae ?_
  refine wpIn_ret ?_
  obtain rfl := si hf
  refine ret_ ?_
  refine rT 2 (.slice A4 (List.length (z1)) c4) hE ?_
  exact ⟨_, rfl, D3, A4, c4, q2, rfl, hS, h219⟩
 clear hE hS hf
 rintro k a w ⟨y1, A8, c7, q3, D4, hE, hS, le112, h32, hf⟩
 obtain ⟨k, rfl, hf⟩ := bundle_Put_l1.some _ hf
 refine ⟨k, rfl, ?_⟩
 unfold bundle_Put_l1.b at hf
 refine sq (ra ?_)
 refine sN 1 1 [(40, .bool ((decide (y1.2 < ((List.length (x1.fItems) : Nat) : Int)))))] hE fun a hE => ?_
 refine ae ?_
 refine sq ?_
 refine cond_split hE (b := (decide (y1.2 < ((List.length (x1.fItems) : Nat) : Int)))) rfl (fun hb => ?_) (fun hb => ?_)
 ·replace hf := ct hb hf
  refine wpIn_skip ?_
  refine sq ?_
  refine wpIn_block ?_
  refine sq (ra ?_)
  obtain ⟨x2, h220, hf⟩ := bs hf
  refine at_op (op_tk hE (g_index (K := kd_T_api_Item) (e := 42) (by_ := 256) (zl := 111) rfl rfl rfl rfl hE rfl rfl rfl (by kernel_rfl) rfl (h7.mono (le2 (le2 le11 le143) le112)) h220 (fun a b2 o1 hE h221 => ?_))) rfl
  obtain ⟨cs1, C1, T1, fr1, hr1, hb1, hc1⟩ := id h221
  obtain ⟨A9, c8, A10, c9, A13, c11, rfl, h222, h223, h320⟩ := kd_T_api_Item_el hr1
  refine at_op (op_tk hE (tk_loadX (off0 := o1) (off := 0) (c := c_T_api_Item (x2) A9 c8 A10 c9 A13 c11) (.agg (List.toArray (c_T_api_Item (x2) A9 c8 A10 c9 A13 c11))) rfl rfl rfl rfl hE rfl hS rfl hb1 hc1 (by kernel_rfl) (by kernel_rfl) (kD hS dn_nil) (fun a hE => ?_))) rfl
  refine at_op (op_alloc (z := .agg (List.toArray (c_T_api_Item (z_T_api_Item) none 0 none 0 none 0))) rfl rfl rfl rfl hE rfl hS (by kernel_rfl) (fun a b3 w _ hE hS => ?_)) rfl
  refine at_op (op_store (v := .agg (List.toArray (c_T_api_Item (x2) A9 c8 A10 c9 A13 c11))) (c_T_api_Item (x2) A9 c8 A10 c9 A13 c11) rfl rfl rfl rfl hE hS rfl rfl (by kernel_rfl) (by kernel_rfl) (by kernel_rfl) (by kernel_rfl) (by kernel_rfl) (fun a w _ hE hS => ?_)) rfl
  refine ae ?_
  refine ra ?_
  refine sM 3 3 [0] [(43, .slice A8 (List.length (y1.1)) c7), (45, .agg (List.toArray (c_T_api_Rec (x2.fRec) A9 c8 A10 c9)))] hE hS fun a hE => ?_
  obtain ⟨r52, h224, hf⟩ := bs hf
  refine aC rfl rfl rfl rfl hE rfl rfl rfl rfl (rec_Open.calls h224 (hS.st.fore (L := [])) h222 h223) fun a v w hR hE => ?_
  obtain ⟨D148, A82, c62, q153, rfl, hS1, h225⟩ := hR
  have le144 := hS1.dle
  have hS := hS.callR hS1 rfl (.c .n)
  obtain ⟨D22, q154, le145, hS, h321, h226⟩ := hS.lent h225
  have hS := hS.p (.d 2 (.d 0 (.d 1 .n)))
  obtain ⟨l2, h227, hf⟩ := bs hf
  refine at_op (g_append (K := (kdInt .u8)) (e := 5) (bytes := 1) (l := y1.1) (m := r52) rfl rfl rfl rfl hE rfl hS rfl rfl (by kernel_rfl) rfl rfl (h32.mono (le2 le144 le145)) h226 h227 (fun a A39 c35 q21 w _ hE h228 hS => ?_)) rfl
  refine sN 1 6 [(3, .slice A39 (List.length (l2)) c35)] hE fun a hE => ?_
  refine ae ?_
  refine ra ?_
  refine sN 2 2 [(39, .int .i64 ((IntKind.wrap .i64 (y1.2 + (1 : Int)))))] hE fun a hE => ?_
  refine ae ?_
  have hS := hS.p (.d 0 .n)
  exact ⟨(l2, (IntKind.wrap .i64 (y1.2 + (1 : Int)))), A39, c35, q21, D22, hE.wk, hS, (le2 (le2 le112 le144) le145), h228, hf⟩
 replace hf := cf hb hf
 refine wpIn_exit ?_
 obtain rfl := si hf
 exact ⟨y1.1, A8, c7, q3, D4, hE.wk, hS, le112, h32, rfl⟩
set_option maxRecDepth 100000 in
theorem inspeximusref01_Bytes.calls {K : Nat} {g w0 : World} {D0 : Snap} {x1 : (List Int)} {x5 : (List Int)} {A2 : Option Addr} {c3 : Nat} {A6 : Option Addr} {c7 : Nat} {r : (Bool)} (hf : inspeximusref01_Bytes.f K x1 x5 = some r) (hS0 : St g w0 D0 []) (h4 : Sl (kdInt .u8) D0 A2 c3 (x1)) (h8 : Sl (kdInt .u8) D0 A6 c7 (x5)) :
  CallsIn (Fw none) 0 Tryd.prog 18 (List.toArray [.slice A2 (List.length (x1)) c3, .slice A6 (List.length (x5)) c7]) w0 (fun e w' => ∃ v, e = .returned v ∧ ∃ D1, v = .bool (r) ∧ Stp g w0 D0 [] w' D1 []) := by
 unfold inspeximusref01_Bytes.f at hf
 have hS := Stp.refl hS0
 clear hS0
 refine calls_body (n := 26) Tryd.func18 rfl Tryd.ntmps18 rfl fun a hE => ?_
 have hE : Env a 26 [] [(0, .slice A2 (List.length (x1)) c3), (1, .slice A6 (List.length (x5)) c7)] := hE
 refine sq (ra ?_)
 refine sN 1 1 [(4, .bool false)] hE fun a hE => ?_
 refine ae ?_
 refine sq (sq (ra ?_))
 refine sN 5 5 [(10, .bool ((!decide (((List.length (x1) : Nat) : Int) = ((List.length (x5) : Nat) : Int)))))] hE fun a hE => ?_
 refine ae ?_
 refine cond_split hE (b := (!decide (((List.length (x1) : Nat) : Int) = ((List.length (x5) : Nat) : Int)))) rfl (fun hb => ?_) (fun hb => ?_)
 ·replace hf := ct hb hf
  refine sq (ra ?_)
  refine sN 1 1 [(4, .bool false)] hE fun a hE => ?_
  refine ae ?_
  refine wpIn_ret ?_
  obtain rfl := si hf
  refine ret_ ?_
  refine rT 4 (.bool false) hE ?_
  exact ⟨_, rfl, D0, rfl, hS⟩
 replace hf := cf hb hf
 refine wpIn_skip ?_
 refine sq (sq (ra ?_))
 refine sN 1 1 [(5, .int .i64 ((0 : Int)))] hE fun a hE => ?_
 refine ae ?_
 obtain ⟨s1, hf, hs1⟩ := bs hf
 refine block_loop (fun a w => ∃ (z1 : Unit), ∃ D3, Env a 26 [] [] ∧ Stp g w0 D0 [] w D3 [] ∧ Snap.le D0 D3 ∧ (Sum.inr z1) = s1) (fun k a w => ∃ (y1 : Int), ∃ D2, Env a 26 [] [(0, .slice A2 (List.length (x1)) c3), (1, .slice A6 (List.length (x5)) c7), (5, .int .i64 (y1))] ∧ Stp g w0 D0 [] w D2 [] ∧ Snap.le D0 D2 ∧ inspeximusref01_Bytes_l1.l K x1 x5 k y1 = some s1) K ?_ ?_ ?_
 ·exact ⟨(0 : Int), D0, hE.wk, hS, lr, hf⟩
 ·clear hE hS hf
  rintro a w ⟨z1, D3, hE, hS, le2, rfl⟩
  have hf := hs1
  clear hs1
  refine sq (ra ?_)
  refine sN 1 1 [(4, .bool true)] hE fun a hE => ?_
  refine ae ?_
  refine wpIn_ret ?_
  obtain rfl := si hf
  refine ret_ ?_
  refine rT 4 (.bool true) hE ?_
  exact ⟨_, rfl, D3, rfl, hS⟩
 clear hE hS hf
 rintro k a w ⟨y1, D2, hE, hS, le1, hf⟩
 obtain ⟨k, rfl, hf⟩ := inspeximusref01_Bytes_l1.some _ _ hf
 refine ⟨k, rfl, ?_⟩
 unfold inspeximusref01_Bytes_l1.b at hf
 refine sq (sq (ra ?_))
 refine sN 4 4 [(14, .bool ((decide (y1 < ((List.length (x1) : Nat) : Int)))))] hE fun a hE => ?_
 refine ae ?_
 refine cond_split hE (b := (decide (y1 < ((List.length (x1) : Nat) : Int)))) rfl (fun hb => ?_) (fun hb => ?_)
 ·replace hf := ct hb hf
  refine wpIn_skip ?_
  refine sq ?_
  refine wpIn_block ?_
  refine sq ?_
  refine region_draw (fun j => Keeps (mfOf [] j)) (by kernel_rfl) ?_
  have hS := hS.drew
  first | generalize w.drew = w at hS ⊢ | generalize w0.drew = w at hS ⊢
  refine wP 0 1 8 (.slice A2 (List.length (x1)) c3) hE fun a hE => ?_
  refine wP 1 3 7 (.int .i64 (y1)) hE fun a hE => ?_
  refine wP 4 19 6 (.slice A6 (List.length (x5)) c7) hE fun a hE => ?_
  refine wP 5 51 5 (.int .i64 (y1)) hE fun a hE => ?_
  obtain ⟨x2, h1, hf⟩ := bs hf
  refine tW 2 55 (fuel := 4) (by kernel_rfl) hE (fun M => g_index (K := (kdInt .u8)) (e := 5) (by_ := 1) (zl := 1) rfl rfl rfl rfl hE rfl rfl rfl (by kernel_rfl) rfl (h4.mono le1) h1 (fun a b1 o1 hE h2 => ?_))
  obtain ⟨cs1, C1, T1, fr1, hr1, hb1, hc1⟩ := id h2
  obtain rfl := hr1
  refine tT 3 63 (fuel := 3) (by kernel_rfl) hE (tk_loadX (off0 := o1) (off := 0) (c := [.int .u8 (x2)]) (.int .u8 (x2)) rfl rfl rfl rfl hE rfl hS rfl hb1 hc1 (by kernel_rfl) (by kernel_rfl) (kD hS dn_nil) (fun a hE => ?_))
  obtain ⟨x3, h3, hf⟩ := bs hf
  refine tW 6 127 (fuel := 2) (by kernel_rfl) hE (fun M => g_index (K := (kdInt .u8)) (e := 5) (by_ := 1) (zl := 1) rfl rfl rfl rfl hE rfl rfl rfl (by kernel_rfl) rfl (h8.mono le1) h3 (fun a b2 o2 hE h5 => ?_))
  obtain ⟨cs2, C2, T2, fr2, hr2, hb2, hc2⟩ := id h5
  obtain rfl := hr2
  refine tT 7 255 (fuel := 1) (by kernel_rfl) hE (tk_loadX (off0 := o2) (off := 0) (c := [.int .u8 (x3)]) (.int .u8 (x3)) rfl rfl rfl rfl hE rfl hS rfl hb2 hc2 (by kernel_rfl) (by kernel_rfl) (kD hS dn_nil) (fun a hE => ?_))
  refine wP 8 511 0 (.bool ((!decide (x2 = x3)))) hE fun a hE => ?_
  refine doneG (by kernel_rfl) ?_
  refine cond_split hE (b := (!decide (x2 = x3))) rfl (fun hb => ?_) (fun hb => ?_)
  ·replace hf := ct hb hf
   refine sq (ra ?_)
   refine sN 1 1 [(4, .bool false)] hE fun a hE => ?_
   refine ae ?_
   refine wpIn_ret ?_
   obtain rfl := si hf
   replace hf := hs1
   obtain rfl := si hf
   refine ret_ ?_
   refine rT 4 (.bool false) hE ?_
   exact ⟨_, rfl, D2, rfl, hS⟩
  replace hf := cf hb hf
  refine wpIn_skip ?_
  refine ra ?_
  refine sN 3 3 [(5, .int .i64 ((IntKind.wrap .i64 (y1 + (1 : Int)))))] hE fun a hE => ?_
  exact ae ⟨(IntKind.wrap .i64 (y1 + (1 : Int))), D2, hE.wk, hS, le1, hf⟩
 replace hf := cf hb hf
 refine wpIn_exit ?_
 obtain rfl := si hf
 exact ⟨(), D2, hE.wk, hS, le1, rfl⟩
set_option maxRecDepth 100000 in
theorem inspeximusref05_Same.calls {K : Nat} {g w0 : World} {D0 : Snap} {x1 : (List (Vector Int 32))} {x5 : (List (Vector Int 32))} {A2 : Option Addr} {c3 : Nat} {A6 : Option Addr} {c7 : Nat} {r : (Bool)} (hf : inspeximusref05_Same.f K x1 x5 = some r) (hS0 : St g w0 D0 []) (h4 : Sl (kdArr .u8 32) D0 A2 c3 (x1)) (h8 : Sl (kdArr .u8 32) D0 A6 c7 (x5)) :
  CallsIn (Fw none) 0 Tryd.prog 20 (List.toArray [.slice A2 (List.length (x1)) c3, .slice A6 (List.length (x5)) c7]) w0 (fun e w' => ∃ v, e = .returned v ∧ ∃ D1, v = .bool (r) ∧ Stp g w0 D0 [] w' D1 []) := by
 unfold inspeximusref05_Same.f at hf
 have hS := Stp.refl hS0
 clear hS0
 refine calls_body (n := 26) Tryd.func20 rfl Tryd.ntmps20 rfl fun a hE => ?_
 have hE : Env a 26 [] [(0, .slice A2 (List.length (x1)) c3), (1, .slice A6 (List.length (x5)) c7)] := hE
 refine sq (ra ?_)
 refine sN 1 1 [(4, .bool false)] hE fun a hE => ?_
 refine ae ?_
 refine sq (sq (ra ?_))
 refine sN 5 5 [(10, .bool ((!decide (((List.length (x1) : Nat) : Int) = ((List.length (x5) : Nat) : Int)))))] hE fun a hE => ?_
 refine ae ?_
 refine cond_split hE (b := (!decide (((List.length (x1) : Nat) : Int) = ((List.length (x5) : Nat) : Int)))) rfl (fun hb => ?_) (fun hb => ?_)
 ·replace hf := ct hb hf
  refine sq (ra ?_)
  refine sN 1 1 [(4, .bool false)] hE fun a hE => ?_
  refine ae ?_
  refine wpIn_ret ?_
  obtain rfl := si hf
  refine ret_ ?_
  refine rT 4 (.bool false) hE ?_
  exact ⟨_, rfl, D0, rfl, hS⟩
 replace hf := cf hb hf
 refine wpIn_skip ?_
 refine sq (sq (ra ?_))
 refine sN 1 1 [(5, .int .i64 ((0 : Int)))] hE fun a hE => ?_
 refine ae ?_
 obtain ⟨s1, hf, hs1⟩ := bs hf
 refine block_loop (fun a w => ∃ (z1 : Unit), ∃ D3, Env a 26 [] [] ∧ Stp g w0 D0 [] w D3 [] ∧ Snap.le D0 D3 ∧ (Sum.inr z1) = s1) (fun k a w => ∃ (y1 : Int), ∃ D2, Env a 26 [] [(0, .slice A2 (List.length (x1)) c3), (1, .slice A6 (List.length (x5)) c7), (5, .int .i64 (y1))] ∧ Stp g w0 D0 [] w D2 [] ∧ Snap.le D0 D2 ∧ inspeximusref05_Same_l1.l K x1 x5 k y1 = some s1) K ?_ ?_ ?_
 ·exact ⟨(0 : Int), D0, hE.wk, hS, lr, hf⟩
 ·clear hE hS hf
  rintro a w ⟨z1, D3, hE, hS, le2, rfl⟩
  have hf := hs1
  clear hs1
  refine sq (ra ?_)
  refine sN 1 1 [(4, .bool true)] hE fun a hE => ?_
  refine ae ?_
  refine wpIn_ret ?_
  obtain rfl := si hf
  refine ret_ ?_
  refine rT 4 (.bool true) hE ?_
  exact ⟨_, rfl, D3, rfl, hS⟩
 clear hE hS hf
 rintro k a w ⟨y1, D2, hE, hS, le1, hf⟩
 obtain ⟨k, rfl, hf⟩ := inspeximusref05_Same_l1.some _ _ hf
 refine ⟨k, rfl, ?_⟩
 unfold inspeximusref05_Same_l1.b at hf
 refine sq (sq (ra ?_))
 refine sN 4 4 [(14, .bool ((decide (y1 < ((List.length (x1) : Nat) : Int)))))] hE fun a hE => ?_
 refine ae ?_
 refine cond_split hE (b := (decide (y1 < ((List.length (x1) : Nat) : Int)))) rfl (fun hb => ?_) (fun hb => ?_)
 ·replace hf := ct hb hf
  refine wpIn_skip ?_
  refine sq ?_
  refine wpIn_block ?_
  refine sq ?_
  refine region_draw (fun j => Keeps (mfOf [] j)) (by kernel_rfl) ?_
  have hS := hS.drew
  first | generalize w.drew = w at hS ⊢ | generalize w0.drew = w at hS ⊢
  refine wP 0 1 8 (.slice A2 (List.length (x1)) c3) hE fun a hE => ?_
  refine wP 1 3 7 (.int .i64 (y1)) hE fun a hE => ?_
  refine wP 4 19 6 (.slice A6 (List.length (x5)) c7) hE fun a hE => ?_
  refine wP 5 51 5 (.int .i64 (y1)) hE fun a hE => ?_
  obtain ⟨x2, h1, hf⟩ := bs hf
  refine tW 2 55 (fuel := 4) (by kernel_rfl) hE (fun M => g_index (K := (kdArr .u8 32)) (e := 24) (by_ := 32) (zl := 32) rfl rfl rfl rfl hE rfl rfl rfl (by kernel_rfl) rfl (h4.mono le1) h1 (fun a b1 o1 hE h2 => ?_))
  obtain ⟨cs1, C1, T1, fr1, hr1, hb1, hc1⟩ := id h2
  obtain rfl := hr1
  refine tT 3 63 (fuel := 3) (by kernel_rfl) hE (tk_loadX (off0 := o1) (off := 0) (c := acells .u8 32 (x2)) (.agg (List.toArray (acells .u8 32 (x2)))) rfl rfl rfl rfl hE rfl hS rfl hb1 hc1 (by kernel_rfl) (by kernel_rfl) (kD hS dn_nil) (fun a hE => ?_))
  obtain ⟨x3, h3, hf⟩ := bs hf
  refine tW 6 127 (fuel := 2) (by kernel_rfl) hE (fun M => g_index (K := (kdArr .u8 32)) (e := 24) (by_ := 32) (zl := 32) rfl rfl rfl rfl hE rfl rfl rfl (by kernel_rfl) rfl (h8.mono le1) h3 (fun a b2 o2 hE h5 => ?_))
  obtain ⟨cs2, C2, T2, fr2, hr2, hb2, hc2⟩ := id h5
  obtain rfl := hr2
  refine tT 7 255 (fuel := 1) (by kernel_rfl) hE (tk_loadX (off0 := o2) (off := 0) (c := acells .u8 32 (x3)) (.agg (List.toArray (acells .u8 32 (x3)))) rfl rfl rfl rfl hE rfl hS rfl hb2 hc2 (by kernel_rfl) (by kernel_rfl) (kD hS dn_nil) (fun a hE => ?_))
  refine tW 8 511 (fuel := 0) (by kernel_rfl) hE (fun M => tk_bin (r := .bool ((!(decide (x2 = x3))))) rfl rfl rfl rfl hE rfl rfl rfl (neagg_run (by kernel_rfl) (EqR_arr (k := .u8) (N := 32) (by kernel_rfl))) (fun a hE => ?_))
  refine doneG (by kernel_rfl) ?_
  refine cond_split hE (b := (!(decide (x2 = x3)))) rfl (fun hb => ?_) (fun hb => ?_)
  ·replace hf := ct hb hf
   refine sq (ra ?_)
   refine sN 1 1 [(4, .bool false)] hE fun a hE => ?_
   refine ae ?_
   refine wpIn_ret ?_
   obtain rfl := si hf
   replace hf := hs1
   obtain rfl := si hf
   refine ret_ ?_
   refine rT 4 (.bool false) hE ?_
   exact ⟨_, rfl, D2, rfl, hS⟩
  replace hf := cf hb hf
  refine wpIn_skip ?_
  refine ra ?_
  refine sN 3 3 [(5, .int .i64 ((IntKind.wrap .i64 (y1 + (1 : Int)))))] hE fun a hE => ?_
  exact ae ⟨(IntKind.wrap .i64 (y1 + (1 : Int))), D2, hE.wk, hS, le1, hf⟩
 replace hf := cf hb hf
 refine wpIn_exit ?_
 obtain rfl := si hf
 exact ⟨(), D2, hE.wk, hS, le1, rfl⟩
set_option maxRecDepth 100000 in
theorem inspeximuslaw18_ExportGone.calls {K : Nat} {g w0 : World} {D0 : Snap} {x1 : (List T_api_Rec)} {x5 : T_api_Point} {x9 : Int} {x10 : (List Int)} {A2 : Option Addr} {c3 : Nat} {A6 : Option Addr} {c7 : Nat} {A11 : Option Addr} {c12 : Nat} {r : (Bool)} (hf : inspeximuslaw18_ExportGone.f K x1 x5 x9 x10 = some r) (hS0 : St g w0 D0 []) (h4 : Sl kd_T_api_Rec D0 A2 c3 (x1)) (h8 : Sl kd_T_api_Sig D0 A6 c7 (x5.fSigs)) (h13 : Sl (kdInt .i64) D0 A11 c12 (x10)) (hG0 : Cell (kdArr .u32 8) D0 0 0 gl_First) (hG1 : Cell (kdArr .u32 64) D0 1 0 gl_K) :
  CallsIn (Fw none) 0 Tryd.prog 6 (List.toArray [.slice A2 (List.length (x1)) c3, .agg (List.toArray (c_T_api_Point (x5) A6 c7)), .int .u32 (x9), .slice A11 (List.length (x10)) c12]) w0 (fun e w' => ∃ v, e = .returned v ∧ ∃ D1, v = .bool (r) ∧ Stp g w0 D0 [] w' D1 []) := by
 unfold inspeximuslaw18_ExportGone.f at hf
 have hS := Stp.refl hS0
 clear hS0
 refine calls_body (n := 107) Tryd.func6 rfl Tryd.ntmps6 rfl fun a hE => ?_
 have hE : Env a 107 [] [(0, .slice A2 (List.length (x1)) c3), (1, .agg (List.toArray (c_T_api_Point (x5) A6 c7))), (2, .int .u32 (x9)), (3, .slice A11 (List.length (x10)) c12)] := hE
 refine sq (ra ?_)
 refine at_op (op_box rfl rfl rfl rfl hE rfl hS rfl (fun a b1 w _ hE hS => ?_)) rfl
 refine sN 1 2 [(8, .bool false)] hE fun a hE => ?_
 refine ae ?_
 refine sq (sq (ra ?_))
 obtain ⟨r8, h6, hf⟩ := bs hf
 refine aC rfl rfl rfl rfl hE rfl rfl rfl rfl (inspeximuslaw18_alive.calls h6 (hS.st.fore (L := [])) hG0 hG1) fun a v w hR hE => ?_
 obtain ⟨D8, rfl, hS1⟩ := hR
 have le1 := hS1.dle
 have hS := hS.callR hS1 rfl .n
 refine sN 1 2 [(21, .bool ((!r8)))] hE fun a hE => ?_
 refine ae ?_
 refine cond_split hE (b := (!r8)) rfl (fun hb => ?_) (fun hb => ?_)
 ·replace hf := ct hb hf
  refine sq (ra ?_)
  refine sN 1 1 [(8, .bool false)] hE fun a hE => ?_
  refine ae ?_
  refine wpIn_ret ?_
  obtain rfl := si hf
  refine ret_ ?_
  refine rT 8 (.bool false) hE ?_
  have hS := hS.p .n
  exact ⟨_, rfl, D8, rfl, hS⟩
 replace hf := cf hb hf
 refine wpIn_skip ?_
 refine sq ?_
 obtain ⟨j1, hj1, hf⟩ := jn_elim hf
 refine seq_join (fun a w => ∃ (y3 : Bool), ∃ D2, Env a 107 [] [(0, .slice A2 (List.length (x1)) c3), (2, .int .u32 (x9)), (3, .slice A11 (List.length (x10)) c12), (5, .pointer (some ⟨b1, 0, none⟩)), (30, .bool (y3))] ∧ Stp g w0 D0 [] w D2 [bx b1 27 (c_T_api_Point (x5) A6 c7)] ∧ Snap.le D8 D2 ∧ j1 y3 = some r) ?_ ?_
 ·clear hj1
  refine ra ?_
  refine sM 2 2 [0] [(22, .slice A2 (List.length (x1)) c3), (23, .agg (List.toArray (c_T_api_Point (x5) A6 c7)))] hE hS fun a hE => ?_
  obtain ⟨r9, h7, hf⟩ := bs hf
  refine aC rfl rfl rfl rfl hE rfl rfl rfl rfl (inspeximuslaw18_few.calls h7 (hS.st.fore (L := [])) (h4.mono le1) (h8.mono le1)) fun a v w hR hE => ?_
  obtain ⟨D9, rfl, hS1⟩ := hR
  have le20 := hS1.dle
  have hS := hS.callR hS1 rfl .n
  refine sN 2 5 [(26, .bool ((!r9)))] hE fun a hE => ?_
  refine bo ((!r9)) (fun hb => ?_) fun hb => ?_
  ·replace hf := cf hb hf
   have hE := hE.know (t := 26) rfl hb
   refine sN 4 9 [(30, .bool ((decide ((60 : Int) < ((List.length (x10) : Nat) : Int)))))] hE fun a hE => ?_
   exact ae ⟨(decide ((60 : Int) < ((List.length (x10) : Nat) : Int))), D9, hE.wk, hS, le20, hf⟩
  replace hf := ct hb hf
  have hE := hE.know (t := 26) rfl hb
  refine sN 4 9 [(30, .bool true)] hE fun a hE => ?_
  exact ae ⟨true, D9, hE.wk, hS, le20, hf⟩
 clear hE hS
 rintro a w ⟨y3, D2, hE, hS, le3, hf⟩
 replace hf := hj1 _ hf
 clear hj1
 refine cond_split hE (b := y3) rfl (fun hb => ?_) (fun hb => ?_)
 ·replace hf := ct hb hf
  refine sq (ra ?_)
  refine sN 1 1 [(8, .bool true)] hE fun a hE => ?_
  refine ae ?_
  refine wpIn_ret ?_
  obtain rfl := si hf
  refine ret_ ?_
  refine rT 8 (.bool true) hE ?_
  have hS := hS.p .n
  exact ⟨_, rfl, D2, rfl, hS⟩
 replace hf := cf hb hf
 refine wpIn_skip ?_
 refine sq (ra ?_)
 refine sN 1 1 [(9, .slice none 0 0)] hE fun a hE => ?_
 refine ae ?_
 refine sq (sq (ra ?_))
 refine sN 1 1 [(10, .int .i64 ((0 : Int)))] hE fun a hE => ?_
 refine ae ?_
 obtain ⟨s1, hf, hs1⟩ := bs hf
 have hS := hS.nils
 have hS := hS.p (.d 1 (.d 0 .n))
 refine block_loop (fun a w => ∃ (z1 : (List T_api_Rec)), ∃ A1, ∃ c1, ∃ q2, ∃ D5, Env a 107 [] [(0, .slice A2 (List.length (x1)) c3), (2, .int .u32 (x9)), (3, .slice A11 (List.length (x10)) c12), (5, .pointer (some ⟨b1, 0, none⟩)), (9, .slice A1 (List.length (z1)) c1)] ∧ Stp g w0 D0 [] w D5 [bx b1 27 (c_T_api_Point (x5) A6 c7), q2] ∧ Snap.le D2 D5 ∧ OwnD kd_T_api_Rec 39 D5 A1 c1 (z1) q2 ∧ z1 = s1) (fun k a w => ∃ (y1 : (List T_api_Rec) × Int), ∃ A3, ∃ c2, ∃ q1, ∃ D3, Env a 107 [] [(0, .slice A2 (List.length (x1)) c3), (2, .int .u32 (x9)), (3, .slice A11 (List.length (x10)) c12), (5, .pointer (some ⟨b1, 0, none⟩)), (9, .slice A3 (List.length (y1.1)) c2), (10, .int .i64 (y1.2))] ∧ Stp g w0 D0 [] w D3 [bx b1 27 (c_T_api_Point (x5) A6 c7), q1] ∧ Snap.le D2 D3 ∧ OwnD kd_T_api_Rec 39 D3 A3 c2 (y1.1) q1 ∧ inspeximuslaw18_ExportGone_l1.l K x1 x9 k y1 = some s1) K ?_ ?_ ?_
 ·exact ⟨(([] : List T_api_Rec), (0 : Int)), none, 0, none, D2, hE.wk, hS, lr, (OwnD.nil kd_T_api_Rec 39 D2), hf⟩
 ·clear hE hS hf
  rintro a w ⟨z1, A1, c1, q2, D5, hE, hS, le4, h9, rfl⟩
  have hf := hs1
  clear hs1
  refine sq (ra ?_)
  refine sM 3 3 [0] [(51, .slice A2 (List.length (x1)) c3), (52, .agg (List.toArray (c_T_api_Point (x5) A6 c7))), (53, .int .u32 (x9))] hE hS fun a hE => ?_
  obtain ⟨r3, h10, hf⟩ := bs hf
  refine aC rfl rfl rfl rfl hE rfl rfl rfl rfl (export_Whole.calls h10 (hS.st.fore (L := [])) (h4.mono (le2 (le2 le1 le3) le4)) (h8.mono (le2 (le2 le1 le3) le4)) (hG0.mono (le2 (le2 le1 le3) le4)) (hG1.mono (le2 (le2 le1 le3) le4))) fun a v w hR hE => ?_
  obtain ⟨D16, A9, c9, A10, c10, rfl, hS1, h11, h12⟩ := hR
  have le6 := hS1.dle
  have hS := hS.callR hS1 rfl .n
  refine sN 3 7 [(55, .agg (List.toArray (c_T_api_Bundle (r3.1) A9 c9 A10 c10))), (56, .bool (r3.2))] hE fun a hE => ?_
  refine at_op (op_alloc (z := .agg (List.toArray (c_T_api_Bundle (z_T_api_Bundle) none 0 none 0))) rfl rfl rfl rfl hE rfl hS (by kernel_rfl) (fun a b3 w _ hE hS => ?_)) rfl
  refine at_op (op_store (v := .agg (List.toArray (c_T_api_Bundle (r3.1) A9 c9 A10 c10))) (c_T_api_Bundle (r3.1) A9 c9 A10 c10) rfl rfl rfl rfl hE hS rfl rfl (by kernel_rfl) (by kernel_rfl) (by kernel_rfl) (by kernel_rfl) (by kernel_rfl) (fun a w _ hE hS => ?_)) rfl
  refine sN 1 10 [(13, .bool (r3.2))] hE fun a hE => ?_
  refine ae ?_
  refine sq (ra ?_)
  refine sM 2 2 [1] [(58, .slice A1 (List.length (z1)) c1), (59, .agg (List.toArray (c_T_api_Point (x5) A6 c7)))] hE hS fun a hE => ?_
  have hS := hS.p (.d 2 (.d 0 (.d 1 .n)))
  obtain ⟨D17, q3, le5, hS, h54, h1⟩ := hS.lent (h9.mono le6)
  obtain ⟨r4, h14, hf⟩ := bs hf
  refine aC rfl rfl rfl rfl hE rfl rfl rfl rfl (export_Whole.calls h14 (hS.st.fore (L := [])) h1 (h8.mono (le2 (le2 (le2 (le2 le1 le3) le4) le6) le5)) (hG0.mono (le2 (le2 (le2 (le2 le1 le3) le4) le6) le5)) (hG1.mono (le2 (le2 (le2 (le2 le1 le3) le4) le6) le5))) fun a v w hR hE => ?_
  obtain ⟨D18, A12, c11, A13, c13, rfl, hS1, h15, h16⟩ := hR
  have le7 := hS1.dle
  have hS := hS.callR hS1 rfl .n
  refine sN 3 6 [(61, .agg (List.toArray (c_T_api_Bundle (r4.1) A12 c11 A13 c13))), (62, .bool (r4.2))] hE fun a hE => ?_
  refine at_op (op_alloc (z := .agg (List.toArray (c_T_api_Bundle (z_T_api_Bundle) none 0 none 0))) rfl rfl rfl rfl hE rfl hS (by kernel_rfl) (fun a b4 w _ hE hS => ?_)) rfl
  refine at_op (op_store (v := .agg (List.toArray (c_T_api_Bundle (r4.1) A12 c11 A13 c13))) (c_T_api_Bundle (r4.1) A12 c11 A13 c13) rfl rfl rfl rfl hE hS rfl rfl (by kernel_rfl) (by kernel_rfl) (by kernel_rfl) (by kernel_rfl) (by kernel_rfl) (fun a w _ hE hS => ?_)) rfl
  refine sN 1 9 [(15, .bool (r4.2))] hE fun a hE => ?_
  refine ae ?_
  refine sq (ra ?_)
  refine sM 4 4 [3] [(64, .slice A2 (List.length (x1)) c3), (65, .agg (List.toArray (c_T_api_Point (x5) A6 c7))), (66, .int .u32 (x9)), (67, .slice A11 (List.length (x10)) c12)] hE hS fun a hE => ?_
  obtain ⟨r1, h17, hf⟩ := bs hf
  refine aC rfl rfl rfl rfl hE rfl rfl rfl rfl (export_Some.calls h17 (hS.st.fore (L := [])) (h4.mono (le2 (le2 (le2 (le2 (le2 le1 le3) le4) le6) le5) le7)) (h8.mono (le2 (le2 (le2 (le2 (le2 le1 le3) le4) le6) le5) le7)) (h13.mono (le2 (le2 (le2 (le2 (le2 le1 le3) le4) le6) le5) le7)) (hG0.mono (le2 (le2 (le2 (le2 (le2 le1 le3) le4) le6) le5) le7)) (hG1.mono (le2 (le2 (le2 (le2 (le2 le1 le3) le4) le6) le5) le7))) fun a v w hR hE => ?_
  obtain ⟨D19, A14, c14, A15, c15, rfl, hS1, h18, h19⟩ := hR
  have le8 := hS1.dle
  have hS := hS.callR hS1 rfl .n
  refine sN 3 8 [(69, .agg (List.toArray (c_T_api_Bundle (r1.1) A14 c14 A15 c15))), (70, .bool (r1.2))] hE fun a hE => ?_
  refine at_op (op_alloc (z := .agg (List.toArray (c_T_api_Bundle (z_T_api_Bundle) none 0 none 0))) rfl rfl rfl rfl hE rfl hS (by kernel_rfl) (fun a b5 w _ hE hS => ?_)) rfl
  refine at_op (op_store (v := .agg (List.toArray (c_T_api_Bundle (r1.1) A14 c14 A15 c15))) (c_T_api_Bundle (r1.1) A14 c14 A15 c15) rfl rfl rfl rfl hE hS rfl rfl (by kernel_rfl) (by kernel_rfl) (by kernel_rfl) (by kernel_rfl) (by kernel_rfl) (fun a w _ hE hS => ?_)) rfl
  refine sN 1 11 [(17, .bool (r1.2))] hE fun a hE => ?_
  refine ae ?_
  refine sq (ra ?_)
  refine sM 3 3 [4] [(72, .slice A1 (List.length (z1)) c1), (73, .agg (List.toArray (c_T_api_Point (x5) A6 c7))), (74, .slice A11 (List.length (x10)) c12)] hE hS fun a hE => ?_
  obtain ⟨r2, h20, hf⟩ := bs hf
  refine aC rfl rfl rfl rfl hE rfl rfl rfl rfl (export_Some.calls h20 (hS.st.fore (L := [])) (h1.mono (le2 le7 le8)) (h8.mono (le2 (le2 (le2 (le2 (le2 (le2 le1 le3) le4) le6) le5) le7) le8)) (h13.mono (le2 (le2 (le2 (le2 (le2 (le2 le1 le3) le4) le6) le5) le7) le8)) (hG0.mono (le2 (le2 (le2 (le2 (le2 (le2 le1 le3) le4) le6) le5) le7) le8)) (hG1.mono (le2 (le2 (le2 (le2 (le2 (le2 le1 le3) le4) le6) le5) le7) le8))) fun a v w hR hE => ?_
  obtain ⟨D7, A16, c16, A17, c17, rfl, hS1, h21, h22⟩ := hR
  have le9 := hS1.dle
  have hS := hS.callR hS1 rfl .n
  refine sN 3 7 [(76, .agg (List.toArray (c_T_api_Bundle (r2.1) A16 c16 A17 c17))), (77, .bool (r2.2))] hE fun a hE => ?_
  refine at_op (op_alloc (z := .agg (List.toArray (c_T_api_Bundle (z_T_api_Bundle) none 0 none 0))) rfl rfl rfl rfl hE rfl hS (by kernel_rfl) (fun a b6 w _ hE hS => ?_)) rfl
  refine at_op (op_store (v := .agg (List.toArray (c_T_api_Bundle (r2.1) A16 c16 A17 c17))) (c_T_api_Bundle (r2.1) A16 c16 A17 c17) rfl rfl rfl rfl hE hS rfl rfl (by kernel_rfl) (by kernel_rfl) (by kernel_rfl) (by kernel_rfl) (by kernel_rfl) (fun a w _ hE hS => ?_)) rfl
  refine sN 1 10 [(19, .bool (r2.2))] hE fun a hE => ?_
  refine ae ?_
  refine sq ?_
  obtain ⟨j2, hj2, hf⟩ := jn_elim hf
  refine seq_join (fun a w => ∃ (y4 : Bool), ∃ D6, Env a 107 [] [(0, .slice A2 (List.length (x1)) c3), (9, .slice A1 (List.length (z1)) c1), (101, .bool (y4))] ∧ Stp g w0 D0 [] w D6 [q3] ∧ Snap.le D7 D6 ∧ j2 y4 = some r) ?_ ?_
  ·clear hj2
   refine region_draw (fun j => Keeps (mfOf [] j)) (by kernel_rfl) ?_
   have hS := hS.drew
   first | generalize w.drew = w at hS ⊢ | generalize w0.drew = w at hS ⊢
   refine wP 0 1 23 (.bool (r3.2)) hE fun a hE => ?_
   refine wP 1 3 22 (.bool (r4.2)) hE fun a hE => ?_
   refine tW 2 7 (fuel := 21) (by kernel_rfl) hE (fun M => tk_bin (r := .bool ((!(r3.2 == r4.2)))) rfl rfl rfl rfl hE rfl rfl rfl (neb_run (by kernel_rfl) _ _) (fun a hE => ?_))
   refine wP 3 15 20 (.bool ((!(r3.2 == r4.2)))) hE fun a hE => ?_
   refine bo ((!(r3.2 == r4.2))) (fun hb => ?_) fun hb => ?_
   ·replace hf := cf hb hf
    have hE := hE.know (t := 81) rfl hb
    refine wP 4 31 19 (.bool (r1.2)) hE fun a hE => ?_
    refine wP 5 63 18 (.bool (r2.2)) hE fun a hE => ?_
    refine tW 6 127 (fuel := 17) (by kernel_rfl) hE (fun M => tk_bin (r := .bool ((!(r1.2 == r2.2)))) rfl rfl rfl rfl hE rfl rfl rfl (neb_run (by kernel_rfl) _ _) (fun a hE => ?_))
    refine wP 7 255 16 (.bool ((!(r1.2 == r2.2)))) hE fun a hE => ?_
    refine wP 8 511 15 (.bool ((!(r1.2 == r2.2)))) hE fun a hE => ?_
    refine bo ((!(r1.2 == r2.2))) (fun hb => ?_) fun hb => ?_
    ·replace hf := cf hb hf
     have hE := hE.know (t := 86) rfl hb
     refine tL 9 1023 14 4 (.agg (List.toArray (c_T_api_Bundle (r3.1) A9 c9 A10 c10))) hE hS fun a hE => ?_
     refine tL 11 3071 13 2 (.agg (List.toArray (c_T_api_Bundle (r4.1) A12 c11 A13 c13))) hE hS fun a hE => ?_
     obtain ⟨r12, h23, hf⟩ := bs hf
     refine oC 10 4095 12 rfl rfl rfl rfl hE rfl rfl rfl rfl (bundle_Put.calls h23 (hS.st.fore (L := [])) (h11.mono (le2 (le2 (le2 le5 le7) le8) le9)) (h12.mono (le2 (le2 (le2 le5 le7) le8) le9))) fun a v w hR hE => ?_
     obtain ⟨D20, A21, c21, q5, rfl, hS1, h24⟩ := hR
     refine ⟨(hS1.keeps.sub (M' := []) trivial).mono (fun _ h => h), ?_⟩
     have le10 := hS1.dle
     have hS := hS.callR hS1 rfl (.c .n)
     obtain ⟨r13, h25, hf⟩ := bs hf
     refine oC 12 8191 11 rfl rfl rfl rfl hE rfl rfl rfl rfl (bundle_Put.calls h25 (hS.st.fore (L := [])) (h15.mono (le2 (le2 le8 le9) le10)) (h16.mono (le2 (le2 le8 le9) le10))) fun a v w hR hE => ?_
     obtain ⟨D21, A22, c22, q6, rfl, hS1, h26⟩ := hR
     refine ⟨(hS1.keeps.sub (M' := []) trivial).mono (fun _ h => h), ?_⟩
     have le12 := hS1.dle
     have hS := hS.callR hS1 rfl (.c .n)
     have hS := hS.p (.d 1 (.d 0 (.d 2 (.d 3 (.d 4 (.d 5 (.d 6 (.d 7 .n))))))))
     obtain ⟨D22, q7, le13, hS, h55, h27⟩ := hS.lent (h24.mono le12)
     have hS := hS.p (.d 1 (.d 0 (.d 2 (.d 3 (.d 4 (.d 5 (.d 6 (.d 7 .n))))))))
     obtain ⟨D23, q8, le14, hS, h56, h28⟩ := hS.lent (h26.mono le13)
     obtain ⟨r5, h29, hf⟩ := bs hf
     refine oC 13 16383 10 rfl rfl rfl rfl hE rfl rfl rfl rfl (inspeximusref01_Bytes.calls h29 (hS.st.fore (L := [])) (h27.mono le14) h28) fun a v w hR hE => ?_
     obtain ⟨D10, rfl, hS1⟩ := hR
     refine ⟨(hS1.keeps.sub (M' := []) trivial).mono (fun _ h => h), ?_⟩
     have le15 := hS1.dle
     have hS := hS.callR hS1 rfl .n
     refine wP 14 32767 9 (.bool ((!r5))) hE fun a hE => ?_
     refine wP 15 65535 8 (.bool ((!r5))) hE fun a hE => ?_
     refine wP 16 131071 7 (.bool ((!r5))) hE fun a hE => ?_
     refine bo ((!r5)) (fun hb => ?_) fun hb => ?_
     ·replace hf := cf hb hf
      have hE := hE.know (t := 94) rfl hb
      refine tL 17 262143 6 3 (.agg (List.toArray (c_T_api_Bundle (r1.1) A14 c14 A15 c15))) hE hS fun a hE => ?_
      refine tL 19 786431 5 2 (.agg (List.toArray (c_T_api_Bundle (r2.1) A16 c16 A17 c17))) hE hS fun a hE => ?_
      obtain ⟨r14, h30, hf⟩ := bs hf
      refine oC 18 1048575 4 rfl rfl rfl rfl hE rfl rfl rfl rfl (bundle_Put.calls h30 (hS.st.fore (L := [])) (h18.mono (le2 (le2 (le2 (le2 (le2 le9 le10) le12) le13) le14) le15)) (h19.mono (le2 (le2 (le2 (le2 (le2 le9 le10) le12) le13) le14) le15))) fun a v w hR hE => ?_
      obtain ⟨D24, A23, c23, q9, rfl, hS1, h31⟩ := hR
      refine ⟨(hS1.keeps.sub (M' := []) trivial).mono (fun _ h => h), ?_⟩
      have le18 := hS1.dle
      have hS := hS.callR hS1 rfl (.c .n)
      obtain ⟨r15, h32, hf⟩ := bs hf
      refine oC 20 2097151 3 rfl rfl rfl rfl hE rfl rfl rfl rfl (bundle_Put.calls h32 (hS.st.fore (L := [])) (h21.mono (le2 (le2 (le2 (le2 (le2 le10 le12) le13) le14) le15) le18)) (h22.mono (le2 (le2 (le2 (le2 (le2 le10 le12) le13) le14) le15) le18))) fun a v w hR hE => ?_
      obtain ⟨D25, A24, c24, q10, rfl, hS1, h33⟩ := hR
      refine ⟨(hS1.keeps.sub (M' := []) trivial).mono (fun _ h => h), ?_⟩
      have le21 := hS1.dle
      have hS := hS.callR hS1 rfl (.c .n)
      have hS := hS.p (.d 1 (.d 0 (.d 2 (.d 3 (.d 4 (.d 5 (.d 6 (.d 7 (.d 8 (.d 9 .n))))))))))
      obtain ⟨D26, q11, le22, hS, h57, h34⟩ := hS.lent (h31.mono le21)
      have hS := hS.p (.d 1 (.d 0 (.d 2 (.d 3 (.d 4 (.d 5 (.d 6 (.d 7 (.d 8 (.d 9 .n))))))))))
      obtain ⟨D27, q12, le23, hS, h58, h35⟩ := hS.lent (h33.mono le22)
      obtain ⟨r6, h36, hf⟩ := bs hf
      refine oC 21 4194303 2 rfl rfl rfl rfl hE rfl rfl rfl rfl (inspeximusref01_Bytes.calls h36 (hS.st.fore (L := [])) (h34.mono le23) h35) fun a v w hR hE => ?_
      obtain ⟨D11, rfl, hS1⟩ := hR
      refine ⟨(hS1.keeps.sub (M' := []) trivial).mono (fun _ h => h), ?_⟩
      have le26 := hS1.dle
      have hS := hS.callR hS1 rfl .n
      refine wP 22 8388607 1 (.bool ((!r6))) hE fun a hE => ?_
      refine wP 23 16777215 0 (.bool ((!r6))) hE fun a hE => ?_
      refine doneG (by kernel_rfl) ?_
      have hS := hS.p (.d 7 .n)
      exact ⟨(!r6), D11, hE.wk, hS, (le2 (le2 (le2 (le2 (le2 (le2 (le2 (le2 (le2 le10 le12) le13) le14) le15) le18) le21) le22) le23) le26), hf⟩
     replace hf := ct hb hf
     have hE := hE.know (t := 94) rfl hb
     refine wS 17 262143 6 hE fun a hE => ?_
     refine wS 18 524287 5 hE fun a hE => ?_
     refine wS 19 1048575 4 hE fun a hE => ?_
     refine wS 20 2097151 3 hE fun a hE => ?_
     refine wS 21 4194303 2 hE fun a hE => ?_
     refine wS 22 8388607 1 hE fun a hE => ?_
     refine wP 23 16777215 0 (.bool true) hE fun a hE => ?_
     refine doneG (by kernel_rfl) ?_
     have hS := hS.p (.d 5 .n)
     exact ⟨true, D10, hE.wk, hS, (le2 (le2 (le2 (le2 le10 le12) le13) le14) le15), hf⟩
    replace hf := ct hb hf
    have hE := hE.know (t := 86) rfl hb
    refine wS 9 1023 14 hE fun a hE => ?_
    refine wS 10 2047 13 hE fun a hE => ?_
    refine wS 11 4095 12 hE fun a hE => ?_
    refine wS 12 8191 11 hE fun a hE => ?_
    refine wS 13 16383 10 hE fun a hE => ?_
    refine wS 14 32767 9 hE fun a hE => ?_
    refine wP 15 65535 8 (.bool true) hE fun a hE => ?_
    refine wP 16 131071 7 (.bool true) hE fun a hE => ?_
    refine wS 17 262143 6 hE fun a hE => ?_
    refine wS 18 524287 5 hE fun a hE => ?_
    refine wS 19 1048575 4 hE fun a hE => ?_
    refine wS 20 2097151 3 hE fun a hE => ?_
    refine wS 21 4194303 2 hE fun a hE => ?_
    refine wS 22 8388607 1 hE fun a hE => ?_
    refine wP 23 16777215 0 (.bool true) hE fun a hE => ?_
    refine doneG (by kernel_rfl) ?_
    have hS := hS.p (.d 3 .n)
    exact ⟨true, D7, hE.wk, hS, lr, hf⟩
   replace hf := ct hb hf
   have hE := hE.know (t := 81) rfl hb
   refine wS 4 31 19 hE fun a hE => ?_
   refine wS 5 63 18 hE fun a hE => ?_
   refine wS 6 127 17 hE fun a hE => ?_
   refine wP 7 255 16 (.bool true) hE fun a hE => ?_
   refine wP 8 511 15 (.bool true) hE fun a hE => ?_
   refine wS 9 1023 14 hE fun a hE => ?_
   refine wS 10 2047 13 hE fun a hE => ?_
   refine wS 11 4095 12 hE fun a hE => ?_
   refine wS 12 8191 11 hE fun a hE => ?_
   refine wS 13 16383 10 hE fun a hE => ?_
   refine wS 14 32767 9 hE fun a hE => ?_
   refine wP 15 65535 8 (.bool true) hE fun a hE => ?_
   refine wP 16 131071 7 (.bool true) hE fun a hE => ?_
   refine wS 17 262143 6 hE fun a hE => ?_
   refine wS 18 524287 5 hE fun a hE => ?_
   refine wS 19 1048575 4 hE fun a hE => ?_
   refine wS 20 2097151 3 hE fun a hE => ?_
   refine wS 21 4194303 2 hE fun a hE => ?_
   refine wS 22 8388607 1 hE fun a hE => ?_
   refine wP 23 16777215 0 (.bool true) hE fun a hE => ?_
   refine doneG (by kernel_rfl) ?_
   have hS := hS.p (.d 3 .n)
   exact ⟨true, D7, hE.wk, hS, lr, hf⟩
  clear hE hS
  rintro a w ⟨y4, D6, hE, hS, le16, hf⟩
  replace hf := hj2 _ hf
  clear hj2
  refine cond_split hE (b := y4) rfl (fun hb => ?_) (fun hb => ?_)
  ·replace hf := ct hb hf
   refine sq (ra ?_)
   refine sN 1 1 [(8, .bool false)] hE fun a hE => ?_
   refine ae ?_
   refine wpIn_ret ?_
   obtain rfl := si hf
   refine ret_ ?_
   refine rT 8 (.bool false) hE ?_
   have hS := hS.p .n
   exact ⟨_, rfl, D6, rfl, hS⟩
  replace hf := cf hb hf
  refine wpIn_skip ?_
  refine sq (ra ?_)
  refine sN 1 1 [(102, .slice A2 (List.length (x1)) c3)] hE fun a hE => ?_
  obtain ⟨r16, h37, hf⟩ := bs hf
  refine aC rfl rfl rfl rfl hE rfl rfl rfl rfl (export_Hashes.calls h37 (hS.st.fore (L := [])) (h4.mono (le2 (le2 (le2 (le2 (le2 (le2 (le2 (le2 le1 le3) le4) le6) le5) le7) le8) le9) le16)) (hG0.mono (le2 (le2 (le2 (le2 (le2 (le2 (le2 (le2 le1 le3) le4) le6) le5) le7) le8) le9) le16)) (hG1.mono (le2 (le2 (le2 (le2 (le2 (le2 (le2 (le2 le1 le3) le4) le6) le5) le7) le8) le9) le16))) fun a v w hR hE => ?_
  obtain ⟨D28, A25, c25, rfl, hS1, h38⟩ := hR
  have le19 := hS1.dle
  have hS := hS.callR hS1 rfl .n
  refine sN 1 3 [(104, .slice A1 (List.length (z1)) c1)] hE fun a hE => ?_
  obtain ⟨r17, h39, hf⟩ := bs hf
  refine aC rfl rfl rfl rfl hE rfl rfl rfl rfl (export_Hashes.calls h39 (hS.st.fore (L := [])) (h1.mono (le2 (le2 (le2 (le2 le7 le8) le9) le16) le19)) (hG0.mono (le2 (le2 (le2 (le2 (le2 (le2 (le2 (le2 (le2 le1 le3) le4) le6) le5) le7) le8) le9) le16) le19)) (hG1.mono (le2 (le2 (le2 (le2 (le2 (le2 (le2 (le2 (le2 le1 le3) le4) le6) le5) le7) le8) le9) le16) le19))) fun a v w hR hE => ?_
  obtain ⟨D29, A26, c26, rfl, hS1, h40⟩ := hR
  have le27 := hS1.dle
  have hS := hS.callR hS1 rfl .n
  obtain ⟨r10, h41, hf⟩ := bs hf
  refine aC rfl rfl rfl rfl hE rfl rfl rfl rfl (inspeximusref05_Same.calls h41 (hS.st.fore (L := [])) (h38.mono le27) h40) fun a v w hR hE => ?_
  obtain ⟨D12, rfl, hS1⟩ := hR
  have le29 := hS1.dle
  have hS := hS.callR hS1 rfl .n
  refine sN 1 6 [(8, .bool (r10))] hE fun a hE => ?_
  refine ae ?_
  refine wpIn_ret ?_
  obtain rfl := si hf
  refine ret_ ?_
  refine rT 8 (.bool (r10)) hE ?_
  have hS := hS.p .n
  exact ⟨_, rfl, D12, rfl, hS⟩
 clear hE hS hf
 rintro k a w ⟨y1, A3, c2, q1, D3, hE, hS, le17, h2, hf⟩
 obtain ⟨k, rfl, hf⟩ := inspeximuslaw18_ExportGone_l1.some _ _ hf
 refine ⟨k, rfl, ?_⟩
 unfold inspeximuslaw18_ExportGone_l1.b at hf
 refine sq (sq (ra ?_))
 refine sN 4 4 [(34, .bool ((decide (y1.2 < ((List.length (x1) : Nat) : Int)))))] hE fun a hE => ?_
 refine ae ?_
 refine cond_split hE (b := (decide (y1.2 < ((List.length (x1) : Nat) : Int)))) rfl (fun hb => ?_) (fun hb => ?_)
 ·replace hf := ct hb hf
  refine wpIn_skip ?_
  refine sq ?_
  refine wpIn_block ?_
  refine sq (ra ?_)
  refine sN 2 2 [(37, .slice A2 (List.length (x1)) c3), (38, .int .i64 (y1.2))] hE fun a hE => ?_
  obtain ⟨x2, h42, hf⟩ := bs hf
  refine at_op (op_tk hE (g_index (K := kd_T_api_Rec) (e := 39) (by_ := 224) (zl := 109) rfl rfl rfl rfl hE rfl rfl rfl (by kernel_rfl) rfl (h4.mono (le2 (le2 le1 le3) le17)) h42 (fun a b7 o1 hE h43 => ?_))) rfl
  obtain ⟨cs1, C1, T1, fr1, hr1, hb1, hc1⟩ := id h43
  obtain ⟨A4, c4, A5, c5, rfl, h3, h5⟩ := kd_T_api_Rec_el hr1
  refine at_op (op_tk hE (tk_loadX (off0 := o1) (off := 0) (c := c_T_api_Rec (x2) A4 c4 A5 c5) (.agg (List.toArray (c_T_api_Rec (x2) A4 c4 A5 c5))) rfl rfl rfl rfl hE rfl hS rfl hb1 hc1 (by kernel_rfl) (by kernel_rfl) (kD hS dn_nil) (fun a hE => ?_))) rfl
  refine at_op (op_alloc (z := .agg (List.toArray (c_T_api_Rec (z_T_api_Rec) none 0 none 0))) rfl rfl rfl rfl hE rfl hS (by kernel_rfl) (fun a b2 w _ hE hS => ?_)) rfl
  refine at_op (op_store (v := .agg (List.toArray (c_T_api_Rec (x2) A4 c4 A5 c5))) (c_T_api_Rec (x2) A4 c4 A5 c5) rfl rfl rfl rfl hE hS rfl rfl (by kernel_rfl) (by kernel_rfl) (by kernel_rfl) (by kernel_rfl) (by kernel_rfl) (fun a w _ hE hS => ?_)) rfl
  refine ae ?_
  obtain ⟨j3, hj3, hf⟩ := jn_elim hf
  refine seq_join (fun a w => ∃ (y2 : T_api_Rec), ∃ A7, ∃ c6, ∃ A8, ∃ c8, ∃ D4, Env a 107 [] [(0, .slice A2 (List.length (x1)) c3), (2, .int .u32 (x9)), (3, .slice A11 (List.length (x10)) c12), (5, .pointer (some ⟨b1, 0, none⟩)), (9, .slice A3 (List.length (y1.1)) c2), (10, .int .i64 (y1.2)), (11, .pointer (some ⟨b2, 0, none⟩))] ∧ Stp g w0 D0 [] w D4 [bx b1 27 (c_T_api_Point (x5) A6 c7), bx b2 39 (c_T_api_Rec (y2) A7 c6 A8 c8), q1] ∧ Snap.le D3 D4 ∧ Sl kd_T_api_Step D4 A7 c6 (y2.fSteps) ∧ Sl (kdInt .u8) D4 A8 c8 (y2.fData) ∧ j3 y2 = some s1) ?_ ?_
  ·clear hj3
   refine sq (ra ?_)
   refine sN 2 2 [(41, .int .u32 (x9)), (42, .int .i64 (y1.2))] hE fun a hE => ?_
   obtain ⟨r11, h44, hf⟩ := bs hf
   refine aC rfl rfl rfl rfl hE rfl rfl rfl rfl (inspeximusref18_Gone.calls h44 (hS.st.fore (L := [])) ) fun a v w hR hE => ?_
   obtain ⟨D13, rfl, hS1⟩ := hR
   have le11 := hS1.dle
   have hS := hS.callR hS1 rfl .n
   refine ae ?_
   refine cond_split hE (b := r11) rfl (fun hb => ?_) (fun hb => ?_)
   ·replace hf := ct hb hf
    refine ra ?_
    refine sM 1 1 [0] [(44, .agg (List.toArray (c_T_api_Rec (x2) A4 c4 A5 c5)))] hE hS fun a hE => ?_
    obtain ⟨r7, h45, hf⟩ := bs hf
    refine aC rfl rfl rfl rfl hE rfl rfl rfl rfl (rec_Redact.calls h45 (hS.st.fore (L := [])) (h3.mono le11) (h5.mono le11) (hG0.mono (le2 (le2 (le2 le1 le3) le17) le11)) (hG1.mono (le2 (le2 (le2 le1 le3) le17) le11))) fun a v w hR hE => ?_
    obtain ⟨D14, A18, c18, A19, c19, rfl, hS1, h46, h47⟩ := hR
    have le28 := hS1.dle
    have hS := hS.callR hS1 rfl .n
    refine at_op (op_store (v := .agg (List.toArray (c_T_api_Rec (r7) A18 c18 A19 c19))) (c_T_api_Rec (r7) A18 c18 A19 c19) rfl rfl rfl rfl hE hS rfl rfl (by kernel_rfl) (by kernel_rfl) (by kernel_rfl) (by kernel_rfl) (by kernel_rfl) (fun a w _ hE hS => ?_)) rfl
    refine ae ?_
    have hS := hS.p (.d 1 (.d 0 (.d 2 .n)))
    exact ⟨r7, A18, c18, A19, c19, D14, hE.wk, hS, (le2 le11 le28), h46, h47, hf⟩
   replace hf := cf hb hf
   refine wpIn_skip ?_
   have hS := hS.p (.d 1 (.d 0 (.d 2 .n)))
   exact ⟨x2, A4, c4, A5, c5, D13, hE.wk, hS, le11, (h3.mono le11), (h5.mono le11), hf⟩
  clear hE hS
  rintro a w ⟨y2, A7, c6, A8, c8, D4, hE, hS, le24, h48, h49, hf⟩
  replace hf := hj3 _ hf
  clear hj3
  refine ra ?_
  refine sM 2 2 [1] [(46, .slice A3 (List.length (y1.1)) c2), (47, .agg (List.toArray (c_T_api_Rec (y2) A7 c6 A8 c8)))] hE hS fun a hE => ?_
  refine at_op (op_buildSlice (K := kd_T_api_Rec) (e := 39) (cs := (c_T_api_Rec (y2) A7 c6 A8 c8) ++ []) ([y2] : List T_api_Rec) rfl rfl rfl rfl hE rfl hS rfl (by kernel_rfl) rfl rfl (by exact ⟨_, _, rfl, (kd_T_api_Rec_mk (D := D4) (x := y2) rfl rfl rfl rfl rfl rfl rfl rfl rfl rfl rfl (kslice h48) (kslice h49) rfl rfl rfl), rfl⟩) (fun a A27 q13 w _ hE h50 hS => ?_)) rfl
  obtain ⟨D15, q14, le25, hS, h59, h51⟩ := hS.lent h50
  have hS := hS.p (.d 3 (.d 0 (.d 1 (.d 2 .n))))
  obtain ⟨l1, h52, hf⟩ := bs hf
  refine at_op (g_append (K := kd_T_api_Rec) (e := 39) (bytes := 224) (l := y1.1) (m := ([y2] : List T_api_Rec)) rfl rfl rfl rfl hE rfl hS rfl rfl (by kernel_rfl) rfl rfl (h2.mono (le2 le24 le25)) h51 h52 (fun a A20 c20 q4 w _ hE h53 hS => ?_)) rfl
  refine sN 1 5 [(9, .slice A20 (List.length (l1)) c20)] hE fun a hE => ?_
  refine ae ?_
  refine ra ?_
  refine sN 3 3 [(10, .int .i64 ((IntKind.wrap .i64 (y1.2 + (1 : Int)))))] hE fun a hE => ?_
  refine ae ?_
  have hS := hS.p (.d 2 (.d 0 .n))
  exact ⟨(l1, (IntKind.wrap .i64 (y1.2 + (1 : Int)))), A20, c20, q4, D15, hE.wk, hS, (le2 (le2 le17 le24) le25), h53, hf⟩
 replace hf := cf hb hf
 refine wpIn_exit ?_
 obtain rfl := si hf
 exact ⟨y1.1, A3, c2, q1, D3, hE.wk, hS, le17, h2, rfl⟩
end Go.Proofs.YtjgaokcplofimaaDoor
