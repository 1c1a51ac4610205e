/-
  Proved, text by text: a call of a function of the cut comes to what its plain function computes.
  Conditions: those that each theorem names.
-/
import Derived.Test.YtlcnliiampfigaaDoorProg
import Derived.Test.YtlcnliiampfigaaDoorRRecComW0
set_option linter.unusedVariables false
namespace Go.Proofs.YtlcnliiampfigaaDoor
open Go Go.Sep

set_option maxRecDepth 100000 in
set_option maxHeartbeats 4000000 in
theorem rec_put.calls {K : Nat} {g w0 : World} {D0 : Snap} {x3 : T_api_Rec} {x10 : T_api_Rec} {b1 : Nat} {A4 : Option Addr} {c5 : Nat} {A7 : Option Addr} {c8 : Nat} {A11 : Option Addr} {c12 : Nat} {A14 : Option Addr} {c15 : Nat} {r : ((List Int))} (hf : rec_put.f K x3 x10 = some r) (hS0 : St g w0 D0 [bx b1 27 (c_T_api_Rec (x10) A11 c12 A14 c15)]) (h6 : Sl kd_T_api_Step D0 A4 c5 (x3.fSteps)) (h9 : Sl (kdInt .u8) D0 A7 c8 (x3.fData)) (h13 : Sl kd_T_api_Step D0 A11 c12 (x10.fSteps)) (h16 : Sl (kdInt .u8) D0 A14 c15 (x10.fData)) :
    CallsIn (Fw none) 0 Tryd.prog 38 (List.toArray [.agg (List.toArray (c_T_api_Rec (x3) A4 c5 A7 c8)), .func (.func 44) #[] #[.pointer (some ⟨b1, 0, none⟩)]]) w0 (fun e w' => ∃ v, e = .returned v ∧ ∃ (D1 : Snap) (A1107 : Option Addr) (c1108 : Nat) (q1109 : Blk), v = .slice A1107 (List.length (r)) c1108 ∧ Stp g w0 D0 [bx b1 27 (c_T_api_Rec (x10) A11 c12 A14 c15)] w' D1 [bx b1 27 (c_T_api_Rec (x10) A11 c12 A14 c15), q1109] ∧ OwnD (kdInt .u8) 5 D1 A1107 c1108 (r) q1109) := by
  unfold rec_put.f at hf
  have hS := Stp.refl hS0
  clear hS0
  refine calls_body (n := 29) Tryd.func38 rfl Tryd.ntmps38 rfl (fun a hE => ?_)
  have hE : Env a 29 [] [(0, .agg (List.toArray (c_T_api_Rec (x3) A4 c5 A7 c8))), (1, .func (.func 44) #[] #[.pointer (some ⟨b1, 0, none⟩)])] := hE
  refine wpIn_seq ?_
  refine region_at ?_
  refine at_op (op_box rfl rfl rfl rfl hE rfl hS rfl (fun a b1112 w _ hE hS => ?_)) rfl
  refine segN 1 (j := 2) [(4, .slice none 0 0)] hE (by kernel_rfl) rfl (fun a hE => ?_)
  refine at_end rfl ?_
  refine wpIn_seq ?_
  refine wpIn_seq ?_
  refine region_at ?_
  refine at_op (op_tk hE (tk_load 0 (.agg (List.toArray (c_T_api_Rec (x3) A4 c5 A7 c8))) rfl rfl rfl rfl hE rfl hS rfl rfl (by kernel_rfl) (kL (j := 0) hS rfl List.not_mem_nil) (fun a hE => ?_))) rfl
  obtain ⟨r1119, h1120, hf⟩ := bind_some hf
  refine at_op (op_call rfl rfl rfl rfl hE rfl rfl rfl rfl (by kernel_rfl) (rec_Right.calls (g := g) h1120 (hS.st.fore (L := [])) h6 h9) (fun a v w hR hE => ?_)) rfl
  obtain ⟨D1121, rfl, hS1⟩ := hR
  have le1123 := hS1.dle
  have hS := hS.callR hS1 rfl .n
  clear hS1
  refine segN 1 (j := 3) [(8, .bool ((!r1119)))] hE (by kernel_rfl) rfl (fun a hE => ?_)
  refine at_end rfl ?_
  refine cond_split hE (b := (!r1119)) rfl (fun hb => ?_) (fun hb => ?_)
  · replace hf := cond_t hb hf
    clear hb
    refine wpIn_seq ?_
    refine region_at ?_
    refine segN 1 (j := 1) [(4, .slice none 0 0)] hE (by kernel_rfl) rfl (fun a hE => ?_)
    refine at_end rfl ?_
    refine wpIn_ret ?_
    have hS := hS.nils
    obtain rfl := Option.some.inj hf
    repeat (with_reducible first | refine then_ret ?_ | refine block_ret ?_ | refine qx_ret ?_)
    refine ret_gen ([.slice none 0 0]) hE (by rw [show Tryd.f38.results.toList = [.tmp 4] from rfl]; exact ⟨_, _, rfl, rfl, rfl⟩) ?_
    have hS := hS.pk (.c 2 rfl (.c 0 rfl .n)) rfl
    exact ⟨_, rfl, D1121, none, 0, none, rfl, hS, (OwnD.nil (kdInt .u8) 5 D1121)⟩
  · replace hf := cond_f hb hf
    clear hb
    refine wpIn_skip ?_
    obtain ⟨j1689, hj1690, hf⟩ := jn_elim hf
    refine seq_join (fun a w => ∃ (y1637 : (List Int)), ∃ (A1640 : Option Addr), ∃ (c1641 : Nat), ∃ (q1642 : Blk), ∃ (D1638 : Snap), Env a 29 [] [(1, .func (.func 44) #[] #[.pointer (some ⟨b1, 0, none⟩)]), (2, .pointer (some ⟨b1112, 0, none⟩)), (5, .slice A1640 (List.length (y1637)) c1641)] ∧ Stp g w0 D0 [bx b1 27 (c_T_api_Rec (x10) A11 c12 A14 c15)] w D1638 [bx b1 27 (c_T_api_Rec (x10) A11 c12 A14 c15), bx b1112 27 (c_T_api_Rec (x3) A4 c5 A7 c8), q1642] ∧ Snap.le D1121 D1638 ∧ OwnD (kdInt .u8) 5 D1638 A1640 c1641 (y1637) q1642 ∧ j1689 y1637 = some r) ?_ ?_
    · clear hj1690
      refine region_draw (fun j => Keeps (mfOf [] j)) (by kernel_rfl) ?_
      have hS := hS.drew
      first | generalize w.drew = w at hS ⊢ | generalize w0.drew = w at hS ⊢
      refine tW 0 1 (fuel := 12) (by kernel_rfl) hE (fun M => g_fieldAddr (fo := 0) (ft := 3) 0 rfl rfl rfl rfl hE rfl rfl (by kernel_rfl) rfl (fun a hE => ?_))
      refine tT 1 3 (fuel := 11) (by kernel_rfl) hE (tk_load 0 (.int .i64 (x3.fKind)) rfl rfl rfl rfl hE rfl hS rfl rfl (by kernel_rfl) (kL (j := 0) hS rfl List.not_mem_nil) (fun a hE => ?_))
      refine tW 4 19 (fuel := 10) (by kernel_rfl) hE (fun M => g_fieldAddr (fo := 0) (ft := 3) 0 rfl rfl rfl rfl hE rfl rfl (by kernel_rfl) rfl (fun a hE => ?_))
      refine tT 5 51 (fuel := 9) (by kernel_rfl) hE (tk_load 0 (.int .i64 (x3.fKind)) rfl rfl rfl rfl hE rfl hS rfl rfl (by kernel_rfl) (kL (j := 0) hS rfl List.not_mem_nil) (fun a hE => ?_))
      refine tT 8 307 (fuel := 8) (by kernel_rfl) hE (tk_load 0 (.agg (List.toArray (c_T_api_Rec (x3) A4 c5 A7 c8))) rfl rfl rfl rfl hE rfl hS rfl rfl (by kernel_rfl) (kL (j := 0) hS rfl List.not_mem_nil) (fun a hE => ?_))
      obtain ⟨r1947, h1948, hf⟩ := bind_some hf
      refine oG 2 311 (fuel := 7) (by kernel_rfl) (op_call rfl rfl rfl rfl hE rfl rfl rfl rfl (by kernel_rfl) (wire_Num.calls (g := g) h1948 (hS.st.fore (L := [])) ) (fun a v w hR hE => ?_))
      obtain ⟨D1949, A1951, c1952, q1953, rfl, hS1, h1954⟩ := hR
      refine ⟨(hS1.keeps.sub (M' := []) trivial).mono (fun _ h => h), ?_⟩
      have le1956 := hS1.dle
      have hS := hS.callR hS1 rfl (.c .n)
      clear hS1
      obtain ⟨r1957, h1958, hf⟩ := bind_some hf
      refine oG 3 319 (fuel := 6) (by kernel_rfl) (op_call rfl rfl rfl rfl hE rfl rfl rfl rfl (by kernel_rfl) (rec_forms.calls (g := g) h1958 (hS.st.fore (L := [])) ) (fun a v w hR hE => ?_))
      obtain ⟨D1959, rfl, hS1⟩ := hR
      refine ⟨(hS1.keeps.sub (M' := []) trivial).mono (fun _ h => h), ?_⟩
      have le1961 := hS1.dle
      have hS := hS.callR hS1 rfl .n
      clear hS1
      cases hb : decide (x3.fKind = (0 : Int))
      · replace hf := cond_f hb hf
        clear hb
        cases hb : decide (x3.fKind = (1 : Int))
        · replace hf := cond_f hb hf
          clear hb
          cases hb : decide (x3.fKind = (2 : Int))
          · replace hf := cond_f hb hf
            clear hb
            cases hb : decide (x3.fKind = (3 : Int))
            · replace hf := cond_f hb hf
              clear hb
              cases hb : decide (x3.fKind = (4 : Int))
              · replace hf := cond_f hb hf
                clear hb
                cases hb : decide (x3.fKind = (5 : Int))
                · replace hf := cond_f hb hf
                  clear hb
                  cases hb : decide (x3.fKind = (6 : Int))
                  · replace hf := cond_f hb hf
                    clear hb
                    cases hf
                  · replace hf := cond_t hb hf
                    have hk2163 := of_decide_eq_true hb
                    clear hb
                    refine tW 6 383 (fuel := 5) (by kernel_rfl) hE (fun M => tk_indexV (N := 7) (e := 79) (sz := 1) (cs := ([.nilFunc]) ++ (([.func (.func 85) #[] #[]]) ++ (([.func (.func 86) #[] #[]]) ++ (([.func (.func 87) #[] #[]]) ++ (([.func (.func 86) #[] #[]]) ++ (([.func (.func 89) #[] #[]]) ++ (([.func (.func 90) #[] #[]])))))))) 6 (.agg (List.toArray ([.func (.func 90) #[] #[]]))) rfl rfl rfl rfl hE rfl rfl rfl hk2163 (by kernel_rfl) (by kernel_rfl) (by kernel_rfl) (fun a hE => ?_))
                    refine tW 7 511 (fuel := 4) (by kernel_rfl) hE (fun M => g_field (cs := [.func (.func 90) #[] #[]]) (fo := 0) (ft := 34) (.func (.func 90) #[] #[]) rfl rfl rfl rfl hE rfl rfl (by kernel_rfl) (by kernel_rfl) (fun a hE => ?_))
                    obtain ⟨r2164, h2165, hf⟩ := bind_some hf
                    refine oG 9 1023 (fuel := 3) (by kernel_rfl) (op_call rfl rfl rfl rfl hE rfl rfl rfl rfl (by kernel_rfl) (rec_forms_3.calls (g := g) h2165 (hS.st.fore (L := [])) (h6.mono (Snap.le.trans (Snap.le.trans le1123 le1956) le1961)) (h9.mono (Snap.le.trans (Snap.le.trans le1123 le1956) le1961))) (fun a v w hR hE => ?_))
                    obtain ⟨D2166, A2168, c2169, q2170, rfl, hS1, h2171⟩ := hR
                    refine ⟨(hS1.keeps.sub (M' := []) trivial).mono (fun _ h => h), ?_⟩
                    have le2173 := hS1.dle
                    have hS := hS.callR hS1 rfl (.c .n)
                    clear hS1
                    have hS := hS.pk (.c 1 rfl (.c 0 rfl (.c 2 rfl (.c 3 rfl .n)))) rfl
                    obtain ⟨D2174, q2177, le2175, hS, h2178, h2176⟩ := hS.lent (h1954.mono (Snap.le.trans le1961 le2173))
                    have hS := hS.pk (.c 1 rfl (.c 0 rfl (.c 2 rfl (.c 3 rfl .n)))) rfl
                    obtain ⟨D2179, q2182, le2180, hS, h2183, h2181⟩ := hS.lent (h2171.mono le2175)
                    refine oG 10 2047 (fuel := 2) (by kernel_rfl) (op_buildSlice (K := (kdSlice (kdInt .u8))) (e := 25) (cs := [.slice A1951 (List.length (r1947)) c1952] ++ ([.slice A2168 (List.length (r2164)) c2169] ++ [])) ([r1947, r2164] : List (List Int)) rfl rfl rfl rfl hE rfl hS rfl (by kernel_rfl) rfl rfl (by exact (show RL (kdSlice (kdInt .u8)) D2179 ([r1947, r2164] : List (List Int)) ([.slice A1951 (List.length (r1947)) c1952] ++ ([.slice A2168 (List.length (r2164)) c2169] ++ [])) from ⟨_, _, rfl, (kslice (h2176.mono le2180)), ⟨_, _, rfl, (kslice h2181), rfl⟩⟩)) (fun a A2184 q2185 w hkp hE h2186 hS => ⟨hkp.mono (fun _ h => absurd h List.not_mem_nil), ?_⟩))
                    clear hkp
                    obtain ⟨D2188, q2191, le2189, hS, h2192, h2190⟩ := hS.lent h2186
                    obtain ⟨r2193, h2194, hf⟩ := bind_some hf
                    refine oG 11 4095 (fuel := 1) (by kernel_rfl) (op_call rfl rfl rfl rfl hE rfl rfl rfl rfl (by kernel_rfl) (wire_All.calls (g := g) h2194 (hS.st.fore (L := [])) h2190) (fun a v w hR hE => ?_))
                    obtain ⟨D2195, A2197, c2198, q2199, rfl, hS1, h2200⟩ := hR
                    refine ⟨(hS1.keeps.sub (M' := []) trivial).mono (fun _ h => h), ?_⟩
                    have le2202 := hS1.dle
                    have hS := hS.callR hS1 rfl (.c .n)
                    clear hS1
                    refine tW 12 8191 (fuel := 0) (by kernel_rfl) hE (fun M => tk_pure (.slice A2197 (List.length (r2193)) c2198) hE rfl rfl rfl rfl (fun _ _ _ e => by cases e) (by kernel_rfl) (fun a hE => ?_))
                    refine doneG (by kernel_rfl) ?_
                    have hS := hS.pk (.c 5 rfl (.c 4 rfl (.c 0 rfl .n))) rfl
                    exact ⟨r2193, A2197, c2198, q2199, D2195, hE.weak (by kernel_rfl), hS, (Snap.le.trans (Snap.le.trans (Snap.le.trans (Snap.le.trans (Snap.le.trans (Snap.le.trans le1956 le1961) le2173) le2175) le2180) le2189) le2202), h2200, hf⟩
                · replace hf := cond_t hb hf
                  have hk2123 := of_decide_eq_true hb
                  clear hb
                  refine tW 6 383 (fuel := 5) (by kernel_rfl) hE (fun M => tk_indexV (N := 7) (e := 79) (sz := 1) (cs := ([.nilFunc]) ++ (([.func (.func 85) #[] #[]]) ++ (([.func (.func 86) #[] #[]]) ++ (([.func (.func 87) #[] #[]]) ++ (([.func (.func 86) #[] #[]]) ++ (([.func (.func 89) #[] #[]]) ++ (([.func (.func 90) #[] #[]])))))))) 5 (.agg (List.toArray ([.func (.func 89) #[] #[]]))) rfl rfl rfl rfl hE rfl rfl rfl hk2123 (by kernel_rfl) (by kernel_rfl) (by kernel_rfl) (fun a hE => ?_))
                  refine tW 7 511 (fuel := 4) (by kernel_rfl) hE (fun M => g_field (cs := [.func (.func 89) #[] #[]]) (fo := 0) (ft := 34) (.func (.func 89) #[] #[]) rfl rfl rfl rfl hE rfl rfl (by kernel_rfl) (by kernel_rfl) (fun a hE => ?_))
                  obtain ⟨r2124, h2125, hf⟩ := bind_some hf
                  refine oG 9 1023 (fuel := 3) (by kernel_rfl) (op_call rfl rfl rfl rfl hE rfl rfl rfl rfl (by kernel_rfl) (rec_forms_2.calls (g := g) h2125 (hS.st.fore (L := [])) (h6.mono (Snap.le.trans (Snap.le.trans le1123 le1956) le1961)) (h9.mono (Snap.le.trans (Snap.le.trans le1123 le1956) le1961))) (fun a v w hR hE => ?_))
                  obtain ⟨D2126, A2128, c2129, q2130, rfl, hS1, h2131⟩ := hR
                  refine ⟨(hS1.keeps.sub (M' := []) trivial).mono (fun _ h => h), ?_⟩
                  have le2133 := hS1.dle
                  have hS := hS.callR hS1 rfl (.c .n)
                  clear hS1
                  have hS := hS.pk (.c 1 rfl (.c 0 rfl (.c 2 rfl (.c 3 rfl .n)))) rfl
                  obtain ⟨D2134, q2137, le2135, hS, h2138, h2136⟩ := hS.lent (h1954.mono (Snap.le.trans le1961 le2133))
                  have hS := hS.pk (.c 1 rfl (.c 0 rfl (.c 2 rfl (.c 3 rfl .n)))) rfl
                  obtain ⟨D2139, q2142, le2140, hS, h2143, h2141⟩ := hS.lent (h2131.mono le2135)
                  refine oG 10 2047 (fuel := 2) (by kernel_rfl) (op_buildSlice (K := (kdSlice (kdInt .u8))) (e := 25) (cs := [.slice A1951 (List.length (r1947)) c1952] ++ ([.slice A2128 (List.length (r2124)) c2129] ++ [])) ([r1947, r2124] : List (List Int)) rfl rfl rfl rfl hE rfl hS rfl (by kernel_rfl) rfl rfl (by exact (show RL (kdSlice (kdInt .u8)) D2139 ([r1947, r2124] : List (List Int)) ([.slice A1951 (List.length (r1947)) c1952] ++ ([.slice A2128 (List.length (r2124)) c2129] ++ [])) from ⟨_, _, rfl, (kslice (h2136.mono le2140)), ⟨_, _, rfl, (kslice h2141), rfl⟩⟩)) (fun a A2144 q2145 w hkp hE h2146 hS => ⟨hkp.mono (fun _ h => absurd h List.not_mem_nil), ?_⟩))
                  clear hkp
                  obtain ⟨D2148, q2151, le2149, hS, h2152, h2150⟩ := hS.lent h2146
                  obtain ⟨r2153, h2154, hf⟩ := bind_some hf
                  refine oG 11 4095 (fuel := 1) (by kernel_rfl) (op_call rfl rfl rfl rfl hE rfl rfl rfl rfl (by kernel_rfl) (wire_All.calls (g := g) h2154 (hS.st.fore (L := [])) h2150) (fun a v w hR hE => ?_))
                  obtain ⟨D2155, A2157, c2158, q2159, rfl, hS1, h2160⟩ := hR
                  refine ⟨(hS1.keeps.sub (M' := []) trivial).mono (fun _ h => h), ?_⟩
                  have le2162 := hS1.dle
                  have hS := hS.callR hS1 rfl (.c .n)
                  clear hS1
                  refine tW 12 8191 (fuel := 0) (by kernel_rfl) hE (fun M => tk_pure (.slice A2157 (List.length (r2153)) c2158) hE rfl rfl rfl rfl (fun _ _ _ e => by cases e) (by kernel_rfl) (fun a hE => ?_))
                  refine doneG (by kernel_rfl) ?_
                  have hS := hS.pk (.c 5 rfl (.c 4 rfl (.c 0 rfl .n))) rfl
                  exact ⟨r2153, A2157, c2158, q2159, D2155, hE.weak (by kernel_rfl), hS, (Snap.le.trans (Snap.le.trans (Snap.le.trans (Snap.le.trans (Snap.le.trans (Snap.le.trans le1956 le1961) le2133) le2135) le2140) le2149) le2162), h2160, hf⟩
              · replace hf := cond_t hb hf
                have hk2083 := of_decide_eq_true hb
                clear hb
                refine tW 6 383 (fuel := 5) (by kernel_rfl) hE (fun M => tk_indexV (N := 7) (e := 79) (sz := 1) (cs := ([.nilFunc]) ++ (([.func (.func 85) #[] #[]]) ++ (([.func (.func 86) #[] #[]]) ++ (([.func (.func 87) #[] #[]]) ++ (([.func (.func 86) #[] #[]]) ++ (([.func (.func 89) #[] #[]]) ++ (([.func (.func 90) #[] #[]])))))))) 4 (.agg (List.toArray ([.func (.func 86) #[] #[]]))) rfl rfl rfl rfl hE rfl rfl rfl hk2083 (by kernel_rfl) (by kernel_rfl) (by kernel_rfl) (fun a hE => ?_))
                refine tW 7 511 (fuel := 4) (by kernel_rfl) hE (fun M => g_field (cs := [.func (.func 86) #[] #[]]) (fo := 0) (ft := 34) (.func (.func 86) #[] #[]) rfl rfl rfl rfl hE rfl rfl (by kernel_rfl) (by kernel_rfl) (fun a hE => ?_))
                obtain ⟨r2084, h2085, hf⟩ := bind_some hf
                refine oG 9 1023 (fuel := 3) (by kernel_rfl) (op_call rfl rfl rfl rfl hE rfl rfl rfl rfl (by kernel_rfl) (rec_call.calls (g := g) h2085 (hS.st.fore (L := [])) (h6.mono (Snap.le.trans (Snap.le.trans le1123 le1956) le1961)) (h9.mono (Snap.le.trans (Snap.le.trans le1123 le1956) le1961))) (fun a v w hR hE => ?_))
                obtain ⟨D2086, A2088, c2089, q2090, rfl, hS1, h2091⟩ := hR
                refine ⟨(hS1.keeps.sub (M' := []) trivial).mono (fun _ h => h), ?_⟩
                have le2093 := hS1.dle
                have hS := hS.callR hS1 rfl (.c .n)
                clear hS1
                have hS := hS.pk (.c 1 rfl (.c 0 rfl (.c 2 rfl (.c 3 rfl .n)))) rfl
                obtain ⟨D2094, q2097, le2095, hS, h2098, h2096⟩ := hS.lent (h1954.mono (Snap.le.trans le1961 le2093))
                have hS := hS.pk (.c 1 rfl (.c 0 rfl (.c 2 rfl (.c 3 rfl .n)))) rfl
                obtain ⟨D2099, q2102, le2100, hS, h2103, h2101⟩ := hS.lent (h2091.mono le2095)
                refine oG 10 2047 (fuel := 2) (by kernel_rfl) (op_buildSlice (K := (kdSlice (kdInt .u8))) (e := 25) (cs := [.slice A1951 (List.length (r1947)) c1952] ++ ([.slice A2088 (List.length (r2084)) c2089] ++ [])) ([r1947, r2084] : List (List Int)) rfl rfl rfl rfl hE rfl hS rfl (by kernel_rfl) rfl rfl (by exact (show RL (kdSlice (kdInt .u8)) D2099 ([r1947, r2084] : List (List Int)) ([.slice A1951 (List.length (r1947)) c1952] ++ ([.slice A2088 (List.length (r2084)) c2089] ++ [])) from ⟨_, _, rfl, (kslice (h2096.mono le2100)), ⟨_, _, rfl, (kslice h2101), rfl⟩⟩)) (fun a A2104 q2105 w hkp hE h2106 hS => ⟨hkp.mono (fun _ h => absurd h List.not_mem_nil), ?_⟩))
                clear hkp
                obtain ⟨D2108, q2111, le2109, hS, h2112, h2110⟩ := hS.lent h2106
                obtain ⟨r2113, h2114, hf⟩ := bind_some hf
                refine oG 11 4095 (fuel := 1) (by kernel_rfl) (op_call rfl rfl rfl rfl hE rfl rfl rfl rfl (by kernel_rfl) (wire_All.calls (g := g) h2114 (hS.st.fore (L := [])) h2110) (fun a v w hR hE => ?_))
                obtain ⟨D2115, A2117, c2118, q2119, rfl, hS1, h2120⟩ := hR
                refine ⟨(hS1.keeps.sub (M' := []) trivial).mono (fun _ h => h), ?_⟩
                have le2122 := hS1.dle
                have hS := hS.callR hS1 rfl (.c .n)
                clear hS1
                refine tW 12 8191 (fuel := 0) (by kernel_rfl) hE (fun M => tk_pure (.slice A2117 (List.length (r2113)) c2118) hE rfl rfl rfl rfl (fun _ _ _ e => by cases e) (by kernel_rfl) (fun a hE => ?_))
                refine doneG (by kernel_rfl) ?_
                have hS := hS.pk (.c 5 rfl (.c 4 rfl (.c 0 rfl .n))) rfl
                exact ⟨r2113, A2117, c2118, q2119, D2115, hE.weak (by kernel_rfl), hS, (Snap.le.trans (Snap.le.trans (Snap.le.trans (Snap.le.trans (Snap.le.trans (Snap.le.trans le1956 le1961) le2093) le2095) le2100) le2109) le2122), h2120, hf⟩
            · replace hf := cond_t hb hf
              have hk2043 := of_decide_eq_true hb
              clear hb
              refine tW 6 383 (fuel := 5) (by kernel_rfl) hE (fun M => tk_indexV (N := 7) (e := 79) (sz := 1) (cs := ([.nilFunc]) ++ (([.func (.func 85) #[] #[]]) ++ (([.func (.func 86) #[] #[]]) ++ (([.func (.func 87) #[] #[]]) ++ (([.func (.func 86) #[] #[]]) ++ (([.func (.func 89) #[] #[]]) ++ (([.func (.func 90) #[] #[]])))))))) 3 (.agg (List.toArray ([.func (.func 87) #[] #[]]))) rfl rfl rfl rfl hE rfl rfl rfl hk2043 (by kernel_rfl) (by kernel_rfl) (by kernel_rfl) (fun a hE => ?_))
              refine tW 7 511 (fuel := 4) (by kernel_rfl) hE (fun M => g_field (cs := [.func (.func 87) #[] #[]]) (fo := 0) (ft := 34) (.func (.func 87) #[] #[]) rfl rfl rfl rfl hE rfl rfl (by kernel_rfl) (by kernel_rfl) (fun a hE => ?_))
              obtain ⟨r2044, h2045, hf⟩ := bind_some hf
              refine oG 9 1023 (fuel := 3) (by kernel_rfl) (op_call rfl rfl rfl rfl hE rfl rfl rfl rfl (by kernel_rfl) (rec_forms_1.calls (g := g) h2045 (hS.st.fore (L := [])) (h6.mono (Snap.le.trans (Snap.le.trans le1123 le1956) le1961)) (h9.mono (Snap.le.trans (Snap.le.trans le1123 le1956) le1961))) (fun a v w hR hE => ?_))
              obtain ⟨D2046, A2048, c2049, q2050, rfl, hS1, h2051⟩ := hR
              refine ⟨(hS1.keeps.sub (M' := []) trivial).mono (fun _ h => h), ?_⟩
              have le2053 := hS1.dle
              have hS := hS.callR hS1 rfl (.c .n)
              clear hS1
              have hS := hS.pk (.c 1 rfl (.c 0 rfl (.c 2 rfl (.c 3 rfl .n)))) rfl
              obtain ⟨D2054, q2057, le2055, hS, h2058, h2056⟩ := hS.lent (h1954.mono (Snap.le.trans le1961 le2053))
              have hS := hS.pk (.c 1 rfl (.c 0 rfl (.c 2 rfl (.c 3 rfl .n)))) rfl
              obtain ⟨D2059, q2062, le2060, hS, h2063, h2061⟩ := hS.lent (h2051.mono le2055)
              refine oG 10 2047 (fuel := 2) (by kernel_rfl) (op_buildSlice (K := (kdSlice (kdInt .u8))) (e := 25) (cs := [.slice A1951 (List.length (r1947)) c1952] ++ ([.slice A2048 (List.length (r2044)) c2049] ++ [])) ([r1947, r2044] : List (List Int)) rfl rfl rfl rfl hE rfl hS rfl (by kernel_rfl) rfl rfl (by exact (show RL (kdSlice (kdInt .u8)) D2059 ([r1947, r2044] : List (List Int)) ([.slice A1951 (List.length (r1947)) c1952] ++ ([.slice A2048 (List.length (r2044)) c2049] ++ [])) from ⟨_, _, rfl, (kslice (h2056.mono le2060)), ⟨_, _, rfl, (kslice h2061), rfl⟩⟩)) (fun a A2064 q2065 w hkp hE h2066 hS => ⟨hkp.mono (fun _ h => absurd h List.not_mem_nil), ?_⟩))
              clear hkp
              obtain ⟨D2068, q2071, le2069, hS, h2072, h2070⟩ := hS.lent h2066
              obtain ⟨r2073, h2074, hf⟩ := bind_some hf
              refine oG 11 4095 (fuel := 1) (by kernel_rfl) (op_call rfl rfl rfl rfl hE rfl rfl rfl rfl (by kernel_rfl) (wire_All.calls (g := g) h2074 (hS.st.fore (L := [])) h2070) (fun a v w hR hE => ?_))
              obtain ⟨D2075, A2077, c2078, q2079, rfl, hS1, h2080⟩ := hR
              refine ⟨(hS1.keeps.sub (M' := []) trivial).mono (fun _ h => h), ?_⟩
              have le2082 := hS1.dle
              have hS := hS.callR hS1 rfl (.c .n)
              clear hS1
              refine tW 12 8191 (fuel := 0) (by kernel_rfl) hE (fun M => tk_pure (.slice A2077 (List.length (r2073)) c2078) hE rfl rfl rfl rfl (fun _ _ _ e => by cases e) (by kernel_rfl) (fun a hE => ?_))
              refine doneG (by kernel_rfl) ?_
              have hS := hS.pk (.c 5 rfl (.c 4 rfl (.c 0 rfl .n))) rfl
              exact ⟨r2073, A2077, c2078, q2079, D2075, hE.weak (by kernel_rfl), hS, (Snap.le.trans (Snap.le.trans (Snap.le.trans (Snap.le.trans (Snap.le.trans (Snap.le.trans le1956 le1961) le2053) le2055) le2060) le2069) le2082), h2080, hf⟩
          · replace hf := cond_t hb hf
            have hk2003 := of_decide_eq_true hb
            clear hb
            refine tW 6 383 (fuel := 5) (by kernel_rfl) hE (fun M => tk_indexV (N := 7) (e := 79) (sz := 1) (cs := ([.nilFunc]) ++ (([.func (.func 85) #[] #[]]) ++ (([.func (.func 86) #[] #[]]) ++ (([.func (.func 87) #[] #[]]) ++ (([.func (.func 86) #[] #[]]) ++ (([.func (.func 89) #[] #[]]) ++ (([.func (.func 90) #[] #[]])))))))) 2 (.agg (List.toArray ([.func (.func 86) #[] #[]]))) rfl rfl rfl rfl hE rfl rfl rfl hk2003 (by kernel_rfl) (by kernel_rfl) (by kernel_rfl) (fun a hE => ?_))
            refine tW 7 511 (fuel := 4) (by kernel_rfl) hE (fun M => g_field (cs := [.func (.func 86) #[] #[]]) (fo := 0) (ft := 34) (.func (.func 86) #[] #[]) rfl rfl rfl rfl hE rfl rfl (by kernel_rfl) (by kernel_rfl) (fun a hE => ?_))
            obtain ⟨r2004, h2005, hf⟩ := bind_some hf
            refine oG 9 1023 (fuel := 3) (by kernel_rfl) (op_call rfl rfl rfl rfl hE rfl rfl rfl rfl (by kernel_rfl) (rec_call.calls (g := g) h2005 (hS.st.fore (L := [])) (h6.mono (Snap.le.trans (Snap.le.trans le1123 le1956) le1961)) (h9.mono (Snap.le.trans (Snap.le.trans le1123 le1956) le1961))) (fun a v w hR hE => ?_))
            obtain ⟨D2006, A2008, c2009, q2010, rfl, hS1, h2011⟩ := hR
            refine ⟨(hS1.keeps.sub (M' := []) trivial).mono (fun _ h => h), ?_⟩
            have le2013 := hS1.dle
            have hS := hS.callR hS1 rfl (.c .n)
            clear hS1
            have hS := hS.pk (.c 1 rfl (.c 0 rfl (.c 2 rfl (.c 3 rfl .n)))) rfl
            obtain ⟨D2014, q2017, le2015, hS, h2018, h2016⟩ := hS.lent (h1954.mono (Snap.le.trans le1961 le2013))
            have hS := hS.pk (.c 1 rfl (.c 0 rfl (.c 2 rfl (.c 3 rfl .n)))) rfl
            obtain ⟨D2019, q2022, le2020, hS, h2023, h2021⟩ := hS.lent (h2011.mono le2015)
            refine oG 10 2047 (fuel := 2) (by kernel_rfl) (op_buildSlice (K := (kdSlice (kdInt .u8))) (e := 25) (cs := [.slice A1951 (List.length (r1947)) c1952] ++ ([.slice A2008 (List.length (r2004)) c2009] ++ [])) ([r1947, r2004] : List (List Int)) rfl rfl rfl rfl hE rfl hS rfl (by kernel_rfl) rfl rfl (by exact (show RL (kdSlice (kdInt .u8)) D2019 ([r1947, r2004] : List (List Int)) ([.slice A1951 (List.length (r1947)) c1952] ++ ([.slice A2008 (List.length (r2004)) c2009] ++ [])) from ⟨_, _, rfl, (kslice (h2016.mono le2020)), ⟨_, _, rfl, (kslice h2021), rfl⟩⟩)) (fun a A2024 q2025 w hkp hE h2026 hS => ⟨hkp.mono (fun _ h => absurd h List.not_mem_nil), ?_⟩))
            clear hkp
            obtain ⟨D2028, q2031, le2029, hS, h2032, h2030⟩ := hS.lent h2026
            obtain ⟨r2033, h2034, hf⟩ := bind_some hf
            refine oG 11 4095 (fuel := 1) (by kernel_rfl) (op_call rfl rfl rfl rfl hE rfl rfl rfl rfl (by kernel_rfl) (wire_All.calls (g := g) h2034 (hS.st.fore (L := [])) h2030) (fun a v w hR hE => ?_))
            obtain ⟨D2035, A2037, c2038, q2039, rfl, hS1, h2040⟩ := hR
            refine ⟨(hS1.keeps.sub (M' := []) trivial).mono (fun _ h => h), ?_⟩
            have le2042 := hS1.dle
            have hS := hS.callR hS1 rfl (.c .n)
            clear hS1
            refine tW 12 8191 (fuel := 0) (by kernel_rfl) hE (fun M => tk_pure (.slice A2037 (List.length (r2033)) c2038) hE rfl rfl rfl rfl (fun _ _ _ e => by cases e) (by kernel_rfl) (fun a hE => ?_))
            refine doneG (by kernel_rfl) ?_
            have hS := hS.pk (.c 5 rfl (.c 4 rfl (.c 0 rfl .n))) rfl
            exact ⟨r2033, A2037, c2038, q2039, D2035, hE.weak (by kernel_rfl), hS, (Snap.le.trans (Snap.le.trans (Snap.le.trans (Snap.le.trans (Snap.le.trans (Snap.le.trans le1956 le1961) le2013) le2015) le2020) le2029) le2042), h2040, hf⟩
        · replace hf := cond_t hb hf
          have hk1963 := of_decide_eq_true hb
          clear hb
          refine tW 6 383 (fuel := 5) (by kernel_rfl) hE (fun M => tk_indexV (N := 7) (e := 79) (sz := 1) (cs := ([.nilFunc]) ++ (([.func (.func 85) #[] #[]]) ++ (([.func (.func 86) #[] #[]]) ++ (([.func (.func 87) #[] #[]]) ++ (([.func (.func 86) #[] #[]]) ++ (([.func (.func 89) #[] #[]]) ++ (([.func (.func 90) #[] #[]])))))))) 1 (.agg (List.toArray ([.func (.func 85) #[] #[]]))) rfl rfl rfl rfl hE rfl rfl rfl hk1963 (by kernel_rfl) (by kernel_rfl) (by kernel_rfl) (fun a hE => ?_))
          refine tW 7 511 (fuel := 4) (by kernel_rfl) hE (fun M => g_field (cs := [.func (.func 85) #[] #[]]) (fo := 0) (ft := 34) (.func (.func 85) #[] #[]) rfl rfl rfl rfl hE rfl rfl (by kernel_rfl) (by kernel_rfl) (fun a hE => ?_))
          obtain ⟨r1964, h1965, hf⟩ := bind_some hf
          refine oG 9 1023 (fuel := 3) (by kernel_rfl) (op_call rfl rfl rfl rfl hE rfl rfl rfl rfl (by kernel_rfl) (rec_begin.calls (g := g) h1965 (hS.st.fore (L := [])) (h6.mono (Snap.le.trans (Snap.le.trans le1123 le1956) le1961)) (h9.mono (Snap.le.trans (Snap.le.trans le1123 le1956) le1961))) (fun a v w hR hE => ?_))
          obtain ⟨D1966, A1968, c1969, q1970, rfl, hS1, h1971⟩ := hR
          refine ⟨(hS1.keeps.sub (M' := []) trivial).mono (fun _ h => h), ?_⟩
          have le1973 := hS1.dle
          have hS := hS.callR hS1 rfl (.c .n)
          clear hS1
          have hS := hS.pk (.c 1 rfl (.c 0 rfl (.c 2 rfl (.c 3 rfl .n)))) rfl
          obtain ⟨D1974, q1977, le1975, hS, h1978, h1976⟩ := hS.lent (h1954.mono (Snap.le.trans le1961 le1973))
          have hS := hS.pk (.c 1 rfl (.c 0 rfl (.c 2 rfl (.c 3 rfl .n)))) rfl
          obtain ⟨D1979, q1982, le1980, hS, h1983, h1981⟩ := hS.lent (h1971.mono le1975)
          refine oG 10 2047 (fuel := 2) (by kernel_rfl) (op_buildSlice (K := (kdSlice (kdInt .u8))) (e := 25) (cs := [.slice A1951 (List.length (r1947)) c1952] ++ ([.slice A1968 (List.length (r1964)) c1969] ++ [])) ([r1947, r1964] : List (List Int)) rfl rfl rfl rfl hE rfl hS rfl (by kernel_rfl) rfl rfl (by exact (show RL (kdSlice (kdInt .u8)) D1979 ([r1947, r1964] : List (List Int)) ([.slice A1951 (List.length (r1947)) c1952] ++ ([.slice A1968 (List.length (r1964)) c1969] ++ [])) from ⟨_, _, rfl, (kslice (h1976.mono le1980)), ⟨_, _, rfl, (kslice h1981), rfl⟩⟩)) (fun a A1984 q1985 w hkp hE h1986 hS => ⟨hkp.mono (fun _ h => absurd h List.not_mem_nil), ?_⟩))
          clear hkp
          obtain ⟨D1988, q1991, le1989, hS, h1992, h1990⟩ := hS.lent h1986
          obtain ⟨r1993, h1994, hf⟩ := bind_some hf
          refine oG 11 4095 (fuel := 1) (by kernel_rfl) (op_call rfl rfl rfl rfl hE rfl rfl rfl rfl (by kernel_rfl) (wire_All.calls (g := g) h1994 (hS.st.fore (L := [])) h1990) (fun a v w hR hE => ?_))
          obtain ⟨D1995, A1997, c1998, q1999, rfl, hS1, h2000⟩ := hR
          refine ⟨(hS1.keeps.sub (M' := []) trivial).mono (fun _ h => h), ?_⟩
          have le2002 := hS1.dle
          have hS := hS.callR hS1 rfl (.c .n)
          clear hS1
          refine tW 12 8191 (fuel := 0) (by kernel_rfl) hE (fun M => tk_pure (.slice A1997 (List.length (r1993)) c1998) hE rfl rfl rfl rfl (fun _ _ _ e => by cases e) (by kernel_rfl) (fun a hE => ?_))
          refine doneG (by kernel_rfl) ?_
          have hS := hS.pk (.c 5 rfl (.c 4 rfl (.c 0 rfl .n))) rfl
          exact ⟨r1993, A1997, c1998, q1999, D1995, hE.weak (by kernel_rfl), hS, (Snap.le.trans (Snap.le.trans (Snap.le.trans (Snap.le.trans (Snap.le.trans (Snap.le.trans le1956 le1961) le1973) le1975) le1980) le1989) le2002), h2000, hf⟩
      · replace hf := cond_t hb hf
        have hk1962 := of_decide_eq_true hb
        clear hb
        refine tW 6 383 (fuel := 5) (by kernel_rfl) hE (fun M => tk_indexV (N := 7) (e := 79) (sz := 1) (cs := ([.nilFunc]) ++ (([.func (.func 85) #[] #[]]) ++ (([.func (.func 86) #[] #[]]) ++ (([.func (.func 87) #[] #[]]) ++ (([.func (.func 86) #[] #[]]) ++ (([.func (.func 89) #[] #[]]) ++ (([.func (.func 90) #[] #[]])))))))) 0 (.agg (List.toArray ([.nilFunc]))) rfl rfl rfl rfl hE rfl rfl rfl hk1962 (by kernel_rfl) (by kernel_rfl) (by kernel_rfl) (fun a hE => ?_))
        refine tW 7 511 (fuel := 4) (by kernel_rfl) hE (fun M => g_field (cs := [.nilFunc]) (fo := 0) (ft := 34) (.nilFunc) rfl rfl rfl rfl hE rfl rfl (by kernel_rfl) (by kernel_rfl) (fun a hE => ?_))
        cases hf
    · clear hE hS
      rintro a w ⟨y1637, A1640, c1641, q1642, D1638, hE, hS, le1639, h1643, hf⟩
      replace hf := hj1690 _ hf
      clear hj1690
      refine wpIn_seq ?_
      refine wpIn_seq ?_
      refine region_at ?_
      refine at_op (op_tk hE (g_fieldAddr (fo := 0) (ft := 3) 0 rfl rfl rfl rfl hE rfl rfl (by kernel_rfl) rfl (fun a hE => ?_))) rfl
      refine at_op (op_tk hE (tk_load 1 (.int .i64 (x3.fKind)) rfl rfl rfl rfl hE rfl hS rfl rfl (by kernel_rfl) (kL (j := 1) hS rfl List.not_mem_nil) (fun a hE => ?_))) rfl
      refine segN 1 (j := 3) [(23, .bool ((decide (x3.fKind = (1 : Int)))))] hE (by kernel_rfl) rfl (fun a hE => ?_)
      refine at_end rfl ?_
      refine cond_split hE (b := (decide (x3.fKind = (1 : Int)))) rfl (fun hb => ?_) (fun hb => ?_)
      · replace hf := cond_t hb hf
        clear hb
        refine region_at ?_
        refine segN 2 (j := 2) [(24, .slice A1640 (List.length (y1637)) c1641), (25, .func (.func 44) #[] #[.pointer (some ⟨b1, 0, none⟩)])] hE (by kernel_rfl) rfl (fun a hE => ?_)
        obtain ⟨r1667, h1668, hf⟩ := bind_some hf
        refine at_op (op_call rfl rfl rfl rfl hE rfl rfl rfl rfl (by kernel_rfl) (rec_Open_1.calls (g := g) h1668 (hS.st.fore (L := [bx b1 27 (c_T_api_Rec (x10) A11 c12 A14 c15)])) (h13.mono (Snap.le.trans le1123 le1639)) (h16.mono (Snap.le.trans le1123 le1639))) (fun a v w hR hE => ?_)) rfl
        obtain ⟨D1669, A1671, c1672, q1673, rfl, hS1, h1674⟩ := hR
        have le1676 := hS1.dle
        have hS := hS.callR hS1 rfl (.c (.c .n))
        clear hS1
        have hS := hS.pk (.c 1 rfl (.c 0 rfl (.c 2 rfl (.c 3 rfl .n)))) rfl
        obtain ⟨D1677, q1680, le1678, hS, h1681, h1679⟩ := hS.lent h1674
        have hS := hS.pk (.c 3 rfl (.c 0 rfl (.c 1 rfl (.c 2 rfl .n)))) rfl
        obtain ⟨l1682, h1683, hf⟩ := bind_some hf
        refine at_op (g_append (K := (kdInt .u8)) (e := 5) (bytes := 1) (l := y1637) (m := r1667) rfl rfl rfl rfl hE rfl hS rfl rfl (by kernel_rfl) rfl rfl (h1643.mono (Snap.le.trans le1676 le1678)) h1679 h1683 (fun a A1684 c1685 q1686 w _ hE h1687 hS => ?_)) rfl
        refine segN 1 (j := 5) [(5, .slice A1684 (List.length (l1682)) c1685)] hE (by kernel_rfl) rfl (fun a hE => ?_)
        refine at_end rfl ?_
        refine wpIn_seq ?_
        refine region_at ?_
        refine segN 2 (j := 2) [(4, .slice A1684 (List.length (l1682)) c1685)] hE (by kernel_rfl) rfl (fun a hE => ?_)
        refine at_end rfl ?_
        refine wpIn_ret ?_
        obtain rfl := Option.some.inj hf
        repeat (with_reducible first | refine then_ret ?_ | refine block_ret ?_ | refine qx_ret ?_)
        refine ret_gen ([.slice A1684 (List.length (l1682)) c1685]) hE (by rw [show Tryd.f38.results.toList = [.tmp 4] from rfl]; exact ⟨_, _, rfl, rfl, rfl⟩) ?_
        have hS := hS.pk (.c 2 rfl (.c 0 rfl .n)) rfl
        exact ⟨_, rfl, D1677, A1684, c1685, q1686, rfl, hS, h1687⟩
      · replace hf := cond_f hb hf
        clear hb
        refine wpIn_skip ?_
        refine wpIn_seq ?_
        refine region_at ?_
        refine segN 2 (j := 2) [(4, .slice A1640 (List.length (y1637)) c1641)] hE (by kernel_rfl) rfl (fun a hE => ?_)
        refine at_end rfl ?_
        refine wpIn_ret ?_
        obtain rfl := Option.some.inj hf
        repeat (with_reducible first | refine then_ret ?_ | refine block_ret ?_ | refine qx_ret ?_)
        refine ret_gen ([.slice A1640 (List.length (y1637)) c1641]) hE (by rw [show Tryd.f38.results.toList = [.tmp 4] from rfl]; exact ⟨_, _, rfl, rfl, rfl⟩) ?_
        have hS := hS.pk (.c 0 rfl (.c 2 rfl .n)) rfl
        exact ⟨_, rfl, D1638, A1640, c1641, q1642, rfl, hS, h1643⟩

set_option maxRecDepth 100000 in
set_option maxHeartbeats 4000000 in
theorem rec_Open.calls {K : Nat} {g w0 : World} {D0 : Snap} {x1 : T_api_Rec} {A2 : Option Addr} {c3 : Nat} {A5 : Option Addr} {c6 : Nat} {r : ((List Int))} (hf : rec_Open.f K x1 = some r) (hS0 : St g w0 D0 []) (h4 : Sl kd_T_api_Step D0 A2 c3 (x1.fSteps)) (h7 : Sl (kdInt .u8) D0 A5 c6 (x1.fData)) :
    CallsIn (Fw none) 0 Tryd.prog 22 (List.toArray [.agg (List.toArray (c_T_api_Rec (x1) A2 c3 A5 c6))]) w0 (fun e w' => ∃ v, e = .returned v ∧ ∃ (D1 : Snap) (A20 : Option Addr) (c21 : Nat) (q22 : Blk), v = .slice A20 (List.length (r)) c21 ∧ Stp g w0 D0 [] w' D1 [q22] ∧ OwnD (kdInt .u8) 5 D1 A20 c21 (r) q22) := by
  unfold rec_Open.f at hf
  have hS := Stp.refl hS0
  clear hS0
  refine calls_body (n := 6) Tryd.func22 rfl Tryd.ntmps22 rfl (fun a hE => ?_)
  have hE : Env a 6 [] [(0, .agg (List.toArray (c_T_api_Rec (x1) A2 c3 A5 c6)))] := hE
  refine wpIn_seq ?_
  refine region_at ?_
  refine at_op (op_box rfl rfl rfl rfl hE rfl hS rfl (fun a b25 w _ hE hS => ?_)) rfl
  refine segN 1 (j := 2) [(2, .slice none 0 0)] hE (by kernel_rfl) rfl (fun a hE => ?_)
  refine at_end rfl ?_
  refine wpIn_seq ?_
  refine region_at ?_
  refine at_op (op_tk hE (tk_load 0 (.agg (List.toArray (c_T_api_Rec (x1) A2 c3 A5 c6))) rfl rfl rfl rfl hE rfl hS rfl rfl (by kernel_rfl) (kL (j := 0) hS rfl List.not_mem_nil) (fun a hE => ?_))) rfl
  refine segN 1 (j := 2) [(4, .func (.func 44) #[] #[.pointer (some ⟨b25, 0, none⟩)])] hE (by kernel_rfl) rfl (fun a hE => ?_)
  obtain ⟨r27, h28, hf⟩ := bind_some hf
  refine at_op (op_call rfl rfl rfl rfl hE rfl rfl rfl rfl (by kernel_rfl) (rec_put.calls (g := g) h28 (hS.st.fore (L := [bx b25 27 (c_T_api_Rec (x1) A2 c3 A5 c6)])) h4 h7 h4 h7) (fun a v w hR hE => ?_)) rfl
  obtain ⟨D29, A31, c32, q33, rfl, hS1, h34⟩ := hR
  have le36 := hS1.dle
  have hS := hS.callR hS1 rfl (.c (.c .n))
  clear hS1
  refine segN 1 (j := 4) [(2, .slice A31 (List.length (r27)) c32)] hE (by kernel_rfl) rfl (fun a hE => ?_)
  refine at_end rfl ?_
  refine wpIn_ret ?_
  obtain rfl := Option.some.inj hf
  repeat (with_reducible first | refine then_ret ?_ | refine block_ret ?_ | refine qx_ret ?_)
  refine ret_gen ([.slice A31 (List.length (r27)) c32]) hE (by rw [show Tryd.f22.results.toList = [.tmp 2] from rfl]; exact ⟨_, _, rfl, rfl, rfl⟩) ?_
  have hS := hS.pk (.c 1 rfl .n) rfl
  exact ⟨_, rfl, D29, A31, c32, q33, rfl, hS, h34⟩

set_option maxRecDepth 100000 in
set_option maxHeartbeats 4000000 in
theorem wire_Read.calls {K : Nat} {g w0 : World} {D0 : Snap} {x1 : (List Int)} {A2 : Option Addr} {c3 : Nat} {r : (T_wire_Reader)} (hf : wire_Read.f K x1 = some r) (hS0 : St g w0 D0 []) (h4 : Sl (kdInt .u8) D0 A2 c3 (x1)) :
    CallsIn (Fw none) 0 Tryd.prog 24 (List.toArray [.slice A2 (List.length (x1)) c3]) w0 (fun e w' => ∃ v, e = .returned v ∧ ∃ (D1 : Snap) (b22 : Nat) (A24 : Option Addr) (c25 : Nat), v = .pointer (some ⟨b22, 0, none⟩) ∧ Stp g w0 D0 [] w' D1 [bx b22 66 (c_T_wire_Reader ((T_wire_Reader.mk (r.fB) (r.fBad))) A24 c25)] ∧ Sl (kdInt .u8) D1 A24 c25 (r.fB)) := by
  unfold wire_Read.f at hf
  have hS := Stp.refl hS0
  clear hS0
  refine calls_body (n := 7) Tryd.func24 rfl Tryd.ntmps24 rfl (fun a hE => ?_)
  have hE : Env a 7 [] [(0, .slice A2 (List.length (x1)) c3)] := hE
  refine wpIn_seq ?_
  refine region_at ?_
  refine segN 1 (j := 1) [(2, .pointer none)] hE (by kernel_rfl) rfl (fun a hE => ?_)
  refine at_end rfl ?_
  refine wpIn_seq ?_
  refine region_at ?_
  refine segN 1 (j := 1) [(3, .slice A2 (List.length (x1)) c3)] hE (by kernel_rfl) rfl (fun a hE => ?_)
  obtain ⟨r27, h28, hf⟩ := bind_some hf
  refine at_op (op_call rfl rfl rfl rfl hE rfl rfl rfl rfl (by kernel_rfl) (slices_Clone_byte_byte.calls (g := g) h28 (hS.st.fore (L := [])) h4) (fun a v w hR hE => ?_)) rfl
  obtain ⟨D29, A31, c32, q33, rfl, hS1, h34⟩ := hR
  have le36 := hS1.dle
  have hS := hS.callR hS1 rfl (.c .n)
  clear hS1
  obtain ⟨D37, q40, le38, hS, h41, h39⟩ := hS.lent h34
  refine at_op (op_tk hE (tk_build (c_T_wire_Reader ((T_wire_Reader.mk (r27) ((0 : Int)))) A31 c32) rfl rfl rfl rfl hE rfl rfl (by kernel_rfl) (fun a hE => ?_))) rfl
  refine at_op (op_box rfl rfl rfl rfl hE rfl hS rfl (fun a b42 w _ hE hS => ?_)) rfl
  refine segN 1 (j := 5) [(2, .pointer (some ⟨b42, 0, none⟩))] hE (by kernel_rfl) rfl (fun a hE => ?_)
  refine at_end rfl ?_
  refine wpIn_ret ?_
  obtain rfl := Option.some.inj hf
  repeat (with_reducible first | refine then_ret ?_ | refine block_ret ?_ | refine qx_ret ?_)
  refine ret_gen ([.pointer (some ⟨b42, 0, none⟩)]) hE (by rw [show Tryd.f24.results.toList = [.tmp 2] from rfl]; exact ⟨_, _, rfl, rfl, rfl⟩) ?_
  have hS := hS.pk (.c 0 rfl .n) rfl
  exact ⟨_, rfl, D37, b42, A31, c32, rfl, hS, h39⟩

set_option maxRecDepth 100000 in
set_option maxHeartbeats 4000000 in
theorem wire_Reader_Bad.calls {K : Nat} {g w0 : World} {D0 : Snap} {x3 : T_wire_Reader} {b1 : Nat} {A4 : Option Addr} {c5 : Nat} {r : (Int)} (hf : wire_Reader_Bad.f K x3 = some r) (hS0 : St g w0 D0 [bx b1 66 (c_T_wire_Reader (x3) A4 c5)]) (h6 : Sl (kdInt .u8) D0 A4 c5 (x3.fB)) :
    CallsIn (Fw none) 0 Tryd.prog 56 (List.toArray [.pointer (some ⟨b1, 0, none⟩)]) w0 (fun e w' => ∃ v, e = .returned v ∧ ∃ (D1 : Snap), v = .int .i64 (r) ∧ Stp g w0 D0 [bx b1 66 (c_T_wire_Reader (x3) A4 c5)] w' D1 [bx b1 66 (c_T_wire_Reader (x3) A4 c5)]) := by
  unfold wire_Reader_Bad.f at hf
  have hS := Stp.refl hS0
  clear hS0
  refine calls_body (n := 9) Tryd.func56 rfl Tryd.ntmps56 rfl (fun a hE => ?_)
  have hE : Env a 9 [] [(0, .pointer (some ⟨b1, 0, none⟩))] := hE
  refine wpIn_seq ?_
  refine region_at ?_
  refine segN 1 (j := 1) [(2, .int .i64 ((0 : Int)))] hE (by kernel_rfl) rfl (fun a hE => ?_)
  refine at_end rfl ?_
  refine wpIn_seq ?_
  refine wpIn_seq ?_
  refine region_at ?_
  refine segN 1 (j := 1) [(3, .pointer (some ⟨b1, 0, none⟩))] hE (by kernel_rfl) rfl (fun a hE => ?_)
  refine at_op (op_tk hE (tk_bin (r := .bool false) rfl rfl rfl rfl hE rfl rfl rfl (eqptr_run (by kernel_rfl) _) (fun a hE => ?_))) rfl
  refine at_end rfl ?_
  refine wpIn_cond_false (hE.eval rfl) ?_
  refine wpIn_skip ?_
  refine wpIn_seq ?_
  refine region_at ?_
  refine segN 2 (j := 2) [(6, .pointer (some ⟨b1, 0, none⟩))] hE (by kernel_rfl) rfl (fun a hE => ?_)
  refine at_op (op_tk hE (g_fieldAddr (fo := 1) (ft := 39) 1 rfl rfl rfl rfl hE rfl rfl (by kernel_rfl) rfl (fun a hE => ?_))) rfl
  refine at_op (op_tk hE (tk_load 0 (.int .i64 (x3.fBad)) rfl rfl rfl rfl hE rfl hS rfl rfl (by kernel_rfl) (kL (j := 0) hS rfl List.not_mem_nil) (fun a hE => ?_))) rfl
  refine segN 1 (j := 5) [(2, .int .i64 (x3.fBad))] hE (by kernel_rfl) rfl (fun a hE => ?_)
  refine at_end rfl ?_
  refine wpIn_ret ?_
  obtain rfl := Option.some.inj hf
  repeat (with_reducible first | refine then_ret ?_ | refine block_ret ?_ | refine qx_ret ?_)
  refine ret_gen ([.int .i64 (x3.fBad)]) hE (by rw [show Tryd.f56.results.toList = [.tmp 2] from rfl]; exact ⟨_, _, rfl, rfl, rfl⟩) ?_
  exact ⟨_, rfl, D0, rfl, hS⟩

set_option maxRecDepth 100000 in
set_option maxHeartbeats 4000000 in
theorem wire_number.calls {K : Nat} {g w0 : World} {D0 : Snap} {x1 : (List Int)} {A2 : Option Addr} {c3 : Nat} {r : (Int × Int × Int)} (hf : wire_number.f K x1 = some r) (hS0 : St g w0 D0 []) (h4 : Sl (kdInt .u8) D0 A2 c3 (x1)) :
    CallsIn (Fw none) 0 Tryd.prog 70 (List.toArray [.slice A2 (List.length (x1)) c3]) w0 (fun e w' => ∃ v, e = .returned v ∧ ∃ (D1 : Snap), v = .tuple #[.int .i64 (r.1), .int .i64 (r.2.1), .int .i64 (r.2.2)] ∧ Stp g w0 D0 [] w' D1 []) := by
  unfold wire_number.f at hf
  have hS := Stp.refl hS0
  clear hS0
  refine calls_body (n := 39) Tryd.func70 rfl Tryd.ntmps70 rfl (fun a hE => ?_)
  have hE : Env a 39 [] [(0, .slice A2 (List.length (x1)) c3)] := hE
  refine wpIn_seq ?_
  refine region_at ?_
  refine segN 3 (j := 3) [(2, .int .i64 ((0 : Int))), (3, .int .i64 ((0 : Int))), (4, .int .i64 ((0 : Int)))] hE (by kernel_rfl) rfl (fun a hE => ?_)
  refine at_end rfl ?_
  refine wpIn_seq ?_
  refine region_at ?_
  refine segN 1 (j := 1) [(5, .int .i64 ((0 : Int)))] hE (by kernel_rfl) rfl (fun a hE => ?_)
  refine at_end rfl ?_
  refine wpIn_seq ?_
  refine wpIn_seq ?_
  refine region_at ?_
  refine segN 3 (j := 3) [(8, .slice A2 (List.length (x1)) c3), (9, .int .i64 (((List.length (x1) : Nat) : Int))), (10, .int .i64 ((0 : Int)))] hE (by kernel_rfl) rfl (fun a hE => ?_)
  refine at_end rfl ?_
  obtain ⟨s576, hf, hs577⟩ := bind_some hf
  refine block_loop (fun a w => ∃ (z573 : Unit), ∃ (D574 : Snap), Env a 39 [] [] ∧ Stp g w0 D0 [] w D574 [] ∧ Snap.le D0 D574 ∧ (Sum.inr z573) = s576) (fun k a w => ∃ (y523 : Int × Int), ∃ (D524 : Snap), Env a 39 [] [(5, .int .i64 (y523.1)), (8, .slice A2 (List.length (x1)) c3), (9, .int .i64 (((List.length (x1) : Nat) : Int))), (10, .int .i64 (y523.2))] ∧ Stp g w0 D0 [] w D524 [] ∧ Snap.le D0 D524 ∧ wire_number_l1.l K x1 k y523 = some s576) K ?_ ?_ ?_
  · exact ⟨((0 : Int), (0 : Int)), D0, hE.weak (by kernel_rfl), hS, Snap.le.refl _, hf⟩
  · clear hE hS hf
    rintro a w ⟨z573, D574, hE, hS, le575, rfl⟩
    have hf := hs577
    clear hs577
    refine wpIn_seq ?_
    refine region_at ?_
    refine segN 3 (j := 3) [(2, .int .i64 ((0 : Int))), (3, .int .i64 ((0 : Int))), (4, .int .i64 ((3 : Int)))] hE (by kernel_rfl) rfl (fun a hE => ?_)
    refine at_end rfl ?_
    refine wpIn_ret ?_
    obtain rfl := Option.some.inj hf
    repeat (with_reducible first | refine then_ret ?_ | refine block_ret ?_ | refine qx_ret ?_)
    refine ret_gen ([.int .i64 ((0 : Int)), .int .i64 ((0 : Int)), .int .i64 ((3 : Int))]) hE (by rw [show Tryd.f70.results.toList = [.tmp 2, .tmp 3, .tmp 4] from rfl]; exact ⟨_, _, rfl, rfl, ⟨_, _, rfl, rfl, ⟨_, _, rfl, rfl, rfl⟩⟩⟩) ?_
    exact ⟨_, rfl, D574, rfl, hS⟩
  · clear hE hS hf
    rintro k a w ⟨y523, D524, hE, hS, le525, hf⟩
    obtain ⟨k, rfl, hf⟩ := wire_number_l1.some _ hf
    refine ⟨k, rfl, ?_⟩
    unfold wire_number_l1.b at hf
    refine wpIn_seq ?_
    refine region_at ?_
    refine segN 1 (j := 1) [(11, .bool ((decide (y523.2 < ((List.length (x1) : Nat) : Int)))))] hE (by kernel_rfl) rfl (fun a hE => ?_)
    refine at_end rfl ?_
    refine wpIn_seq ?_
    refine cond_split hE (b := (decide (y523.2 < ((List.length (x1) : Nat) : Int)))) rfl (fun hb => ?_) (fun hb => ?_)
    · replace hf := cond_t hb hf
      clear hb
      refine wpIn_skip ?_
      refine wpIn_seq ?_
      refine wpIn_block ?_
      refine wpIn_seq ?_
      refine region_at ?_
      refine segN 1 (j := 1) [(12, .int .i64 (y523.2))] hE (by kernel_rfl) rfl (fun a hE => ?_)
      obtain ⟨x600, h601, hf⟩ := bind_some hf
      refine at_op (op_tk hE (g_index (K := (kdInt .u8)) (e := 5) (by_ := 1) (zl := 1) rfl rfl rfl rfl hE rfl rfl rfl (by kernel_rfl) rfl (h4.mono le525) h601 (fun a b602 o603 hE h604 => ?_))) rfl
      obtain ⟨cs605, C606, T607, fr608, hr609, hb610, hc611⟩ := h604
      obtain rfl := hr609
      refine at_op (op_tk hE (tk_loadX (off0 := o603) (off := 0) (c := [.int .u8 (x600)]) (.int .u8 (x600)) rfl rfl rfl rfl hE rfl hS rfl hb610 hc611 (by kernel_rfl) (by kernel_rfl) (kD hS dn_nil) (fun a hE => ?_))) rfl
      refine segN 2 (j := 5) [(6, .int .i64 (y523.2)), (7, .int .u8 (x600))] hE (by kernel_rfl) rfl (fun a hE => ?_)
      refine at_end rfl ?_
      refine wpIn_seq ?_
      obtain ⟨j620, hj621, hf⟩ := jn_elim hf
      refine seq_join (fun a w => ∃ (y617 : Bool), ∃ (D618 : Snap), Env a 39 [] [(5, .int .i64 (y523.1)), (6, .int .i64 (y523.2)), (7, .int .u8 (x600)), (8, .slice A2 (List.length (x1)) c3), (9, .int .i64 (((List.length (x1) : Nat) : Int))), (10, .int .i64 (y523.2)), (24, .bool (y617))] ∧ Stp g w0 D0 [] w D618 [] ∧ Snap.le D524 D618 ∧ j620 y617 = some s576) ?_ ?_
      · clear hj621
        refine region_at ?_
        refine segN 3 (j := 3) [(17, .bool ((decide (y523.2 = (0 : Int)))))] hE (by kernel_rfl) rfl (fun a hE => ?_)
        cases hb : (decide (y523.2 = (0 : Int)))
        · replace hf := cond_f hb hf
          have hE := hE.know (t := 17) (b := (decide (y523.2 = (0 : Int)))) (b' := false) rfl hb
          clear hb
          refine segN 7 (j := 10) [(24, .bool ((decide (y523.2 = (5 : Int)))))] hE (by kernel_rfl) rfl (fun a hE => ?_)
          refine at_end rfl ?_
          exact ⟨(decide (y523.2 = (5 : Int))), D524, hE.weak (by kernel_rfl), hS, Snap.le.refl _, hf⟩
        · replace hf := cond_t hb hf
          have hE := hE.know (t := 17) (b := (decide (y523.2 = (0 : Int)))) (b' := true) rfl hb
          clear hb
          refine segN 4 (j := 7) [(21, .bool ((decide (x600 = (128 : Int)))))] hE (by kernel_rfl) rfl (fun a hE => ?_)
          cases hb : (decide (x600 = (128 : Int)))
          · replace hf := cond_f hb hf
            have hE := hE.know (t := 21) (b := (decide (x600 = (128 : Int)))) (b' := false) rfl hb
            clear hb
            refine segN 3 (j := 10) [(24, .bool ((decide (y523.2 = (5 : Int)))))] hE (by kernel_rfl) rfl (fun a hE => ?_)
            refine at_end rfl ?_
            exact ⟨(decide (y523.2 = (5 : Int))), D524, hE.weak (by kernel_rfl), hS, Snap.le.refl _, hf⟩
          · replace hf := cond_t hb hf
            have hE := hE.know (t := 21) (b := (decide (x600 = (128 : Int)))) (b' := true) rfl hb
            clear hb
            refine segN 3 (j := 10) [(24, .bool true)] hE (by kernel_rfl) rfl (fun a hE => ?_)
            refine at_end rfl ?_
            exact ⟨true, D524, hE.weak (by kernel_rfl), hS, Snap.le.refl _, hf⟩
      · clear hE hS
        rintro a w ⟨y617, D618, hE, hS, le619, hf⟩
        replace hf := hj621 _ hf
        clear hj621
        refine cond_split hE (b := y617) rfl (fun hb => ?_) (fun hb => ?_)
        · replace hf := cond_t hb hf
          clear hb
          refine wpIn_seq ?_
          refine region_at ?_
          refine segN 3 (j := 3) [(2, .int .i64 ((0 : Int))), (3, .int .i64 ((0 : Int))), (4, .int .i64 ((2 : Int)))] hE (by kernel_rfl) rfl (fun a hE => ?_)
          refine at_end rfl ?_
          refine wpIn_ret ?_
          obtain rfl := Option.some.inj hf
          replace hf := hs577
          obtain rfl := Option.some.inj hf
          repeat (with_reducible first | refine then_ret ?_ | refine block_ret ?_ | refine qx_ret ?_)
          refine ret_gen ([.int .i64 ((0 : Int)), .int .i64 ((0 : Int)), .int .i64 ((2 : Int))]) hE (by rw [show Tryd.f70.results.toList = [.tmp 2, .tmp 3, .tmp 4] from rfl]; exact ⟨_, _, rfl, rfl, ⟨_, _, rfl, rfl, ⟨_, _, rfl, rfl, rfl⟩⟩⟩) ?_
          exact ⟨_, rfl, D618, rfl, hS⟩
        · replace hf := cond_f hb hf
          clear hb
          refine wpIn_skip ?_
          refine wpIn_seq ?_
          refine region_at ?_
          refine segN 7 (j := 7) [(5, .int .i64 ((bor .i64 (IntKind.wrap .i64 (y523.1 * 2 ^ 7)) (IntKind.wrap .i64 (Int.tmod x600 128)))))] hE (by kernel_rfl) rfl (fun a hE => ?_)
          refine at_end rfl ?_
          refine wpIn_seq ?_
          refine region_at ?_
          refine segN 2 (j := 2) [(32, .bool ((decide (x600 < (128 : Int)))))] hE (by kernel_rfl) rfl (fun a hE => ?_)
          refine at_end rfl ?_
          refine cond_split hE (b := (decide (x600 < (128 : Int)))) rfl (fun hb => ?_) (fun hb => ?_)
          · replace hf := cond_t hb hf
            clear hb
            refine wpIn_seq ?_
            refine wpIn_seq ?_
            refine region_at ?_
            refine segN 2 (j := 2) [(34, .bool ((decide ((2147483647 : Int) < (bor .i64 (IntKind.wrap .i64 (y523.1 * 2 ^ 7)) (IntKind.wrap .i64 (Int.tmod x600 128)))))))] hE (by kernel_rfl) rfl (fun a hE => ?_)
            refine at_end rfl ?_
            refine cond_split hE (b := (decide ((2147483647 : Int) < (bor .i64 (IntKind.wrap .i64 (y523.1 * 2 ^ 7)) (IntKind.wrap .i64 (Int.tmod x600 128)))))) rfl (fun hb => ?_) (fun hb => ?_)
            · replace hf := cond_t hb hf
              clear hb
              refine wpIn_seq ?_
              refine region_at ?_
              refine segN 3 (j := 3) [(2, .int .i64 ((0 : Int))), (3, .int .i64 ((0 : Int))), (4, .int .i64 ((2 : Int)))] hE (by kernel_rfl) rfl (fun a hE => ?_)
              refine at_end rfl ?_
              refine wpIn_ret ?_
              obtain rfl := Option.some.inj hf
              replace hf := hs577
              obtain rfl := Option.some.inj hf
              repeat (with_reducible first | refine then_ret ?_ | refine block_ret ?_ | refine qx_ret ?_)
              refine ret_gen ([.int .i64 ((0 : Int)), .int .i64 ((0 : Int)), .int .i64 ((2 : Int))]) hE (by rw [show Tryd.f70.results.toList = [.tmp 2, .tmp 3, .tmp 4] from rfl]; exact ⟨_, _, rfl, rfl, ⟨_, _, rfl, rfl, ⟨_, _, rfl, rfl, rfl⟩⟩⟩) ?_
              exact ⟨_, rfl, D618, rfl, hS⟩
            · replace hf := cond_f hb hf
              clear hb
              refine wpIn_skip ?_
              refine wpIn_seq ?_
              refine region_at ?_
              refine segN 6 (j := 6) [(2, .int .i64 ((bor .i64 (IntKind.wrap .i64 (y523.1 * 2 ^ 7)) (IntKind.wrap .i64 (Int.tmod x600 128))))), (3, .int .i64 ((IntKind.wrap .i64 (y523.2 + (1 : Int))))), (4, .int .i64 ((0 : Int)))] hE (by kernel_rfl) rfl (fun a hE => ?_)
              refine at_end rfl ?_
              refine wpIn_ret ?_
              obtain rfl := Option.some.inj hf
              replace hf := hs577
              obtain rfl := Option.some.inj hf
              repeat (with_reducible first | refine then_ret ?_ | refine block_ret ?_ | refine qx_ret ?_)
              refine ret_gen ([.int .i64 ((bor .i64 (IntKind.wrap .i64 (y523.1 * 2 ^ 7)) (IntKind.wrap .i64 (Int.tmod x600 128)))), .int .i64 ((IntKind.wrap .i64 (y523.2 + (1 : Int)))), .int .i64 ((0 : Int))]) hE (by rw [show Tryd.f70.results.toList = [.tmp 2, .tmp 3, .tmp 4] from rfl]; exact ⟨_, _, rfl, rfl, ⟨_, _, rfl, rfl, ⟨_, _, rfl, rfl, rfl⟩⟩⟩) ?_
              exact ⟨_, rfl, D618, rfl, hS⟩
          · replace hf := cond_f hb hf
            clear hb
            refine wpIn_skip ?_
            refine region_at ?_
            refine segN 2 (j := 2) [(10, .int .i64 ((IntKind.wrap .i64 (y523.2 + (1 : Int)))))] hE (by kernel_rfl) rfl (fun a hE => ?_)
            refine at_end rfl ?_
            exact ⟨((bor .i64 (IntKind.wrap .i64 (y523.1 * 2 ^ 7)) (IntKind.wrap .i64 (Int.tmod x600 128))), (IntKind.wrap .i64 (y523.2 + (1 : Int)))), D618, hE.weak (by kernel_rfl), hS, (Snap.le.trans le525 le619), hf⟩
    · replace hf := cond_f hb hf
      clear hb
      refine wpIn_exit ?_
      obtain rfl := Option.some.inj hf
      exact ⟨(), D524, hE.weak (by kernel_rfl), hS, le525, rfl⟩

set_option maxRecDepth 100000 in
set_option maxHeartbeats 4000000 in
theorem wire_Reader_Fail.calls {K : Nat} {g w0 : World} {D0 : Snap} {x3 : Int} {x4 : T_wire_Reader} {b1 : Nat} {A5 : Option Addr} {c6 : Nat} {r : (T_wire_Reader)} (hf : wire_Reader_Fail.f K x3 x4 = some r) (hS0 : St g w0 D0 [bx b1 66 (c_T_wire_Reader (x4) A5 c6)]) (h7 : Sl (kdInt .u8) D0 A5 c6 (x4.fB)) :
    CallsIn (Fw none) 0 Tryd.prog 55 (List.toArray [.pointer (some ⟨b1, 0, none⟩), .int .i64 (x3)]) w0 (fun e w' => ∃ v, e = .returned v ∧ ∃ (D1 : Snap) (A17 : Option Addr) (c18 : Nat), v = .tuple #[] ∧ Stp g w0 D0 [bx b1 66 (c_T_wire_Reader (x4) A5 c6)] w' D1 [bx b1 66 (c_T_wire_Reader ((T_wire_Reader.mk (r.fB) (r.fBad))) A17 c18)] ∧ Sl (kdInt .u8) D1 A17 c18 (r.fB)) := by
  unfold wire_Reader_Fail.f at hf
  have hS := Stp.refl hS0
  clear hS0
  refine calls_body (n := 24) Tryd.func55 rfl Tryd.ntmps55 rfl (fun a hE => ?_)
  have hE : Env a 24 [] [(0, .pointer (some ⟨b1, 0, none⟩)), (1, .int .i64 (x3))] := hE
  obtain ⟨j27, hj28, hf⟩ := jn_elim hf
  refine seq_join (fun a w => ∃ (y20 : Bool), ∃ (D21 : Snap), Env a 24 [] [(0, .pointer (some ⟨b1, 0, none⟩)), (1, .int .i64 (x3)), (16, .bool (y20))] ∧ Stp g w0 D0 [bx b1 66 (c_T_wire_Reader (x4) A5 c6)] w D21 [bx b1 66 (c_T_wire_Reader (x4) A5 c6)] ∧ Snap.le D0 D21 ∧ j27 y20 = some r) ?_ ?_
  · clear hj28
    refine region_at ?_
    refine segN 1 (j := 1) [(4, .pointer (some ⟨b1, 0, none⟩))] hE (by kernel_rfl) rfl (fun a hE => ?_)
    refine at_op (op_tk hE (tk_bin (r := .bool true) rfl rfl rfl rfl hE rfl rfl rfl (neptr_run (by kernel_rfl) _) (fun a hE => ?_))) rfl
    refine segN 3 (j := 5) [(6, .bool true), (8, .pointer (some ⟨b1, 0, none⟩))] hE (by kernel_rfl) rfl (fun a hE => ?_)
    refine at_op (op_tk hE (g_fieldAddr (fo := 1) (ft := 39) 1 rfl rfl rfl rfl hE rfl rfl (by kernel_rfl) rfl (fun a hE => ?_))) rfl
    refine at_op (op_tk hE (tk_load 0 (.int .i64 (x4.fBad)) rfl rfl rfl rfl hE rfl hS rfl rfl (by kernel_rfl) (kL (j := 0) hS rfl List.not_mem_nil) (fun a hE => ?_))) rfl
    refine segN 3 (j := 10) [(13, .bool ((decide (x4.fBad = (0 : Int)))))] hE (by kernel_rfl) rfl (fun a hE => ?_)
    cases hb : (decide (x4.fBad = (0 : Int)))
    · replace hf := cond_f hb hf
      have hE := hE.know (t := 13) (b := (decide (x4.fBad = (0 : Int)))) (b' := false) rfl hb
      clear hb
      refine segN 3 (j := 13) [(16, .bool false)] hE (by kernel_rfl) rfl (fun a hE => ?_)
      refine at_end rfl ?_
      exact ⟨false, D0, hE.weak (by kernel_rfl), hS, Snap.le.refl _, hf⟩
    · replace hf := cond_t hb hf
      have hE := hE.know (t := 13) (b := (decide (x4.fBad = (0 : Int)))) (b' := true) rfl hb
      clear hb
      refine segN 3 (j := 13) [(16, .bool ((!decide (x3 = (0 : Int)))))] hE (by kernel_rfl) rfl (fun a hE => ?_)
      refine at_end rfl ?_
      exact ⟨(!decide (x3 = (0 : Int))), D0, hE.weak (by kernel_rfl), hS, Snap.le.refl _, hf⟩
  · clear hE hS
    rintro a w ⟨y20, D21, hE, hS, le22, hf⟩
    replace hf := hj28 _ hf
    clear hj28
    refine cond_split hE (b := y20) rfl (fun hb => ?_) (fun hb => ?_)
    · replace hf := cond_t hb hf
      clear hb
      refine region_at ?_
      refine segN 4 (j := 4) [(18, .pointer (some ⟨b1, 0, none⟩)), (19, .int .i64 (x3)), (20, .pointer (some ⟨b1, 0, none⟩))] hE (by kernel_rfl) rfl (fun a hE => ?_)
      refine at_op (op_tk hE (g_fieldAddr (fo := 0) (ft := 25) 0 rfl rfl rfl rfl hE rfl rfl (by kernel_rfl) rfl (fun a hE => ?_))) rfl
      obtain ⟨v23, hv24, hf⟩ := bind_some hf
      replace hv24 := Option.some.inj hv24
      refine at_op (op_store (v := .slice none 0 0) (c_T_wire_Reader ((T_wire_Reader.mk (([] : List Int)) (v23.fBad))) none 0) rfl rfl rfl rfl hE hS rfl rfl (by kernel_rfl) (by kernel_rfl) (by kernel_rfl) (by kernel_rfl) (by rw [← hv24]; kernel_rfl) (fun a w _ hE hS => ?_)) rfl
      refine segN 1 (j := 7) [(22, .pointer (some ⟨b1, 0, none⟩))] hE (by kernel_rfl) rfl (fun a hE => ?_)
      refine at_op (op_tk hE (g_fieldAddr (fo := 1) (ft := 39) 1 rfl rfl rfl rfl hE rfl rfl (by kernel_rfl) rfl (fun a hE => ?_))) rfl
      obtain ⟨v25, hv26, hf⟩ := bind_some hf
      replace hv26 := Option.some.inj hv26
      refine at_op (op_store (v := .int .i64 (x3)) (c_T_wire_Reader ((T_wire_Reader.mk (([] : List Int)) (v25.fBad))) none 0) rfl rfl rfl rfl hE hS rfl rfl (by kernel_rfl) (by kernel_rfl) (by kernel_rfl) (by kernel_rfl) (by rw [← hv26]; kernel_rfl) (fun a w _ hE hS => ?_)) rfl
      refine at_end rfl ?_
      obtain rfl := Option.some.inj hf
      repeat (with_reducible first | refine then_ret ?_ | refine block_ret ?_ | refine qx_ret ?_)
      refine ret_genN ([]) hE (by rw [show Tryd.f55.results.toList = [] from rfl]; exact rfl) ?_
      exact ⟨_, rfl, D21, none, 0, rfl, hS, (Sl.nil (kdInt .u8) D21)⟩
    · replace hf := cond_f hb hf
      clear hb
      refine wpIn_skip ?_
      obtain rfl := Option.some.inj hf
      repeat (with_reducible first | refine then_ret ?_ | refine block_ret ?_ | refine qx_ret ?_)
      refine ret_genN ([]) hE (by rw [show Tryd.f55.results.toList = [] from rfl]; exact rfl) ?_
      exact ⟨_, rfl, D21, A5, c6, rfl, hS, (h7.mono le22)⟩

set_option maxRecDepth 100000 in
set_option maxHeartbeats 4000000 in
theorem wire_take_int.calls {K : Nat} {g w0 : World} {D0 : Snap} {x3 : T_wire_Reader} {b1 : Nat} {A4 : Option Addr} {c5 : Nat} {r : (Int × T_wire_Reader)} (hf : wire_take_int.f K x3 = some r) (hS0 : St g w0 D0 [bx b1 66 (c_T_wire_Reader (x3) A4 c5)]) (h6 : Sl (kdInt .u8) D0 A4 c5 (x3.fB)) :
    CallsIn (Fw none) 0 Tryd.prog 69 (List.toArray [.pointer (some ⟨b1, 0, none⟩), .func (.func 70) #[] #[]]) w0 (fun e w' => ∃ v, e = .returned v ∧ ∃ (D1 : Snap) (A46 : Option Addr) (c47 : Nat), v = .int .i64 (r.1) ∧ Stp g w0 D0 [bx b1 66 (c_T_wire_Reader (x3) A4 c5)] w' D1 [bx b1 66 (c_T_wire_Reader ((T_wire_Reader.mk (r.2.fB) (r.2.fBad))) A46 c47)] ∧ Sl (kdInt .u8) D1 A46 c47 (r.2.fB)) := by
  unfold wire_take_int.f at hf
  have hS := Stp.refl hS0
  clear hS0
  refine calls_body (n := 39) Tryd.func69 rfl Tryd.ntmps69 rfl (fun a hE => ?_)
  have hE : Env a 39 [] [(0, .pointer (some ⟨b1, 0, none⟩)), (1, .func (.func 70) #[] #[])] := hE
  refine wpIn_seq ?_
  refine region_at ?_
  refine segN 1 (j := 1) [(4, .int .i64 ((0 : Int)))] hE (by kernel_rfl) rfl (fun a hE => ?_)
  refine at_end rfl ?_
  refine wpIn_seq ?_
  refine region_at ?_
  refine segN 1 (j := 1) [(5, .int .i64 ((0 : Int)))] hE (by kernel_rfl) rfl (fun a hE => ?_)
  refine at_end rfl ?_
  refine wpIn_seq ?_
  refine wpIn_seq ?_
  refine region_at ?_
  refine segN 1 (j := 1) [(9, .pointer (some ⟨b1, 0, none⟩))] hE (by kernel_rfl) rfl (fun a hE => ?_)
  obtain ⟨r54, h55, hf⟩ := bind_some hf
  refine at_op (op_call rfl rfl rfl rfl hE rfl rfl rfl rfl (by kernel_rfl) (wire_Reader_Bad.calls (g := g) h55 (hS.st.fore (L := [bx b1 66 (c_T_wire_Reader (x3) A4 c5)])) h6) (fun a v w hR hE => ?_)) rfl
  obtain ⟨D56, rfl, hS1⟩ := hR
  have le58 := hS1.dle
  have hS := hS.callR hS1 rfl (.c .n)
  clear hS1
  refine segN 1 (j := 3) [(11, .bool ((!decide (r54 = (0 : Int)))))] hE (by kernel_rfl) rfl (fun a hE => ?_)
  refine at_end rfl ?_
  refine cond_split hE (b := (!decide (r54 = (0 : Int)))) rfl (fun hb => ?_) (fun hb => ?_)
  · replace hf := cond_t hb hf
    clear hb
    refine wpIn_seq ?_
    refine region_at ?_
    refine segN 2 (j := 2) [(4, .int .i64 ((0 : Int)))] hE (by kernel_rfl) rfl (fun a hE => ?_)
    refine at_end rfl ?_
    refine wpIn_ret ?_
    obtain rfl := Option.some.inj hf
    repeat (with_reducible first | refine then_ret ?_ | refine block_ret ?_ | refine qx_ret ?_)
    refine ret_gen ([.int .i64 ((0 : Int))]) hE (by rw [show Tryd.f69.results.toList = [.tmp 4] from rfl]; exact ⟨_, _, rfl, rfl, rfl⟩) ?_
    exact ⟨_, rfl, D56, A4, c5, rfl, hS, (h6.mono le58)⟩
  · replace hf := cond_f hb hf
    clear hb
    refine wpIn_skip ?_
    refine wpIn_seq ?_
    refine region_at ?_
    refine segN 3 (j := 3) [(14, .func (.func 70) #[] #[]), (16, .pointer (some ⟨b1, 0, none⟩))] hE (by kernel_rfl) rfl (fun a hE => ?_)
    refine at_op (op_tk hE (g_fieldAddr (fo := 0) (ft := 25) 0 rfl rfl rfl rfl hE rfl rfl (by kernel_rfl) rfl (fun a hE => ?_))) rfl
    refine at_op (op_tk hE (tk_load 0 (.slice A4 (List.length (x3.fB)) c5) rfl rfl rfl rfl hE rfl hS rfl rfl (by kernel_rfl) (kL (j := 0) hS rfl List.not_mem_nil) (fun a hE => ?_))) rfl
    obtain ⟨r59, h60, hf⟩ := bind_some hf
    refine at_op (op_call rfl rfl rfl rfl hE rfl rfl rfl rfl (by kernel_rfl) (wire_number.calls (g := g) h60 (hS.st.fore (L := [])) (h6.mono le58)) (fun a v w hR hE => ?_)) rfl
    obtain ⟨D61, rfl, hS1⟩ := hR
    have le63 := hS1.dle
    have hS := hS.callR hS1 rfl .n
    clear hS1
    refine segN 7 (j := 13) [(6, .int .i64 (r59.1)), (7, .int .i64 (r59.2.1)), (8, .int .i64 (r59.2.2))] hE (by kernel_rfl) rfl (fun a hE => ?_)
    refine at_end rfl ?_
    refine wpIn_seq ?_
    refine wpIn_seq ?_
    refine region_at ?_
    refine segN 2 (j := 2) [(24, .bool ((!decide (r59.2.2 = (0 : Int)))))] hE (by kernel_rfl) rfl (fun a hE => ?_)
    refine at_end rfl ?_
    refine cond_split hE (b := (!decide (r59.2.2 = (0 : Int)))) rfl (fun hb => ?_) (fun hb => ?_)
    · replace hf := cond_t hb hf
      clear hb
      refine wpIn_seq ?_
      refine region_at ?_
      refine segN 2 (j := 2) [(25, .pointer (some ⟨b1, 0, none⟩)), (26, .int .i64 (r59.2.2))] hE (by kernel_rfl) rfl (fun a hE => ?_)
      obtain ⟨r72, h73, hf⟩ := bind_some hf
      refine at_op (op_call rfl rfl rfl rfl hE rfl rfl rfl rfl (by kernel_rfl) (wire_Reader_Fail.calls (g := g) h73 (hS.st.fore (L := [bx b1 66 (c_T_wire_Reader (x3) A4 c5)])) (h6.mono (Snap.le.trans le58 le63))) (fun a v w hR hE => ?_)) rfl
      obtain ⟨D74, A76, c77, rfl, hS1, h78⟩ := hR
      have le79 := hS1.dle
      have hS := hS.callR hS1 rfl (.c .n)
      clear hS1
      refine at_end rfl ?_
      refine wpIn_seq ?_
      refine region_at ?_
      refine segN 2 (j := 2) [(4, .int .i64 ((0 : Int)))] hE (by kernel_rfl) rfl (fun a hE => ?_)
      refine at_end rfl ?_
      refine wpIn_ret ?_
      obtain rfl := Option.some.inj hf
      repeat (with_reducible first | refine then_ret ?_ | refine block_ret ?_ | refine qx_ret ?_)
      refine ret_gen ([.int .i64 ((0 : Int))]) hE (by rw [show Tryd.f69.results.toList = [.tmp 4] from rfl]; exact ⟨_, _, rfl, rfl, rfl⟩) ?_
      exact ⟨_, rfl, D74, A76, c77, rfl, hS, h78⟩
    · replace hf := cond_f hb hf
      clear hb
      refine wpIn_skip ?_
      refine wpIn_seq ?_
      refine region_at ?_
      refine segN 3 (j := 3) [(29, .pointer (some ⟨b1, 0, none⟩)), (31, .pointer (some ⟨b1, 0, none⟩))] hE (by kernel_rfl) rfl (fun a hE => ?_)
      refine at_op (op_tk hE (g_fieldAddr (fo := 0) (ft := 25) 0 rfl rfl rfl rfl hE rfl rfl (by kernel_rfl) rfl (fun a hE => ?_))) rfl
      refine at_op (op_tk hE (tk_load 0 (.slice A4 (List.length (x3.fB)) c5) rfl rfl rfl rfl hE rfl hS rfl rfl (by kernel_rfl) (kL (j := 0) hS rfl List.not_mem_nil) (fun a hE => ?_))) rfl
      refine segN 1 (j := 6) [(34, .int .i64 (r59.2.1))] hE (by kernel_rfl) rfl (fun a hE => ?_)
      obtain ⟨l80, h81, hf⟩ := bind_some hf
      refine at_op (op_tk hE (g_slice (K := (kdInt .u8)) (e := 5) (by_ := 1) (zl := 1) rfl rfl rfl rfl hE rfl rfl (by kernel_rfl) ⟨_, rfl⟩ rfl (h6.mono (Snap.le.trans le58 le63)) h81 (fun a A82 c83 hE h84 => ?_))) rfl
      refine segN 1 (j := 8) [(36, .pointer (some ⟨b1, 0, none⟩))] hE (by kernel_rfl) rfl (fun a hE => ?_)
      refine at_op (op_tk hE (g_fieldAddr (fo := 0) (ft := 25) 0 rfl rfl rfl rfl hE rfl rfl (by kernel_rfl) rfl (fun a hE => ?_))) rfl
      obtain ⟨v85, hv86, hf⟩ := bind_some hf
      replace hv86 := Option.some.inj hv86
      refine at_op (op_store (v := .slice A82 (List.length (l80)) c83) (c_T_wire_Reader (v85) A82 c83) rfl rfl rfl rfl hE hS rfl rfl (by kernel_rfl) (by kernel_rfl) (by kernel_rfl) (by kernel_rfl) (by rw [← hv86]; kernel_rfl) (fun a w _ hE hS => ?_)) rfl
      have h87 : Sl (kdInt .u8) D61 A82 c83 (v85.fB) := by rw [← hv86]; exact h84
      refine at_end rfl ?_
      refine wpIn_seq ?_
      refine region_at ?_
      refine segN 2 (j := 2) [(4, .int .i64 (r59.1))] hE (by kernel_rfl) rfl (fun a hE => ?_)
      refine at_end rfl ?_
      refine wpIn_ret ?_
      obtain rfl := Option.some.inj hf
      repeat (with_reducible first | refine then_ret ?_ | refine block_ret ?_ | refine qx_ret ?_)
      refine ret_gen ([.int .i64 (r59.1)]) hE (by rw [show Tryd.f69.results.toList = [.tmp 4] from rfl]; exact ⟨_, _, rfl, rfl, rfl⟩) ?_
      exact ⟨_, rfl, D61, A82, c83, rfl, hS, h87⟩

set_option maxRecDepth 100000 in
set_option maxHeartbeats 4000000 in
theorem wire_Reader_Num.calls {K : Nat} {g w0 : World} {D0 : Snap} {x3 : T_wire_Reader} {b1 : Nat} {A4 : Option Addr} {c5 : Nat} {r : (Int × T_wire_Reader)} (hf : wire_Reader_Num.f K x3 = some r) (hS0 : St g w0 D0 [bx b1 66 (c_T_wire_Reader (x3) A4 c5)]) (h6 : Sl (kdInt .u8) D0 A4 c5 (x3.fB)) :
    CallsIn (Fw none) 0 Tryd.prog 50 (List.toArray [.pointer (some ⟨b1, 0, none⟩)]) w0 (fun e w' => ∃ v, e = .returned v ∧ ∃ (D1 : Snap) (A15 : Option Addr) (c16 : Nat), v = .int .i64 (r.1) ∧ Stp g w0 D0 [bx b1 66 (c_T_wire_Reader (x3) A4 c5)] w' D1 [bx b1 66 (c_T_wire_Reader ((T_wire_Reader.mk (r.2.fB) (r.2.fBad))) A15 c16)] ∧ Sl (kdInt .u8) D1 A15 c16 (r.2.fB)) := by
  unfold wire_Reader_Num.f at hf
  have hS := Stp.refl hS0
  clear hS0
  refine calls_body (n := 5) Tryd.func50 rfl Tryd.ntmps50 rfl (fun a hE => ?_)
  have hE : Env a 5 [] [(0, .pointer (some ⟨b1, 0, none⟩))] := hE
  refine wpIn_seq ?_
  refine region_at ?_
  refine segN 1 (j := 1) [(2, .int .i64 ((0 : Int)))] hE (by kernel_rfl) rfl (fun a hE => ?_)
  refine at_end rfl ?_
  refine wpIn_seq ?_
  refine region_at ?_
  refine segN 1 (j := 1) [(3, .pointer (some ⟨b1, 0, none⟩))] hE (by kernel_rfl) rfl (fun a hE => ?_)
  obtain ⟨r18, h19, hf⟩ := bind_some hf
  refine at_op (op_call rfl rfl rfl rfl hE rfl rfl rfl rfl (by kernel_rfl) (wire_take_int.calls (g := g) h19 (hS.st.fore (L := [bx b1 66 (c_T_wire_Reader (x3) A4 c5)])) h6) (fun a v w hR hE => ?_)) rfl
  obtain ⟨D20, A22, c23, rfl, hS1, h24⟩ := hR
  have le25 := hS1.dle
  have hS := hS.callR hS1 rfl (.c .n)
  clear hS1
  refine segN 1 (j := 3) [(2, .int .i64 (r18.1))] hE (by kernel_rfl) rfl (fun a hE => ?_)
  refine at_end rfl ?_
  refine wpIn_ret ?_
  obtain rfl := Option.some.inj hf
  repeat (with_reducible first | refine then_ret ?_ | refine block_ret ?_ | refine qx_ret ?_)
  refine ret_gen ([.int .i64 (r18.1)]) hE (by rw [show Tryd.f50.results.toList = [.tmp 2] from rfl]; exact ⟨_, _, rfl, rfl, rfl⟩) ?_
  exact ⟨_, rfl, D20, A22, c23, rfl, hS, h24⟩

set_option maxRecDepth 100000 in
set_option maxHeartbeats 4000000 in
theorem rec_steps.calls {K : Nat} {g w0 : World} {D0 : Snap} {x3 : T_wire_Reader} {b1 : Nat} {A4 : Option Addr} {c5 : Nat} {r : ((List T_api_Step) × T_wire_Reader)} (hf : rec_steps.f K x3 = some r) (hS0 : St g w0 D0 [bx b1 66 (c_T_wire_Reader (x3) A4 c5)]) (h6 : Sl (kdInt .u8) D0 A4 c5 (x3.fB)) :
    CallsIn (Fw none) 0 Tryd.prog 51 (List.toArray [.pointer (some ⟨b1, 0, none⟩)]) w0 (fun e w' => ∃ v, e = .returned v ∧ ∃ (D1 : Snap) (A665 : Option Addr) (c666 : Nat) (q667 : Blk) (A670 : Option Addr) (c671 : Nat), v = .slice A665 (List.length (r.1)) c666 ∧ Stp g w0 D0 [bx b1 66 (c_T_wire_Reader (x3) A4 c5)] w' D1 [bx b1 66 (c_T_wire_Reader ((T_wire_Reader.mk (r.2.fB) (r.2.fBad))) A670 c671), q667] ∧ OwnD kd_T_api_Step 37 D1 A665 c666 (r.1) q667 ∧ Sl (kdInt .u8) D1 A670 c671 (r.2.fB)) := by
  unfold rec_steps.f at hf
  have hS := Stp.refl hS0
  clear hS0
  refine calls_body (n := 27) Tryd.func51 rfl Tryd.ntmps51 rfl (fun a hE => ?_)
  have hE : Env a 27 [] [(0, .pointer (some ⟨b1, 0, none⟩))] := hE
  refine wpIn_seq ?_
  refine region_at ?_
  refine segN 1 (j := 1) [(2, .slice none 0 0)] hE (by kernel_rfl) rfl (fun a hE => ?_)
  refine at_end rfl ?_
  refine wpIn_seq ?_
  refine region_at ?_
  refine segN 1 (j := 1) [(5, .pointer (some ⟨b1, 0, none⟩))] hE (by kernel_rfl) rfl (fun a hE => ?_)
  obtain ⟨r673, h674, hf⟩ := bind_some hf
  refine at_op (op_call rfl rfl rfl rfl hE rfl rfl rfl rfl (by kernel_rfl) (wire_Reader_Num.calls (g := g) h674 (hS.st.fore (L := [bx b1 66 (c_T_wire_Reader (x3) A4 c5)])) h6) (fun a v w hR hE => ?_)) rfl
  obtain ⟨D675, A677, c678, rfl, hS1, h679⟩ := hR
  have le680 := hS1.dle
  have hS := hS.callR hS1 rfl (.c .n)
  clear hS1
  refine segN 1 (j := 3) [(3, .int .i64 (r673.1))] hE (by kernel_rfl) rfl (fun a hE => ?_)
  refine at_end rfl ?_
  obtain ⟨j1321, hj1322, hf⟩ := jn_elim hf
  refine seq_join (fun a w => ∃ (y689 : T_wire_Reader), ∃ (A692 : Option Addr), ∃ (c693 : Nat), ∃ (D690 : Snap), Env a 27 [] [(0, .pointer (some ⟨b1, 0, none⟩)), (3, .int .i64 (r673.1))] ∧ Stp g w0 D0 [bx b1 66 (c_T_wire_Reader (x3) A4 c5)] w D690 [bx b1 66 (c_T_wire_Reader (y689) A692 c693)] ∧ Snap.le D675 D690 ∧ Sl (kdInt .u8) D690 A692 c693 (y689.fB) ∧ j1321 y689 = some r) ?_ ?_
  · clear hj1322
    refine wpIn_seq ?_
    refine region_at ?_
    refine segN 2 (j := 2) [(8, .bool ((decide ((6 : Int) < r673.1))))] hE (by kernel_rfl) rfl (fun a hE => ?_)
    refine at_end rfl ?_
    refine cond_split hE (b := (decide ((6 : Int) < r673.1))) rfl (fun hb => ?_) (fun hb => ?_)
    · replace hf := cond_t hb hf
      clear hb
      refine region_at ?_
      refine segN 1 (j := 1) [(9, .pointer (some ⟨b1, 0, none⟩))] hE (by kernel_rfl) rfl (fun a hE => ?_)
      obtain ⟨r1323, h1324, hf⟩ := bind_some hf
      refine at_op (op_call rfl rfl rfl rfl hE rfl rfl rfl rfl (by kernel_rfl) (wire_Reader_Fail.calls (g := g) h1324 (hS.st.fore (L := [bx b1 66 (c_T_wire_Reader (r673.2) A677 c678)])) h679) (fun a v w hR hE => ?_)) rfl
      obtain ⟨D1325, A1327, c1328, rfl, hS1, h1329⟩ := hR
      have le1330 := hS1.dle
      have hS := hS.callR hS1 rfl (.c .n)
      clear hS1
      refine at_end rfl ?_
      exact ⟨r1323, A1327, c1328, D1325, hE.weak (by kernel_rfl), hS, le1330, h1329, hf⟩
    · replace hf := cond_f hb hf
      clear hb
      refine wpIn_skip ?_
      exact ⟨r673.2, A677, c678, D675, hE.weak (by kernel_rfl), hS, Snap.le.refl _, h679, hf⟩
  · clear hE hS
    rintro a w ⟨y689, A692, c693, D690, hE, hS, le691, h694, hf⟩
    replace hf := hj1322 _ hf
    clear hj1322
    refine wpIn_seq ?_
    refine region_at ?_
    refine segN 1 (j := 1) [(4, .slice none 0 0)] hE (by kernel_rfl) rfl (fun a hE => ?_)
    refine at_end rfl ?_
    refine wpIn_seq ?_
    refine wpIn_seq ?_
    refine region_at ?_
    refine segN 2 (j := 2) [(11, .int .i64 (r673.1)), (12, .int .i64 ((0 : Int)))] hE (by kernel_rfl) rfl (fun a hE => ?_)
    refine at_end rfl ?_
    obtain ⟨s1234, hf, hs1235⟩ := bind_some hf
    have hS := hS.nils
    have hS := hS.pk (.c 1 rfl (.c 0 rfl .n)) rfl
    refine block_loop (fun a w => ∃ (z1223 : (List T_api_Step) × T_wire_Reader), ∃ (A1226 : Option Addr), ∃ (c1227 : Nat), ∃ (q1228 : Blk), ∃ (A1231 : Option Addr), ∃ (c1232 : Nat), ∃ (D1224 : Snap), Env a 27 [] [(4, .slice A1226 (List.length (z1223.1)) c1227)] ∧ Stp g w0 D0 [bx b1 66 (c_T_wire_Reader (x3) A4 c5)] w D1224 [bx b1 66 (c_T_wire_Reader (z1223.2) A1231 c1232), q1228] ∧ Snap.le D690 D1224 ∧ OwnD kd_T_api_Step 37 D1224 A1226 c1227 (z1223.1) q1228 ∧ Sl (kdInt .u8) D1224 A1231 c1232 (z1223.2.fB) ∧ z1223 = s1234) (fun k a w => ∃ (y1117 : (List T_api_Step) × Int × T_wire_Reader), ∃ (A1120 : Option Addr), ∃ (c1121 : Nat), ∃ (q1122 : Blk), ∃ (A1125 : Option Addr), ∃ (c1126 : Nat), ∃ (D1118 : Snap), Env a 27 [] [(0, .pointer (some ⟨b1, 0, none⟩)), (4, .slice A1120 (List.length (y1117.1)) c1121), (11, .int .i64 (r673.1)), (12, .int .i64 (y1117.2.1))] ∧ Stp g w0 D0 [bx b1 66 (c_T_wire_Reader (x3) A4 c5)] w D1118 [bx b1 66 (c_T_wire_Reader (y1117.2.2) A1125 c1126), q1122] ∧ Snap.le D690 D1118 ∧ OwnD kd_T_api_Step 37 D1118 A1120 c1121 (y1117.1) q1122 ∧ Sl (kdInt .u8) D1118 A1125 c1126 (y1117.2.2.fB) ∧ rec_steps_l1.l K r673 k y1117 = some s1234) K ?_ ?_ ?_
    · exact ⟨(([] : List T_api_Step), (0 : Int), y689), none, 0, none, A692, c693, D690, hE.weak (by kernel_rfl), hS, Snap.le.refl _, (OwnD.nil kd_T_api_Step 37 D690), h694, hf⟩
    · clear hE hS hf
      rintro a w ⟨z1223, A1226, c1227, q1228, A1231, c1232, D1224, hE, hS, le1225, h1229, h1233, rfl⟩
      have hf := hs1235
      clear hs1235
      refine wpIn_seq ?_
      refine region_at ?_
      refine segN 2 (j := 2) [(2, .slice A1226 (List.length (z1223.1)) c1227)] hE (by kernel_rfl) rfl (fun a hE => ?_)
      refine at_end rfl ?_
      refine wpIn_ret ?_
      obtain rfl := Option.some.inj hf
      repeat (with_reducible first | refine then_ret ?_ | refine block_ret ?_ | refine qx_ret ?_)
      refine ret_gen ([.slice A1226 (List.length (z1223.1)) c1227]) hE (by rw [show Tryd.f51.results.toList = [.tmp 2] from rfl]; exact ⟨_, _, rfl, rfl, rfl⟩) ?_
      exact ⟨_, rfl, D1224, A1226, c1227, q1228, A1231, c1232, rfl, hS, h1229, h1233⟩
    · clear hE hS hf
      rintro k a w ⟨y1117, A1120, c1121, q1122, A1125, c1126, D1118, hE, hS, le1119, h1123, h1127, hf⟩
      obtain ⟨k, rfl, hf⟩ := rec_steps_l1.some _ hf
      refine ⟨k, rfl, ?_⟩
      unfold rec_steps_l1.b at hf
      refine wpIn_seq ?_
      refine region_at ?_
      refine segN 1 (j := 1) [(13, .bool ((decide (y1117.2.1 < r673.1))))] hE (by kernel_rfl) rfl (fun a hE => ?_)
      refine at_end rfl ?_
      refine wpIn_seq ?_
      refine cond_split hE (b := (decide (y1117.2.1 < r673.1))) rfl (fun hb => ?_) (fun hb => ?_)
      · replace hf := cond_t hb hf
        clear hb
        refine wpIn_skip ?_
        refine wpIn_seq ?_
        refine wpIn_block ?_
        refine wpIn_seq ?_
        refine wpIn_seq ?_
        refine region_at ?_
        refine segN 1 (j := 1) [(14, .pointer (some ⟨b1, 0, none⟩))] hE (by kernel_rfl) rfl (fun a hE => ?_)
        obtain ⟨r1283, h1284, hf⟩ := bind_some hf
        refine at_op (op_call rfl rfl rfl rfl hE rfl rfl rfl rfl (by kernel_rfl) (wire_Reader_Bad.calls (g := g) h1284 (hS.st.fore (L := [bx b1 66 (c_T_wire_Reader (y1117.2.2) A1125 c1126)])) h1127) (fun a v w hR hE => ?_)) rfl
        obtain ⟨D1285, rfl, hS1⟩ := hR
        have le1287 := hS1.dle
        have hS := hS.callR hS1 rfl (.c .n)
        clear hS1
        refine segN 1 (j := 3) [(16, .bool ((!decide (r1283 = (0 : Int)))))] hE (by kernel_rfl) rfl (fun a hE => ?_)
        refine at_end rfl ?_
        refine cond_split hE (b := (!decide (r1283 = (0 : Int)))) rfl (fun hb => ?_) (fun hb => ?_)
        · replace hf := cond_t hb hf
          clear hb
          refine wpIn_exit ?_
          obtain rfl := Option.some.inj hf
          exact ⟨(y1117.1, y1117.2.2), A1120, c1121, q1122, A1125, c1126, D1285, hE.weak (by kernel_rfl), hS, (Snap.le.trans le1119 le1287), (h1123.mono le1287), (h1127.mono le1287), rfl⟩
        · replace hf := cond_f hb hf
          clear hb
          refine wpIn_skip ?_
          refine region_at ?_
          refine segN 2 (j := 2) [(17, .slice A1120 (List.length (y1117.1)) c1121), (18, .pointer (some ⟨b1, 0, none⟩))] hE (by kernel_rfl) rfl (fun a hE => ?_)
          obtain ⟨r1288, h1289, hf⟩ := bind_some hf
          refine at_op (op_call rfl rfl rfl rfl hE rfl rfl rfl rfl (by kernel_rfl) (wire_Reader_Num.calls (g := g) h1289 (hS.st.fore (L := [bx b1 66 (c_T_wire_Reader (y1117.2.2) A1125 c1126)])) (h1127.mono le1287)) (fun a v w hR hE => ?_)) rfl
          obtain ⟨D1290, A1292, c1293, rfl, hS1, h1294⟩ := hR
          have le1295 := hS1.dle
          have hS := hS.callR hS1 rfl (.c .n)
          clear hS1
          refine segN 1 (j := 4) [(20, .pointer (some ⟨b1, 0, none⟩))] hE (by kernel_rfl) rfl (fun a hE => ?_)
          obtain ⟨r1296, h1297, hf⟩ := bind_some hf
          refine at_op (op_call rfl rfl rfl rfl hE rfl rfl rfl rfl (by kernel_rfl) (wire_Reader_Num.calls (g := g) h1297 (hS.st.fore (L := [bx b1 66 (c_T_wire_Reader (r1288.2) A1292 c1293)])) h1294) (fun a v w hR hE => ?_)) rfl
          obtain ⟨D1298, A1300, c1301, rfl, hS1, h1302⟩ := hR
          have le1303 := hS1.dle
          have hS := hS.callR hS1 rfl (.c .n)
          clear hS1
          refine at_op (op_tk hE (tk_build (c_T_api_Step ((T_api_Step.mk (r1288.1) (r1296.1)))) rfl rfl rfl rfl hE rfl rfl (by kernel_rfl) (fun a hE => ?_))) rfl
          refine at_op (op_buildSlice (K := kd_T_api_Step) (e := 37) (cs := (c_T_api_Step ((T_api_Step.mk (r1288.1) (r1296.1)))) ++ []) ([(T_api_Step.mk (r1288.1) (r1296.1))] : List T_api_Step) rfl rfl rfl rfl hE rfl hS rfl (by kernel_rfl) rfl rfl (by exact (show RL kd_T_api_Step D1298 ([(T_api_Step.mk (r1288.1) (r1296.1))] : List T_api_Step) ((c_T_api_Step ((T_api_Step.mk (r1288.1) (r1296.1)))) ++ []) from ⟨_, _, rfl, (kd_T_api_Step_mk (D := D1298) (x := (T_api_Step.mk (r1288.1) (r1296.1))) rfl rfl), rfl⟩)) (fun a A1304 q1305 w _ hE h1306 hS => ?_)) rfl
          obtain ⟨D1308, q1311, le1309, hS, h1312, h1310⟩ := hS.lent h1306
          have hS := hS.pk (.c 2 rfl (.c 0 rfl (.c 1 rfl .n))) rfl
          obtain ⟨l1313, h1314, hf⟩ := bind_some hf
          refine at_op (g_append (K := kd_T_api_Step) (e := 37) (bytes := 16) (l := y1117.1) (m := ([(T_api_Step.mk (r1288.1) (r1296.1))] : List T_api_Step)) rfl rfl rfl rfl hE rfl hS rfl rfl (by kernel_rfl) rfl rfl (h1123.mono (Snap.le.trans (Snap.le.trans (Snap.le.trans le1287 le1295) le1303) le1309)) h1310 h1314 (fun a A1315 c1316 q1317 w _ hE h1318 hS => ?_)) rfl
          refine segN 1 (j := 9) [(4, .slice A1315 (List.length (l1313)) c1316)] hE (by kernel_rfl) rfl (fun a hE => ?_)
          refine at_end rfl ?_
          refine region_at ?_
          refine segN 2 (j := 2) [(12, .int .i64 ((IntKind.wrap .i64 (y1117.2.1 + (1 : Int)))))] hE (by kernel_rfl) rfl (fun a hE => ?_)
          refine at_end rfl ?_
          have hS := hS.pk (.c 2 rfl (.c 0 rfl .n)) rfl
          exact ⟨(l1313, (IntKind.wrap .i64 (y1117.2.1 + (1 : Int))), r1296.2), A1315, c1316, q1317, A1300, c1301, D1308, hE.weak (by kernel_rfl), hS, (Snap.le.trans (Snap.le.trans (Snap.le.trans (Snap.le.trans le1119 le1287) le1295) le1303) le1309), h1318, (h1302.mono le1309), hf⟩
      · replace hf := cond_f hb hf
        clear hb
        refine wpIn_exit ?_
        obtain rfl := Option.some.inj hf
        exact ⟨(y1117.1, y1117.2.2), A1120, c1121, q1122, A1125, c1126, D1118, hE.weak (by kernel_rfl), hS, le1119, h1123, h1127, rfl⟩

set_option maxRecDepth 100000 in
set_option maxHeartbeats 4000000 in
theorem wire_Reader_Flag_1.calls {K : Nat} {g w0 : World} {D0 : Snap} {x1 : (List Int)} {A2 : Option Addr} {c3 : Nat} {r : (Bool × Int × Int)} (hf : wire_Reader_Flag_1.f K x1 = some r) (hS0 : St g w0 D0 []) (h4 : Sl (kdInt .u8) D0 A2 c3 (x1)) :
    CallsIn (Fw none) 0 Tryd.prog 72 (List.toArray [.slice A2 (List.length (x1)) c3]) w0 (fun e w' => ∃ v, e = .returned v ∧ ∃ (D1 : Snap), v = .tuple #[.bool (r.1), .int .i64 (r.2.1), .int .i64 (r.2.2)] ∧ Stp g w0 D0 [] w' D1 []) := by
  unfold wire_Reader_Flag_1.f at hf
  have hS := Stp.refl hS0
  clear hS0
  refine calls_body (n := 18) Tryd.func72 rfl Tryd.ntmps72 rfl (fun a hE => ?_)
  have hE : Env a 18 [] [(0, .slice A2 (List.length (x1)) c3)] := hE
  refine wpIn_seq ?_
  refine region_at ?_
  refine segN 3 (j := 3) [(2, .bool false), (3, .int .i64 ((0 : Int))), (4, .int .i64 ((0 : Int)))] hE (by kernel_rfl) rfl (fun a hE => ?_)
  refine at_end rfl ?_
  refine wpIn_seq ?_
  refine wpIn_block ?_
  refine wpIn_seq ?_
  refine region_at ?_
  refine segN 4 (j := 4) [(5, .bool ((decide (((List.length (x1) : Nat) : Int) = (0 : Int)))))] hE (by kernel_rfl) rfl (fun a hE => ?_)
  refine at_end rfl ?_
  refine cond_split hE (b := (decide (((List.length (x1) : Nat) : Int) = (0 : Int)))) rfl (fun hb => ?_) (fun hb => ?_)
  · replace hf := cond_t hb hf
    clear hb
    refine wpIn_seq ?_
    refine region_at ?_
    refine segN 3 (j := 3) [(2, .bool false), (3, .int .i64 ((0 : Int))), (4, .int .i64 ((3 : Int)))] hE (by kernel_rfl) rfl (fun a hE => ?_)
    refine at_end rfl ?_
    refine wpIn_ret ?_
    obtain rfl := Option.some.inj hf
    repeat (with_reducible first | refine then_ret ?_ | refine block_ret ?_ | refine qx_ret ?_)
    refine ret_gen ([.bool false, .int .i64 ((0 : Int)), .int .i64 ((3 : Int))]) hE (by rw [show Tryd.f72.results.toList = [.tmp 2, .tmp 3, .tmp 4] from rfl]; exact ⟨_, _, rfl, rfl, ⟨_, _, rfl, rfl, ⟨_, _, rfl, rfl, rfl⟩⟩⟩) ?_
    exact ⟨_, rfl, D0, rfl, hS⟩
  · replace hf := cond_f hb hf
    clear hb
    refine wpIn_seq ?_
    refine region_at ?_
    refine segN 1 (j := 1) [(10, .slice A2 (List.length (x1)) c3)] hE (by kernel_rfl) rfl (fun a hE => ?_)
    obtain ⟨x53, h54, hf⟩ := bind_some hf
    refine at_op (op_tk hE (g_index (K := (kdInt .u8)) (e := 5) (by_ := 1) (zl := 1) rfl rfl rfl rfl hE rfl rfl rfl (by kernel_rfl) rfl h4 h54 (fun a b55 o56 hE h57 => ?_))) rfl
    obtain ⟨cs58, C59, T60, fr61, hr62, hb63, hc64⟩ := h57
    obtain rfl := hr62
    refine at_op (op_tk hE (tk_loadX (off0 := o56) (off := 0) (c := [.int .u8 (x53)]) (.int .u8 (x53)) rfl rfl rfl rfl hE rfl hS rfl hb63 hc64 (by kernel_rfl) (by kernel_rfl) (kD hS dn_nil) (fun a hE => ?_))) rfl
    refine segN 2 (j := 5) [(9, .bool ((decide ((1 : Int) < x53))))] hE (by kernel_rfl) rfl (fun a hE => ?_)
    refine at_end rfl ?_
    refine cond_split hE (b := (decide ((1 : Int) < x53))) rfl (fun hb => ?_) (fun hb => ?_)
    · replace hf := cond_t hb hf
      clear hb
      refine wpIn_seq ?_
      refine region_at ?_
      refine segN 3 (j := 3) [(2, .bool false), (3, .int .i64 ((0 : Int))), (4, .int .i64 ((2 : Int)))] hE (by kernel_rfl) rfl (fun a hE => ?_)
      refine at_end rfl ?_
      refine wpIn_ret ?_
      obtain rfl := Option.some.inj hf
      repeat (with_reducible first | refine then_ret ?_ | refine block_ret ?_ | refine qx_ret ?_)
      refine ret_gen ([.bool false, .int .i64 ((0 : Int)), .int .i64 ((2 : Int))]) hE (by rw [show Tryd.f72.results.toList = [.tmp 2, .tmp 3, .tmp 4] from rfl]; exact ⟨_, _, rfl, rfl, ⟨_, _, rfl, rfl, ⟨_, _, rfl, rfl, rfl⟩⟩⟩) ?_
      exact ⟨_, rfl, D0, rfl, hS⟩
    · replace hf := cond_f hb hf
      clear hb
      refine wpIn_skip ?_
      refine wpIn_seq ?_
      refine region_at ?_
      refine segN 1 (j := 1) [(14, .slice A2 (List.length (x1)) c3)] hE (by kernel_rfl) rfl (fun a hE => ?_)
      obtain ⟨x65, h66, hf⟩ := bind_some hf
      refine at_op (op_tk hE (g_index (K := (kdInt .u8)) (e := 5) (by_ := 1) (zl := 1) rfl rfl rfl rfl hE rfl rfl rfl (by kernel_rfl) rfl h4 h66 (fun a b67 o68 hE h69 => ?_))) rfl
      obtain ⟨cs70, C71, T72, fr73, hr74, hb75, hc76⟩ := h69
      obtain rfl := hr74
      refine at_op (op_tk hE (tk_loadX (off0 := o68) (off := 0) (c := [.int .u8 (x65)]) (.int .u8 (x65)) rfl rfl rfl rfl hE rfl hS rfl hb75 hc76 (by kernel_rfl) (by kernel_rfl) (kD hS dn_nil) (fun a hE => ?_))) rfl
      refine segN 4 (j := 7) [(2, .bool ((decide (x65 = (1 : Int))))), (3, .int .i64 ((1 : Int))), (4, .int .i64 ((0 : Int)))] hE (by kernel_rfl) rfl (fun a hE => ?_)
      refine at_end rfl ?_
      refine wpIn_ret ?_
      obtain rfl := Option.some.inj hf
      repeat (with_reducible first | refine then_ret ?_ | refine block_ret ?_ | refine qx_ret ?_)
      refine ret_gen ([.bool ((decide (x65 = (1 : Int)))), .int .i64 ((1 : Int)), .int .i64 ((0 : Int))]) hE (by rw [show Tryd.f72.results.toList = [.tmp 2, .tmp 3, .tmp 4] from rfl]; exact ⟨_, _, rfl, rfl, ⟨_, _, rfl, rfl, ⟨_, _, rfl, rfl, rfl⟩⟩⟩) ?_
      exact ⟨_, rfl, D0, rfl, hS⟩

set_option maxRecDepth 100000 in
set_option maxHeartbeats 4000000 in
theorem wire_take_bool.calls {K : Nat} {g w0 : World} {D0 : Snap} {x3 : T_wire_Reader} {b1 : Nat} {A4 : Option Addr} {c5 : Nat} {r : (Bool × T_wire_Reader)} (hf : wire_take_bool.f K x3 = some r) (hS0 : St g w0 D0 [bx b1 66 (c_T_wire_Reader (x3) A4 c5)]) (h6 : Sl (kdInt .u8) D0 A4 c5 (x3.fB)) :
    CallsIn (Fw none) 0 Tryd.prog 71 (List.toArray [.pointer (some ⟨b1, 0, none⟩), .func (.func 72) #[] #[]]) w0 (fun e w' => ∃ v, e = .returned v ∧ ∃ (D1 : Snap) (A46 : Option Addr) (c47 : Nat), v = .bool (r.1) ∧ Stp g w0 D0 [bx b1 66 (c_T_wire_Reader (x3) A4 c5)] w' D1 [bx b1 66 (c_T_wire_Reader ((T_wire_Reader.mk (r.2.fB) (r.2.fBad))) A46 c47)] ∧ Sl (kdInt .u8) D1 A46 c47 (r.2.fB)) := by
  unfold wire_take_bool.f at hf
  have hS := Stp.refl hS0
  clear hS0
  refine calls_body (n := 39) Tryd.func71 rfl Tryd.ntmps71 rfl (fun a hE => ?_)
  have hE : Env a 39 [] [(0, .pointer (some ⟨b1, 0, none⟩)), (1, .func (.func 72) #[] #[])] := hE
  refine wpIn_seq ?_
  refine region_at ?_
  refine segN 1 (j := 1) [(4, .bool false)] hE (by kernel_rfl) rfl (fun a hE => ?_)
  refine at_end rfl ?_
  refine wpIn_seq ?_
  refine region_at ?_
  refine segN 1 (j := 1) [(5, .bool false)] hE (by kernel_rfl) rfl (fun a hE => ?_)
  refine at_end rfl ?_
  refine wpIn_seq ?_
  refine wpIn_seq ?_
  refine region_at ?_
  refine segN 1 (j := 1) [(9, .pointer (some ⟨b1, 0, none⟩))] hE (by kernel_rfl) rfl (fun a hE => ?_)
  obtain ⟨r54, h55, hf⟩ := bind_some hf
  refine at_op (op_call rfl rfl rfl rfl hE rfl rfl rfl rfl (by kernel_rfl) (wire_Reader_Bad.calls (g := g) h55 (hS.st.fore (L := [bx b1 66 (c_T_wire_Reader (x3) A4 c5)])) h6) (fun a v w hR hE => ?_)) rfl
  obtain ⟨D56, rfl, hS1⟩ := hR
  have le58 := hS1.dle
  have hS := hS.callR hS1 rfl (.c .n)
  clear hS1
  refine segN 1 (j := 3) [(11, .bool ((!decide (r54 = (0 : Int)))))] hE (by kernel_rfl) rfl (fun a hE => ?_)
  refine at_end rfl ?_
  refine cond_split hE (b := (!decide (r54 = (0 : Int)))) rfl (fun hb => ?_) (fun hb => ?_)
  · replace hf := cond_t hb hf
    clear hb
    refine wpIn_seq ?_
    refine region_at ?_
    refine segN 2 (j := 2) [(4, .bool false)] hE (by kernel_rfl) rfl (fun a hE => ?_)
    refine at_end rfl ?_
    refine wpIn_ret ?_
    obtain rfl := Option.some.inj hf
    repeat (with_reducible first | refine then_ret ?_ | refine block_ret ?_ | refine qx_ret ?_)
    refine ret_gen ([.bool false]) hE (by rw [show Tryd.f71.results.toList = [.tmp 4] from rfl]; exact ⟨_, _, rfl, rfl, rfl⟩) ?_
    exact ⟨_, rfl, D56, A4, c5, rfl, hS, (h6.mono le58)⟩
  · replace hf := cond_f hb hf
    clear hb
    refine wpIn_skip ?_
    refine wpIn_seq ?_
    refine region_at ?_
    refine segN 3 (j := 3) [(14, .func (.func 72) #[] #[]), (16, .pointer (some ⟨b1, 0, none⟩))] hE (by kernel_rfl) rfl (fun a hE => ?_)
    refine at_op (op_tk hE (g_fieldAddr (fo := 0) (ft := 25) 0 rfl rfl rfl rfl hE rfl rfl (by kernel_rfl) rfl (fun a hE => ?_))) rfl
    refine at_op (op_tk hE (tk_load 0 (.slice A4 (List.length (x3.fB)) c5) rfl rfl rfl rfl hE rfl hS rfl rfl (by kernel_rfl) (kL (j := 0) hS rfl List.not_mem_nil) (fun a hE => ?_))) rfl
    obtain ⟨r59, h60, hf⟩ := bind_some hf
    refine at_op (op_call rfl rfl rfl rfl hE rfl rfl rfl rfl (by kernel_rfl) (wire_Reader_Flag_1.calls (g := g) h60 (hS.st.fore (L := [])) (h6.mono le58)) (fun a v w hR hE => ?_)) rfl
    obtain ⟨D61, rfl, hS1⟩ := hR
    have le63 := hS1.dle
    have hS := hS.callR hS1 rfl .n
    clear hS1
    refine segN 7 (j := 13) [(6, .bool (r59.1)), (7, .int .i64 (r59.2.1)), (8, .int .i64 (r59.2.2))] hE (by kernel_rfl) rfl (fun a hE => ?_)
    refine at_end rfl ?_
    refine wpIn_seq ?_
    refine wpIn_seq ?_
    refine region_at ?_
    refine segN 2 (j := 2) [(24, .bool ((!decide (r59.2.2 = (0 : Int)))))] hE (by kernel_rfl) rfl (fun a hE => ?_)
    refine at_end rfl ?_
    refine cond_split hE (b := (!decide (r59.2.2 = (0 : Int)))) rfl (fun hb => ?_) (fun hb => ?_)
    · replace hf := cond_t hb hf
      clear hb
      refine wpIn_seq ?_
      refine region_at ?_
      refine segN 2 (j := 2) [(25, .pointer (some ⟨b1, 0, none⟩)), (26, .int .i64 (r59.2.2))] hE (by kernel_rfl) rfl (fun a hE => ?_)
      obtain ⟨r72, h73, hf⟩ := bind_some hf
      refine at_op (op_call rfl rfl rfl rfl hE rfl rfl rfl rfl (by kernel_rfl) (wire_Reader_Fail.calls (g := g) h73 (hS.st.fore (L := [bx b1 66 (c_T_wire_Reader (x3) A4 c5)])) (h6.mono (Snap.le.trans le58 le63))) (fun a v w hR hE => ?_)) rfl
      obtain ⟨D74, A76, c77, rfl, hS1, h78⟩ := hR
      have le79 := hS1.dle
      have hS := hS.callR hS1 rfl (.c .n)
      clear hS1
      refine at_end rfl ?_
      refine wpIn_seq ?_
      refine region_at ?_
      refine segN 2 (j := 2) [(4, .bool false)] hE (by kernel_rfl) rfl (fun a hE => ?_)
      refine at_end rfl ?_
      refine wpIn_ret ?_
      obtain rfl := Option.some.inj hf
      repeat (with_reducible first | refine then_ret ?_ | refine block_ret ?_ | refine qx_ret ?_)
      refine ret_gen ([.bool false]) hE (by rw [show Tryd.f71.results.toList = [.tmp 4] from rfl]; exact ⟨_, _, rfl, rfl, rfl⟩) ?_
      exact ⟨_, rfl, D74, A76, c77, rfl, hS, h78⟩
    · replace hf := cond_f hb hf
      clear hb
      refine wpIn_skip ?_
      refine wpIn_seq ?_
      refine region_at ?_
      refine segN 3 (j := 3) [(29, .pointer (some ⟨b1, 0, none⟩)), (31, .pointer (some ⟨b1, 0, none⟩))] hE (by kernel_rfl) rfl (fun a hE => ?_)
      refine at_op (op_tk hE (g_fieldAddr (fo := 0) (ft := 25) 0 rfl rfl rfl rfl hE rfl rfl (by kernel_rfl) rfl (fun a hE => ?_))) rfl
      refine at_op (op_tk hE (tk_load 0 (.slice A4 (List.length (x3.fB)) c5) rfl rfl rfl rfl hE rfl hS rfl rfl (by kernel_rfl) (kL (j := 0) hS rfl List.not_mem_nil) (fun a hE => ?_))) rfl
      refine segN 1 (j := 6) [(34, .int .i64 (r59.2.1))] hE (by kernel_rfl) rfl (fun a hE => ?_)
      obtain ⟨l80, h81, hf⟩ := bind_some hf
      refine at_op (op_tk hE (g_slice (K := (kdInt .u8)) (e := 5) (by_ := 1) (zl := 1) rfl rfl rfl rfl hE rfl rfl (by kernel_rfl) ⟨_, rfl⟩ rfl (h6.mono (Snap.le.trans le58 le63)) h81 (fun a A82 c83 hE h84 => ?_))) rfl
      refine segN 1 (j := 8) [(36, .pointer (some ⟨b1, 0, none⟩))] hE (by kernel_rfl) rfl (fun a hE => ?_)
      refine at_op (op_tk hE (g_fieldAddr (fo := 0) (ft := 25) 0 rfl rfl rfl rfl hE rfl rfl (by kernel_rfl) rfl (fun a hE => ?_))) rfl
      obtain ⟨v85, hv86, hf⟩ := bind_some hf
      replace hv86 := Option.some.inj hv86
      refine at_op (op_store (v := .slice A82 (List.length (l80)) c83) (c_T_wire_Reader (v85) A82 c83) rfl rfl rfl rfl hE hS rfl rfl (by kernel_rfl) (by kernel_rfl) (by kernel_rfl) (by kernel_rfl) (by rw [← hv86]; kernel_rfl) (fun a w _ hE hS => ?_)) rfl
      have h87 : Sl (kdInt .u8) D61 A82 c83 (v85.fB) := by rw [← hv86]; exact h84
      refine at_end rfl ?_
      refine wpIn_seq ?_
      refine region_at ?_
      refine segN 2 (j := 2) [(4, .bool (r59.1))] hE (by kernel_rfl) rfl (fun a hE => ?_)
      refine at_end rfl ?_
      refine wpIn_ret ?_
      obtain rfl := Option.some.inj hf
      repeat (with_reducible first | refine then_ret ?_ | refine block_ret ?_ | refine qx_ret ?_)
      refine ret_gen ([.bool (r59.1)]) hE (by rw [show Tryd.f71.results.toList = [.tmp 4] from rfl]; exact ⟨_, _, rfl, rfl, rfl⟩) ?_
      exact ⟨_, rfl, D61, A82, c83, rfl, hS, h87⟩

set_option maxRecDepth 100000 in
set_option maxHeartbeats 4000000 in
theorem wire_Reader_Flag.calls {K : Nat} {g w0 : World} {D0 : Snap} {x3 : T_wire_Reader} {b1 : Nat} {A4 : Option Addr} {c5 : Nat} {r : (Bool × T_wire_Reader)} (hf : wire_Reader_Flag.f K x3 = some r) (hS0 : St g w0 D0 [bx b1 66 (c_T_wire_Reader (x3) A4 c5)]) (h6 : Sl (kdInt .u8) D0 A4 c5 (x3.fB)) :
    CallsIn (Fw none) 0 Tryd.prog 52 (List.toArray [.pointer (some ⟨b1, 0, none⟩)]) w0 (fun e w' => ∃ v, e = .returned v ∧ ∃ (D1 : Snap) (A15 : Option Addr) (c16 : Nat), v = .bool (r.1) ∧ Stp g w0 D0 [bx b1 66 (c_T_wire_Reader (x3) A4 c5)] w' D1 [bx b1 66 (c_T_wire_Reader ((T_wire_Reader.mk (r.2.fB) (r.2.fBad))) A15 c16)] ∧ Sl (kdInt .u8) D1 A15 c16 (r.2.fB)) := by
  unfold wire_Reader_Flag.f at hf
  have hS := Stp.refl hS0
  clear hS0
  refine calls_body (n := 5) Tryd.func52 rfl Tryd.ntmps52 rfl (fun a hE => ?_)
  have hE : Env a 5 [] [(0, .pointer (some ⟨b1, 0, none⟩))] := hE
  refine wpIn_seq ?_
  refine region_at ?_
  refine segN 1 (j := 1) [(2, .bool false)] hE (by kernel_rfl) rfl (fun a hE => ?_)
  refine at_end rfl ?_
  refine wpIn_seq ?_
  refine region_at ?_
  refine segN 1 (j := 1) [(3, .pointer (some ⟨b1, 0, none⟩))] hE (by kernel_rfl) rfl (fun a hE => ?_)
  obtain ⟨r18, h19, hf⟩ := bind_some hf
  refine at_op (op_call rfl rfl rfl rfl hE rfl rfl rfl rfl (by kernel_rfl) (wire_take_bool.calls (g := g) h19 (hS.st.fore (L := [bx b1 66 (c_T_wire_Reader (x3) A4 c5)])) h6) (fun a v w hR hE => ?_)) rfl
  obtain ⟨D20, A22, c23, rfl, hS1, h24⟩ := hR
  have le25 := hS1.dle
  have hS := hS.callR hS1 rfl (.c .n)
  clear hS1
  refine segN 1 (j := 3) [(2, .bool (r18.1))] hE (by kernel_rfl) rfl (fun a hE => ?_)
  refine at_end rfl ?_
  refine wpIn_ret ?_
  obtain rfl := Option.some.inj hf
  repeat (with_reducible first | refine then_ret ?_ | refine block_ret ?_ | refine qx_ret ?_)
  refine ret_gen ([.bool (r18.1)]) hE (by rw [show Tryd.f52.results.toList = [.tmp 2] from rfl]; exact ⟨_, _, rfl, rfl, rfl⟩) ?_
  exact ⟨_, rfl, D20, A22, c23, rfl, hS, h24⟩

set_option maxRecDepth 100000 in
set_option maxHeartbeats 4000000 in
theorem wire_Reader_Hash_1.calls {K : Nat} {g w0 : World} {D0 : Snap} {x1 : (List Int)} {A2 : Option Addr} {c3 : Nat} {r : ((Vector Int 32) × Int × Int)} (hf : wire_Reader_Hash_1.f K x1 = some r) (hS0 : St g w0 D0 []) (h4 : Sl (kdInt .u8) D0 A2 c3 (x1)) :
    CallsIn (Fw none) 0 Tryd.prog 74 (List.toArray [.slice A2 (List.length (x1)) c3]) w0 (fun e w' => ∃ v, e = .returned v ∧ ∃ (D1 : Snap), v = .tuple #[.agg (List.toArray (acells .u8 32 (r.1))), .int .i64 (r.2.1), .int .i64 (r.2.2)] ∧ Stp g w0 D0 [] w' D1 []) := by
  unfold wire_Reader_Hash_1.f at hf
  have hS := Stp.refl hS0
  clear hS0
  refine calls_body (n := 14) Tryd.func74 rfl Tryd.ntmps74 rfl (fun a hE => ?_)
  have hE : Env a 14 [] [(0, .slice A2 (List.length (x1)) c3)] := hE
  refine wpIn_seq ?_
  refine region_at ?_
  refine at_op (op_alloc (z := .agg (List.toArray (acells .u8 32 ((Vector.replicate 32 (0 : Int)))))) rfl rfl rfl rfl hE rfl hS (by kernel_rfl) (fun a b25 w _ hE hS => ?_)) rfl
  refine segN 2 (j := 3) [(3, .int .i64 ((0 : Int))), (4, .int .i64 ((0 : Int)))] hE (by kernel_rfl) rfl (fun a hE => ?_)
  refine at_end rfl ?_
  refine wpIn_seq ?_
  refine region_at ?_
  refine at_op (op_alloc (z := .agg (List.toArray (acells .u8 32 ((Vector.replicate 32 (0 : Int)))))) rfl rfl rfl rfl hE rfl hS (by kernel_rfl) (fun a b27 w _ hE hS => ?_)) rfl
  refine at_end rfl ?_
  refine wpIn_seq ?_
  refine wpIn_seq ?_
  refine region_at ?_
  refine segN 3 (j := 3) [(8, .bool ((decide (((List.length (x1) : Nat) : Int) < (32 : Int)))))] hE (by kernel_rfl) rfl (fun a hE => ?_)
  refine at_end rfl ?_
  refine cond_split hE (b := (decide (((List.length (x1) : Nat) : Int) < (32 : Int)))) rfl (fun hb => ?_) (fun hb => ?_)
  · replace hf := cond_t hb hf
    clear hb
    refine wpIn_seq ?_
    refine region_at ?_
    refine at_op (op_tk hE (tk_load 0 (.agg (List.toArray (acells .u8 32 ((Vector.replicate 32 (0 : Int)))))) rfl rfl rfl rfl hE rfl hS rfl rfl (by kernel_rfl) (kL (j := 0) hS rfl List.not_mem_nil) (fun a hE => ?_))) rfl
    have hS := hS.pk (.c 1 rfl (.c 0 rfl .n)) rfl
    refine at_op (op_store (v := .agg (List.toArray (acells .u8 32 ((Vector.replicate 32 (0 : Int)))))) (acells .u8 32 ((Vector.replicate 32 (0 : Int)))) rfl rfl rfl rfl hE hS rfl rfl (by kernel_rfl) (by kernel_rfl) (by kernel_rfl) (by kernel_rfl) (by kernel_rfl) (fun a w _ hE hS => ?_)) rfl
    refine segN 2 (j := 4) [(3, .int .i64 ((0 : Int))), (4, .int .i64 ((3 : Int)))] hE (by kernel_rfl) rfl (fun a hE => ?_)
    refine at_end rfl ?_
    refine wpIn_ret ?_
    obtain rfl := Option.some.inj hf
    repeat (with_reducible first | refine then_ret ?_ | refine block_ret ?_ | refine qx_ret ?_)
    refine ret_gen ([.agg (List.toArray (acells .u8 32 ((Vector.replicate 32 (0 : Int))))), .int .i64 ((0 : Int)), .int .i64 ((3 : Int))]) hE (by rw [show Tryd.f74.results.toList = [.cell 2 23, .tmp 3, .tmp 4] from rfl]; exact ⟨_, _, _, 0, _, _, rfl, rfl, hS.heapAt (j := 0) rfl, by kernel_rfl, ⟨_, _, rfl, rfl, ⟨_, _, rfl, rfl, rfl⟩⟩⟩) ?_
    have hS := hS.pk .n rfl
    exact ⟨_, rfl, D0, rfl, hS⟩
  · replace hf := cond_f hb hf
    clear hb
    refine wpIn_skip ?_
    refine wpIn_seq ?_
    refine region_at ?_
    refine segN 1 (j := 1) [(10, .slice A2 (List.length (x1)) c3)] hE (by kernel_rfl) rfl (fun a hE => ?_)
    obtain ⟨l29, h30, hf⟩ := bind_some hf
    refine at_op (op_tk hE (g_slice (K := (kdInt .u8)) (e := 5) (by_ := 1) (zl := 1) rfl rfl rfl rfl hE rfl rfl (by kernel_rfl) rfl ⟨_, rfl⟩ h4 h30 (fun a A31 c32 hE h33 => ?_))) rfl
    obtain ⟨h37, hf⟩ := chk_some hf
    refine at_op (op_tk hE (g_s2a (kk := .u8) (e := 5) (N := 32) rfl rfl rfl rfl hE rfl rfl (by kernel_rfl) rfl h33 h37 (fun a b34 o35 hE h36 => ?_))) rfl
    obtain ⟨cs38, C39, T40, fr41, hr42, hb43, hc44⟩ := h36
    obtain rfl := hr42
    refine at_op (op_tk hE (tk_loadX (off0 := o35) (off := 0) (c := acells .u8 32 ((vofL 32 (l29)))) (.agg (List.toArray (acells .u8 32 ((vofL 32 (l29)))))) rfl rfl rfl rfl hE rfl hS rfl hb43 hc44 (by kernel_rfl) (by kernel_rfl) (kD hS dn_nil) (fun a hE => ?_))) rfl
    have hS := hS.pk (.c 1 rfl (.c 0 rfl .n)) rfl
    refine at_op (op_store (v := .agg (List.toArray (acells .u8 32 ((vofL 32 (l29)))))) (acells .u8 32 ((vofL 32 (l29)))) rfl rfl rfl rfl hE hS rfl rfl (by kernel_rfl) (by kernel_rfl) (by kernel_rfl) (by kernel_rfl) (by kernel_rfl) (fun a w _ hE hS => ?_)) rfl
    refine segN 2 (j := 7) [(3, .int .i64 ((32 : Int))), (4, .int .i64 ((0 : Int)))] hE (by kernel_rfl) rfl (fun a hE => ?_)
    refine at_end rfl ?_
    refine wpIn_ret ?_
    obtain rfl := Option.some.inj hf
    repeat (with_reducible first | refine then_ret ?_ | refine block_ret ?_ | refine qx_ret ?_)
    refine ret_gen ([.agg (List.toArray (acells .u8 32 ((vofL 32 (l29))))), .int .i64 ((32 : Int)), .int .i64 ((0 : Int))]) hE (by rw [show Tryd.f74.results.toList = [.cell 2 23, .tmp 3, .tmp 4] from rfl]; exact ⟨_, _, _, 0, _, _, rfl, rfl, hS.heapAt (j := 0) rfl, by kernel_rfl, ⟨_, _, rfl, rfl, ⟨_, _, rfl, rfl, rfl⟩⟩⟩) ?_
    have hS := hS.pk .n rfl
    exact ⟨_, rfl, D0, rfl, hS⟩

set_option maxRecDepth 100000 in
set_option maxHeartbeats 4000000 in
theorem wire_take_api_Hash.calls {K : Nat} {g w0 : World} {D0 : Snap} {x3 : T_wire_Reader} {b1 : Nat} {A4 : Option Addr} {c5 : Nat} {r : ((Vector Int 32) × T_wire_Reader)} (hf : wire_take_api_Hash.f K x3 = some r) (hS0 : St g w0 D0 [bx b1 66 (c_T_wire_Reader (x3) A4 c5)]) (h6 : Sl (kdInt .u8) D0 A4 c5 (x3.fB)) :
    CallsIn (Fw none) 0 Tryd.prog 73 (List.toArray [.pointer (some ⟨b1, 0, none⟩), .func (.func 74) #[] #[]]) w0 (fun e w' => ∃ v, e = .returned v ∧ ∃ (D1 : Snap) (A52 : Option Addr) (c53 : Nat), v = .agg (List.toArray (acells .u8 32 (r.1))) ∧ Stp g w0 D0 [bx b1 66 (c_T_wire_Reader (x3) A4 c5)] w' D1 [bx b1 66 (c_T_wire_Reader ((T_wire_Reader.mk (r.2.fB) (r.2.fBad))) A52 c53)] ∧ Sl (kdInt .u8) D1 A52 c53 (r.2.fB)) := by
  unfold wire_take_api_Hash.f at hf
  have hS := Stp.refl hS0
  clear hS0
  refine calls_body (n := 39) Tryd.func73 rfl Tryd.ntmps73 rfl (fun a hE => ?_)
  have hE : Env a 39 [] [(0, .pointer (some ⟨b1, 0, none⟩)), (1, .func (.func 74) #[] #[])] := hE
  refine wpIn_seq ?_
  refine region_at ?_
  refine at_op (op_alloc (z := .agg (List.toArray (acells .u8 32 ((Vector.replicate 32 (0 : Int)))))) rfl rfl rfl rfl hE rfl hS (by kernel_rfl) (fun a b55 w _ hE hS => ?_)) rfl
  refine at_end rfl ?_
  refine wpIn_seq ?_
  refine region_at ?_
  refine at_op (op_alloc (z := .agg (List.toArray (acells .u8 32 ((Vector.replicate 32 (0 : Int)))))) rfl rfl rfl rfl hE rfl hS (by kernel_rfl) (fun a b57 w _ hE hS => ?_)) rfl
  refine at_end rfl ?_
  refine wpIn_seq ?_
  refine wpIn_seq ?_
  refine region_at ?_
  refine segN 1 (j := 1) [(9, .pointer (some ⟨b1, 0, none⟩))] hE (by kernel_rfl) rfl (fun a hE => ?_)
  have hS := hS.pk (.c 2 rfl (.c 0 rfl (.c 1 rfl .n))) rfl
  obtain ⟨r64, h65, hf⟩ := bind_some hf
  refine at_op (op_call rfl rfl rfl rfl hE rfl rfl rfl rfl (by kernel_rfl) (wire_Reader_Bad.calls (g := g) h65 (hS.st.fore (L := [bx b1 66 (c_T_wire_Reader (x3) A4 c5)])) h6) (fun a v w hR hE => ?_)) rfl
  obtain ⟨D66, rfl, hS1⟩ := hR
  have le68 := hS1.dle
  have hS := hS.callR hS1 rfl (.c .n)
  clear hS1
  refine segN 1 (j := 3) [(11, .bool ((!decide (r64 = (0 : Int)))))] hE (by kernel_rfl) rfl (fun a hE => ?_)
  refine at_end rfl ?_
  refine cond_split hE (b := (!decide (r64 = (0 : Int)))) rfl (fun hb => ?_) (fun hb => ?_)
  · replace hf := cond_t hb hf
    clear hb
    refine wpIn_seq ?_
    refine region_at ?_
    refine at_op (op_tk hE (tk_load 1 (.agg (List.toArray (acells .u8 32 ((Vector.replicate 32 (0 : Int)))))) rfl rfl rfl rfl hE rfl hS rfl rfl (by kernel_rfl) (kL (j := 1) hS rfl List.not_mem_nil) (fun a hE => ?_))) rfl
    have hS := hS.pk (.c 2 rfl (.c 0 rfl (.c 1 rfl .n))) rfl
    refine at_op (op_store (v := .agg (List.toArray (acells .u8 32 ((Vector.replicate 32 (0 : Int)))))) (acells .u8 32 ((Vector.replicate 32 (0 : Int)))) rfl rfl rfl rfl hE hS rfl rfl (by kernel_rfl) (by kernel_rfl) (by kernel_rfl) (by kernel_rfl) (by kernel_rfl) (fun a w _ hE hS => ?_)) rfl
    refine at_end rfl ?_
    refine wpIn_ret ?_
    obtain rfl := Option.some.inj hf
    repeat (with_reducible first | refine then_ret ?_ | refine block_ret ?_ | refine qx_ret ?_)
    refine ret_gen ([.agg (List.toArray (acells .u8 32 ((Vector.replicate 32 (0 : Int)))))]) hE (by rw [show Tryd.f73.results.toList = [.cell 4 23] from rfl]; exact ⟨_, _, _, 0, _, _, rfl, rfl, hS.heapAt (j := 0) rfl, by kernel_rfl, rfl⟩) ?_
    have hS := hS.pk (.c 1 rfl .n) rfl
    exact ⟨_, rfl, D66, A4, c5, rfl, hS, (h6.mono le68)⟩
  · replace hf := cond_f hb hf
    clear hb
    refine wpIn_skip ?_
    refine wpIn_seq ?_
    refine region_at ?_
    refine segN 3 (j := 3) [(14, .func (.func 74) #[] #[]), (16, .pointer (some ⟨b1, 0, none⟩))] hE (by kernel_rfl) rfl (fun a hE => ?_)
    refine at_op (op_tk hE (g_fieldAddr (fo := 0) (ft := 25) 0 rfl rfl rfl rfl hE rfl rfl (by kernel_rfl) rfl (fun a hE => ?_))) rfl
    refine at_op (op_tk hE (tk_load 0 (.slice A4 (List.length (x3.fB)) c5) rfl rfl rfl rfl hE rfl hS rfl rfl (by kernel_rfl) (kL (j := 0) hS rfl List.not_mem_nil) (fun a hE => ?_))) rfl
    obtain ⟨r69, h70, hf⟩ := bind_some hf
    refine at_op (op_call rfl rfl rfl rfl hE rfl rfl rfl rfl (by kernel_rfl) (wire_Reader_Hash_1.calls (g := g) h70 (hS.st.fore (L := [])) (h6.mono le68)) (fun a v w hR hE => ?_)) rfl
    obtain ⟨D71, rfl, hS1⟩ := hR
    have le73 := hS1.dle
    have hS := hS.callR hS1 rfl .n
    clear hS1
    refine segN 4 (j := 10) [(20, .agg (List.toArray (acells .u8 32 (r69.1)))), (21, .int .i64 (r69.2.1)), (22, .int .i64 (r69.2.2))] hE (by kernel_rfl) rfl (fun a hE => ?_)
    refine at_op (op_alloc (z := .agg (List.toArray (acells .u8 32 ((Vector.replicate 32 (0 : Int)))))) rfl rfl rfl rfl hE rfl hS (by kernel_rfl) (fun a b74 w _ hE hS => ?_)) rfl
    refine at_op (op_store (v := .agg (List.toArray (acells .u8 32 (r69.1)))) (acells .u8 32 (r69.1)) rfl rfl rfl rfl hE hS rfl rfl (by kernel_rfl) (by kernel_rfl) (by kernel_rfl) (by kernel_rfl) (by kernel_rfl) (fun a w _ hE hS => ?_)) rfl
    refine segN 2 (j := 14) [(7, .int .i64 (r69.2.1)), (8, .int .i64 (r69.2.2))] hE (by kernel_rfl) rfl (fun a hE => ?_)
    refine at_end rfl ?_
    refine wpIn_seq ?_
    refine wpIn_seq ?_
    refine region_at ?_
    refine segN 2 (j := 2) [(24, .bool ((!decide (r69.2.2 = (0 : Int)))))] hE (by kernel_rfl) rfl (fun a hE => ?_)
    refine at_end rfl ?_
    refine cond_split hE (b := (!decide (r69.2.2 = (0 : Int)))) rfl (fun hb => ?_) (fun hb => ?_)
    · replace hf := cond_t hb hf
      clear hb
      refine wpIn_seq ?_
      refine region_at ?_
      refine segN 2 (j := 2) [(25, .pointer (some ⟨b1, 0, none⟩)), (26, .int .i64 (r69.2.2))] hE (by kernel_rfl) rfl (fun a hE => ?_)
      have hS := hS.pk (.c 1 rfl (.c 0 rfl (.c 2 rfl (.c 3 rfl .n)))) rfl
      obtain ⟨r84, h85, hf⟩ := bind_some hf
      refine at_op (op_call rfl rfl rfl rfl hE rfl rfl rfl rfl (by kernel_rfl) (wire_Reader_Fail.calls (g := g) h85 (hS.st.fore (L := [bx b1 66 (c_T_wire_Reader (x3) A4 c5)])) (h6.mono (Snap.le.trans le68 le73))) (fun a v w hR hE => ?_)) rfl
      obtain ⟨D86, A88, c89, rfl, hS1, h90⟩ := hR
      have le91 := hS1.dle
      have hS := hS.callR hS1 rfl (.c .n)
      clear hS1
      refine at_end rfl ?_
      refine wpIn_seq ?_
      refine region_at ?_
      refine at_op (op_tk hE (tk_load 2 (.agg (List.toArray (acells .u8 32 ((Vector.replicate 32 (0 : Int)))))) rfl rfl rfl rfl hE rfl hS rfl rfl (by kernel_rfl) (kL (j := 2) hS rfl List.not_mem_nil) (fun a hE => ?_))) rfl
      have hS := hS.pk (.c 3 rfl (.c 0 rfl (.c 1 rfl (.c 2 rfl .n)))) rfl
      refine at_op (op_store (v := .agg (List.toArray (acells .u8 32 ((Vector.replicate 32 (0 : Int)))))) (acells .u8 32 ((Vector.replicate 32 (0 : Int)))) rfl rfl rfl rfl hE hS rfl rfl (by kernel_rfl) (by kernel_rfl) (by kernel_rfl) (by kernel_rfl) (by kernel_rfl) (fun a w _ hE hS => ?_)) rfl
      refine at_end rfl ?_
      refine wpIn_ret ?_
      obtain rfl := Option.some.inj hf
      repeat (with_reducible first | refine then_ret ?_ | refine block_ret ?_ | refine qx_ret ?_)
      refine ret_gen ([.agg (List.toArray (acells .u8 32 ((Vector.replicate 32 (0 : Int)))))]) hE (by rw [show Tryd.f73.results.toList = [.cell 4 23] from rfl]; exact ⟨_, _, _, 0, _, _, rfl, rfl, hS.heapAt (j := 0) rfl, by kernel_rfl, rfl⟩) ?_
      have hS := hS.pk (.c 1 rfl .n) rfl
      exact ⟨_, rfl, D86, A88, c89, rfl, hS, h90⟩
    · replace hf := cond_f hb hf
      clear hb
      refine wpIn_skip ?_
      refine wpIn_seq ?_
      refine region_at ?_
      refine segN 3 (j := 3) [(29, .pointer (some ⟨b1, 0, none⟩)), (31, .pointer (some ⟨b1, 0, none⟩))] hE (by kernel_rfl) rfl (fun a hE => ?_)
      refine at_op (op_tk hE (g_fieldAddr (fo := 0) (ft := 25) 0 rfl rfl rfl rfl hE rfl rfl (by kernel_rfl) rfl (fun a hE => ?_))) rfl
      refine at_op (op_tk hE (tk_load 1 (.slice A4 (List.length (x3.fB)) c5) rfl rfl rfl rfl hE rfl hS rfl rfl (by kernel_rfl) (kL (j := 1) hS rfl List.not_mem_nil) (fun a hE => ?_))) rfl
      refine segN 1 (j := 6) [(34, .int .i64 (r69.2.1))] hE (by kernel_rfl) rfl (fun a hE => ?_)
      obtain ⟨l92, h93, hf⟩ := bind_some hf
      refine at_op (op_tk hE (g_slice (K := (kdInt .u8)) (e := 5) (by_ := 1) (zl := 1) rfl rfl rfl rfl hE rfl rfl (by kernel_rfl) ⟨_, rfl⟩ rfl (h6.mono (Snap.le.trans le68 le73)) h93 (fun a A94 c95 hE h96 => ?_))) rfl
      refine segN 1 (j := 8) [(36, .pointer (some ⟨b1, 0, none⟩))] hE (by kernel_rfl) rfl (fun a hE => ?_)
      refine at_op (op_tk hE (g_fieldAddr (fo := 0) (ft := 25) 0 rfl rfl rfl rfl hE rfl rfl (by kernel_rfl) rfl (fun a hE => ?_))) rfl
      have hS := hS.pk (.c 1 rfl (.c 0 rfl (.c 2 rfl (.c 3 rfl .n)))) rfl
      obtain ⟨v97, hv98, hf⟩ := bind_some hf
      replace hv98 := Option.some.inj hv98
      refine at_op (op_store (v := .slice A94 (List.length (l92)) c95) (c_T_wire_Reader (v97) A94 c95) rfl rfl rfl rfl hE hS rfl rfl (by kernel_rfl) (by kernel_rfl) (by kernel_rfl) (by kernel_rfl) (by rw [← hv98]; kernel_rfl) (fun a w _ hE hS => ?_)) rfl
      have h99 : Sl (kdInt .u8) D71 A94 c95 (v97.fB) := by rw [← hv98]; exact h96
      refine at_end rfl ?_
      refine wpIn_seq ?_
      refine region_at ?_
      refine at_op (op_tk hE (tk_load 1 (.agg (List.toArray (acells .u8 32 (r69.1)))) rfl rfl rfl rfl hE rfl hS rfl rfl (by kernel_rfl) (kL (j := 1) hS rfl List.not_mem_nil) (fun a hE => ?_))) rfl
      have hS := hS.pk (.c 3 rfl (.c 0 rfl (.c 1 rfl (.c 2 rfl .n)))) rfl
      refine at_op (op_store (v := .agg (List.toArray (acells .u8 32 (r69.1)))) (acells .u8 32 (r69.1)) rfl rfl rfl rfl hE hS rfl rfl (by kernel_rfl) (by kernel_rfl) (by kernel_rfl) (by kernel_rfl) (by kernel_rfl) (fun a w _ hE hS => ?_)) rfl
      refine at_end rfl ?_
      refine wpIn_ret ?_
      obtain rfl := Option.some.inj hf
      repeat (with_reducible first | refine then_ret ?_ | refine block_ret ?_ | refine qx_ret ?_)
      refine ret_gen ([.agg (List.toArray (acells .u8 32 (r69.1)))]) hE (by rw [show Tryd.f73.results.toList = [.cell 4 23] from rfl]; exact ⟨_, _, _, 0, _, _, rfl, rfl, hS.heapAt (j := 0) rfl, by kernel_rfl, rfl⟩) ?_
      have hS := hS.pk (.c 1 rfl .n) rfl
      exact ⟨_, rfl, D71, A94, c95, rfl, hS, h99⟩

set_option maxRecDepth 100000 in
set_option maxHeartbeats 4000000 in
theorem wire_Reader_Hash.calls {K : Nat} {g w0 : World} {D0 : Snap} {x3 : T_wire_Reader} {b1 : Nat} {A4 : Option Addr} {c5 : Nat} {r : ((Vector Int 32) × T_wire_Reader)} (hf : wire_Reader_Hash.f K x3 = some r) (hS0 : St g w0 D0 [bx b1 66 (c_T_wire_Reader (x3) A4 c5)]) (h6 : Sl (kdInt .u8) D0 A4 c5 (x3.fB)) :
    CallsIn (Fw none) 0 Tryd.prog 53 (List.toArray [.pointer (some ⟨b1, 0, none⟩)]) w0 (fun e w' => ∃ v, e = .returned v ∧ ∃ (D1 : Snap) (A17 : Option Addr) (c18 : Nat), v = .agg (List.toArray (acells .u8 32 (r.1))) ∧ Stp g w0 D0 [bx b1 66 (c_T_wire_Reader (x3) A4 c5)] w' D1 [bx b1 66 (c_T_wire_Reader ((T_wire_Reader.mk (r.2.fB) (r.2.fBad))) A17 c18)] ∧ Sl (kdInt .u8) D1 A17 c18 (r.2.fB)) := by
  unfold wire_Reader_Hash.f at hf
  have hS := Stp.refl hS0
  clear hS0
  refine calls_body (n := 5) Tryd.func53 rfl Tryd.ntmps53 rfl (fun a hE => ?_)
  have hE : Env a 5 [] [(0, .pointer (some ⟨b1, 0, none⟩))] := hE
  refine wpIn_seq ?_
  refine region_at ?_
  refine at_op (op_alloc (z := .agg (List.toArray (acells .u8 32 ((Vector.replicate 32 (0 : Int)))))) rfl rfl rfl rfl hE rfl hS (by kernel_rfl) (fun a b20 w _ hE hS => ?_)) rfl
  refine at_end rfl ?_
  refine wpIn_seq ?_
  refine region_at ?_
  refine segN 1 (j := 1) [(3, .pointer (some ⟨b1, 0, none⟩))] hE (by kernel_rfl) rfl (fun a hE => ?_)
  have hS := hS.pk (.c 1 rfl (.c 0 rfl .n)) rfl
  obtain ⟨r22, h23, hf⟩ := bind_some hf
  refine at_op (op_call rfl rfl rfl rfl hE rfl rfl rfl rfl (by kernel_rfl) (wire_take_api_Hash.calls (g := g) h23 (hS.st.fore (L := [bx b1 66 (c_T_wire_Reader (x3) A4 c5)])) h6) (fun a v w hR hE => ?_)) rfl
  obtain ⟨D24, A26, c27, rfl, hS1, h28⟩ := hR
  have le29 := hS1.dle
  have hS := hS.callR hS1 rfl (.c .n)
  clear hS1
  have hS := hS.pk (.c 1 rfl (.c 0 rfl .n)) rfl
  refine at_op (op_store (v := .agg (List.toArray (acells .u8 32 (r22.1)))) (acells .u8 32 (r22.1)) rfl rfl rfl rfl hE hS rfl rfl (by kernel_rfl) (by kernel_rfl) (by kernel_rfl) (by kernel_rfl) (by kernel_rfl) (fun a w _ hE hS => ?_)) rfl
  refine at_end rfl ?_
  refine wpIn_ret ?_
  obtain rfl := Option.some.inj hf
  repeat (with_reducible first | refine then_ret ?_ | refine block_ret ?_ | refine qx_ret ?_)
  refine ret_gen ([.agg (List.toArray (acells .u8 32 (r22.1)))]) hE (by rw [show Tryd.f53.results.toList = [.cell 2 23] from rfl]; exact ⟨_, _, _, 0, _, _, rfl, rfl, hS.heapAt (j := 0) rfl, by kernel_rfl, rfl⟩) ?_
  have hS := hS.pk (.c 1 rfl .n) rfl
  exact ⟨_, rfl, D24, A26, c27, rfl, hS, h28⟩

set_option maxRecDepth 100000 in
set_option maxHeartbeats 4000000 in
theorem wire_Reader_Bytes_1.calls {K : Nat} {g w0 : World} {D0 : Snap} {x3 : (List Int)} {x7 : Int} {b1 : Nat} {A4 : Option Addr} {c5 : Nat} {r : ((List Int) × Int × Int)} (hf : wire_Reader_Bytes_1.f K x3 x7 = some r) (hS0 : St g w0 D0 [bx b1 3 ([.int .i64 (x7)])]) (h6 : Sl (kdInt .u8) D0 A4 c5 (x3)) :
    CallsIn (Fw none) 0 Tryd.prog 76 (List.toArray [.slice A4 (List.length (x3)) c5, .pointer (some ⟨b1, 0, none⟩)]) w0 (fun e w' => ∃ v, e = .returned v ∧ ∃ (D1 : Snap) (A28 : Option Addr) (c29 : Nat) (q30 : Blk), v = .tuple #[.slice A28 (List.length (r.1)) c29, .int .i64 (r.2.1), .int .i64 (r.2.2)] ∧ Stp g w0 D0 [bx b1 3 ([.int .i64 (x7)])] w' D1 [bx b1 3 ([.int .i64 (x7)]), q30] ∧ OwnD (kdInt .u8) 5 D1 A28 c29 (r.1) q30) := by
  unfold wire_Reader_Bytes_1.f at hf
  have hS := Stp.refl hS0
  clear hS0
  refine calls_body (n := 40) Tryd.func76 rfl Tryd.ntmps76 rfl (fun a hE => ?_)
  have hE : Env a 40 [] [(0, .slice A4 (List.length (x3)) c5), (1, .pointer (some ⟨b1, 0, none⟩))] := hE
  refine wpIn_seq ?_
  refine region_at ?_
  refine segN 3 (j := 3) [(3, .slice none 0 0), (4, .int .i64 ((0 : Int))), (5, .int .i64 ((0 : Int)))] hE (by kernel_rfl) rfl (fun a hE => ?_)
  refine at_end rfl ?_
  refine wpIn_seq ?_
  refine region_at ?_
  refine segN 1 (j := 1) [(10, .slice A4 (List.length (x3)) c5)] hE (by kernel_rfl) rfl (fun a hE => ?_)
  obtain ⟨r33, h34, hf⟩ := bind_some hf
  refine at_op (op_call rfl rfl rfl rfl hE rfl rfl rfl rfl (by kernel_rfl) (wire_number.calls (g := g) h34 (hS.st.fore (L := [])) h6) (fun a v w hR hE => ?_)) rfl
  obtain ⟨D35, rfl, hS1⟩ := hR
  have le37 := hS1.dle
  have hS := hS.callR hS1 rfl .n
  clear hS1
  refine segN 7 (j := 9) [(6, .int .i64 (r33.1)), (7, .int .i64 (r33.2.1)), (8, .int .i64 (r33.2.2))] hE (by kernel_rfl) rfl (fun a hE => ?_)
  refine at_end rfl ?_
  refine wpIn_seq ?_
  refine wpIn_block ?_
  refine wpIn_seq ?_
  refine region_at ?_
  refine segN 3 (j := 3) [(15, .bool ((!decide (r33.2.2 = (0 : Int)))))] hE (by kernel_rfl) rfl (fun a hE => ?_)
  refine at_end rfl ?_
  refine cond_split hE (b := (!decide (r33.2.2 = (0 : Int)))) rfl (fun hb => ?_) (fun hb => ?_)
  · replace hf := cond_t hb hf
    clear hb
    refine wpIn_seq ?_
    refine region_at ?_
    refine segN 4 (j := 4) [(3, .slice none 0 0), (4, .int .i64 ((0 : Int))), (5, .int .i64 (r33.2.2))] hE (by kernel_rfl) rfl (fun a hE => ?_)
    refine at_end rfl ?_
    refine wpIn_ret ?_
    have hS := hS.nils
    obtain rfl := Option.some.inj hf
    repeat (with_reducible first | refine then_ret ?_ | refine block_ret ?_ | refine qx_ret ?_)
    refine ret_gen ([.slice none 0 0, .int .i64 ((0 : Int)), .int .i64 (r33.2.2)]) hE (by rw [show Tryd.f76.results.toList = [.tmp 3, .tmp 4, .tmp 5] from rfl]; exact ⟨_, _, rfl, rfl, ⟨_, _, rfl, rfl, ⟨_, _, rfl, rfl, rfl⟩⟩⟩) ?_
    have hS := hS.pk (.c 1 rfl (.c 0 rfl .n)) rfl
    exact ⟨_, rfl, D35, none, 0, none, rfl, hS, (OwnD.nil (kdInt .u8) 5 D35)⟩
  · replace hf := cond_f hb hf
    clear hb
    refine wpIn_seq ?_
    refine region_at ?_
    refine segN 1 (j := 1) [(20, .int .i64 (r33.1))] hE (by kernel_rfl) rfl (fun a hE => ?_)
    refine at_op (op_tk hE (tk_load 0 (.int .i64 (x7)) rfl rfl rfl rfl hE rfl hS rfl rfl (by kernel_rfl) (kL (j := 0) hS rfl List.not_mem_nil) (fun a hE => ?_))) rfl
    refine segN 2 (j := 4) [(19, .bool ((decide (x7 < r33.1))))] hE (by kernel_rfl) rfl (fun a hE => ?_)
    refine at_end rfl ?_
    refine cond_split hE (b := (decide (x7 < r33.1))) rfl (fun hb => ?_) (fun hb => ?_)
    · replace hf := cond_t hb hf
      clear hb
      refine wpIn_seq ?_
      refine region_at ?_
      refine segN 3 (j := 3) [(3, .slice none 0 0), (4, .int .i64 ((0 : Int))), (5, .int .i64 ((4 : Int)))] hE (by kernel_rfl) rfl (fun a hE => ?_)
      refine at_end rfl ?_
      refine wpIn_ret ?_
      have hS := hS.nils
      obtain rfl := Option.some.inj hf
      repeat (with_reducible first | refine then_ret ?_ | refine block_ret ?_ | refine qx_ret ?_)
      refine ret_gen ([.slice none 0 0, .int .i64 ((0 : Int)), .int .i64 ((4 : Int))]) hE (by rw [show Tryd.f76.results.toList = [.tmp 3, .tmp 4, .tmp 5] from rfl]; exact ⟨_, _, rfl, rfl, ⟨_, _, rfl, rfl, ⟨_, _, rfl, rfl, rfl⟩⟩⟩) ?_
      have hS := hS.pk (.c 1 rfl (.c 0 rfl .n)) rfl
      exact ⟨_, rfl, D35, none, 0, none, rfl, hS, (OwnD.nil (kdInt .u8) 5 D35)⟩
    · replace hf := cond_f hb hf
      clear hb
      refine wpIn_seq ?_
      refine region_at ?_
      refine segN 7 (j := 7) [(23, .bool ((decide ((IntKind.wrap .i64 (((List.length (x3) : Nat) : Int) - r33.2.1)) < r33.1))))] hE (by kernel_rfl) rfl (fun a hE => ?_)
      refine at_end rfl ?_
      refine cond_split hE (b := (decide ((IntKind.wrap .i64 (((List.length (x3) : Nat) : Int) - r33.2.1)) < r33.1))) rfl (fun hb => ?_) (fun hb => ?_)
      · replace hf := cond_t hb hf
        clear hb
        refine wpIn_seq ?_
        refine region_at ?_
        refine segN 3 (j := 3) [(3, .slice none 0 0), (4, .int .i64 ((0 : Int))), (5, .int .i64 ((3 : Int)))] hE (by kernel_rfl) rfl (fun a hE => ?_)
        refine at_end rfl ?_
        refine wpIn_ret ?_
        have hS := hS.nils
        obtain rfl := Option.some.inj hf
        repeat (with_reducible first | refine then_ret ?_ | refine block_ret ?_ | refine qx_ret ?_)
        refine ret_gen ([.slice none 0 0, .int .i64 ((0 : Int)), .int .i64 ((3 : Int))]) hE (by rw [show Tryd.f76.results.toList = [.tmp 3, .tmp 4, .tmp 5] from rfl]; exact ⟨_, _, rfl, rfl, ⟨_, _, rfl, rfl, ⟨_, _, rfl, rfl, rfl⟩⟩⟩) ?_
        have hS := hS.pk (.c 1 rfl (.c 0 rfl .n)) rfl
        exact ⟨_, rfl, D35, none, 0, none, rfl, hS, (OwnD.nil (kdInt .u8) 5 D35)⟩
      · replace hf := cond_f hb hf
        clear hb
        refine wpIn_skip ?_
        refine wpIn_seq ?_
        refine region_at ?_
        refine segN 5 (j := 5) [(30, .slice A4 (List.length (x3)) c5), (31, .int .i64 (r33.2.1)), (34, .int .i64 ((IntKind.wrap .i64 (r33.2.1 + r33.1))))] hE (by kernel_rfl) rfl (fun a hE => ?_)
        obtain ⟨l41, h42, hf⟩ := bind_some hf
        refine at_op (op_tk hE (g_slice (K := (kdInt .u8)) (e := 5) (by_ := 1) (zl := 1) rfl rfl rfl rfl hE rfl rfl (by kernel_rfl) ⟨_, rfl⟩ ⟨_, rfl⟩ (h6.mono le37) h42 (fun a A43 c44 hE h45 => ?_))) rfl
        obtain ⟨r46, h47, hf⟩ := bind_some hf
        refine at_op (op_call rfl rfl rfl rfl hE rfl rfl rfl rfl (by kernel_rfl) (slices_Clone_byte_byte.calls (g := g) h47 (hS.st.fore (L := [])) h45) (fun a v w hR hE => ?_)) rfl
        obtain ⟨D48, A50, c51, q52, rfl, hS1, h53⟩ := hR
        have le55 := hS1.dle
        have hS := hS.callR hS1 rfl (.c .n)
        clear hS1
        refine segN 6 (j := 13) [(3, .slice A50 (List.length (r46)) c51), (4, .int .i64 ((IntKind.wrap .i64 (r33.2.1 + r33.1)))), (5, .int .i64 ((0 : Int)))] hE (by kernel_rfl) rfl (fun a hE => ?_)
        refine at_end rfl ?_
        refine wpIn_ret ?_
        obtain rfl := Option.some.inj hf
        repeat (with_reducible first | refine then_ret ?_ | refine block_ret ?_ | refine qx_ret ?_)
        refine ret_gen ([.slice A50 (List.length (r46)) c51, .int .i64 ((IntKind.wrap .i64 (r33.2.1 + r33.1))), .int .i64 ((0 : Int))]) hE (by rw [show Tryd.f76.results.toList = [.tmp 3, .tmp 4, .tmp 5] from rfl]; exact ⟨_, _, rfl, rfl, ⟨_, _, rfl, rfl, ⟨_, _, rfl, rfl, rfl⟩⟩⟩) ?_
        have hS := hS.pk (.c 1 rfl (.c 0 rfl .n)) rfl
        exact ⟨_, rfl, D48, A50, c51, q52, rfl, hS, h53⟩

set_option maxRecDepth 100000 in
set_option maxHeartbeats 4000000 in
theorem wire_take_byte.calls {K : Nat} {g w0 : World} {D0 : Snap} {x5 : T_wire_Reader} {x9 : Int} {b1 : Nat} {b2 : Nat} {A6 : Option Addr} {c7 : Nat} {r : ((List Int) × T_wire_Reader)} (hf : wire_take_byte.f K x5 x9 = some r) (hS0 : St g w0 D0 [bx b1 66 (c_T_wire_Reader (x5) A6 c7), bx b2 3 ([.int .i64 (x9)])]) (h8 : Sl (kdInt .u8) D0 A6 c7 (x5.fB)) :
    CallsIn (Fw none) 0 Tryd.prog 75 (List.toArray [.pointer (some ⟨b1, 0, none⟩), .func (.func 76) #[] #[.pointer (some ⟨b2, 0, none⟩)]]) w0 (fun e w' => ∃ v, e = .returned v ∧ ∃ (D1 : Snap) (A54 : Option Addr) (c55 : Nat) (q56 : Blk) (A59 : Option Addr) (c60 : Nat), v = .slice A54 (List.length (r.1)) c55 ∧ Stp g w0 D0 [bx b1 66 (c_T_wire_Reader (x5) A6 c7), bx b2 3 ([.int .i64 (x9)])] w' D1 [bx b1 66 (c_T_wire_Reader ((T_wire_Reader.mk (r.2.fB) (r.2.fBad))) A59 c60), bx b2 3 ([.int .i64 (x9)]), q56] ∧ OwnD (kdInt .u8) 5 D1 A54 c55 (r.1) q56 ∧ Sl (kdInt .u8) D1 A59 c60 (r.2.fB)) := by
  unfold wire_take_byte.f at hf
  have hS := Stp.refl hS0
  clear hS0
  refine calls_body (n := 39) Tryd.func75 rfl Tryd.ntmps75 rfl (fun a hE => ?_)
  have hE : Env a 39 [] [(0, .pointer (some ⟨b1, 0, none⟩)), (1, .func (.func 76) #[] #[.pointer (some ⟨b2, 0, none⟩)])] := hE
  refine wpIn_seq ?_
  refine region_at ?_
  refine segN 1 (j := 1) [(4, .slice none 0 0)] hE (by kernel_rfl) rfl (fun a hE => ?_)
  refine at_end rfl ?_
  refine wpIn_seq ?_
  refine region_at ?_
  refine segN 1 (j := 1) [(5, .slice none 0 0)] hE (by kernel_rfl) rfl (fun a hE => ?_)
  refine at_end rfl ?_
  refine wpIn_seq ?_
  refine wpIn_seq ?_
  refine region_at ?_
  refine segN 1 (j := 1) [(9, .pointer (some ⟨b1, 0, none⟩))] hE (by kernel_rfl) rfl (fun a hE => ?_)
  obtain ⟨r67, h68, hf⟩ := bind_some hf
  refine at_op (op_call rfl rfl rfl rfl hE rfl rfl rfl rfl (by kernel_rfl) (wire_Reader_Bad.calls (g := g) h68 (hS.st.fore (L := [bx b1 66 (c_T_wire_Reader (x5) A6 c7)])) h8) (fun a v w hR hE => ?_)) rfl
  obtain ⟨D69, rfl, hS1⟩ := hR
  have le71 := hS1.dle
  have hS := hS.callR hS1 rfl (.c .n)
  clear hS1
  refine segN 1 (j := 3) [(11, .bool ((!decide (r67 = (0 : Int)))))] hE (by kernel_rfl) rfl (fun a hE => ?_)
  refine at_end rfl ?_
  refine cond_split hE (b := (!decide (r67 = (0 : Int)))) rfl (fun hb => ?_) (fun hb => ?_)
  · replace hf := cond_t hb hf
    clear hb
    refine wpIn_seq ?_
    refine region_at ?_
    refine segN 2 (j := 2) [(4, .slice none 0 0)] hE (by kernel_rfl) rfl (fun a hE => ?_)
    refine at_end rfl ?_
    refine wpIn_ret ?_
    have hS := hS.nils
    obtain rfl := Option.some.inj hf
    repeat (with_reducible first | refine then_ret ?_ | refine block_ret ?_ | refine qx_ret ?_)
    refine ret_gen ([.slice none 0 0]) hE (by rw [show Tryd.f75.results.toList = [.tmp 4] from rfl]; exact ⟨_, _, rfl, rfl, rfl⟩) ?_
    have hS := hS.pk (.c 1 rfl (.c 2 rfl (.c 0 rfl .n))) rfl
    exact ⟨_, rfl, D69, none, 0, none, A6, c7, rfl, hS, (OwnD.nil (kdInt .u8) 5 D69), (h8.mono le71)⟩
  · replace hf := cond_f hb hf
    clear hb
    refine wpIn_skip ?_
    refine wpIn_seq ?_
    refine region_at ?_
    refine segN 3 (j := 3) [(14, .func (.func 76) #[] #[.pointer (some ⟨b2, 0, none⟩)]), (16, .pointer (some ⟨b1, 0, none⟩))] hE (by kernel_rfl) rfl (fun a hE => ?_)
    refine at_op (op_tk hE (g_fieldAddr (fo := 0) (ft := 25) 0 rfl rfl rfl rfl hE rfl rfl (by kernel_rfl) rfl (fun a hE => ?_))) rfl
    refine at_op (op_tk hE (tk_load 0 (.slice A6 (List.length (x5.fB)) c7) rfl rfl rfl rfl hE rfl hS rfl rfl (by kernel_rfl) (kL (j := 0) hS rfl List.not_mem_nil) (fun a hE => ?_))) rfl
    have hS := hS.pk (.c 1 rfl (.c 0 rfl .n)) rfl
    obtain ⟨r73, h74, hf⟩ := bind_some hf
    refine at_op (op_call rfl rfl rfl rfl hE rfl rfl rfl rfl (by kernel_rfl) (wire_Reader_Bytes_1.calls (g := g) h74 (hS.st.fore (L := [bx b2 3 ([.int .i64 (x9)])])) (h8.mono le71)) (fun a v w hR hE => ?_)) rfl
    obtain ⟨D75, A77, c78, q79, rfl, hS1, h80⟩ := hR
    have le82 := hS1.dle
    have hS := hS.callR hS1 rfl (.c (.c .n))
    clear hS1
    refine segN 7 (j := 13) [(6, .slice A77 (List.length (r73.1)) c78), (7, .int .i64 (r73.2.1)), (8, .int .i64 (r73.2.2))] hE (by kernel_rfl) rfl (fun a hE => ?_)
    refine at_end rfl ?_
    refine wpIn_seq ?_
    refine wpIn_seq ?_
    refine region_at ?_
    refine segN 2 (j := 2) [(24, .bool ((!decide (r73.2.2 = (0 : Int)))))] hE (by kernel_rfl) rfl (fun a hE => ?_)
    refine at_end rfl ?_
    refine cond_split hE (b := (!decide (r73.2.2 = (0 : Int)))) rfl (fun hb => ?_) (fun hb => ?_)
    · replace hf := cond_t hb hf
      clear hb
      refine wpIn_seq ?_
      refine region_at ?_
      refine segN 2 (j := 2) [(25, .pointer (some ⟨b1, 0, none⟩)), (26, .int .i64 (r73.2.2))] hE (by kernel_rfl) rfl (fun a hE => ?_)
      have hS := hS.pk (.c 2 rfl (.c 0 rfl (.c 1 rfl .n))) rfl
      obtain ⟨r91, h92, hf⟩ := bind_some hf
      refine at_op (op_call rfl rfl rfl rfl hE rfl rfl rfl rfl (by kernel_rfl) (wire_Reader_Fail.calls (g := g) h92 (hS.st.fore (L := [bx b1 66 (c_T_wire_Reader (x5) A6 c7)])) (h8.mono (Snap.le.trans le71 le82))) (fun a v w hR hE => ?_)) rfl
      obtain ⟨D93, A95, c96, rfl, hS1, h97⟩ := hR
      have le98 := hS1.dle
      have hS := hS.callR hS1 rfl (.c .n)
      clear hS1
      refine at_end rfl ?_
      refine wpIn_seq ?_
      refine region_at ?_
      refine segN 2 (j := 2) [(4, .slice none 0 0)] hE (by kernel_rfl) rfl (fun a hE => ?_)
      refine at_end rfl ?_
      refine wpIn_ret ?_
      have hS := hS.nils
      obtain rfl := Option.some.inj hf
      repeat (with_reducible first | refine then_ret ?_ | refine block_ret ?_ | refine qx_ret ?_)
      refine ret_gen ([.slice none 0 0]) hE (by rw [show Tryd.f75.results.toList = [.tmp 4] from rfl]; exact ⟨_, _, rfl, rfl, rfl⟩) ?_
      have hS := hS.pk (.c 1 rfl (.c 2 rfl (.c 0 rfl .n))) rfl
      exact ⟨_, rfl, D93, none, 0, none, A95, c96, rfl, hS, (OwnD.nil (kdInt .u8) 5 D93), h97⟩
    · replace hf := cond_f hb hf
      clear hb
      refine wpIn_skip ?_
      refine wpIn_seq ?_
      refine region_at ?_
      refine segN 3 (j := 3) [(29, .pointer (some ⟨b1, 0, none⟩)), (31, .pointer (some ⟨b1, 0, none⟩))] hE (by kernel_rfl) rfl (fun a hE => ?_)
      refine at_op (op_tk hE (g_fieldAddr (fo := 0) (ft := 25) 0 rfl rfl rfl rfl hE rfl rfl (by kernel_rfl) rfl (fun a hE => ?_))) rfl
      refine at_op (op_tk hE (tk_load 2 (.slice A6 (List.length (x5.fB)) c7) rfl rfl rfl rfl hE rfl hS rfl rfl (by kernel_rfl) (kL (j := 2) hS rfl List.not_mem_nil) (fun a hE => ?_))) rfl
      refine segN 1 (j := 6) [(34, .int .i64 (r73.2.1))] hE (by kernel_rfl) rfl (fun a hE => ?_)
      obtain ⟨l100, h101, hf⟩ := bind_some hf
      refine at_op (op_tk hE (g_slice (K := (kdInt .u8)) (e := 5) (by_ := 1) (zl := 1) rfl rfl rfl rfl hE rfl rfl (by kernel_rfl) ⟨_, rfl⟩ rfl (h8.mono (Snap.le.trans le71 le82)) h101 (fun a A102 c103 hE h104 => ?_))) rfl
      refine segN 1 (j := 8) [(36, .pointer (some ⟨b1, 0, none⟩))] hE (by kernel_rfl) rfl (fun a hE => ?_)
      refine at_op (op_tk hE (g_fieldAddr (fo := 0) (ft := 25) 0 rfl rfl rfl rfl hE rfl rfl (by kernel_rfl) rfl (fun a hE => ?_))) rfl
      have hS := hS.pk (.c 2 rfl (.c 0 rfl (.c 1 rfl .n))) rfl
      obtain ⟨v105, hv106, hf⟩ := bind_some hf
      replace hv106 := Option.some.inj hv106
      refine at_op (op_store (v := .slice A102 (List.length (l100)) c103) (c_T_wire_Reader (v105) A102 c103) rfl rfl rfl rfl hE hS rfl rfl (by kernel_rfl) (by kernel_rfl) (by kernel_rfl) (by kernel_rfl) (by rw [← hv106]; kernel_rfl) (fun a w _ hE hS => ?_)) rfl
      have h107 : Sl (kdInt .u8) D75 A102 c103 (v105.fB) := by rw [← hv106]; exact h104
      refine at_end rfl ?_
      refine wpIn_seq ?_
      refine region_at ?_
      refine segN 2 (j := 2) [(4, .slice A77 (List.length (r73.1)) c78)] hE (by kernel_rfl) rfl (fun a hE => ?_)
      refine at_end rfl ?_
      refine wpIn_ret ?_
      obtain rfl := Option.some.inj hf
      repeat (with_reducible first | refine then_ret ?_ | refine block_ret ?_ | refine qx_ret ?_)
      refine ret_gen ([.slice A77 (List.length (r73.1)) c78]) hE (by rw [show Tryd.f75.results.toList = [.tmp 4] from rfl]; exact ⟨_, _, rfl, rfl, rfl⟩) ?_
      exact ⟨_, rfl, D75, A77, c78, q79, A102, c103, rfl, hS, h80, h107⟩

set_option maxRecDepth 100000 in
set_option maxHeartbeats 4000000 in
theorem wire_Reader_Bytes.calls {K : Nat} {g w0 : World} {D0 : Snap} {x3 : Int} {x4 : T_wire_Reader} {b1 : Nat} {A5 : Option Addr} {c6 : Nat} {r : ((List Int) × T_wire_Reader)} (hf : wire_Reader_Bytes.f K x3 x4 = some r) (hS0 : St g w0 D0 [bx b1 66 (c_T_wire_Reader (x4) A5 c6)]) (h7 : Sl (kdInt .u8) D0 A5 c6 (x4.fB)) :
    CallsIn (Fw none) 0 Tryd.prog 54 (List.toArray [.pointer (some ⟨b1, 0, none⟩), .int .i64 (x3)]) w0 (fun e w' => ∃ v, e = .returned v ∧ ∃ (D1 : Snap) (A23 : Option Addr) (c24 : Nat) (q25 : Blk) (A28 : Option Addr) (c29 : Nat), v = .slice A23 (List.length (r.1)) c24 ∧ Stp g w0 D0 [bx b1 66 (c_T_wire_Reader (x4) A5 c6)] w' D1 [bx b1 66 (c_T_wire_Reader ((T_wire_Reader.mk (r.2.fB) (r.2.fBad))) A28 c29), q25] ∧ OwnD (kdInt .u8) 5 D1 A23 c24 (r.1) q25 ∧ Sl (kdInt .u8) D1 A28 c29 (r.2.fB)) := by
  unfold wire_Reader_Bytes.f at hf
  have hS := Stp.refl hS0
  clear hS0
  refine calls_body (n := 8) Tryd.func54 rfl Tryd.ntmps54 rfl (fun a hE => ?_)
  have hE : Env a 8 [] [(0, .pointer (some ⟨b1, 0, none⟩)), (1, .int .i64 (x3))] := hE
  refine wpIn_seq ?_
  refine region_at ?_
  refine at_op (op_box rfl rfl rfl rfl hE rfl hS rfl (fun a b31 w _ hE hS => ?_)) rfl
  refine segN 1 (j := 2) [(4, .slice none 0 0)] hE (by kernel_rfl) rfl (fun a hE => ?_)
  refine at_end rfl ?_
  refine wpIn_seq ?_
  refine region_at ?_
  refine segN 2 (j := 2) [(5, .pointer (some ⟨b1, 0, none⟩)), (6, .func (.func 76) #[] #[.pointer (some ⟨b31, 0, none⟩)])] hE (by kernel_rfl) rfl (fun a hE => ?_)
  have hS := hS.pk (.c 1 rfl (.c 0 rfl .n)) rfl
  obtain ⟨r33, h34, hf⟩ := bind_some hf
  refine at_op (op_call rfl rfl rfl rfl hE rfl rfl rfl rfl (by kernel_rfl) (wire_take_byte.calls (g := g) h34 (hS.st.fore (L := [bx b1 66 (c_T_wire_Reader (x4) A5 c6), bx b31 3 ([.int .i64 (x3)])])) h7) (fun a v w hR hE => ?_)) rfl
  obtain ⟨D35, A37, c38, q39, A42, c43, rfl, hS1, h40, h44⟩ := hR
  have le45 := hS1.dle
  have hS := hS.callR hS1 rfl (.c (.c (.c .n)))
  clear hS1
  refine segN 1 (j := 4) [(4, .slice A37 (List.length (r33.1)) c38)] hE (by kernel_rfl) rfl (fun a hE => ?_)
  refine at_end rfl ?_
  refine wpIn_ret ?_
  obtain rfl := Option.some.inj hf
  repeat (with_reducible first | refine then_ret ?_ | refine block_ret ?_ | refine qx_ret ?_)
  refine ret_gen ([.slice A37 (List.length (r33.1)) c38]) hE (by rw [show Tryd.f54.results.toList = [.tmp 4] from rfl]; exact ⟨_, _, rfl, rfl, rfl⟩) ?_
  have hS := hS.pk (.c 0 rfl (.c 2 rfl .n)) rfl
  exact ⟨_, rfl, D35, A37, c38, q39, A42, c43, rfl, hS, h40, h44⟩

set_option maxRecDepth 100000 in
set_option maxHeartbeats 4000000 in
theorem rec_Read.calls {K : Nat} {g w0 : World} {D0 : Snap} {x3 : T_wire_Reader} {b1 : Nat} {A4 : Option Addr} {c5 : Nat} {r : (T_api_Rec × T_wire_Reader)} (hf : rec_Read.f K x3 = some r) (hS0 : St g w0 D0 [bx b1 66 (c_T_wire_Reader (x3) A4 c5)]) (h6 : Sl (kdInt .u8) D0 A4 c5 (x3.fB)) :
    CallsIn (Fw none) 0 Tryd.prog 26 (List.toArray [.pointer (some ⟨b1, 0, none⟩)]) w0 (fun e w' => ∃ v, e = .returned v ∧ ∃ (D1 : Snap) (A586 : Option Addr) (c587 : Nat) (A589 : Option Addr) (c590 : Nat) (A592 : Option Addr) (c593 : Nat), v = .agg (List.toArray (c_T_api_Rec ((T_api_Rec.mk (r.1.fKind) (r.1.fSaga) (r.1.fSeq) (r.1.fStep) (r.1.fTry) (r.1.fBack) (r.1.fGood) (r.1.fEnd) (r.1.fPart) (r.1.fEpoch) (r.1.fTag) (r.1.fSteps) (r.1.fData) (r.1.fSalt) (r.1.fGone) (r.1.fCom))) A586 c587 A589 c590)) ∧ Stp g w0 D0 [bx b1 66 (c_T_wire_Reader (x3) A4 c5)] w' D1 [bx b1 66 (c_T_wire_Reader ((T_wire_Reader.mk (r.2.fB) (r.2.fBad))) A592 c593)] ∧ Sl kd_T_api_Step D1 A586 c587 (r.1.fSteps) ∧ Sl (kdInt .u8) D1 A589 c590 (r.1.fData) ∧ Sl (kdInt .u8) D1 A592 c593 (r.2.fB)) := by
  unfold rec_Read.f at hf
  have hS := Stp.refl hS0
  clear hS0
  refine calls_body (n := 96) Tryd.func26 rfl Tryd.ntmps26 rfl (fun a hE => ?_)
  have hE : Env a 96 [] [(0, .pointer (some ⟨b1, 0, none⟩))] := hE
  refine wpIn_seq ?_
  refine region_at ?_
  refine at_op (op_alloc (z := .agg (List.toArray (c_T_api_Rec (z_T_api_Rec) none 0 none 0))) rfl rfl rfl rfl hE rfl hS (by kernel_rfl) (fun a b595 w _ hE hS => ?_)) rfl
  refine at_end rfl ?_
  refine wpIn_seq ?_
  refine region_at ?_
  refine segN 1 (j := 1) [(4, .pointer (some ⟨b1, 0, none⟩))] hE (by kernel_rfl) rfl (fun a hE => ?_)
  have hS := hS.pk (.c 1 rfl (.c 0 rfl .n)) rfl
  obtain ⟨r597, h598, hf⟩ := bind_some hf
  refine at_op (op_call rfl rfl rfl rfl hE rfl rfl rfl rfl (by kernel_rfl) (wire_Reader_Num.calls (g := g) h598 (hS.st.fore (L := [bx b1 66 (c_T_wire_Reader (x3) A4 c5)])) h6) (fun a v w hR hE => ?_)) rfl
  obtain ⟨D599, A601, c602, rfl, hS1, h603⟩ := hR
  have le604 := hS1.dle
  have hS := hS.callR hS1 rfl (.c .n)
  clear hS1
  refine at_op (op_tk hE (tk_build (c_T_api_Rec ({ z_T_api_Rec with fKind := r597.1 }) none 0 none 0) rfl rfl rfl rfl hE rfl rfl (by kernel_rfl) (fun a hE => ?_))) rfl
  refine at_op (op_alloc (z := .agg (List.toArray (c_T_api_Rec (z_T_api_Rec) none 0 none 0))) rfl rfl rfl rfl hE rfl hS (by kernel_rfl) (fun a b605 w _ hE hS => ?_)) rfl
  obtain ⟨v607, hv608, hf⟩ := bind_some hf
  replace hv608 := Option.some.inj hv608
  refine at_op (op_store (v := .agg (List.toArray (c_T_api_Rec ({ z_T_api_Rec with fKind := r597.1 }) none 0 none 0))) (c_T_api_Rec (v607) none 0 none 0) rfl rfl rfl rfl hE hS rfl rfl (by kernel_rfl) (by kernel_rfl) (by kernel_rfl) (by kernel_rfl) (by rw [← hv608]; kernel_rfl) (fun a w _ hE hS => ?_)) rfl
  have h609 : Sl kd_T_api_Step D599 none 0 (v607.fSteps) := by rw [← hv608]; exact (Sl.nil kd_T_api_Step D599)
  have h610 : Sl (kdInt .u8) D599 none 0 (v607.fData) := by rw [← hv608]; exact (Sl.nil (kdInt .u8) D599)
  refine at_end rfl ?_
  obtain ⟨j914, hj915, hf⟩ := jn_elim hf
  refine seq_join (fun a w => ∃ (y854 : T_wire_Reader × Int × Int × Int × Int × Int × Bool × Bool × Int × Int × Int × (Vector Int 32) × (List T_api_Step) × (List Int) × (Vector Int 32) × Bool × (Vector Int 32)), ∃ (A857 : Option Addr), ∃ (c858 : Nat), ∃ (A860 : Option Addr), ∃ (c861 : Nat), ∃ (A863 : Option Addr), ∃ (c864 : Nat), ∃ (D855 : Snap), Env a 96 [] [(0, .pointer (some ⟨b1, 0, none⟩)), (2, .pointer (some ⟨b595, 0, none⟩)), (3, .pointer (some ⟨b605, 0, none⟩))] ∧ Stp g w0 D0 [bx b1 66 (c_T_wire_Reader (x3) A4 c5)] w D855 [bx b1 66 (c_T_wire_Reader (y854.1) A857 c858), bx b595 27 (c_T_api_Rec (z_T_api_Rec) none 0 none 0), bx b605 27 (c_T_api_Rec ((T_api_Rec.mk (y854.2.1) (y854.2.2.1) (y854.2.2.2.1) (y854.2.2.2.2.1) (y854.2.2.2.2.2.1) (y854.2.2.2.2.2.2.1) (y854.2.2.2.2.2.2.2.1) (y854.2.2.2.2.2.2.2.2.1) (y854.2.2.2.2.2.2.2.2.2.1) (y854.2.2.2.2.2.2.2.2.2.2.1) (y854.2.2.2.2.2.2.2.2.2.2.2.1) (y854.2.2.2.2.2.2.2.2.2.2.2.2.1) (y854.2.2.2.2.2.2.2.2.2.2.2.2.2.1) (y854.2.2.2.2.2.2.2.2.2.2.2.2.2.2.1) (y854.2.2.2.2.2.2.2.2.2.2.2.2.2.2.2.1) (y854.2.2.2.2.2.2.2.2.2.2.2.2.2.2.2.2))) A860 c861 A863 c864)] ∧ Snap.le D599 D855 ∧ Sl (kdInt .u8) D855 A857 c858 (y854.1.fB) ∧ Sl kd_T_api_Step D855 A860 c861 (y854.2.2.2.2.2.2.2.2.2.2.2.2.1) ∧ Sl (kdInt .u8) D855 A863 c864 (y854.2.2.2.2.2.2.2.2.2.2.2.2.2.1) ∧ j914 y854 = some r) ?_ ?_
  · clear hj915
    refine wpIn_seq ?_
    refine region_at ?_
    refine at_op (op_tk hE (g_fieldAddr (fo := 0) (ft := 3) 0 rfl rfl rfl rfl hE rfl rfl (by kernel_rfl) rfl (fun a hE => ?_))) rfl
    refine at_op (op_tk hE (tk_load 0 (.int .i64 (v607.fKind)) rfl rfl rfl rfl hE rfl hS rfl rfl (by kernel_rfl) (kL (j := 0) hS rfl List.not_mem_nil) (fun a hE => ?_))) rfl
    refine at_end rfl ?_
    refine wpIn_block ?_
    refine wpIn_seq ?_
    refine region_at ?_
    refine segN 2 (j := 2) [(11, .bool ((decide (v607.fKind = (1 : Int)))))] hE (by kernel_rfl) rfl (fun a hE => ?_)
    refine at_end rfl ?_
    refine cond_split hE (b := (decide (v607.fKind = (1 : Int)))) rfl (fun hb => ?_) (fun hb => ?_)
    · replace hf := cond_t hb hf
      clear hb
      refine wpIn_seq ?_
      refine region_at ?_
      refine segN 1 (j := 1) [(13, .pointer (some ⟨b1, 0, none⟩))] hE (by kernel_rfl) rfl (fun a hE => ?_)
      have hS := hS.pk (.c 1 rfl (.c 0 rfl (.c 2 rfl .n))) rfl
      obtain ⟨r916, h917, hf⟩ := bind_some hf
      refine at_op (op_call rfl rfl rfl rfl hE rfl rfl rfl rfl (by kernel_rfl) (wire_Reader_Num.calls (g := g) h917 (hS.st.fore (L := [bx b1 66 (c_T_wire_Reader (r597.2) A601 c602)])) h603) (fun a v w hR hE => ?_)) rfl
      obtain ⟨D918, A920, c921, rfl, hS1, h922⟩ := hR
      have le923 := hS1.dle
      have hS := hS.callR hS1 rfl (.c .n)
      clear hS1
      refine segN 1 (j := 3) [(15, .pointer (some ⟨b1, 0, none⟩))] hE (by kernel_rfl) rfl (fun a hE => ?_)
      obtain ⟨r924, h925, hf⟩ := bind_some hf
      refine at_op (op_call rfl rfl rfl rfl hE rfl rfl rfl rfl (by kernel_rfl) (rec_steps.calls (g := g) h925 (hS.st.fore (L := [bx b1 66 (c_T_wire_Reader (r916.2) A920 c921)])) h922) (fun a v w hR hE => ?_)) rfl
      obtain ⟨D926, A928, c929, q930, A933, c934, rfl, hS1, h931, h935⟩ := hR
      have le936 := hS1.dle
      have hS := hS.callR hS1 rfl (.c (.c .n))
      clear hS1
      refine at_op (op_tk hE (g_fieldAddr (fo := 1) (ft := 3) 1 rfl rfl rfl rfl hE rfl rfl (by kernel_rfl) rfl (fun a hE => ?_))) rfl
      have hS := hS.pk (.c 2 rfl (.c 0 rfl (.c 1 rfl (.c 3 rfl .n)))) rfl
      obtain ⟨v937, hv938, hf⟩ := bind_some hf
      replace hv938 := Option.some.inj hv938
      refine at_op (op_store (v := .int .i64 (r916.1)) (c_T_api_Rec (v937) none 0 none 0) rfl rfl rfl rfl hE hS rfl rfl (by kernel_rfl) (by kernel_rfl) (by kernel_rfl) (by kernel_rfl) (by rw [← hv938]; kernel_rfl) (fun a w _ hE hS => ?_)) rfl
      have h939 : Sl kd_T_api_Step D599 none 0 (v937.fSteps) := by rw [← hv938]; exact h609
      have h940 : Sl (kdInt .u8) D599 none 0 (v937.fData) := by rw [← hv938]; exact h610
      refine at_op (op_tk hE (g_fieldAddr (fo := 42) (ft := 24) 42 rfl rfl rfl rfl hE rfl rfl (by kernel_rfl) rfl (fun a hE => ?_))) rfl
      refine at_op (op_store (v := .slice A928 (List.length (r924.1)) c929) (c_T_api_Rec ({ v937 with fSteps := r924.1 }) A928 c929 none 0) rfl rfl rfl rfl hE hS rfl rfl (by kernel_rfl) (by kernel_rfl) (by kernel_rfl) (by kernel_rfl) (by kernel_rfl) (fun a w _ hE hS => ?_)) rfl
      refine at_end rfl ?_
      refine wpIn_seq ?_
      refine region_at ?_
      refine segN 1 (j := 1) [(19, .pointer (some ⟨b1, 0, none⟩))] hE (by kernel_rfl) rfl (fun a hE => ?_)
      have hS := hS.pk (.c 1 rfl (.c 0 rfl (.c 2 rfl (.c 3 rfl .n)))) rfl
      obtain ⟨r941, h942, hf⟩ := bind_some hf
      refine at_op (op_call rfl rfl rfl rfl hE rfl rfl rfl rfl (by kernel_rfl) (wire_Reader_Flag.calls (g := g) h942 (hS.st.fore (L := [bx b1 66 (c_T_wire_Reader (r924.2) A933 c934)])) h935) (fun a v w hR hE => ?_)) rfl
      obtain ⟨D943, A945, c946, rfl, hS1, h947⟩ := hR
      have le948 := hS1.dle
      have hS := hS.callR hS1 rfl (.c .n)
      clear hS1
      refine at_op (op_tk hE (g_fieldAddr (fo := 76) (ft := 4) 76 rfl rfl rfl rfl hE rfl rfl (by kernel_rfl) rfl (fun a hE => ?_))) rfl
      have hS := hS.pk (.c 1 rfl (.c 0 rfl (.c 2 rfl (.c 3 rfl .n)))) rfl
      refine at_op (op_store (v := .bool (r941.1)) (c_T_api_Rec ({ v937 with fSteps := r924.1, fGone := r941.1 }) A928 c929 none 0) rfl rfl rfl rfl hE hS rfl rfl (by kernel_rfl) (by kernel_rfl) (by kernel_rfl) (by kernel_rfl) (by kernel_rfl) (fun a w _ hE hS => ?_)) rfl
      refine at_end rfl ?_
      refine wpIn_seq ?_
      refine region_at ?_
      refine at_op (op_tk hE (g_fieldAddr (fo := 76) (ft := 4) 76 rfl rfl rfl rfl hE rfl rfl (by kernel_rfl) rfl (fun a hE => ?_))) rfl
      refine at_op (op_tk hE (tk_load 0 (.bool (r941.1)) rfl rfl rfl rfl hE rfl hS rfl rfl (by kernel_rfl) (kL (j := 0) hS rfl List.not_mem_nil) (fun a hE => ?_))) rfl
      refine at_end rfl ?_
      refine cond_split hE (b := r941.1) rfl (fun hb => ?_) (fun hb => ?_)
      · replace hf := cond_t hb hf
        clear hb
        refine region_at ?_
        refine segN 1 (j := 1) [(24, .pointer (some ⟨b1, 0, none⟩))] hE (by kernel_rfl) rfl (fun a hE => ?_)
        have hS := hS.pk (.c 1 rfl (.c 0 rfl (.c 2 rfl (.c 3 rfl .n)))) rfl
        obtain ⟨r949, h950, hf⟩ := bind_some hf
        refine at_op (op_call rfl rfl rfl rfl hE rfl rfl rfl rfl (by kernel_rfl) (wire_Reader_Hash.calls (g := g) h950 (hS.st.fore (L := [bx b1 66 (c_T_wire_Reader (r941.2) A945 c946)])) h947) (fun a v w hR hE => ?_)) rfl
        obtain ⟨D951, A953, c954, rfl, hS1, h955⟩ := hR
        have le956 := hS1.dle
        have hS := hS.callR hS1 rfl (.c .n)
        clear hS1
        refine at_op (op_tk hE (g_fieldAddr (fo := 77) (ft := 23) 77 rfl rfl rfl rfl hE rfl rfl (by kernel_rfl) rfl (fun a hE => ?_))) rfl
        have hS := hS.pk (.c 1 rfl (.c 0 rfl (.c 2 rfl (.c 3 rfl .n)))) rfl
        refine at_op (op_store (v := .agg (List.toArray (acells .u8 32 (r949.1)))) (c_T_api_Rec ({ v937 with fSteps := r924.1, fGone := r941.1, fCom := r949.1 }) A928 c929 none 0) rfl rfl rfl rfl hE hS rfl rfl (by kernel_rfl) (by kernel_rfl) (by kernel_rfl) (by kernel_rfl) (by kernel_rfl) (fun a w _ hE hS => ?_)) rfl
        refine at_end rfl ?_
        have hS := hS.pk (.c 2 rfl (.c 0 rfl (.c 1 rfl (.c 3 rfl .n)))) rfl
        obtain ⟨D957, q960, le958, hS, h961, h959⟩ := hS.lent (h931.mono (Snap.le.trans le948 le956))
        have hS := hS.pk (.c 2 rfl (.c 3 rfl (.c 1 rfl .n))) rfl
        exact ⟨(r949.2, v937.fKind, v937.fSaga, v937.fSeq, v937.fStep, v937.fTry, v937.fBack, v937.fGood, v937.fEnd, v937.fPart, v937.fEpoch, v937.fTag, r924.1, v937.fData, v937.fSalt, r941.1, r949.1), A953, c954, A928, c929, none, 0, D957, hE.weak (by kernel_rfl), hS, (Snap.le.trans (Snap.le.trans (Snap.le.trans (Snap.le.trans le923 le936) le948) le956) le958), (h955.mono le958), h959, (h940.mono (Snap.le.trans (Snap.le.trans (Snap.le.trans (Snap.le.trans le923 le936) le948) le956) le958)), hf⟩
      · replace hf := cond_f hb hf
        clear hb
        refine region_at ?_
        refine segN 1 (j := 1) [(27, .pointer (some ⟨b1, 0, none⟩))] hE (by kernel_rfl) rfl (fun a hE => ?_)
        have hS := hS.pk (.c 1 rfl (.c 0 rfl (.c 2 rfl (.c 3 rfl .n)))) rfl
        obtain ⟨r962, h963, hf⟩ := bind_some hf
        refine at_op (op_call rfl rfl rfl rfl hE rfl rfl rfl rfl (by kernel_rfl) (wire_Reader_Hash.calls (g := g) h963 (hS.st.fore (L := [bx b1 66 (c_T_wire_Reader (r941.2) A945 c946)])) h947) (fun a v w hR hE => ?_)) rfl
        obtain ⟨D964, A966, c967, rfl, hS1, h968⟩ := hR
        have le969 := hS1.dle
        have hS := hS.callR hS1 rfl (.c .n)
        clear hS1
        refine segN 1 (j := 3) [(29, .pointer (some ⟨b1, 0, none⟩))] hE (by kernel_rfl) rfl (fun a hE => ?_)
        obtain ⟨r970, h971, hf⟩ := bind_some hf
        refine at_op (op_call rfl rfl rfl rfl hE rfl rfl rfl rfl (by kernel_rfl) (wire_Reader_Bytes.calls (g := g) h971 (hS.st.fore (L := [bx b1 66 (c_T_wire_Reader (r962.2) A966 c967)])) h968) (fun a v w hR hE => ?_)) rfl
        obtain ⟨D972, A974, c975, q976, A979, c980, rfl, hS1, h977, h981⟩ := hR
        have le982 := hS1.dle
        have hS := hS.callR hS1 rfl (.c (.c .n))
        clear hS1
        refine at_op (op_tk hE (g_fieldAddr (fo := 44) (ft := 23) 44 rfl rfl rfl rfl hE rfl rfl (by kernel_rfl) rfl (fun a hE => ?_))) rfl
        have hS := hS.pk (.c 2 rfl (.c 0 rfl (.c 1 rfl (.c 3 rfl (.c 4 rfl .n))))) rfl
        refine at_op (op_store (v := .agg (List.toArray (acells .u8 32 (r962.1)))) (c_T_api_Rec ({ v937 with fSteps := r924.1, fSalt := r962.1, fGone := r941.1 }) A928 c929 none 0) rfl rfl rfl rfl hE hS rfl rfl (by kernel_rfl) (by kernel_rfl) (by kernel_rfl) (by kernel_rfl) (by kernel_rfl) (fun a w _ hE hS => ?_)) rfl
        refine at_op (op_tk hE (g_fieldAddr (fo := 43) (ft := 25) 43 rfl rfl rfl rfl hE rfl rfl (by kernel_rfl) rfl (fun a hE => ?_))) rfl
        refine at_op (op_store (v := .slice A974 (List.length (r970.1)) c975) (c_T_api_Rec ({ v937 with fSteps := r924.1, fData := r970.1, fSalt := r962.1, fGone := r941.1 }) A928 c929 A974 c975) rfl rfl rfl rfl hE hS rfl rfl (by kernel_rfl) (by kernel_rfl) (by kernel_rfl) (by kernel_rfl) (by kernel_rfl) (fun a w _ hE hS => ?_)) rfl
        refine at_end rfl ?_
        have hS := hS.pk (.c 3 rfl (.c 0 rfl (.c 1 rfl (.c 2 rfl (.c 4 rfl .n))))) rfl
        obtain ⟨D983, q986, le984, hS, h987, h985⟩ := hS.lent (h931.mono (Snap.le.trans (Snap.le.trans le948 le969) le982))
        have hS := hS.pk (.c 3 rfl (.c 0 rfl (.c 1 rfl (.c 2 rfl (.c 4 rfl .n))))) rfl
        obtain ⟨D988, q991, le989, hS, h992, h990⟩ := hS.lent (h977.mono le984)
        have hS := hS.pk (.c 3 rfl (.c 4 rfl (.c 2 rfl .n))) rfl
        exact ⟨(r970.2, v937.fKind, v937.fSaga, v937.fSeq, v937.fStep, v937.fTry, v937.fBack, v937.fGood, v937.fEnd, v937.fPart, v937.fEpoch, v937.fTag, r924.1, r970.1, r962.1, r941.1, v937.fCom), A979, c980, A928, c929, A974, c975, D988, hE.weak (by kernel_rfl), hS, (Snap.le.trans (Snap.le.trans (Snap.le.trans (Snap.le.trans (Snap.le.trans (Snap.le.trans le923 le936) le948) le969) le982) le984) le989), (h981.mono (Snap.le.trans le984 le989)), (h985.mono le989), h990, hf⟩
    · replace hf := cond_f hb hf
      clear hb
      obtain ⟨j1172, hj1173, hf⟩ := jn_elim hf
      refine seq_join (fun a w => ∃ (y993 : Bool), ∃ (D994 : Snap), Env a 96 [] [(0, .pointer (some ⟨b1, 0, none⟩)), (2, .pointer (some ⟨b595, 0, none⟩)), (3, .pointer (some ⟨b605, 0, none⟩)), (8, .int .i64 (v607.fKind)), (33, .bool (y993))] ∧ Stp g w0 D0 [bx b1 66 (c_T_wire_Reader (x3) A4 c5)] w D994 [bx b1 66 (c_T_wire_Reader (r597.2) A601 c602), bx b595 27 (c_T_api_Rec (z_T_api_Rec) none 0 none 0), bx b605 27 (c_T_api_Rec (v607) none 0 none 0)] ∧ Snap.le D599 D994 ∧ j1172 y993 = some r) ?_ ?_
      · clear hj1173
        refine wpIn_seq ?_
        refine region_at ?_
        refine segN 2 (j := 2) [(33, .bool ((decide (v607.fKind = (2 : Int)))))] hE (by kernel_rfl) rfl (fun a hE => ?_)
        refine at_end rfl ?_
        refine cond_split hE (b := (decide (v607.fKind = (2 : Int)))) rfl (fun hb => ?_) (fun hb => ?_)
        · replace hf := cond_t hb hf
          clear hb
          refine wpIn_skip ?_
          have hS := hS.pk (.c 1 rfl (.c 2 rfl (.c 0 rfl .n))) rfl
          exact ⟨(decide (v607.fKind = (2 : Int))), D599, hE.weak (by kernel_rfl), hS, Snap.le.refl _, hf⟩
        · replace hf := cond_f hb hf
          clear hb
          refine wpIn_seq ?_
          refine region_at ?_
          refine segN 2 (j := 2) [(33, .bool ((decide (v607.fKind = (4 : Int)))))] hE (by kernel_rfl) rfl (fun a hE => ?_)
          refine at_end rfl ?_
          refine cond_split hE (b := (decide (v607.fKind = (4 : Int)))) rfl (fun hb => ?_) (fun hb => ?_)
          · replace hf := cond_t hb hf
            clear hb
            refine wpIn_skip ?_
            have hS := hS.pk (.c 1 rfl (.c 2 rfl (.c 0 rfl .n))) rfl
            exact ⟨(decide (v607.fKind = (4 : Int))), D599, hE.weak (by kernel_rfl), hS, Snap.le.refl _, hf⟩
          · replace hf := cond_f hb hf
            clear hb
            refine region_at ?_
            refine segN 2 (j := 2) [(33, .bool ((decide (v607.fKind = (3 : Int)))))] hE (by kernel_rfl) rfl (fun a hE => ?_)
            refine at_end rfl ?_
            have hS := hS.pk (.c 1 rfl (.c 2 rfl (.c 0 rfl .n))) rfl
            exact ⟨(decide (v607.fKind = (3 : Int))), D599, hE.weak (by kernel_rfl), hS, Snap.le.refl _, hf⟩
      · clear hE hS
        rintro a w ⟨y993, D994, hE, hS, le995, hf⟩
        replace hf := hj1173 _ hf
        clear hj1173
        refine cond_split hE (b := y993) rfl (fun hb => ?_) (fun hb => ?_)
        · replace hf := cond_t hb hf
          clear hb
          refine wpIn_seq ?_
          refine region_at ?_
          refine segN 1 (j := 1) [(37, .pointer (some ⟨b1, 0, none⟩))] hE (by kernel_rfl) rfl (fun a hE => ?_)
          obtain ⟨r996, h997, hf⟩ := bind_some hf
          refine at_op (op_call rfl rfl rfl rfl hE rfl rfl rfl rfl (by kernel_rfl) (wire_Reader_Num.calls (g := g) h997 (hS.st.fore (L := [bx b1 66 (c_T_wire_Reader (r597.2) A601 c602)])) (h603.mono le995)) (fun a v w hR hE => ?_)) rfl
          obtain ⟨D998, A1000, c1001, rfl, hS1, h1002⟩ := hR
          have le1003 := hS1.dle
          have hS := hS.callR hS1 rfl (.c .n)
          clear hS1
          refine segN 1 (j := 3) [(39, .pointer (some ⟨b1, 0, none⟩))] hE (by kernel_rfl) rfl (fun a hE => ?_)
          obtain ⟨r1004, h1005, hf⟩ := bind_some hf
          refine at_op (op_call rfl rfl rfl rfl hE rfl rfl rfl rfl (by kernel_rfl) (wire_Reader_Num.calls (g := g) h1005 (hS.st.fore (L := [bx b1 66 (c_T_wire_Reader (r996.2) A1000 c1001)])) h1002) (fun a v w hR hE => ?_)) rfl
          obtain ⟨D1006, A1008, c1009, rfl, hS1, h1010⟩ := hR
          have le1011 := hS1.dle
          have hS := hS.callR hS1 rfl (.c .n)
          clear hS1
          refine segN 1 (j := 5) [(41, .pointer (some ⟨b1, 0, none⟩))] hE (by kernel_rfl) rfl (fun a hE => ?_)
          obtain ⟨r1012, h1013, hf⟩ := bind_some hf
          refine at_op (op_call rfl rfl rfl rfl hE rfl rfl rfl rfl (by kernel_rfl) (wire_Reader_Num.calls (g := g) h1013 (hS.st.fore (L := [bx b1 66 (c_T_wire_Reader (r1004.2) A1008 c1009)])) h1010) (fun a v w hR hE => ?_)) rfl
          obtain ⟨D1014, A1016, c1017, rfl, hS1, h1018⟩ := hR
          have le1019 := hS1.dle
          have hS := hS.callR hS1 rfl (.c .n)
          clear hS1
          refine segN 1 (j := 7) [(43, .pointer (some ⟨b1, 0, none⟩))] hE (by kernel_rfl) rfl (fun a hE => ?_)
          obtain ⟨r1020, h1021, hf⟩ := bind_some hf
          refine at_op (op_call rfl rfl rfl rfl hE rfl rfl rfl rfl (by kernel_rfl) (wire_Reader_Num.calls (g := g) h1021 (hS.st.fore (L := [bx b1 66 (c_T_wire_Reader (r1012.2) A1016 c1017)])) h1018) (fun a v w hR hE => ?_)) rfl
          obtain ⟨D1022, A1024, c1025, rfl, hS1, h1026⟩ := hR
          have le1027 := hS1.dle
          have hS := hS.callR hS1 rfl (.c .n)
          clear hS1
          refine segN 1 (j := 9) [(45, .pointer (some ⟨b1, 0, none⟩))] hE (by kernel_rfl) rfl (fun a hE => ?_)
          obtain ⟨r1028, h1029, hf⟩ := bind_some hf
          refine at_op (op_call rfl rfl rfl rfl hE rfl rfl rfl rfl (by kernel_rfl) (wire_Reader_Flag.calls (g := g) h1029 (hS.st.fore (L := [bx b1 66 (c_T_wire_Reader (r1020.2) A1024 c1025)])) h1026) (fun a v w hR hE => ?_)) rfl
          obtain ⟨D1030, A1032, c1033, rfl, hS1, h1034⟩ := hR
          have le1035 := hS1.dle
          have hS := hS.callR hS1 rfl (.c .n)
          clear hS1
          refine at_op (op_tk hE (g_fieldAddr (fo := 1) (ft := 3) 1 rfl rfl rfl rfl hE rfl rfl (by kernel_rfl) rfl (fun a hE => ?_))) rfl
          have hS := hS.pk (.c 2 rfl (.c 0 rfl (.c 1 rfl .n))) rfl
          obtain ⟨v1036, hv1037, hf⟩ := bind_some hf
          replace hv1037 := Option.some.inj hv1037
          refine at_op (op_store (v := .int .i64 (r996.1)) (c_T_api_Rec (v1036) none 0 none 0) rfl rfl rfl rfl hE hS rfl rfl (by kernel_rfl) (by kernel_rfl) (by kernel_rfl) (by kernel_rfl) (by rw [← hv1037]; kernel_rfl) (fun a w _ hE hS => ?_)) rfl
          have h1038 : Sl kd_T_api_Step D599 none 0 (v1036.fSteps) := by rw [← hv1037]; exact h609
          have h1039 : Sl (kdInt .u8) D599 none 0 (v1036.fData) := by rw [← hv1037]; exact h610
          refine at_op (op_tk hE (g_fieldAddr (fo := 2) (ft := 3) 2 rfl rfl rfl rfl hE rfl rfl (by kernel_rfl) rfl (fun a hE => ?_))) rfl
          obtain ⟨v1040, hv1041, hf⟩ := bind_some hf
          replace hv1041 := Option.some.inj hv1041
          refine at_op (op_store (v := .int .i64 (r1004.1)) (c_T_api_Rec (v1040) none 0 none 0) rfl rfl rfl rfl hE hS rfl rfl (by kernel_rfl) (by kernel_rfl) (by kernel_rfl) (by kernel_rfl) (by rw [← hv1041]; kernel_rfl) (fun a w _ hE hS => ?_)) rfl
          have h1042 : Sl kd_T_api_Step D599 none 0 (v1040.fSteps) := by rw [← hv1041]; exact h1038
          have h1043 : Sl (kdInt .u8) D599 none 0 (v1040.fData) := by rw [← hv1041]; exact h1039
          refine at_op (op_tk hE (g_fieldAddr (fo := 3) (ft := 3) 3 rfl rfl rfl rfl hE rfl rfl (by kernel_rfl) rfl (fun a hE => ?_))) rfl
          obtain ⟨v1044, hv1045, hf⟩ := bind_some hf
          replace hv1045 := Option.some.inj hv1045
          refine at_op (op_store (v := .int .i64 (r1012.1)) (c_T_api_Rec (v1044) none 0 none 0) rfl rfl rfl rfl hE hS rfl rfl (by kernel_rfl) (by kernel_rfl) (by kernel_rfl) (by kernel_rfl) (by rw [← hv1045]; kernel_rfl) (fun a w _ hE hS => ?_)) rfl
          have h1046 : Sl kd_T_api_Step D599 none 0 (v1044.fSteps) := by rw [← hv1045]; exact h1042
          have h1047 : Sl (kdInt .u8) D599 none 0 (v1044.fData) := by rw [← hv1045]; exact h1043
          refine at_op (op_tk hE (g_fieldAddr (fo := 4) (ft := 3) 4 rfl rfl rfl rfl hE rfl rfl (by kernel_rfl) rfl (fun a hE => ?_))) rfl
          obtain ⟨v1048, hv1049, hf⟩ := bind_some hf
          replace hv1049 := Option.some.inj hv1049
          refine at_op (op_store (v := .int .i64 (r1020.1)) (c_T_api_Rec (v1048) none 0 none 0) rfl rfl rfl rfl hE hS rfl rfl (by kernel_rfl) (by kernel_rfl) (by kernel_rfl) (by kernel_rfl) (by rw [← hv1049]; kernel_rfl) (fun a w _ hE hS => ?_)) rfl
          have h1050 : Sl kd_T_api_Step D599 none 0 (v1048.fSteps) := by rw [← hv1049]; exact h1046
          have h1051 : Sl (kdInt .u8) D599 none 0 (v1048.fData) := by rw [← hv1049]; exact h1047
          refine at_op (op_tk hE (g_fieldAddr (fo := 5) (ft := 4) 5 rfl rfl rfl rfl hE rfl rfl (by kernel_rfl) rfl (fun a hE => ?_))) rfl
          obtain ⟨v1052, hv1053, hf⟩ := bind_some hf
          replace hv1053 := Option.some.inj hv1053
          refine at_op (op_store (v := .bool (r1028.1)) (c_T_api_Rec (v1052) none 0 none 0) rfl rfl rfl rfl hE hS rfl rfl (by kernel_rfl) (by kernel_rfl) (by kernel_rfl) (by kernel_rfl) (by rw [← hv1053]; kernel_rfl) (fun a w _ hE hS => ?_)) rfl
          have h1054 : Sl kd_T_api_Step D599 none 0 (v1052.fSteps) := by rw [← hv1053]; exact h1050
          have h1055 : Sl (kdInt .u8) D599 none 0 (v1052.fData) := by rw [← hv1053]; exact h1051
          refine at_end rfl ?_
          refine wpIn_seq ?_
          refine region_at ?_
          refine at_op (op_tk hE (g_fieldAddr (fo := 0) (ft := 3) 0 rfl rfl rfl rfl hE rfl rfl (by kernel_rfl) rfl (fun a hE => ?_))) rfl
          refine at_op (op_tk hE (tk_load 0 (.int .i64 (v1052.fKind)) rfl rfl rfl rfl hE rfl hS rfl rfl (by kernel_rfl) (kL (j := 0) hS rfl List.not_mem_nil) (fun a hE => ?_))) rfl
          refine segN 1 (j := 3) [(54, .bool ((decide (v1052.fKind = (3 : Int)))))] hE (by kernel_rfl) rfl (fun a hE => ?_)
          refine at_end rfl ?_
          refine cond_split hE (b := (decide (v1052.fKind = (3 : Int)))) rfl (fun hb => ?_) (fun hb => ?_)
          · replace hf := cond_t hb hf
            clear hb
            refine region_at ?_
            refine segN 1 (j := 1) [(55, .pointer (some ⟨b1, 0, none⟩))] hE (by kernel_rfl) rfl (fun a hE => ?_)
            have hS := hS.pk (.c 1 rfl (.c 0 rfl (.c 2 rfl .n))) rfl
            obtain ⟨r1056, h1057, hf⟩ := bind_some hf
            refine at_op (op_call rfl rfl rfl rfl hE rfl rfl rfl rfl (by kernel_rfl) (wire_Reader_Flag.calls (g := g) h1057 (hS.st.fore (L := [bx b1 66 (c_T_wire_Reader (r1028.2) A1032 c1033)])) h1034) (fun a v w hR hE => ?_)) rfl
            obtain ⟨D1058, A1060, c1061, rfl, hS1, h1062⟩ := hR
            have le1063 := hS1.dle
            have hS := hS.callR hS1 rfl (.c .n)
            clear hS1
            refine segN 1 (j := 3) [(57, .pointer (some ⟨b1, 0, none⟩))] hE (by kernel_rfl) rfl (fun a hE => ?_)
            obtain ⟨r1064, h1065, hf⟩ := bind_some hf
            refine at_op (op_call rfl rfl rfl rfl hE rfl rfl rfl rfl (by kernel_rfl) (wire_Reader_Num.calls (g := g) h1065 (hS.st.fore (L := [bx b1 66 (c_T_wire_Reader (r1056.2) A1060 c1061)])) h1062) (fun a v w hR hE => ?_)) rfl
            obtain ⟨D1066, A1068, c1069, rfl, hS1, h1070⟩ := hR
            have le1071 := hS1.dle
            have hS := hS.callR hS1 rfl (.c .n)
            clear hS1
            refine segN 1 (j := 5) [(59, .pointer (some ⟨b1, 0, none⟩))] hE (by kernel_rfl) rfl (fun a hE => ?_)
            obtain ⟨r1072, h1073, hf⟩ := bind_some hf
            refine at_op (op_call rfl rfl rfl rfl hE rfl rfl rfl rfl (by kernel_rfl) (wire_Reader_Num.calls (g := g) h1073 (hS.st.fore (L := [bx b1 66 (c_T_wire_Reader (r1064.2) A1068 c1069)])) h1070) (fun a v w hR hE => ?_)) rfl
            obtain ⟨D1074, A1076, c1077, rfl, hS1, h1078⟩ := hR
            have le1079 := hS1.dle
            have hS := hS.callR hS1 rfl (.c .n)
            clear hS1
            refine segN 1 (j := 7) [(61, .pointer (some ⟨b1, 0, none⟩))] hE (by kernel_rfl) rfl (fun a hE => ?_)
            obtain ⟨r1080, h1081, hf⟩ := bind_some hf
            refine at_op (op_call rfl rfl rfl rfl hE rfl rfl rfl rfl (by kernel_rfl) (wire_Reader_Hash.calls (g := g) h1081 (hS.st.fore (L := [bx b1 66 (c_T_wire_Reader (r1072.2) A1076 c1077)])) h1078) (fun a v w hR hE => ?_)) rfl
            obtain ⟨D1082, A1084, c1085, rfl, hS1, h1086⟩ := hR
            have le1087 := hS1.dle
            have hS := hS.callR hS1 rfl (.c .n)
            clear hS1
            refine at_op (op_tk hE (g_fieldAddr (fo := 6) (ft := 4) 6 rfl rfl rfl rfl hE rfl rfl (by kernel_rfl) rfl (fun a hE => ?_))) rfl
            have hS := hS.pk (.c 1 rfl (.c 0 rfl (.c 2 rfl .n))) rfl
            obtain ⟨v1088, hv1089, hf⟩ := bind_some hf
            replace hv1089 := Option.some.inj hv1089
            refine at_op (op_store (v := .bool (r1056.1)) (c_T_api_Rec (v1088) none 0 none 0) rfl rfl rfl rfl hE hS rfl rfl (by kernel_rfl) (by kernel_rfl) (by kernel_rfl) (by kernel_rfl) (by rw [← hv1089]; kernel_rfl) (fun a w _ hE hS => ?_)) rfl
            have h1090 : Sl kd_T_api_Step D599 none 0 (v1088.fSteps) := by rw [← hv1089]; exact h1054
            have h1091 : Sl (kdInt .u8) D599 none 0 (v1088.fData) := by rw [← hv1089]; exact h1055
            refine at_op (op_tk hE (g_fieldAddr (fo := 8) (ft := 3) 8 rfl rfl rfl rfl hE rfl rfl (by kernel_rfl) rfl (fun a hE => ?_))) rfl
            obtain ⟨v1092, hv1093, hf⟩ := bind_some hf
            replace hv1093 := Option.some.inj hv1093
            refine at_op (op_store (v := .int .i64 (r1064.1)) (c_T_api_Rec (v1092) none 0 none 0) rfl rfl rfl rfl hE hS rfl rfl (by kernel_rfl) (by kernel_rfl) (by kernel_rfl) (by kernel_rfl) (by rw [← hv1093]; kernel_rfl) (fun a w _ hE hS => ?_)) rfl
            have h1094 : Sl kd_T_api_Step D599 none 0 (v1092.fSteps) := by rw [← hv1093]; exact h1090
            have h1095 : Sl (kdInt .u8) D599 none 0 (v1092.fData) := by rw [← hv1093]; exact h1091
            refine at_op (op_tk hE (g_fieldAddr (fo := 9) (ft := 3) 9 rfl rfl rfl rfl hE rfl rfl (by kernel_rfl) rfl (fun a hE => ?_))) rfl
            obtain ⟨v1096, hv1097, hf⟩ := bind_some hf
            replace hv1097 := Option.some.inj hv1097
            refine at_op (op_store (v := .int .i64 (r1072.1)) (c_T_api_Rec (v1096) none 0 none 0) rfl rfl rfl rfl hE hS rfl rfl (by kernel_rfl) (by kernel_rfl) (by kernel_rfl) (by kernel_rfl) (by rw [← hv1097]; kernel_rfl) (fun a w _ hE hS => ?_)) rfl
            have h1098 : Sl kd_T_api_Step D599 none 0 (v1096.fSteps) := by rw [← hv1097]; exact h1094
            have h1099 : Sl (kdInt .u8) D599 none 0 (v1096.fData) := by rw [← hv1097]; exact h1095
            refine at_op (op_tk hE (g_fieldAddr (fo := 10) (ft := 23) 10 rfl rfl rfl rfl hE rfl rfl (by kernel_rfl) rfl (fun a hE => ?_))) rfl
            obtain ⟨v1100, hv1101, hf⟩ := bind_some hf
            replace hv1101 := Option.some.inj hv1101
            refine at_op (op_store (v := .agg (List.toArray (acells .u8 32 (r1080.1)))) (c_T_api_Rec (v1100) none 0 none 0) rfl rfl rfl rfl hE hS rfl rfl (by kernel_rfl) (by kernel_rfl) (by kernel_rfl) (by kernel_rfl) (by rw [← hv1101]; kernel_rfl) (fun a w _ hE hS => ?_)) rfl
            have h1102 : Sl kd_T_api_Step D599 none 0 (v1100.fSteps) := by rw [← hv1101]; exact h1098
            have h1103 : Sl (kdInt .u8) D599 none 0 (v1100.fData) := by rw [← hv1101]; exact h1099
            refine at_end rfl ?_
            have hS := hS.pk (.c 1 rfl (.c 2 rfl (.c 0 rfl .n))) rfl
            exact ⟨(r1080.2, v1100.fKind, v1100.fSaga, v1100.fSeq, v1100.fStep, v1100.fTry, v1100.fBack, v1100.fGood, v1100.fEnd, v1100.fPart, v1100.fEpoch, v1100.fTag, v1100.fSteps, v1100.fData, v1100.fSalt, v1100.fGone, v1100.fCom), A1084, c1085, none, 0, none, 0, D1082, hE.weak (by kernel_rfl), hS, (Snap.le.trans (Snap.le.trans (Snap.le.trans (Snap.le.trans (Snap.le.trans (Snap.le.trans (Snap.le.trans (Snap.le.trans (Snap.le.trans le995 le1003) le1011) le1019) le1027) le1035) le1063) le1071) le1079) le1087), h1086, (h1102.mono (Snap.le.trans (Snap.le.trans (Snap.le.trans (Snap.le.trans (Snap.le.trans (Snap.le.trans (Snap.le.trans (Snap.le.trans (Snap.le.trans le995 le1003) le1011) le1019) le1027) le1035) le1063) le1071) le1079) le1087)), (h1103.mono (Snap.le.trans (Snap.le.trans (Snap.le.trans (Snap.le.trans (Snap.le.trans (Snap.le.trans (Snap.le.trans (Snap.le.trans (Snap.le.trans le995 le1003) le1011) le1019) le1027) le1035) le1063) le1071) le1079) le1087)), hf⟩
          · replace hf := cond_f hb hf
            clear hb
            refine wpIn_skip ?_
            have hS := hS.pk (.c 1 rfl (.c 2 rfl (.c 0 rfl .n))) rfl
            exact ⟨(r1028.2, v1052.fKind, v1052.fSaga, v1052.fSeq, v1052.fStep, v1052.fTry, v1052.fBack, v1052.fGood, v1052.fEnd, v1052.fPart, v1052.fEpoch, v1052.fTag, v1052.fSteps, v1052.fData, v1052.fSalt, v1052.fGone, v1052.fCom), A1032, c1033, none, 0, none, 0, D1030, hE.weak (by kernel_rfl), hS, (Snap.le.trans (Snap.le.trans (Snap.le.trans (Snap.le.trans (Snap.le.trans le995 le1003) le1011) le1019) le1027) le1035), h1034, (h1054.mono (Snap.le.trans (Snap.le.trans (Snap.le.trans (Snap.le.trans (Snap.le.trans le995 le1003) le1011) le1019) le1027) le1035)), (h1055.mono (Snap.le.trans (Snap.le.trans (Snap.le.trans (Snap.le.trans (Snap.le.trans le995 le1003) le1011) le1019) le1027) le1035)), hf⟩
        · replace hf := cond_f hb hf
          clear hb
          refine wpIn_seq ?_
          refine region_at ?_
          refine segN 2 (j := 2) [(67, .bool ((decide (v607.fKind = (5 : Int)))))] hE (by kernel_rfl) rfl (fun a hE => ?_)
          refine at_end rfl ?_
          refine cond_split hE (b := (decide (v607.fKind = (5 : Int)))) rfl (fun hb => ?_) (fun hb => ?_)
          · replace hf := cond_t hb hf
            clear hb
            refine region_at ?_
            refine segN 1 (j := 1) [(69, .pointer (some ⟨b1, 0, none⟩))] hE (by kernel_rfl) rfl (fun a hE => ?_)
            obtain ⟨r1104, h1105, hf⟩ := bind_some hf
            refine at_op (op_call rfl rfl rfl rfl hE rfl rfl rfl rfl (by kernel_rfl) (wire_Reader_Num.calls (g := g) h1105 (hS.st.fore (L := [bx b1 66 (c_T_wire_Reader (r597.2) A601 c602)])) (h603.mono le995)) (fun a v w hR hE => ?_)) rfl
            obtain ⟨D1106, A1108, c1109, rfl, hS1, h1110⟩ := hR
            have le1111 := hS1.dle
            have hS := hS.callR hS1 rfl (.c .n)
            clear hS1
            refine segN 1 (j := 3) [(71, .pointer (some ⟨b1, 0, none⟩))] hE (by kernel_rfl) rfl (fun a hE => ?_)
            obtain ⟨r1112, h1113, hf⟩ := bind_some hf
            refine at_op (op_call rfl rfl rfl rfl hE rfl rfl rfl rfl (by kernel_rfl) (wire_Reader_Num.calls (g := g) h1113 (hS.st.fore (L := [bx b1 66 (c_T_wire_Reader (r1104.2) A1108 c1109)])) h1110) (fun a v w hR hE => ?_)) rfl
            obtain ⟨D1114, A1116, c1117, rfl, hS1, h1118⟩ := hR
            have le1119 := hS1.dle
            have hS := hS.callR hS1 rfl (.c .n)
            clear hS1
            refine segN 1 (j := 5) [(73, .pointer (some ⟨b1, 0, none⟩))] hE (by kernel_rfl) rfl (fun a hE => ?_)
            obtain ⟨r1120, h1121, hf⟩ := bind_some hf
            refine at_op (op_call rfl rfl rfl rfl hE rfl rfl rfl rfl (by kernel_rfl) (wire_Reader_Num.calls (g := g) h1121 (hS.st.fore (L := [bx b1 66 (c_T_wire_Reader (r1112.2) A1116 c1117)])) h1118) (fun a v w hR hE => ?_)) rfl
            obtain ⟨D1122, A1124, c1125, rfl, hS1, h1126⟩ := hR
            have le1127 := hS1.dle
            have hS := hS.callR hS1 rfl (.c .n)
            clear hS1
            refine at_op (op_tk hE (g_fieldAddr (fo := 1) (ft := 3) 1 rfl rfl rfl rfl hE rfl rfl (by kernel_rfl) rfl (fun a hE => ?_))) rfl
            have hS := hS.pk (.c 2 rfl (.c 0 rfl (.c 1 rfl .n))) rfl
            obtain ⟨v1128, hv1129, hf⟩ := bind_some hf
            replace hv1129 := Option.some.inj hv1129
            refine at_op (op_store (v := .int .i64 (r1104.1)) (c_T_api_Rec (v1128) none 0 none 0) rfl rfl rfl rfl hE hS rfl rfl (by kernel_rfl) (by kernel_rfl) (by kernel_rfl) (by kernel_rfl) (by rw [← hv1129]; kernel_rfl) (fun a w _ hE hS => ?_)) rfl
            have h1130 : Sl kd_T_api_Step D599 none 0 (v1128.fSteps) := by rw [← hv1129]; exact h609
            have h1131 : Sl (kdInt .u8) D599 none 0 (v1128.fData) := by rw [← hv1129]; exact h610
            refine at_op (op_tk hE (g_fieldAddr (fo := 2) (ft := 3) 2 rfl rfl rfl rfl hE rfl rfl (by kernel_rfl) rfl (fun a hE => ?_))) rfl
            obtain ⟨v1132, hv1133, hf⟩ := bind_some hf
            replace hv1133 := Option.some.inj hv1133
            refine at_op (op_store (v := .int .i64 (r1112.1)) (c_T_api_Rec (v1132) none 0 none 0) rfl rfl rfl rfl hE hS rfl rfl (by kernel_rfl) (by kernel_rfl) (by kernel_rfl) (by kernel_rfl) (by rw [← hv1133]; kernel_rfl) (fun a w _ hE hS => ?_)) rfl
            have h1134 : Sl kd_T_api_Step D599 none 0 (v1132.fSteps) := by rw [← hv1133]; exact h1130
            have h1135 : Sl (kdInt .u8) D599 none 0 (v1132.fData) := by rw [← hv1133]; exact h1131
            refine at_op (op_tk hE (g_fieldAddr (fo := 7) (ft := 3) 7 rfl rfl rfl rfl hE rfl rfl (by kernel_rfl) rfl (fun a hE => ?_))) rfl
            obtain ⟨v1136, hv1137, hf⟩ := bind_some hf
            replace hv1137 := Option.some.inj hv1137
            refine at_op (op_store (v := .int .i64 (r1120.1)) (c_T_api_Rec (v1136) none 0 none 0) rfl rfl rfl rfl hE hS rfl rfl (by kernel_rfl) (by kernel_rfl) (by kernel_rfl) (by kernel_rfl) (by rw [← hv1137]; kernel_rfl) (fun a w _ hE hS => ?_)) rfl
            have h1138 : Sl kd_T_api_Step D599 none 0 (v1136.fSteps) := by rw [← hv1137]; exact h1134
            have h1139 : Sl (kdInt .u8) D599 none 0 (v1136.fData) := by rw [← hv1137]; exact h1135
            refine at_end rfl ?_
            have hS := hS.pk (.c 1 rfl (.c 2 rfl (.c 0 rfl .n))) rfl
            exact ⟨(r1120.2, v1136.fKind, v1136.fSaga, v1136.fSeq, v1136.fStep, v1136.fTry, v1136.fBack, v1136.fGood, v1136.fEnd, v1136.fPart, v1136.fEpoch, v1136.fTag, v1136.fSteps, v1136.fData, v1136.fSalt, v1136.fGone, v1136.fCom), A1124, c1125, none, 0, none, 0, D1122, hE.weak (by kernel_rfl), hS, (Snap.le.trans (Snap.le.trans (Snap.le.trans le995 le1111) le1119) le1127), h1126, (h1138.mono (Snap.le.trans (Snap.le.trans (Snap.le.trans le995 le1111) le1119) le1127)), (h1139.mono (Snap.le.trans (Snap.le.trans (Snap.le.trans le995 le1111) le1119) le1127)), hf⟩
          · replace hf := cond_f hb hf
            clear hb
            refine wpIn_seq ?_
            refine region_at ?_
            refine segN 2 (j := 2) [(78, .bool ((decide (v607.fKind = (6 : Int)))))] hE (by kernel_rfl) rfl (fun a hE => ?_)
            refine at_end rfl ?_
            refine cond_split hE (b := (decide (v607.fKind = (6 : Int)))) rfl (fun hb => ?_) (fun hb => ?_)
            · replace hf := cond_t hb hf
              clear hb
              refine region_at ?_
              refine segN 1 (j := 1) [(80, .pointer (some ⟨b1, 0, none⟩))] hE (by kernel_rfl) rfl (fun a hE => ?_)
              obtain ⟨r1140, h1141, hf⟩ := bind_some hf
              refine at_op (op_call rfl rfl rfl rfl hE rfl rfl rfl rfl (by kernel_rfl) (wire_Reader_Num.calls (g := g) h1141 (hS.st.fore (L := [bx b1 66 (c_T_wire_Reader (r597.2) A601 c602)])) (h603.mono le995)) (fun a v w hR hE => ?_)) rfl
              obtain ⟨D1142, A1144, c1145, rfl, hS1, h1146⟩ := hR
              have le1147 := hS1.dle
              have hS := hS.callR hS1 rfl (.c .n)
              clear hS1
              refine segN 1 (j := 3) [(82, .pointer (some ⟨b1, 0, none⟩))] hE (by kernel_rfl) rfl (fun a hE => ?_)
              obtain ⟨r1148, h1149, hf⟩ := bind_some hf
              refine at_op (op_call rfl rfl rfl rfl hE rfl rfl rfl rfl (by kernel_rfl) (wire_Reader_Num.calls (g := g) h1149 (hS.st.fore (L := [bx b1 66 (c_T_wire_Reader (r1140.2) A1144 c1145)])) h1146) (fun a v w hR hE => ?_)) rfl
              obtain ⟨D1150, A1152, c1153, rfl, hS1, h1154⟩ := hR
              have le1155 := hS1.dle
              have hS := hS.callR hS1 rfl (.c .n)
              clear hS1
              refine at_op (op_tk hE (g_fieldAddr (fo := 8) (ft := 3) 8 rfl rfl rfl rfl hE rfl rfl (by kernel_rfl) rfl (fun a hE => ?_))) rfl
              have hS := hS.pk (.c 2 rfl (.c 0 rfl (.c 1 rfl .n))) rfl
              obtain ⟨v1156, hv1157, hf⟩ := bind_some hf
              replace hv1157 := Option.some.inj hv1157
              refine at_op (op_store (v := .int .i64 (r1140.1)) (c_T_api_Rec (v1156) none 0 none 0) rfl rfl rfl rfl hE hS rfl rfl (by kernel_rfl) (by kernel_rfl) (by kernel_rfl) (by kernel_rfl) (by rw [← hv1157]; kernel_rfl) (fun a w _ hE hS => ?_)) rfl
              have h1158 : Sl kd_T_api_Step D599 none 0 (v1156.fSteps) := by rw [← hv1157]; exact h609
              have h1159 : Sl (kdInt .u8) D599 none 0 (v1156.fData) := by rw [← hv1157]; exact h610
              refine at_op (op_tk hE (g_fieldAddr (fo := 9) (ft := 3) 9 rfl rfl rfl rfl hE rfl rfl (by kernel_rfl) rfl (fun a hE => ?_))) rfl
              obtain ⟨v1160, hv1161, hf⟩ := bind_some hf
              replace hv1161 := Option.some.inj hv1161
              refine at_op (op_store (v := .int .i64 (r1148.1)) (c_T_api_Rec (v1160) none 0 none 0) rfl rfl rfl rfl hE hS rfl rfl (by kernel_rfl) (by kernel_rfl) (by kernel_rfl) (by kernel_rfl) (by rw [← hv1161]; kernel_rfl) (fun a w _ hE hS => ?_)) rfl
              have h1162 : Sl kd_T_api_Step D599 none 0 (v1160.fSteps) := by rw [← hv1161]; exact h1158
              have h1163 : Sl (kdInt .u8) D599 none 0 (v1160.fData) := by rw [← hv1161]; exact h1159
              refine at_end rfl ?_
              have hS := hS.pk (.c 1 rfl (.c 2 rfl (.c 0 rfl .n))) rfl
              exact ⟨(r1148.2, v1160.fKind, v1160.fSaga, v1160.fSeq, v1160.fStep, v1160.fTry, v1160.fBack, v1160.fGood, v1160.fEnd, v1160.fPart, v1160.fEpoch, v1160.fTag, v1160.fSteps, v1160.fData, v1160.fSalt, v1160.fGone, v1160.fCom), A1152, c1153, none, 0, none, 0, D1150, hE.weak (by kernel_rfl), hS, (Snap.le.trans (Snap.le.trans le995 le1147) le1155), h1154, (h1162.mono (Snap.le.trans (Snap.le.trans le995 le1147) le1155)), (h1163.mono (Snap.le.trans (Snap.le.trans le995 le1147) le1155)), hf⟩
            · replace hf := cond_f hb hf
              clear hb
              refine region_at ?_
              refine segN 1 (j := 1) [(9, .pointer (some ⟨b1, 0, none⟩))] hE (by kernel_rfl) rfl (fun a hE => ?_)
              obtain ⟨r1164, h1165, hf⟩ := bind_some hf
              refine at_op (op_call rfl rfl rfl rfl hE rfl rfl rfl rfl (by kernel_rfl) (wire_Reader_Fail.calls (g := g) h1165 (hS.st.fore (L := [bx b1 66 (c_T_wire_Reader (r597.2) A601 c602)])) (h603.mono le995)) (fun a v w hR hE => ?_)) rfl
              obtain ⟨D1166, A1168, c1169, rfl, hS1, h1170⟩ := hR
              have le1171 := hS1.dle
              have hS := hS.callR hS1 rfl (.c .n)
              clear hS1
              refine at_end rfl ?_
              exact ⟨(r1164, v607.fKind, v607.fSaga, v607.fSeq, v607.fStep, v607.fTry, v607.fBack, v607.fGood, v607.fEnd, v607.fPart, v607.fEpoch, v607.fTag, v607.fSteps, v607.fData, v607.fSalt, v607.fGone, v607.fCom), A1168, c1169, none, 0, none, 0, D1166, hE.weak (by kernel_rfl), hS, (Snap.le.trans le995 le1171), h1170, (h609.mono (Snap.le.trans le995 le1171)), (h610.mono (Snap.le.trans le995 le1171)), hf⟩
  · clear hE hS
    rintro a w ⟨y854, A857, c858, A860, c861, A863, c864, D855, hE, hS, le856, h859, h862, h865, hf⟩
    replace hf := hj915 _ hf
    clear hj915
    obtain ⟨j899, hj900, hf⟩ := jn_elim hf
    refine seq_join (fun a w => ∃ (y879 : T_wire_Reader), ∃ (A882 : Option Addr), ∃ (c883 : Nat), ∃ (D880 : Snap), Env a 96 [] [(0, .pointer (some ⟨b1, 0, none⟩)), (2, .pointer (some ⟨b595, 0, none⟩)), (3, .pointer (some ⟨b605, 0, none⟩))] ∧ Stp g w0 D0 [bx b1 66 (c_T_wire_Reader (x3) A4 c5)] w D880 [bx b1 66 (c_T_wire_Reader (y879) A882 c883), bx b595 27 (c_T_api_Rec (z_T_api_Rec) none 0 none 0), bx b605 27 (c_T_api_Rec ((T_api_Rec.mk (y854.2.1) (y854.2.2.1) (y854.2.2.2.1) (y854.2.2.2.2.1) (y854.2.2.2.2.2.1) (y854.2.2.2.2.2.2.1) (y854.2.2.2.2.2.2.2.1) (y854.2.2.2.2.2.2.2.2.1) (y854.2.2.2.2.2.2.2.2.2.1) (y854.2.2.2.2.2.2.2.2.2.2.1) (y854.2.2.2.2.2.2.2.2.2.2.2.1) (y854.2.2.2.2.2.2.2.2.2.2.2.2.1) (y854.2.2.2.2.2.2.2.2.2.2.2.2.2.1) (y854.2.2.2.2.2.2.2.2.2.2.2.2.2.2.1) (y854.2.2.2.2.2.2.2.2.2.2.2.2.2.2.2.1) (y854.2.2.2.2.2.2.2.2.2.2.2.2.2.2.2.2))) A860 c861 A863 c864)] ∧ Snap.le D855 D880 ∧ Sl (kdInt .u8) D880 A882 c883 (y879.fB) ∧ j899 y879 = some r) ?_ ?_
    · clear hj900
      refine wpIn_seq ?_
      refine region_at ?_
      refine at_op (op_tk hE (tk_load 2 (.agg (List.toArray (c_T_api_Rec ((T_api_Rec.mk (y854.2.1) (y854.2.2.1) (y854.2.2.2.1) (y854.2.2.2.2.1) (y854.2.2.2.2.2.1) (y854.2.2.2.2.2.2.1) (y854.2.2.2.2.2.2.2.1) (y854.2.2.2.2.2.2.2.2.1) (y854.2.2.2.2.2.2.2.2.2.1) (y854.2.2.2.2.2.2.2.2.2.2.1) (y854.2.2.2.2.2.2.2.2.2.2.2.1) (y854.2.2.2.2.2.2.2.2.2.2.2.2.1) (y854.2.2.2.2.2.2.2.2.2.2.2.2.2.1) (y854.2.2.2.2.2.2.2.2.2.2.2.2.2.2.1) (y854.2.2.2.2.2.2.2.2.2.2.2.2.2.2.2.1) (y854.2.2.2.2.2.2.2.2.2.2.2.2.2.2.2.2))) A860 c861 A863 c864))) rfl rfl rfl rfl hE rfl hS rfl rfl (by kernel_rfl) (kL (j := 2) hS rfl List.not_mem_nil) (fun a hE => ?_))) rfl
      obtain ⟨r901, h902, hf⟩ := bind_some hf
      refine at_op (op_call rfl rfl rfl rfl hE rfl rfl rfl rfl (by kernel_rfl) (rec_Right.calls (g := g) h902 (hS.st.fore (L := [])) h862 h865) (fun a v w hR hE => ?_)) rfl
      obtain ⟨D903, rfl, hS1⟩ := hR
      have le905 := hS1.dle
      have hS := hS.callR hS1 rfl .n
      clear hS1
      refine segN 1 (j := 3) [(88, .bool ((!r901)))] hE (by kernel_rfl) rfl (fun a hE => ?_)
      refine at_end rfl ?_
      refine cond_split hE (b := (!r901)) rfl (fun hb => ?_) (fun hb => ?_)
      · replace hf := cond_t hb hf
        clear hb
        refine region_at ?_
        refine segN 1 (j := 1) [(89, .pointer (some ⟨b1, 0, none⟩))] hE (by kernel_rfl) rfl (fun a hE => ?_)
        obtain ⟨r906, h907, hf⟩ := bind_some hf
        refine at_op (op_call rfl rfl rfl rfl hE rfl rfl rfl rfl (by kernel_rfl) (wire_Reader_Fail.calls (g := g) h907 (hS.st.fore (L := [bx b1 66 (c_T_wire_Reader (y854.1) A857 c858)])) (h859.mono le905)) (fun a v w hR hE => ?_)) rfl
        obtain ⟨D908, A910, c911, rfl, hS1, h912⟩ := hR
        have le913 := hS1.dle
        have hS := hS.callR hS1 rfl (.c .n)
        clear hS1
        refine at_end rfl ?_
        exact ⟨r906, A910, c911, D908, hE.weak (by kernel_rfl), hS, (Snap.le.trans le905 le913), h912, hf⟩
      · replace hf := cond_f hb hf
        clear hb
        refine wpIn_skip ?_
        exact ⟨y854.1, A857, c858, D903, hE.weak (by kernel_rfl), hS, le905, (h859.mono le905), hf⟩
    · clear hE hS
      rintro a w ⟨y879, A882, c883, D880, hE, hS, le881, h884, hf⟩
      replace hf := hj900 _ hf
      clear hj900
      refine wpIn_seq ?_
      refine wpIn_seq ?_
      refine region_at ?_
      refine segN 1 (j := 1) [(91, .pointer (some ⟨b1, 0, none⟩))] hE (by kernel_rfl) rfl (fun a hE => ?_)
      obtain ⟨r890, h891, hf⟩ := bind_some hf
      refine at_op (op_call rfl rfl rfl rfl hE rfl rfl rfl rfl (by kernel_rfl) (wire_Reader_Bad.calls (g := g) h891 (hS.st.fore (L := [bx b1 66 (c_T_wire_Reader (y879) A882 c883)])) h884) (fun a v w hR hE => ?_)) rfl
      obtain ⟨D892, rfl, hS1⟩ := hR
      have le894 := hS1.dle
      have hS := hS.callR hS1 rfl (.c .n)
      clear hS1
      refine segN 1 (j := 3) [(93, .bool ((!decide (r890 = (0 : Int)))))] hE (by kernel_rfl) rfl (fun a hE => ?_)
      refine at_end rfl ?_
      refine cond_split hE (b := (!decide (r890 = (0 : Int)))) rfl (fun hb => ?_) (fun hb => ?_)
      · replace hf := cond_t hb hf
        clear hb
        refine wpIn_seq ?_
        refine region_at ?_
        refine at_op (op_tk hE (tk_build (c_T_api_Rec (z_T_api_Rec) none 0 none 0) rfl rfl rfl rfl hE rfl rfl (by kernel_rfl) (fun a hE => ?_))) rfl
        have hS := hS.pk (.c 1 rfl (.c 0 rfl (.c 2 rfl .n))) rfl
        refine at_op (op_store (v := .agg (List.toArray (c_T_api_Rec (z_T_api_Rec) none 0 none 0))) (c_T_api_Rec (z_T_api_Rec) none 0 none 0) rfl rfl rfl rfl hE hS rfl rfl (by kernel_rfl) (by kernel_rfl) (by kernel_rfl) (by kernel_rfl) (by kernel_rfl) (fun a w _ hE hS => ?_)) rfl
        refine at_end rfl ?_
        refine wpIn_ret ?_
        obtain rfl := Option.some.inj hf
        repeat (with_reducible first | refine then_ret ?_ | refine block_ret ?_ | refine qx_ret ?_)
        refine ret_gen ([.agg (List.toArray (c_T_api_Rec (z_T_api_Rec) none 0 none 0))]) hE (by rw [show Tryd.f26.results.toList = [.cell 2 27] from rfl]; exact ⟨_, _, _, 0, _, _, rfl, rfl, hS.heapAt (j := 0) rfl, by kernel_rfl, rfl⟩) ?_
        have hS := hS.pk (.c 1 rfl .n) rfl
        exact ⟨_, rfl, D892, none, 0, none, 0, A882, c883, rfl, hS, (Sl.nil kd_T_api_Step D892), (Sl.nil (kdInt .u8) D892), (h884.mono le894)⟩
      · replace hf := cond_f hb hf
        clear hb
        refine wpIn_skip ?_
        refine wpIn_seq ?_
        refine region_at ?_
        refine at_op (op_tk hE (tk_load 2 (.agg (List.toArray (c_T_api_Rec ((T_api_Rec.mk (y854.2.1) (y854.2.2.1) (y854.2.2.2.1) (y854.2.2.2.2.1) (y854.2.2.2.2.2.1) (y854.2.2.2.2.2.2.1) (y854.2.2.2.2.2.2.2.1) (y854.2.2.2.2.2.2.2.2.1) (y854.2.2.2.2.2.2.2.2.2.1) (y854.2.2.2.2.2.2.2.2.2.2.1) (y854.2.2.2.2.2.2.2.2.2.2.2.1) (y854.2.2.2.2.2.2.2.2.2.2.2.2.1) (y854.2.2.2.2.2.2.2.2.2.2.2.2.2.1) (y854.2.2.2.2.2.2.2.2.2.2.2.2.2.2.1) (y854.2.2.2.2.2.2.2.2.2.2.2.2.2.2.2.1) (y854.2.2.2.2.2.2.2.2.2.2.2.2.2.2.2.2))) A860 c861 A863 c864))) rfl rfl rfl rfl hE rfl hS rfl rfl (by kernel_rfl) (kL (j := 2) hS rfl List.not_mem_nil) (fun a hE => ?_))) rfl
        have hS := hS.pk (.c 1 rfl (.c 0 rfl (.c 2 rfl .n))) rfl
        obtain ⟨v895, hv896, hf⟩ := bind_some hf
        replace hv896 := Option.some.inj hv896
        refine at_op (op_store (v := .agg (List.toArray (c_T_api_Rec ((T_api_Rec.mk (y854.2.1) (y854.2.2.1) (y854.2.2.2.1) (y854.2.2.2.2.1) (y854.2.2.2.2.2.1) (y854.2.2.2.2.2.2.1) (y854.2.2.2.2.2.2.2.1) (y854.2.2.2.2.2.2.2.2.1) (y854.2.2.2.2.2.2.2.2.2.1) (y854.2.2.2.2.2.2.2.2.2.2.1) (y854.2.2.2.2.2.2.2.2.2.2.2.1) (y854.2.2.2.2.2.2.2.2.2.2.2.2.1) (y854.2.2.2.2.2.2.2.2.2.2.2.2.2.1) (y854.2.2.2.2.2.2.2.2.2.2.2.2.2.2.1) (y854.2.2.2.2.2.2.2.2.2.2.2.2.2.2.2.1) (y854.2.2.2.2.2.2.2.2.2.2.2.2.2.2.2.2))) A860 c861 A863 c864))) (c_T_api_Rec (v895) A860 c861 A863 c864) rfl rfl rfl rfl hE hS rfl rfl (by kernel_rfl) (by kernel_rfl) (by kernel_rfl) (by kernel_rfl) (by rw [← hv896]; kernel_rfl) (fun a w _ hE hS => ?_)) rfl
        have h897 : Sl kd_T_api_Step D855 A860 c861 (v895.fSteps) := by rw [← hv896]; exact h862
        have h898 : Sl (kdInt .u8) D855 A863 c864 (v895.fData) := by rw [← hv896]; exact h865
        refine at_end rfl ?_
        refine wpIn_ret ?_
        obtain rfl := Option.some.inj hf
        repeat (with_reducible first | refine then_ret ?_ | refine block_ret ?_ | refine qx_ret ?_)
        refine ret_gen ([.agg (List.toArray (c_T_api_Rec (v895) A860 c861 A863 c864))]) hE (by rw [show Tryd.f26.results.toList = [.cell 2 27] from rfl]; exact ⟨_, _, _, 0, _, _, rfl, rfl, hS.heapAt (j := 0) rfl, by kernel_rfl, rfl⟩) ?_
        have hS := hS.pk (.c 1 rfl .n) rfl
        exact ⟨_, rfl, D892, A860, c861, A863, c864, A882, c883, rfl, hS, (h897.mono (Snap.le.trans le881 le894)), (h898.mono (Snap.le.trans le881 le894)), (h884.mono le894)⟩

set_option maxRecDepth 100000 in
set_option maxHeartbeats 4000000 in
theorem wire_Reader_Done.calls {K : Nat} {g w0 : World} {D0 : Snap} {x3 : T_wire_Reader} {b1 : Nat} {A4 : Option Addr} {c5 : Nat} {r : (Int)} (hf : wire_Reader_Done.f K x3 = some r) (hS0 : St g w0 D0 [bx b1 66 (c_T_wire_Reader (x3) A4 c5)]) (h6 : Sl (kdInt .u8) D0 A4 c5 (x3.fB)) :
    CallsIn (Fw none) 0 Tryd.prog 47 (List.toArray [.pointer (some ⟨b1, 0, none⟩)]) w0 (fun e w' => ∃ v, e = .returned v ∧ ∃ (D1 : Snap), v = .int .i64 (r) ∧ Stp g w0 D0 [bx b1 66 (c_T_wire_Reader (x3) A4 c5)] w' D1 [bx b1 66 (c_T_wire_Reader (x3) A4 c5)]) := by
  unfold wire_Reader_Done.f at hf
  have hS := Stp.refl hS0
  clear hS0
  refine calls_body (n := 15) Tryd.func47 rfl Tryd.ntmps47 rfl (fun a hE => ?_)
  have hE : Env a 15 [] [(0, .pointer (some ⟨b1, 0, none⟩))] := hE
  refine wpIn_seq ?_
  refine region_at ?_
  refine segN 1 (j := 1) [(2, .int .i64 ((0 : Int)))] hE (by kernel_rfl) rfl (fun a hE => ?_)
  refine at_end rfl ?_
  refine wpIn_seq ?_
  refine wpIn_seq ?_
  refine region_at ?_
  refine segN 1 (j := 1) [(4, .pointer (some ⟨b1, 0, none⟩))] hE (by kernel_rfl) rfl (fun a hE => ?_)
  obtain ⟨r22, h23, hf⟩ := bind_some hf
  refine at_op (op_call rfl rfl rfl rfl hE rfl rfl rfl rfl (by kernel_rfl) (wire_Reader_Bad.calls (g := g) h23 (hS.st.fore (L := [bx b1 66 (c_T_wire_Reader (x3) A4 c5)])) h6) (fun a v w hR hE => ?_)) rfl
  obtain ⟨D24, rfl, hS1⟩ := hR
  have le26 := hS1.dle
  have hS := hS.callR hS1 rfl (.c .n)
  clear hS1
  refine segN 1 (j := 3) [(3, .int .i64 (r22))] hE (by kernel_rfl) rfl (fun a hE => ?_)
  refine at_end rfl ?_
  refine wpIn_seq ?_
  refine region_at ?_
  refine segN 2 (j := 2) [(7, .bool ((!decide (r22 = (0 : Int)))))] hE (by kernel_rfl) rfl (fun a hE => ?_)
  refine at_end rfl ?_
  refine cond_split hE (b := (!decide (r22 = (0 : Int)))) rfl (fun hb => ?_) (fun hb => ?_)
  · replace hf := cond_t hb hf
    clear hb
    refine wpIn_seq ?_
    refine region_at ?_
    refine segN 2 (j := 2) [(2, .int .i64 (r22))] hE (by kernel_rfl) rfl (fun a hE => ?_)
    refine at_end rfl ?_
    refine wpIn_ret ?_
    obtain rfl := Option.some.inj hf
    repeat (with_reducible first | refine then_ret ?_ | refine block_ret ?_ | refine qx_ret ?_)
    refine ret_gen ([.int .i64 (r22)]) hE (by rw [show Tryd.f47.results.toList = [.tmp 2] from rfl]; exact ⟨_, _, rfl, rfl, rfl⟩) ?_
    exact ⟨_, rfl, D24, rfl, hS⟩
  · replace hf := cond_f hb hf
    clear hb
    refine wpIn_skip ?_
    refine wpIn_seq ?_
    refine wpIn_seq ?_
    refine region_at ?_
    refine segN 2 (j := 2) [(10, .pointer (some ⟨b1, 0, none⟩))] hE (by kernel_rfl) rfl (fun a hE => ?_)
    refine at_op (op_tk hE (g_fieldAddr (fo := 0) (ft := 25) 0 rfl rfl rfl rfl hE rfl rfl (by kernel_rfl) rfl (fun a hE => ?_))) rfl
    refine at_op (op_tk hE (tk_load 0 (.slice A4 (List.length (x3.fB)) c5) rfl rfl rfl rfl hE rfl hS rfl rfl (by kernel_rfl) (kL (j := 0) hS rfl List.not_mem_nil) (fun a hE => ?_))) rfl
    refine segN 2 (j := 6) [(14, .bool ((decide ((0 : Int) < ((List.length (x3.fB) : Nat) : Int)))))] hE (by kernel_rfl) rfl (fun a hE => ?_)
    refine at_end rfl ?_
    refine cond_split hE (b := (decide ((0 : Int) < ((List.length (x3.fB) : Nat) : Int)))) rfl (fun hb => ?_) (fun hb => ?_)
    · replace hf := cond_t hb hf
      clear hb
      refine wpIn_seq ?_
      refine region_at ?_
      refine segN 1 (j := 1) [(2, .int .i64 ((2 : Int)))] hE (by kernel_rfl) rfl (fun a hE => ?_)
      refine at_end rfl ?_
      refine wpIn_ret ?_
      obtain rfl := Option.some.inj hf
      repeat (with_reducible first | refine then_ret ?_ | refine block_ret ?_ | refine qx_ret ?_)
      refine ret_gen ([.int .i64 ((2 : Int))]) hE (by rw [show Tryd.f47.results.toList = [.tmp 2] from rfl]; exact ⟨_, _, rfl, rfl, rfl⟩) ?_
      exact ⟨_, rfl, D24, rfl, hS⟩
    · replace hf := cond_f hb hf
      clear hb
      refine wpIn_skip ?_
      refine wpIn_seq ?_
      refine region_at ?_
      refine segN 1 (j := 1) [(2, .int .i64 ((0 : Int)))] hE (by kernel_rfl) rfl (fun a hE => ?_)
      refine at_end rfl ?_
      refine wpIn_ret ?_
      obtain rfl := Option.some.inj hf
      repeat (with_reducible first | refine then_ret ?_ | refine block_ret ?_ | refine qx_ret ?_)
      refine ret_gen ([.int .i64 ((0 : Int))]) hE (by rw [show Tryd.f47.results.toList = [.tmp 2] from rfl]; exact ⟨_, _, rfl, rfl, rfl⟩) ?_
      exact ⟨_, rfl, D24, rfl, hS⟩

set_option maxRecDepth 100000 in
set_option maxHeartbeats 4000000 in
theorem rec_Get.calls {K : Nat} {g w0 : World} {D0 : Snap} {x1 : (List Int)} {A2 : Option Addr} {c3 : Nat} {r : (T_api_Rec × Int)} (hf : rec_Get.f K x1 = some r) (hS0 : St g w0 D0 []) (h4 : Sl (kdInt .u8) D0 A2 c3 (x1)) :
    CallsIn (Fw none) 0 Tryd.prog 23 (List.toArray [.slice A2 (List.length (x1)) c3]) w0 (fun e w' => ∃ v, e = .returned v ∧ ∃ (D1 : Snap) (A43 : Option Addr) (c44 : Nat) (A46 : Option Addr) (c47 : Nat), v = .tuple #[.agg (List.toArray (c_T_api_Rec ((T_api_Rec.mk (r.1.fKind) (r.1.fSaga) (r.1.fSeq) (r.1.fStep) (r.1.fTry) (r.1.fBack) (r.1.fGood) (r.1.fEnd) (r.1.fPart) (r.1.fEpoch) (r.1.fTag) (r.1.fSteps) (r.1.fData) (r.1.fSalt) (r.1.fGone) (r.1.fCom))) A43 c44 A46 c47)), .int .i64 (r.2)] ∧ Stp g w0 D0 [] w' D1 [] ∧ Sl kd_T_api_Step D1 A43 c44 (r.1.fSteps) ∧ Sl (kdInt .u8) D1 A46 c47 (r.1.fData)) := by
  unfold rec_Get.f at hf
  have hS := Stp.refl hS0
  clear hS0
  refine calls_body (n := 18) Tryd.func23 rfl Tryd.ntmps23 rfl (fun a hE => ?_)
  have hE : Env a 18 [] [(0, .slice A2 (List.length (x1)) c3)] := hE
  refine wpIn_seq ?_
  refine region_at ?_
  refine at_op (op_alloc (z := .agg (List.toArray (c_T_api_Rec (z_T_api_Rec) none 0 none 0))) rfl rfl rfl rfl hE rfl hS (by kernel_rfl) (fun a b49 w _ hE hS => ?_)) rfl
  refine segN 1 (j := 2) [(3, .int .i64 ((0 : Int)))] hE (by kernel_rfl) rfl (fun a hE => ?_)
  refine at_end rfl ?_
  refine wpIn_seq ?_
  refine region_at ?_
  refine segN 1 (j := 1) [(7, .slice A2 (List.length (x1)) c3)] hE (by kernel_rfl) rfl (fun a hE => ?_)
  obtain ⟨r51, h52, hf⟩ := bind_some hf
  refine at_op (op_call rfl rfl rfl rfl hE rfl rfl rfl rfl (by kernel_rfl) (wire_Read.calls (g := g) h52 (hS.st.fore (L := [])) h4) (fun a v w hR hE => ?_)) rfl
  obtain ⟨D53, b55, A57, c58, rfl, hS1, h59⟩ := hR
  have le60 := hS1.dle
  have hS := hS.callR hS1 rfl (.c .n)
  clear hS1
  refine segN 1 (j := 3) [(4, .pointer (some ⟨b55, 0, none⟩))] hE (by kernel_rfl) rfl (fun a hE => ?_)
  refine at_end rfl ?_
  refine wpIn_seq ?_
  refine region_at ?_
  refine segN 1 (j := 1) [(9, .pointer (some ⟨b55, 0, none⟩))] hE (by kernel_rfl) rfl (fun a hE => ?_)
  obtain ⟨r61, h62, hf⟩ := bind_some hf
  refine at_op (op_call rfl rfl rfl rfl hE rfl rfl rfl rfl (by kernel_rfl) (rec_Read.calls (g := g) h62 (hS.st.fore (L := [bx b55 66 (c_T_wire_Reader (r51) A57 c58)])) h59) (fun a v w hR hE => ?_)) rfl
  obtain ⟨D63, A65, c66, A68, c69, A71, c72, rfl, hS1, h67, h70, h73⟩ := hR
  have le74 := hS1.dle
  have hS := hS.callR hS1 rfl (.c .n)
  clear hS1
  refine at_op (op_alloc (z := .agg (List.toArray (c_T_api_Rec (z_T_api_Rec) none 0 none 0))) rfl rfl rfl rfl hE rfl hS (by kernel_rfl) (fun a b75 w _ hE hS => ?_)) rfl
  refine at_op (op_store (v := .agg (List.toArray (c_T_api_Rec (r61.1) A65 c66 A68 c69))) (c_T_api_Rec (r61.1) A65 c66 A68 c69) rfl rfl rfl rfl hE hS rfl rfl (by kernel_rfl) (by kernel_rfl) (by kernel_rfl) (by kernel_rfl) (by kernel_rfl) (fun a w _ hE hS => ?_)) rfl
  refine at_end rfl ?_
  refine wpIn_seq ?_
  refine wpIn_seq ?_
  refine region_at ?_
  refine segN 1 (j := 1) [(11, .pointer (some ⟨b55, 0, none⟩))] hE (by kernel_rfl) rfl (fun a hE => ?_)
  have hS := hS.pk (.c 1 rfl (.c 0 rfl (.c 2 rfl .n))) rfl
  obtain ⟨r82, h83, hf⟩ := bind_some hf
  refine at_op (op_call rfl rfl rfl rfl hE rfl rfl rfl rfl (by kernel_rfl) (wire_Reader_Done.calls (g := g) h83 (hS.st.fore (L := [bx b55 66 (c_T_wire_Reader (r61.2) A71 c72)])) h73) (fun a v w hR hE => ?_)) rfl
  obtain ⟨D84, rfl, hS1⟩ := hR
  have le86 := hS1.dle
  have hS := hS.callR hS1 rfl (.c .n)
  clear hS1
  refine segN 1 (j := 3) [(6, .int .i64 (r82))] hE (by kernel_rfl) rfl (fun a hE => ?_)
  refine at_end rfl ?_
  refine wpIn_seq ?_
  refine region_at ?_
  refine segN 2 (j := 2) [(14, .bool ((!decide (r82 = (0 : Int)))))] hE (by kernel_rfl) rfl (fun a hE => ?_)
  refine at_end rfl ?_
  refine cond_split hE (b := (!decide (r82 = (0 : Int)))) rfl (fun hb => ?_) (fun hb => ?_)
  · replace hf := cond_t hb hf
    clear hb
    refine wpIn_seq ?_
    refine region_at ?_
    refine at_op (op_tk hE (tk_build (c_T_api_Rec (z_T_api_Rec) none 0 none 0) rfl rfl rfl rfl hE rfl rfl (by kernel_rfl) (fun a hE => ?_))) rfl
    refine segN 1 (j := 2) [(16, .int .i64 (r82))] hE (by kernel_rfl) rfl (fun a hE => ?_)
    have hS := hS.pk (.c 2 rfl (.c 0 rfl (.c 1 rfl .n))) rfl
    refine at_op (op_store (v := .agg (List.toArray (c_T_api_Rec (z_T_api_Rec) none 0 none 0))) (c_T_api_Rec (z_T_api_Rec) none 0 none 0) rfl rfl rfl rfl hE hS rfl rfl (by kernel_rfl) (by kernel_rfl) (by kernel_rfl) (by kernel_rfl) (by kernel_rfl) (fun a w _ hE hS => ?_)) rfl
    refine segN 1 (j := 4) [(3, .int .i64 (r82))] hE (by kernel_rfl) rfl (fun a hE => ?_)
    refine at_end rfl ?_
    refine wpIn_ret ?_
    obtain rfl := Option.some.inj hf
    repeat (with_reducible first | refine then_ret ?_ | refine block_ret ?_ | refine qx_ret ?_)
    refine ret_gen ([.agg (List.toArray (c_T_api_Rec (z_T_api_Rec) none 0 none 0)), .int .i64 (r82)]) hE (by rw [show Tryd.f23.results.toList = [.cell 2 27, .tmp 3] from rfl]; exact ⟨_, _, _, 0, _, _, rfl, rfl, hS.heapAt (j := 0) rfl, by kernel_rfl, ⟨_, _, rfl, rfl, rfl⟩⟩) ?_
    have hS := hS.pk .n rfl
    exact ⟨_, rfl, D84, none, 0, none, 0, rfl, hS, (Sl.nil kd_T_api_Step D84), (Sl.nil (kdInt .u8) D84)⟩
  · replace hf := cond_f hb hf
    clear hb
    refine wpIn_skip ?_
    refine wpIn_seq ?_
    refine region_at ?_
    refine at_op (op_tk hE (tk_load 1 (.agg (List.toArray (c_T_api_Rec (r61.1) A65 c66 A68 c69))) rfl rfl rfl rfl hE rfl hS rfl rfl (by kernel_rfl) (kL (j := 1) hS rfl List.not_mem_nil) (fun a hE => ?_))) rfl
    have hS := hS.pk (.c 2 rfl (.c 0 rfl (.c 1 rfl .n))) rfl
    refine at_op (op_store (v := .agg (List.toArray (c_T_api_Rec (r61.1) A65 c66 A68 c69))) (c_T_api_Rec (r61.1) A65 c66 A68 c69) rfl rfl rfl rfl hE hS rfl rfl (by kernel_rfl) (by kernel_rfl) (by kernel_rfl) (by kernel_rfl) (by kernel_rfl) (fun a w _ hE hS => ?_)) rfl
    refine segN 1 (j := 3) [(3, .int .i64 ((0 : Int)))] hE (by kernel_rfl) rfl (fun a hE => ?_)
    refine at_end rfl ?_
    refine wpIn_ret ?_
    obtain rfl := Option.some.inj hf
    repeat (with_reducible first | refine then_ret ?_ | refine block_ret ?_ | refine qx_ret ?_)
    refine ret_gen ([.agg (List.toArray (c_T_api_Rec (r61.1) A65 c66 A68 c69)), .int .i64 ((0 : Int))]) hE (by rw [show Tryd.f23.results.toList = [.cell 2 27, .tmp 3] from rfl]; exact ⟨_, _, _, 0, _, _, rfl, rfl, hS.heapAt (j := 0) rfl, by kernel_rfl, ⟨_, _, rfl, rfl, rfl⟩⟩) ?_
    have hS := hS.pk .n rfl
    exact ⟨_, rfl, D84, A65, c66, A68, c69, rfl, hS, (h67.mono le86), (h70.mono le86)⟩

set_option maxRecDepth 100000 in
set_option maxHeartbeats 4000000 in
theorem slices_Clone_api_Step_api_Step.calls {K : Nat} {g w0 : World} {D0 : Snap} {x1 : (List T_api_Step)} {A2 : Option Addr} {c3 : Nat} {r : ((List T_api_Step))} (hf : slices_Clone_api_Step_api_Step.f K x1 = some r) (hS0 : St g w0 D0 []) (h4 : Sl kd_T_api_Step D0 A2 c3 (x1)) :
    CallsIn (Fw none) 0 Tryd.prog 34 (List.toArray [.slice A2 (List.length (x1)) c3]) w0 (fun e w' => ∃ v, e = .returned v ∧ ∃ (D1 : Snap) (A16 : Option Addr) (c17 : Nat) (q18 : Blk), v = .slice A16 (List.length (r)) c17 ∧ Stp g w0 D0 [] w' D1 [q18] ∧ OwnD kd_T_api_Step 37 D1 A16 c17 (r) q18) := by
  unfold slices_Clone_api_Step_api_Step.f at hf
  have hS := Stp.refl hS0
  clear hS0
  refine calls_body (n := 8) Tryd.func34 rfl Tryd.ntmps34 rfl (fun a hE => ?_)
  have hE : Env a 8 [] [(0, .slice A2 (List.length (x1)) c3)] := hE
  refine wpIn_seq ?_
  refine region_at ?_
  refine segN 1 (j := 1) [(2, .slice none 0 0)] hE (by kernel_rfl) rfl (fun a hE => ?_)
  refine at_end rfl ?_
  refine wpIn_seq ?_
  refine wpIn_seq ?_
  refine region_at ?_
  refine segN 1 (j := 1) [(3, .slice A2 (List.length (x1)) c3)] hE (by kernel_rfl) rfl (fun a hE => ?_)
  refine at_op (op_tk hE (tk_bin (r := .bool ((Option.isNone A2))) rfl rfl rfl rfl hE rfl rfl rfl (eqnil_run (by kernel_rfl) _ _ _) (fun a hE => ?_))) rfl
  refine at_end rfl ?_
  refine cond_split hE (b := (Option.isNone A2)) rfl (fun hb => ?_) (fun hb => ?_)
  · have hx := Sl.of_none h4 hb rfl
    clear hb
    rw [hx] at hf
    replace hf : (some ([] : List T_api_Step)) = some r := hf
    refine wpIn_seq ?_
    refine region_at ?_
    refine segN 1 (j := 1) [(2, .slice none 0 0)] hE (by kernel_rfl) rfl (fun a hE => ?_)
    refine at_end rfl ?_
    refine wpIn_ret ?_
    have hS := hS.nils
    obtain rfl := Option.some.inj hf
    repeat (with_reducible first | refine then_ret ?_ | refine block_ret ?_ | refine qx_ret ?_)
    refine ret_gen ([.slice none 0 0]) hE (by rw [show Tryd.f34.results.toList = [.tmp 2] from rfl]; exact ⟨_, _, rfl, rfl, rfl⟩) ?_
    exact ⟨_, rfl, D0, none, 0, none, rfl, hS, (OwnD.nil kd_T_api_Step 37 D0)⟩
  · clear hb
    refine wpIn_skip ?_
    refine wpIn_seq ?_
    refine region_at ?_
    refine at_op (op_buildSlice (K := kd_T_api_Step) (e := 37) (cs := []) ([] : List T_api_Step) rfl rfl rfl rfl hE rfl hS rfl (by kernel_rfl) rfl rfl (by exact (show RL kd_T_api_Step D0 ([] : List T_api_Step) ([]) from rfl)) (fun a A22 q23 w _ hE h24 hS => ?_)) rfl
    refine segN 1 (j := 2) [(6, .slice A2 (List.length (x1)) c3)] hE (by kernel_rfl) rfl (fun a hE => ?_)
    obtain ⟨l26, h27, hf⟩ := bind_some hf
    refine at_op (g_append (K := kd_T_api_Step) (e := 37) (bytes := 16) (l := ([] : List T_api_Step)) (m := x1) rfl rfl rfl rfl hE rfl hS rfl rfl (by kernel_rfl) rfl rfl h24 h4 h27 (fun a A28 c29 q30 w _ hE h31 hS => ?_)) rfl
    refine segN 1 (j := 4) [(2, .slice A28 (List.length (l26)) c29)] hE (by kernel_rfl) rfl (fun a hE => ?_)
    refine at_end rfl ?_
    refine wpIn_ret ?_
    obtain rfl := Option.some.inj hf
    repeat (with_reducible first | refine then_ret ?_ | refine block_ret ?_ | refine qx_ret ?_)
    refine ret_gen ([.slice A28 (List.length (l26)) c29]) hE (by rw [show Tryd.f34.results.toList = [.tmp 2] from rfl]; exact ⟨_, _, rfl, rfl, rfl⟩) ?_
    exact ⟨_, rfl, D0, A28, c29, q30, rfl, hS, h31⟩

set_option maxRecDepth 100000 in
set_option maxHeartbeats 4000000 in
theorem mac_row.calls {K : Nat} {g w0 : World} {D0 : Snap} {x1 : Int} {x2 : Int} {r : ((List Int))} (hf : mac_row.f K x1 x2 = some r) (hS0 : St g w0 D0 []) :
    CallsIn (Fw none) 0 Tryd.prog 63 (List.toArray [.int .u64 (x1), .int .i64 (x2)]) w0 (fun e w' => ∃ v, e = .returned v ∧ ∃ (D1 : Snap) (A184 : Option Addr) (c185 : Nat) (q186 : Blk), v = .slice A184 (List.length (r)) c185 ∧ Stp g w0 D0 [] w' D1 [q186] ∧ OwnD (kdInt .u8) 5 D1 A184 c185 (r) q186) := by
  unfold mac_row.f at hf
  have hS := Stp.refl hS0
  clear hS0
  refine calls_body (n := 26) Tryd.func63 rfl Tryd.ntmps63 rfl (fun a hE => ?_)
  have hE : Env a 26 [] [(0, .int .u64 (x1)), (1, .int .i64 (x2))] := hE
  refine wpIn_seq ?_
  refine region_at ?_
  refine segN 1 (j := 1) [(4, .slice none 0 0)] hE (by kernel_rfl) rfl (fun a hE => ?_)
  refine at_end rfl ?_
  refine wpIn_seq ?_
  refine region_at ?_
  refine segN 1 (j := 1) [(7, .int .i64 (x2))] hE (by kernel_rfl) rfl (fun a hE => ?_)
  obtain ⟨l189, h190, hf⟩ := bind_some hf
  refine at_op (op_makeSlice (K := (kdInt .u8)) (e := 5) (bytes := 1) (z := (0 : Int)) (cz := [.int .u8 ((0 : Int))]) rfl rfl rfl rfl hE rfl hS rfl rfl (by kernel_rfl) (by kernel_rfl) rfl rfl rfl h190 (fun a A191 c192 q193 w _ hE h194 hS => ?_)) rfl
  refine segN 1 (j := 3) [(5, .slice A191 (List.length (l189)) c192)] hE (by kernel_rfl) rfl (fun a hE => ?_)
  refine at_end rfl ?_
  refine wpIn_seq ?_
  refine wpIn_seq ?_
  refine region_at ?_
  refine segN 3 (j := 3) [(10, .int .i64 (((List.length (l189) : Nat) : Int))), (11, .int .i64 ((0 : Int)))] hE (by kernel_rfl) rfl (fun a hE => ?_)
  refine at_end rfl ?_
  obtain ⟨s354, hf, hs355⟩ := bind_some hf
  refine block_loop (fun a w => ∃ (z346 : (List Int)), ∃ (q351 : Blk), ∃ (D347 : Snap), Env a 26 [] [(5, .slice A191 (List.length (z346)) c192)] ∧ Stp g w0 D0 [] w D347 [q351] ∧ Snap.le D0 D347 ∧ OwnD (kdInt .u8) 5 D347 A191 c192 (z346) q351 ∧ z346 = s354) (fun k a w => ∃ (y316 : Int × (List Int) × Int), ∃ (q321 : Blk), ∃ (D317 : Snap), Env a 26 [] [(0, .int .u64 (y316.1)), (1, .int .i64 (x2)), (5, .slice A191 (List.length (y316.2.1)) c192), (10, .int .i64 (((List.length (l189) : Nat) : Int))), (11, .int .i64 (y316.2.2))] ∧ Stp g w0 D0 [] w D317 [q321] ∧ Snap.le D0 D317 ∧ OwnD (kdInt .u8) 5 D317 A191 c192 (y316.2.1) q321 ∧ mac_row_l1.l K x2 l189 k y316 = some s354) K ?_ ?_ ?_
  · exact ⟨(x1, l189, (0 : Int)), q193, D0, hE.weak (by kernel_rfl), hS, Snap.le.refl _, h194, hf⟩
  · clear hE hS hf
    rintro a w ⟨z346, q351, D347, hE, hS, le348, h352, rfl⟩
    have hf := hs355
    clear hs355
    refine wpIn_seq ?_
    refine region_at ?_
    refine segN 2 (j := 2) [(4, .slice A191 (List.length (z346)) c192)] hE (by kernel_rfl) rfl (fun a hE => ?_)
    refine at_end rfl ?_
    refine wpIn_ret ?_
    obtain rfl := Option.some.inj hf
    repeat (with_reducible first | refine then_ret ?_ | refine block_ret ?_ | refine qx_ret ?_)
    refine ret_gen ([.slice A191 (List.length (z346)) c192]) hE (by rw [show Tryd.f63.results.toList = [.tmp 4] from rfl]; exact ⟨_, _, rfl, rfl, rfl⟩) ?_
    exact ⟨_, rfl, D347, A191, c192, q351, rfl, hS, h352⟩
  · clear hE hS hf
    rintro k a w ⟨y316, q321, D317, hE, hS, le318, h322, hf⟩
    obtain ⟨k, rfl, hf⟩ := mac_row_l1.some _ _ hf
    refine ⟨k, rfl, ?_⟩
    unfold mac_row_l1.b at hf
    refine wpIn_seq ?_
    refine region_at ?_
    refine segN 1 (j := 1) [(12, .bool ((decide (y316.2.2 < ((List.length (l189) : Nat) : Int)))))] hE (by kernel_rfl) rfl (fun a hE => ?_)
    refine at_end rfl ?_
    refine wpIn_seq ?_
    refine cond_split hE (b := (decide (y316.2.2 < ((List.length (l189) : Nat) : Int)))) rfl (fun hb => ?_) (fun hb => ?_)
    · replace hf := cond_t hb hf
      clear hb
      refine wpIn_skip ?_
      refine wpIn_seq ?_
      refine wpIn_block ?_
      refine wpIn_seq ?_
      refine region_at ?_
      refine segN 2 (j := 2) [(6, .int .i64 (y316.2.2))] hE (by kernel_rfl) rfl (fun a hE => ?_)
      refine at_end rfl ?_
      refine wpIn_seq ?_
      refine region_at ?_
      refine segN 7 (j := 7) [(14, .slice A191 (List.length (y316.2.1)) c192), (18, .int .i64 ((IntKind.wrap .i64 ((IntKind.wrap .i64 (x2 - (1 : Int))) - y316.2.2)))), (20, .int .u8 ((IntKind.wrap .u8 y316.1)))] hE (by kernel_rfl) rfl (fun a hE => ?_)
      obtain ⟨x363, h364, hf⟩ := bind_some hf
      refine at_op (op_tk hE (tk_indexO (K := (kdInt .u8)) (T := 5) (by_ := 1) (zl := 1) rfl rfl rfl rfl hE rfl rfl rfl (by kernel_rfl) h322 h364 (fun a b365 u366 hq hE => ?_))) rfl
      subst hq
      refine at_op (op_storeO (K := (kdInt .u8)) (T := 5) (l := y316.2.1) ((IntKind.wrap .u8 y316.1)) rfl rfl rfl rfl hE hS h322 rfl rfl (inI_of h364) (rfl) (by kernel_rfl) (by kernel_rfl) (fun a u367 w _ hE h368 hS => ?_)) rfl
      have hE : Env a 26 [] [(0, .int .u64 (y316.1)), (1, .int .i64 (x2)), (5, .slice A191 (List.length ((List.set (y316.2.1) (Int.toNat ((IntKind.wrap .i64 ((IntKind.wrap .i64 (x2 - (1 : Int))) - y316.2.2)))) ((IntKind.wrap .u8 y316.1))))) c192), (6, .int .i64 (y316.2.2)), (10, .int .i64 (((List.length (l189) : Nat) : Int))), (11, .int .i64 (y316.2.2)), (12, .bool ((decide (y316.2.2 < ((List.length (l189) : Nat) : Int))))), (14, .slice A191 (List.length ((List.set (y316.2.1) (Int.toNat ((IntKind.wrap .i64 ((IntKind.wrap .i64 (x2 - (1 : Int))) - y316.2.2)))) ((IntKind.wrap .u8 y316.1))))) c192), (18, .int .i64 ((IntKind.wrap .i64 ((IntKind.wrap .i64 (x2 - (1 : Int))) - y316.2.2)))), (20, .int .u8 ((IntKind.wrap .u8 y316.1))), (21, .pointer (some ⟨b365, Int.toNat ((IntKind.wrap .i64 ((IntKind.wrap .i64 (x2 - (1 : Int))) - y316.2.2))) * 1, none⟩))] := by have h := hE.weak (E' := [(0, .int .u64 (y316.1)), (1, .int .i64 (x2)), (5, .slice A191 (List.length (y316.2.1)) c192), (6, .int .i64 (y316.2.2)), (10, .int .i64 (((List.length (l189) : Nat) : Int))), (11, .int .i64 (y316.2.2)), (12, .bool ((decide (y316.2.2 < ((List.length (l189) : Nat) : Int))))), (14, .slice A191 (List.length (y316.2.1)) c192), (18, .int .i64 ((IntKind.wrap .i64 ((IntKind.wrap .i64 (x2 - (1 : Int))) - y316.2.2)))), (20, .int .u8 ((IntKind.wrap .u8 y316.1))), (21, .pointer (some ⟨b365, Int.toNat ((IntKind.wrap .i64 ((IntKind.wrap .i64 (x2 - (1 : Int))) - y316.2.2))) * 1, none⟩))]) (by kernel_rfl); simpa only [List.length_set] using h
      refine at_end rfl ?_
      refine region_at ?_
      refine segN 3 (j := 3) [(0, .int .u64 ((Int.fdiv y316.1 (2 ^ 8))))] hE (by kernel_rfl) rfl (fun a hE => ?_)
      refine at_end rfl ?_
      refine region_at ?_
      refine segN 2 (j := 2) [(11, .int .i64 ((IntKind.wrap .i64 (y316.2.2 + (1 : Int)))))] hE (by kernel_rfl) rfl (fun a hE => ?_)
      refine at_end rfl ?_
      exact ⟨((Int.fdiv y316.1 (2 ^ 8)), (List.set (y316.2.1) (Int.toNat ((IntKind.wrap .i64 ((IntKind.wrap .i64 (x2 - (1 : Int))) - y316.2.2)))) ((IntKind.wrap .u8 y316.1))), (IntKind.wrap .i64 (y316.2.2 + (1 : Int)))), (some (b365, u367)), D317, hE.weak (by kernel_rfl), hS, le318, h368, hf⟩
    · replace hf := cond_f hb hf
      clear hb
      refine wpIn_exit ?_
      obtain rfl := Option.some.inj hf
      exact ⟨y316.2.1, q321, D317, hE.weak (by kernel_rfl), hS, le318, h322, rfl⟩

set_option maxRecDepth 100000 in
set_option maxHeartbeats 4000000 in
theorem mac_Of_1.calls {K : Nat} {g w0 : World} {D0 : Snap} {x1 : (List Int)} {A2 : Option Addr} {c3 : Nat} {r : ((List Int))} (hf : mac_Of_1.f K x1 = some r) (hS0 : St g w0 D0 []) (h4 : Sl (kdInt .u8) D0 A2 c3 (x1)) :
    CallsIn (Fw none) 0 Tryd.prog 62 (List.toArray [.slice A2 (List.length (x1)) c3]) w0 (fun e w' => ∃ v, e = .returned v ∧ ∃ (D1 : Snap) (A39 : Option Addr) (c40 : Nat) (q41 : Blk), v = .slice A39 (List.length (r)) c40 ∧ Stp g w0 D0 [] w' D1 [q41] ∧ OwnD (kdInt .u8) 5 D1 A39 c40 (r) q41) := by
  unfold mac_Of_1.f at hf
  have hS := Stp.refl hS0
  clear hS0
  refine calls_body (n := 10) Tryd.func62 rfl Tryd.ntmps62 rfl (fun a hE => ?_)
  have hE : Env a 10 [] [(0, .slice A2 (List.length (x1)) c3)] := hE
  refine wpIn_seq ?_
  refine region_at ?_
  refine segN 1 (j := 1) [(2, .slice none 0 0)] hE (by kernel_rfl) rfl (fun a hE => ?_)
  refine at_end rfl ?_
  refine wpIn_seq ?_
  refine region_at ?_
  refine segN 3 (j := 3) [(5, .int .u64 ((IntKind.wrap .u64 ((List.length (x1) : Nat) : Int))))] hE (by kernel_rfl) rfl (fun a hE => ?_)
  obtain ⟨r44, h45, hf⟩ := bind_some hf
  refine at_op (op_call rfl rfl rfl rfl hE rfl rfl rfl rfl (by kernel_rfl) (mac_row.calls (g := g) h45 (hS.st.fore (L := [])) ) (fun a v w hR hE => ?_)) rfl
  obtain ⟨D46, A48, c49, q50, rfl, hS1, h51⟩ := hR
  have le53 := hS1.dle
  have hS := hS.callR hS1 rfl (.c .n)
  clear hS1
  refine segN 1 (j := 5) [(7, .slice A2 (List.length (x1)) c3)] hE (by kernel_rfl) rfl (fun a hE => ?_)
  obtain ⟨D54, q57, le55, hS, h58, h56⟩ := hS.lent h51
  refine at_op (op_buildSlice (K := (kdSlice (kdInt .u8))) (e := 25) (cs := [.slice A48 (List.length (r44)) c49] ++ ([.slice A2 (List.length (x1)) c3] ++ [])) ([r44, x1] : List (List Int)) rfl rfl rfl rfl hE rfl hS rfl (by kernel_rfl) rfl rfl (by exact (show RL (kdSlice (kdInt .u8)) D54 ([r44, x1] : List (List Int)) ([.slice A48 (List.length (r44)) c49] ++ ([.slice A2 (List.length (x1)) c3] ++ [])) from ⟨_, _, rfl, (kslice h56), ⟨_, _, rfl, (kslice (h4.mono (Snap.le.trans le53 le55))), rfl⟩⟩)) (fun a A59 q60 w _ hE h61 hS => ?_)) rfl
  obtain ⟨D63, q66, le64, hS, h67, h65⟩ := hS.lent h61
  obtain ⟨r68, h69, hf⟩ := bind_some hf
  refine at_op (op_call rfl rfl rfl rfl hE rfl rfl rfl rfl (by kernel_rfl) (slices_Concat_byte_byte.calls (g := g) h69 (hS.st.fore (L := [])) h65) (fun a v w hR hE => ?_)) rfl
  obtain ⟨D70, A72, c73, q74, rfl, hS1, h75⟩ := hR
  have le77 := hS1.dle
  have hS := hS.callR hS1 rfl (.c .n)
  clear hS1
  refine segN 1 (j := 8) [(2, .slice A72 (List.length (r68)) c73)] hE (by kernel_rfl) rfl (fun a hE => ?_)
  refine at_end rfl ?_
  refine wpIn_ret ?_
  obtain rfl := Option.some.inj hf
  repeat (with_reducible first | refine then_ret ?_ | refine block_ret ?_ | refine qx_ret ?_)
  refine ret_gen ([.slice A72 (List.length (r68)) c73]) hE (by rw [show Tryd.f62.results.toList = [.tmp 2] from rfl]; exact ⟨_, _, rfl, rfl, rfl⟩) ?_
  have hS := hS.pk (.c 0 rfl .n) rfl
  exact ⟨_, rfl, D70, A72, c73, q74, rfl, hS, h75⟩

set_option maxRecDepth 100000 in
set_option maxHeartbeats 4000000 in
theorem mac_joined_byte.calls {K : Nat} {g w0 : World} {D0 : Snap} {x1 : (List (List Int))} {A2 : Option Addr} {c3 : Nat} {r : ((List Int))} (hf : mac_joined_byte.f K x1 = some r) (hS0 : St g w0 D0 []) (h4 : Sl (kdSlice (kdInt .u8)) D0 A2 c3 (x1)) :
    CallsIn (Fw none) 0 Tryd.prog 61 (List.toArray [.slice A2 (List.length (x1)) c3, .func (.func 62) #[] #[]]) w0 (fun e w' => ∃ v, e = .returned v ∧ ∃ (D1 : Snap) (A541 : Option Addr) (c542 : Nat) (q543 : Blk), v = .slice A541 (List.length (r)) c542 ∧ Stp g w0 D0 [] w' D1 [q543] ∧ OwnD (kdInt .u8) 5 D1 A541 c542 (r) q543) := by
  unfold mac_joined_byte.f at hf
  have hS := Stp.refl hS0
  clear hS0
  refine calls_body (n := 21) Tryd.func61 rfl Tryd.ntmps61 rfl (fun a hE => ?_)
  have hE : Env a 21 [] [(0, .slice A2 (List.length (x1)) c3), (1, .func (.func 62) #[] #[])] := hE
  refine wpIn_seq ?_
  refine region_at ?_
  refine segN 1 (j := 1) [(4, .slice none 0 0)] hE (by kernel_rfl) rfl (fun a hE => ?_)
  refine at_end rfl ?_
  refine wpIn_seq ?_
  refine region_at ?_
  refine segN 1 (j := 1) [(5, .slice none 0 0)] hE (by kernel_rfl) rfl (fun a hE => ?_)
  refine at_end rfl ?_
  refine wpIn_seq ?_
  refine wpIn_seq ?_
  refine region_at ?_
  refine segN 3 (j := 3) [(8, .slice A2 (List.length (x1)) c3), (9, .int .i64 (((List.length (x1) : Nat) : Int))), (10, .int .i64 ((0 : Int)))] hE (by kernel_rfl) rfl (fun a hE => ?_)
  refine at_end rfl ?_
  obtain ⟨s1005, hf, hs1006⟩ := bind_some hf
  have hS := hS.nils
  refine block_loop (fun a w => ∃ (z997 : (List Int)), ∃ (A1000 : Option Addr), ∃ (c1001 : Nat), ∃ (q1002 : Blk), ∃ (D998 : Snap), Env a 21 [] [(5, .slice A1000 (List.length (z997)) c1001)] ∧ Stp g w0 D0 [] w D998 [q1002] ∧ Snap.le D0 D998 ∧ OwnD (kdInt .u8) 5 D998 A1000 c1001 (z997) q1002 ∧ z997 = s1005) (fun k a w => ∃ (y907 : (List Int) × Int), ∃ (A910 : Option Addr), ∃ (c911 : Nat), ∃ (q912 : Blk), ∃ (D908 : Snap), Env a 21 [] [(1, .func (.func 62) #[] #[]), (5, .slice A910 (List.length (y907.1)) c911), (8, .slice A2 (List.length (x1)) c3), (9, .int .i64 (((List.length (x1) : Nat) : Int))), (10, .int .i64 (y907.2))] ∧ Stp g w0 D0 [] w D908 [q912] ∧ Snap.le D0 D908 ∧ OwnD (kdInt .u8) 5 D908 A910 c911 (y907.1) q912 ∧ mac_joined_byte_l1.l K x1 k y907 = some s1005) K ?_ ?_ ?_
  · exact ⟨(([] : List Int), (0 : Int)), none, 0, none, D0, hE.weak (by kernel_rfl), hS, Snap.le.refl _, (OwnD.nil (kdInt .u8) 5 D0), hf⟩
  · clear hE hS hf
    rintro a w ⟨z997, A1000, c1001, q1002, D998, hE, hS, le999, h1003, rfl⟩
    have hf := hs1006
    clear hs1006
    refine wpIn_seq ?_
    refine region_at ?_
    refine segN 2 (j := 2) [(4, .slice A1000 (List.length (z997)) c1001)] hE (by kernel_rfl) rfl (fun a hE => ?_)
    refine at_end rfl ?_
    refine wpIn_ret ?_
    obtain rfl := Option.some.inj hf
    repeat (with_reducible first | refine then_ret ?_ | refine block_ret ?_ | refine qx_ret ?_)
    refine ret_gen ([.slice A1000 (List.length (z997)) c1001]) hE (by rw [show Tryd.f61.results.toList = [.tmp 4] from rfl]; exact ⟨_, _, rfl, rfl, rfl⟩) ?_
    exact ⟨_, rfl, D998, A1000, c1001, q1002, rfl, hS, h1003⟩
  · clear hE hS hf
    rintro k a w ⟨y907, A910, c911, q912, D908, hE, hS, le909, h913, hf⟩
    obtain ⟨k, rfl, hf⟩ := mac_joined_byte_l1.some _ hf
    refine ⟨k, rfl, ?_⟩
    unfold mac_joined_byte_l1.b at hf
    refine wpIn_seq ?_
    refine region_at ?_
    refine segN 1 (j := 1) [(11, .bool ((decide (y907.2 < ((List.length (x1) : Nat) : Int)))))] hE (by kernel_rfl) rfl (fun a hE => ?_)
    refine at_end rfl ?_
    refine wpIn_seq ?_
    refine cond_split hE (b := (decide (y907.2 < ((List.length (x1) : Nat) : Int)))) rfl (fun hb => ?_) (fun hb => ?_)
    · replace hf := cond_t hb hf
      clear hb
      refine wpIn_skip ?_
      refine wpIn_seq ?_
      refine wpIn_block ?_
      refine wpIn_seq ?_
      refine region_at ?_
      obtain ⟨x1044, h1045, hf⟩ := bind_some hf
      refine at_op (op_tk hE (g_index (K := (kdSlice (kdInt .u8))) (e := 25) (by_ := 24) (zl := 1) rfl rfl rfl rfl hE rfl rfl rfl (by kernel_rfl) rfl (h4.mono le909) h1045 (fun a b1046 o1047 hE h1048 => ?_))) rfl
      obtain ⟨cs1049, C1050, T1051, fr1052, hr1053, hb1054, hc1055⟩ := h1048
      obtain ⟨A1056, c1057, rfl, h1058⟩ := hr1053
      refine at_op (op_tk hE (tk_loadX (off0 := o1047) (off := 0) (c := [.slice A1056 (List.length (x1044)) c1057]) (.slice A1056 (List.length (x1044)) c1057) rfl rfl rfl rfl hE rfl hS rfl hb1054 hc1055 (by kernel_rfl) (by kernel_rfl) (kD hS dn_nil) (fun a hE => ?_))) rfl
      refine segN 1 (j := 3) [(7, .slice A1056 (List.length (x1044)) c1057)] hE (by kernel_rfl) rfl (fun a hE => ?_)
      refine at_end rfl ?_
      refine region_at ?_
      refine segN 3 (j := 3) [(14, .slice A910 (List.length (y907.1)) c911), (15, .func (.func 62) #[] #[]), (16, .slice A1056 (List.length (x1044)) c1057)] hE (by kernel_rfl) rfl (fun a hE => ?_)
      obtain ⟨r1059, h1060, hf⟩ := bind_some hf
      refine at_op (op_call rfl rfl rfl rfl hE rfl rfl rfl rfl (by kernel_rfl) (mac_Of_1.calls (g := g) h1060 (hS.st.fore (L := [])) h1058) (fun a v w hR hE => ?_)) rfl
      obtain ⟨D1061, A1063, c1064, q1065, rfl, hS1, h1066⟩ := hR
      have le1068 := hS1.dle
      have hS := hS.callR hS1 rfl (.c .n)
      clear hS1
      obtain ⟨D1069, q1072, le1070, hS, h1073, h1071⟩ := hS.lent h1066
      have hS := hS.pk (.c 1 rfl (.c 0 rfl .n)) rfl
      obtain ⟨l1074, h1075, hf⟩ := bind_some hf
      refine at_op (g_append (K := (kdInt .u8)) (e := 5) (bytes := 1) (l := y907.1) (m := r1059) rfl rfl rfl rfl hE rfl hS rfl rfl (by kernel_rfl) rfl rfl (h913.mono (Snap.le.trans le1068 le1070)) h1071 h1075 (fun a A1076 c1077 q1078 w _ hE h1079 hS => ?_)) rfl
      refine segN 1 (j := 6) [(5, .slice A1076 (List.length (l1074)) c1077)] hE (by kernel_rfl) rfl (fun a hE => ?_)
      refine at_end rfl ?_
      refine region_at ?_
      refine segN 2 (j := 2) [(10, .int .i64 ((IntKind.wrap .i64 (y907.2 + (1 : Int)))))] hE (by kernel_rfl) rfl (fun a hE => ?_)
      refine at_end rfl ?_
      have hS := hS.pk (.c 0 rfl .n) rfl
      exact ⟨(l1074, (IntKind.wrap .i64 (y907.2 + (1 : Int)))), A1076, c1077, q1078, D1069, hE.weak (by kernel_rfl), hS, (Snap.le.trans (Snap.le.trans le909 le1068) le1070), h1079, hf⟩
    · replace hf := cond_f hb hf
      clear hb
      refine wpIn_exit ?_
      obtain rfl := Option.some.inj hf
      exact ⟨y907.1, A910, c911, q912, D908, hE.weak (by kernel_rfl), hS, le909, h913, rfl⟩

set_option maxRecDepth 100000 in
set_option maxHeartbeats 4000000 in
theorem sha_Fill.calls {K : Nat} {g w0 : World} {D0 : Snap} {x1 : Int} {r : ((List Int))} (hf : sha_Fill.f K x1 = some r) (hS0 : St g w0 D0 []) :
    CallsIn (Fw none) 0 Tryd.prog 79 (List.toArray [.int .i64 (x1)]) w0 (fun e w' => ∃ v, e = .returned v ∧ ∃ (D1 : Snap) (A486 : Option Addr) (c487 : Nat) (q488 : Blk), v = .slice A486 (List.length (r)) c487 ∧ Stp g w0 D0 [] w' D1 [q488] ∧ OwnD (kdInt .u8) 5 D1 A486 c487 (r) q488) := by
  unfold sha_Fill.f at hf
  have hS := Stp.refl hS0
  clear hS0
  refine calls_body (n := 34) Tryd.func79 rfl Tryd.ntmps79 rfl (fun a hE => ?_)
  have hE : Env a 34 [] [(0, .int .i64 (x1))] := hE
  refine wpIn_seq ?_
  refine region_at ?_
  refine segN 1 (j := 1) [(2, .slice none 0 0)] hE (by kernel_rfl) rfl (fun a hE => ?_)
  refine at_end rfl ?_
  refine wpIn_seq ?_
  refine wpIn_seq ?_
  refine region_at ?_
  refine segN 2 (j := 2) [(7, .bool ((decide (x1 < (0 : Int)))))] hE (by kernel_rfl) rfl (fun a hE => ?_)
  refine at_end rfl ?_
  refine cond_split hE (b := (decide (x1 < (0 : Int)))) rfl (fun hb => ?_) (fun hb => ?_)
  · replace hf := cond_t hb hf
    clear hb
    refine wpIn_seq ?_
    refine region_at ?_
    refine segN 1 (j := 1) [(2, .slice none 0 0)] hE (by kernel_rfl) rfl (fun a hE => ?_)
    refine at_end rfl ?_
    refine wpIn_ret ?_
    have hS := hS.nils
    obtain rfl := Option.some.inj hf
    repeat (with_reducible first | refine then_ret ?_ | refine block_ret ?_ | refine qx_ret ?_)
    refine ret_gen ([.slice none 0 0]) hE (by rw [show Tryd.f79.results.toList = [.tmp 2] from rfl]; exact ⟨_, _, rfl, rfl, rfl⟩) ?_
    exact ⟨_, rfl, D0, none, 0, none, rfl, hS, (OwnD.nil (kdInt .u8) 5 D0)⟩
  · replace hf := cond_f hb hf
    clear hb
    refine wpIn_skip ?_
    refine wpIn_seq ?_
    refine region_at ?_
    refine at_op (op_buildSlice (K := (kdInt .u8)) (e := 5) (cs := [.int .u8 ((128 : Int))] ++ []) ([(128 : Int)] : List Int) rfl rfl rfl rfl hE rfl hS rfl (by kernel_rfl) rfl rfl (by exact (show RL (kdInt .u8) D0 ([(128 : Int)] : List Int) ([.int .u8 ((128 : Int))] ++ []) from ⟨_, _, rfl, rfl, rfl⟩)) (fun a A492 q493 w _ hE h494 hS => ?_)) rfl
    refine segN 1 (j := 2) [(3, .slice A492 (List.length (([(128 : Int)] : List Int))) 1)] hE (by kernel_rfl) rfl (fun a hE => ?_)
    refine at_end rfl ?_
    refine wpIn_seq ?_
    obtain ⟨s664, hf, hs665⟩ := bind_some hf
    refine block_loop (fun a w => ∃ (z656 : (List Int)), ∃ (A659 : Option Addr), ∃ (c660 : Nat), ∃ (q661 : Blk), ∃ (D657 : Snap), Env a 34 [] [(0, .int .i64 (x1)), (3, .slice A659 (List.length (z656)) c660)] ∧ Stp g w0 D0 [] w D657 [q661] ∧ Snap.le D0 D657 ∧ OwnD (kdInt .u8) 5 D657 A659 c660 (z656) q661 ∧ z656 = s664) (fun k a w => ∃ (y624 : (List Int)), ∃ (A627 : Option Addr), ∃ (c628 : Nat), ∃ (q629 : Blk), ∃ (D625 : Snap), Env a 34 [] [(0, .int .i64 (x1)), (3, .slice A627 (List.length (y624)) c628)] ∧ Stp g w0 D0 [] w D625 [q629] ∧ Snap.le D0 D625 ∧ OwnD (kdInt .u8) 5 D625 A627 c628 (y624) q629 ∧ sha_Fill_l1.l K x1 k y624 = some s664) K ?_ ?_ ?_
    · exact ⟨([(128 : Int)] : List Int), A492, 1, q493, D0, hE.weak (by kernel_rfl), hS, Snap.le.refl _, h494, hf⟩
    · clear hE hS hf
      rintro a w ⟨z656, A659, c660, q661, D657, hE, hS, le658, h662, rfl⟩
      have hf := hs665
      clear hs665
      refine wpIn_seq ?_
      refine region_at ?_
      refine segN 4 (j := 4) [(4, .int .u64 ((IntKind.wrap .u64 ((IntKind.wrap .u64 x1) * (8 : Int)))))] hE (by kernel_rfl) rfl (fun a hE => ?_)
      refine at_end rfl ?_
      refine wpIn_seq ?_
      refine wpIn_seq ?_
      refine region_at ?_
      refine segN 1 (j := 1) [(5, .int .i64 ((7 : Int)))] hE (by kernel_rfl) rfl (fun a hE => ?_)
      refine at_end rfl ?_
      obtain ⟨s940, hf, hs941⟩ := bind_some hf
      refine block_loop (fun a w => ∃ (z932 : (List Int)), ∃ (A935 : Option Addr), ∃ (c936 : Nat), ∃ (q937 : Blk), ∃ (D933 : Snap), Env a 34 [] [(3, .slice A935 (List.length (z932)) c936)] ∧ Stp g w0 D0 [] w D933 [q937] ∧ Snap.le D657 D933 ∧ OwnD (kdInt .u8) 5 D933 A935 c936 (z932) q937 ∧ z932 = s940) (fun k a w => ∃ (y882 : (List Int) × Int), ∃ (A885 : Option Addr), ∃ (c886 : Nat), ∃ (q887 : Blk), ∃ (D883 : Snap), Env a 34 [] [(3, .slice A885 (List.length (y882.1)) c886), (4, .int .u64 ((IntKind.wrap .u64 ((IntKind.wrap .u64 x1) * (8 : Int))))), (5, .int .i64 (y882.2))] ∧ Stp g w0 D0 [] w D883 [q887] ∧ Snap.le D657 D883 ∧ OwnD (kdInt .u8) 5 D883 A885 c886 (y882.1) q887 ∧ sha_Fill_l2.l K x1 k y882 = some s940) K ?_ ?_ ?_
      · exact ⟨(z656, (7 : Int)), A659, c660, q661, D657, hE.weak (by kernel_rfl), hS, Snap.le.refl _, h662, hf⟩
      · clear hE hS hf
        rintro a w ⟨z932, A935, c936, q937, D933, hE, hS, le934, h938, rfl⟩
        have hf := hs941
        clear hs941
        refine wpIn_seq ?_
        refine region_at ?_
        refine segN 2 (j := 2) [(2, .slice A935 (List.length (z932)) c936)] hE (by kernel_rfl) rfl (fun a hE => ?_)
        refine at_end rfl ?_
        refine wpIn_ret ?_
        obtain rfl := Option.some.inj hf
        repeat (with_reducible first | refine then_ret ?_ | refine block_ret ?_ | refine qx_ret ?_)
        refine ret_gen ([.slice A935 (List.length (z932)) c936]) hE (by rw [show Tryd.f79.results.toList = [.tmp 2] from rfl]; exact ⟨_, _, rfl, rfl, rfl⟩) ?_
        exact ⟨_, rfl, D933, A935, c936, q937, rfl, hS, h938⟩
      · clear hE hS hf
        rintro k a w ⟨y882, A885, c886, q887, D883, hE, hS, le884, h888, hf⟩
        obtain ⟨k, rfl, hf⟩ := sha_Fill_l2.some _ hf
        refine ⟨k, rfl, ?_⟩
        unfold sha_Fill_l2.b at hf
        refine wpIn_seq ?_
        refine wpIn_seq ?_
        refine region_at ?_
        refine segN 2 (j := 2) [(22, .bool ((decide ((0 : Int) ≤ y882.2))))] hE (by kernel_rfl) rfl (fun a hE => ?_)
        refine at_end rfl ?_
        refine cond_split hE (b := (decide ((0 : Int) ≤ y882.2))) rfl (fun hb => ?_) (fun hb => ?_)
        · replace hf := cond_t hb hf
          clear hb
          refine wpIn_skip ?_
          refine wpIn_seq ?_
          refine wpIn_block ?_
          refine region_at ?_
          refine segN 4 (j := 4) [(25, .slice A885 (List.length (y882.1)) c886), (26, .int .u64 ((IntKind.wrap .u64 ((IntKind.wrap .u64 x1) * (8 : Int))))), (28, .int .i64 ((IntKind.wrap .i64 ((8 : Int) * y882.2))))] hE (by kernel_rfl) rfl (fun a hE => ?_)
          obtain ⟨hq959, hf⟩ := chk_not hf
          refine at_op (op_tk hE (tk_bin (r := .int .u64 ((Int.fdiv (IntKind.wrap .u64 ((IntKind.wrap .u64 x1) * (8 : Int))) (2 ^ (min (Int.toNat (IntKind.wrap .i64 ((8 : Int) * y882.2))) 64))))) rfl rfl rfl rfl hE rfl rfl rfl (shr_run hq959) (fun a hE => ?_))) rfl
          refine segN 1 (j := 6) [(30, .int .u8 ((IntKind.wrap .u8 (Int.fdiv (IntKind.wrap .u64 ((IntKind.wrap .u64 x1) * (8 : Int))) (2 ^ (min (Int.toNat (IntKind.wrap .i64 ((8 : Int) * y882.2))) 64))))))] hE (by kernel_rfl) rfl (fun a hE => ?_)
          refine at_op (op_buildSlice (K := (kdInt .u8)) (e := 5) (cs := [.int .u8 ((IntKind.wrap .u8 (Int.fdiv (IntKind.wrap .u64 ((IntKind.wrap .u64 x1) * (8 : Int))) (2 ^ (min (Int.toNat (IntKind.wrap .i64 ((8 : Int) * y882.2))) 64)))))] ++ []) ([(IntKind.wrap .u8 (Int.fdiv (IntKind.wrap .u64 ((IntKind.wrap .u64 x1) * (8 : Int))) (2 ^ (min (Int.toNat (IntKind.wrap .i64 ((8 : Int) * y882.2))) 64))))] : List Int) rfl rfl rfl rfl hE rfl hS rfl (by kernel_rfl) rfl rfl (by exact (show RL (kdInt .u8) D883 ([(IntKind.wrap .u8 (Int.fdiv (IntKind.wrap .u64 ((IntKind.wrap .u64 x1) * (8 : Int))) (2 ^ (min (Int.toNat (IntKind.wrap .i64 ((8 : Int) * y882.2))) 64))))] : List Int) ([.int .u8 ((IntKind.wrap .u8 (Int.fdiv (IntKind.wrap .u64 ((IntKind.wrap .u64 x1) * (8 : Int))) (2 ^ (min (Int.toNat (IntKind.wrap .i64 ((8 : Int) * y882.2))) 64)))))] ++ []) from ⟨_, _, rfl, rfl, rfl⟩)) (fun a A960 q961 w _ hE h962 hS => ?_)) rfl
          obtain ⟨D964, q967, le965, hS, h968, h966⟩ := hS.lent h962
          have hS := hS.pk (.c 1 rfl (.c 0 rfl .n)) rfl
          obtain ⟨l969, h970, hf⟩ := bind_some hf
          refine at_op (g_append (K := (kdInt .u8)) (e := 5) (bytes := 1) (l := y882.1) (m := ([(IntKind.wrap .u8 (Int.fdiv (IntKind.wrap .u64 ((IntKind.wrap .u64 x1) * (8 : Int))) (2 ^ (min (Int.toNat (IntKind.wrap .i64 ((8 : Int) * y882.2))) 64))))] : List Int)) rfl rfl rfl rfl hE rfl hS rfl rfl (by kernel_rfl) rfl rfl (h888.mono le965) h966 h970 (fun a A971 c972 q973 w _ hE h974 hS => ?_)) rfl
          refine segN 1 (j := 9) [(3, .slice A971 (List.length (l969)) c972)] hE (by kernel_rfl) rfl (fun a hE => ?_)
          refine at_end rfl ?_
          refine region_at ?_
          refine segN 3 (j := 3) [(5, .int .i64 ((IntKind.wrap .i64 (y882.2 - (1 : Int)))))] hE (by kernel_rfl) rfl (fun a hE => ?_)
          refine at_end rfl ?_
          have hS := hS.pk (.c 0 rfl .n) rfl
          exact ⟨(l969, (IntKind.wrap .i64 (y882.2 - (1 : Int)))), A971, c972, q973, D964, hE.weak (by kernel_rfl), hS, (Snap.le.trans le884 le965), h974, hf⟩
        · replace hf := cond_f hb hf
          clear hb
          refine wpIn_exit ?_
          obtain rfl := Option.some.inj hf
          exact ⟨y882.1, A885, c886, q887, D883, hE.weak (by kernel_rfl), hS, le884, h888, rfl⟩
    · clear hE hS hf
      rintro k a w ⟨y624, A627, c628, q629, D625, hE, hS, le626, h630, hf⟩
      obtain ⟨k, rfl, hf⟩ := sha_Fill_l1.some _ hf
      refine ⟨k, rfl, ?_⟩
      unfold sha_Fill_l1.b at hf
      refine wpIn_seq ?_
      refine wpIn_seq ?_
      refine region_at ?_
      refine segN 6 (j := 6) [(14, .bool ((!decide ((Int.tmod (IntKind.wrap .i64 (x1 + ((List.length (y624) : Nat) : Int))) 64) = (56 : Int)))))] hE (by kernel_rfl) rfl (fun a hE => ?_)
      refine at_end rfl ?_
      refine cond_split hE (b := (!decide ((Int.tmod (IntKind.wrap .i64 (x1 + ((List.length (y624) : Nat) : Int))) 64) = (56 : Int)))) rfl (fun hb => ?_) (fun hb => ?_)
      · replace hf := cond_t hb hf
        clear hb
        refine wpIn_skip ?_
        refine wpIn_block ?_
        refine region_at ?_
        refine segN 1 (j := 1) [(15, .slice A627 (List.length (y624)) c628)] hE (by kernel_rfl) rfl (fun a hE => ?_)
        refine at_op (op_buildSlice (K := (kdInt .u8)) (e := 5) (cs := [.int .u8 ((0 : Int))] ++ []) ([(0 : Int)] : List Int) rfl rfl rfl rfl hE rfl hS rfl (by kernel_rfl) rfl rfl (by exact (show RL (kdInt .u8) D625 ([(0 : Int)] : List Int) ([.int .u8 ((0 : Int))] ++ []) from ⟨_, _, rfl, rfl, rfl⟩)) (fun a A666 q667 w _ hE h668 hS => ?_)) rfl
        obtain ⟨D670, q673, le671, hS, h674, h672⟩ := hS.lent h668
        have hS := hS.pk (.c 1 rfl (.c 0 rfl .n)) rfl
        obtain ⟨l675, h676, hf⟩ := bind_some hf
        refine at_op (g_append (K := (kdInt .u8)) (e := 5) (bytes := 1) (l := y624) (m := ([(0 : Int)] : List Int)) rfl rfl rfl rfl hE rfl hS rfl rfl (by kernel_rfl) rfl rfl (h630.mono le671) h672 h676 (fun a A677 c678 q679 w _ hE h680 hS => ?_)) rfl
        refine segN 1 (j := 4) [(3, .slice A677 (List.length (l675)) c678)] hE (by kernel_rfl) rfl (fun a hE => ?_)
        refine at_end rfl ?_
        have hS := hS.pk (.c 0 rfl .n) rfl
        exact ⟨l675, A677, c678, q679, D670, hE.weak (by kernel_rfl), hS, (Snap.le.trans le626 le671), h680, hf⟩
      · replace hf := cond_f hb hf
        clear hb
        refine wpIn_exit ?_
        obtain rfl := Option.some.inj hf
        exact ⟨y624, A627, c628, q629, D625, hE.weak (by kernel_rfl), hS, le626, h630, rfl⟩

set_option maxRecDepth 100000 in
set_option maxHeartbeats 4000000 in
theorem sha_blocks.calls {K : Nat} {g w0 : World} {D0 : Snap} {x1 : (List Int)} {A2 : Option Addr} {c3 : Nat} {r : ((List Int))} (hf : sha_blocks.f K x1 = some r) (hS0 : St g w0 D0 []) (h4 : Sl (kdInt .u8) D0 A2 c3 (x1)) :
    CallsIn (Fw none) 0 Tryd.prog 78 (List.toArray [.slice A2 (List.length (x1)) c3]) w0 (fun e w' => ∃ v, e = .returned v ∧ ∃ (D1 : Snap) (b7 : Nat) (A9 : Option Addr) (c10 : Nat), v = .func (.func 91) #[] #[.pointer (some ⟨b7, 0, none⟩)] ∧ Stp g w0 D0 [] w' D1 [bx b7 25 ([.slice A9 (List.length (r)) c10])] ∧ Sl (kdInt .u8) D1 A9 c10 (r)) := by
  unfold sha_blocks.f at hf
  have hS := Stp.refl hS0
  clear hS0
  refine calls_body (n := 4) Tryd.func78 rfl Tryd.ntmps78 rfl (fun a hE => ?_)
  have hE : Env a 4 [] [(0, .slice A2 (List.length (x1)) c3)] := hE
  refine wpIn_seq ?_
  refine region_at ?_
  refine at_op (op_box rfl rfl rfl rfl hE rfl hS rfl (fun a b12 w _ hE hS => ?_)) rfl
  refine segN 1 (j := 2) [(2, .nilFunc)] hE (by kernel_rfl) rfl (fun a hE => ?_)
  refine at_end rfl ?_
  refine wpIn_seq ?_
  refine region_at ?_
  refine segN 2 (j := 2) [(2, .func (.func 91) #[] #[.pointer (some ⟨b12, 0, none⟩)])] hE (by kernel_rfl) rfl (fun a hE => ?_)
  refine at_end rfl ?_
  refine wpIn_ret ?_
  obtain rfl := Option.some.inj hf
  repeat (with_reducible first | refine then_ret ?_ | refine block_ret ?_ | refine qx_ret ?_)
  refine ret_gen ([.func (.func 91) #[] #[.pointer (some ⟨b12, 0, none⟩)]]) hE (by rw [show Tryd.f78.results.toList = [.tmp 2] from rfl]; exact ⟨_, _, rfl, rfl, rfl⟩) ?_
  exact ⟨_, rfl, D0, b12, A2, c3, rfl, hS, h4⟩

set_option maxRecDepth 100000 in
set_option maxHeartbeats 4000000 in
theorem math_bits_RotateLeft32.calls {K : Nat} {g w0 : World} {D0 : Snap} {x1 : Int} {x2 : Int} {r : (Int)} (hf : math_bits_RotateLeft32.f K x1 x2 = some r) (hS0 : St g w0 D0 []) :
    CallsIn (Fw none) 0 Tryd.prog 97 (List.toArray [.int .u32 (x1), .int .i64 (x2)]) w0 (fun e w' => ∃ v, e = .returned v ∧ ∃ (D1 : Snap), v = .int .u32 (r) ∧ Stp g w0 D0 [] w' D1 []) := by
  unfold math_bits_RotateLeft32.f at hf
  have hS := Stp.refl hS0
  clear hS0
  refine calls_body (n := 17) Tryd.func97 rfl Tryd.ntmps97 rfl (fun a hE => ?_)
  have hE : Env a 17 [] [(0, .int .u32 (x1)), (1, .int .i64 (x2))] := hE
  refine wpIn_seq ?_
  refine region_at ?_
  refine segN 1 (j := 1) [(4, .int .u32 ((0 : Int)))] hE (by kernel_rfl) rfl (fun a hE => ?_)
  refine at_end rfl ?_
  refine wpIn_seq ?_
  refine region_at ?_
  refine segN 4 (j := 4) [(5, .int .u64 ((band .u64 (IntKind.wrap .u64 x2) (31 : Int))))] hE (by kernel_rfl) rfl (fun a hE => ?_)
  refine at_end rfl ?_
  refine wpIn_seq ?_
  refine region_at ?_
  refine segN 2 (j := 2) [(9, .int .u32 (x1)), (10, .int .u64 ((band .u64 (IntKind.wrap .u64 x2) (31 : Int))))] hE (by kernel_rfl) rfl (fun a hE => ?_)
  obtain ⟨hq5, hf⟩ := chk_not hf
  refine at_op (op_tk hE (tk_bin (r := .int .u32 ((IntKind.wrap .u32 (x1 * 2 ^ (min (Int.toNat (band .u64 (IntKind.wrap .u64 x2) (31 : Int))) 32))))) rfl rfl rfl rfl hE rfl rfl rfl (shl_run hq5) (fun a hE => ?_))) rfl
  refine segN 3 (j := 6) [(12, .int .u32 (x1)), (14, .int .u64 ((IntKind.wrap .u64 ((32 : Int) - (band .u64 (IntKind.wrap .u64 x2) (31 : Int))))))] hE (by kernel_rfl) rfl (fun a hE => ?_)
  obtain ⟨hq6, hf⟩ := chk_not hf
  refine at_op (op_tk hE (tk_bin (r := .int .u32 ((Int.fdiv x1 (2 ^ (min (Int.toNat (IntKind.wrap .u64 ((32 : Int) - (band .u64 (IntKind.wrap .u64 x2) (31 : Int))))) 32))))) rfl rfl rfl rfl hE rfl rfl rfl (shr_run hq6) (fun a hE => ?_))) rfl
  refine segN 2 (j := 9) [(4, .int .u32 ((bor .u32 (IntKind.wrap .u32 (x1 * 2 ^ (min (Int.toNat (band .u64 (IntKind.wrap .u64 x2) (31 : Int))) 32))) (Int.fdiv x1 (2 ^ (min (Int.toNat (IntKind.wrap .u64 ((32 : Int) - (band .u64 (IntKind.wrap .u64 x2) (31 : Int))))) 32))))))] hE (by kernel_rfl) rfl (fun a hE => ?_)
  refine at_end rfl ?_
  refine wpIn_ret ?_
  obtain rfl := Option.some.inj hf
  repeat (with_reducible first | refine then_ret ?_ | refine block_ret ?_ | refine qx_ret ?_)
  refine ret_gen ([.int .u32 ((bor .u32 (IntKind.wrap .u32 (x1 * 2 ^ (min (Int.toNat (band .u64 (IntKind.wrap .u64 x2) (31 : Int))) 32))) (Int.fdiv x1 (2 ^ (min (Int.toNat (IntKind.wrap .u64 ((32 : Int) - (band .u64 (IntKind.wrap .u64 x2) (31 : Int))))) 32)))))]) hE (by rw [show Tryd.f97.results.toList = [.tmp 4] from rfl]; exact ⟨_, _, rfl, rfl, rfl⟩) ?_
  exact ⟨_, rfl, D0, rfl, hS⟩

set_option maxRecDepth 100000 in
set_option maxHeartbeats 4000000 in
theorem sha_moved.calls {K : Nat} {g w0 : World} {D0 : Snap} {x1 : Int} {x2 : Int} {x3 : Int} {x4 : Int} {r : (Int)} (hf : sha_moved.f K x1 x2 x3 x4 = some r) (hS0 : St g w0 D0 []) :
    CallsIn (Fw none) 0 Tryd.prog 96 (List.toArray [.int .u32 (x1), .int .i64 (x2), .int .i64 (x3), .int .i64 (x4)]) w0 (fun e w' => ∃ v, e = .returned v ∧ ∃ (D1 : Snap), v = .int .u32 (r) ∧ Stp g w0 D0 [] w' D1 []) := by
  unfold sha_moved.f at hf
  have hS := Stp.refl hS0
  clear hS0
  refine calls_body (n := 22) Tryd.func96 rfl Tryd.ntmps96 rfl (fun a hE => ?_)
  have hE : Env a 22 [] [(0, .int .u32 (x1)), (1, .int .i64 (x2)), (2, .int .i64 (x3)), (3, .int .i64 (x4))] := hE
  refine wpIn_seq ?_
  refine region_at ?_
  refine segN 1 (j := 1) [(8, .int .u32 ((0 : Int)))] hE (by kernel_rfl) rfl (fun a hE => ?_)
  refine at_end rfl ?_
  refine wpIn_seq ?_
  refine region_draw (fun j => Keeps (mfOf [] j)) (by kernel_rfl) ?_
  have hS := hS.drew
  first | generalize w.drew = w at hS ⊢ | generalize w0.drew = w at hS ⊢
  refine tW 0 1 (fuel := 13) (by kernel_rfl) hE (fun M => tk_pure (.int .u32 (x1)) hE rfl rfl rfl rfl (fun _ _ _ e => by cases e) (by kernel_rfl) (fun a hE => ?_))
  refine tW 1 3 (fuel := 12) (by kernel_rfl) hE (fun M => tk_pure (.int .i64 (x2)) hE rfl rfl rfl rfl (fun _ _ _ e => by cases e) (by kernel_rfl) (fun a hE => ?_))
  refine tW 2 7 (fuel := 11) (by kernel_rfl) hE (fun M => tk_pure (.int .i64 ((IntKind.wrap .i64 (0 - x2)))) hE rfl rfl rfl rfl (fun _ _ _ e => by cases e) (by kernel_rfl) (fun a hE => ?_))
  refine tW 4 23 (fuel := 10) (by kernel_rfl) hE (fun M => tk_pure (.int .u32 (x1)) hE rfl rfl rfl rfl (fun _ _ _ e => by cases e) (by kernel_rfl) (fun a hE => ?_))
  refine tW 5 55 (fuel := 9) (by kernel_rfl) hE (fun M => tk_pure (.int .i64 (x3)) hE rfl rfl rfl rfl (fun _ _ _ e => by cases e) (by kernel_rfl) (fun a hE => ?_))
  refine tW 6 119 (fuel := 8) (by kernel_rfl) hE (fun M => tk_pure (.int .i64 ((IntKind.wrap .i64 (0 - x3)))) hE rfl rfl rfl rfl (fun _ _ _ e => by cases e) (by kernel_rfl) (fun a hE => ?_))
  refine tW 9 631 (fuel := 7) (by kernel_rfl) hE (fun M => tk_pure (.int .u32 (x1)) hE rfl rfl rfl rfl (fun _ _ _ e => by cases e) (by kernel_rfl) (fun a hE => ?_))
  refine tW 10 1655 (fuel := 6) (by kernel_rfl) hE (fun M => tk_pure (.int .i64 (x4)) hE rfl rfl rfl rfl (fun _ _ _ e => by cases e) (by kernel_rfl) (fun a hE => ?_))
  obtain ⟨hq38, hf⟩ := chk_not hf
  refine tW 11 3703 (fuel := 5) (by kernel_rfl) hE (fun M => tk_bin (r := .int .u32 ((Int.fdiv x1 (2 ^ (min (Int.toNat x4) 32))))) rfl rfl rfl rfl hE rfl rfl rfl (shr_run hq38) (fun a hE => ?_))
  obtain ⟨r39, h40, hf⟩ := bind_some hf
  refine oG 3 3711 (fuel := 4) (by kernel_rfl) (op_call rfl rfl rfl rfl hE rfl rfl rfl rfl (by kernel_rfl) (math_bits_RotateLeft32.calls (g := g) h40 (hS.st.fore (L := [])) ) (fun a v w hR hE => ?_))
  obtain ⟨D41, rfl, hS1⟩ := hR
  refine ⟨(hS1.keeps.sub (M' := []) trivial).mono (fun _ h => h), ?_⟩
  have le43 := hS1.dle
  have hS := hS.callR hS1 rfl .n
  clear hS1
  obtain ⟨r44, h45, hf⟩ := bind_some hf
  refine oG 7 3839 (fuel := 3) (by kernel_rfl) (op_call rfl rfl rfl rfl hE rfl rfl rfl rfl (by kernel_rfl) (math_bits_RotateLeft32.calls (g := g) h45 (hS.st.fore (L := [])) ) (fun a v w hR hE => ?_))
  obtain ⟨D46, rfl, hS1⟩ := hR
  refine ⟨(hS1.keeps.sub (M' := []) trivial).mono (fun _ h => h), ?_⟩
  have le48 := hS1.dle
  have hS := hS.callR hS1 rfl .n
  clear hS1
  refine tW 8 4095 (fuel := 2) (by kernel_rfl) hE (fun M => tk_pure (.int .u32 ((bxor .u32 r39 r44))) hE rfl rfl rfl rfl (fun _ _ _ e => by cases e) (by kernel_rfl) (fun a hE => ?_))
  refine tW 12 8191 (fuel := 1) (by kernel_rfl) hE (fun M => tk_pure (.int .u32 ((bxor .u32 (bxor .u32 r39 r44) (Int.fdiv x1 (2 ^ (min (Int.toNat x4) 32)))))) hE rfl rfl rfl rfl (fun _ _ _ e => by cases e) (by kernel_rfl) (fun a hE => ?_))
  refine tW 13 16383 (fuel := 0) (by kernel_rfl) hE (fun M => tk_pure (.int .u32 ((bxor .u32 (bxor .u32 r39 r44) (Int.fdiv x1 (2 ^ (min (Int.toNat x4) 32)))))) hE rfl rfl rfl rfl (fun _ _ _ e => by cases e) (by kernel_rfl) (fun a hE => ?_))
  refine doneG (by kernel_rfl) ?_
  refine wpIn_ret ?_
  obtain rfl := Option.some.inj hf
  repeat (with_reducible first | refine then_ret ?_ | refine block_ret ?_ | refine qx_ret ?_)
  refine ret_gen ([.int .u32 ((bxor .u32 (bxor .u32 r39 r44) (Int.fdiv x1 (2 ^ (min (Int.toNat x4) 32)))))]) hE (by rw [show Tryd.f96.results.toList = [.tmp 8] from rfl]; exact ⟨_, _, rfl, rfl, rfl⟩) ?_
  exact ⟨_, rfl, D46, rfl, hS⟩

end Go.Proofs.YtlcnliiampfigaaDoor
