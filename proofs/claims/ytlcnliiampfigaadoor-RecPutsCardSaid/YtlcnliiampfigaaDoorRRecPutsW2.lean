/-
  Proved, text by text: a call of a function of the cut comes to what its plain function computes.
  Conditions: those that each theorem names.
-/
import Derived.Test.YtlcnliiampfigaaDoorProg
import Derived.Test.YtlcnliiampfigaaDoorSepN
import Derived.Test.YtlcnliiampfigaaDoorRRecPutsW1
set_option linter.unusedVariables false
namespace Go.Proofs.YtlcnliiampfigaaDoor
open Go Go.Sep
set_option maxRecDepth 100000 in
set_option maxHeartbeats 4000000 in
theorem rec_put_v2.calls {K : Nat} {g w0 : World} {D0 : Snap} {x3 : T_api_Rec} {x10 : T_api_Rec} {b1 : Nat} {A4 : Option Addr} {c5 : Nat} {A7 : Option Addr} {c8 : Nat} {A11 : Option Addr} {c12 : Nat} {A14 : Option Addr} {c15 : Nat} {r : ((List Int))} (hf : rec_put_v2.f K x3 x10 = some r) (hS0 : St g w0 D0 [bx b1 27 (c_T_api_Rec (x10) A11 c12 A14 c15)]) (h6 : Sl kd_T_api_Step D0 A4 c5 (x3.fSteps)) (h9 : Sl (kdInt .u8) D0 A7 c8 (x3.fData)) (h13 : Sl kd_T_api_Step D0 A11 c12 (x10.fSteps)) (h16 : Sl (kdInt .u8) D0 A14 c15 (x10.fData)) (hG0 : Cell (kdArr .u32 8) D0 0 0 gl_First) (hG1 : Cell (kdArr .u32 64) D0 1 0 gl_K) :
  CallsIn (Fw none) 0 Tryd.prog 38 (List.toArray [.agg (List.toArray (c_T_api_Rec (x3) A4 c5 A7 c8)), .func (.func 39) #[] #[.pointer (some ⟨b1, 0, none⟩)]]) w0 (fun e w' => ∃ v, e = .returned v ∧ ∃ (D1 : Snap) (A1107 : Option Addr) (c1108 : Nat) (q1109 : Blk), v = .slice A1107 (List.length (r)) c1108 ∧ Stp g w0 D0 [bx b1 27 (c_T_api_Rec (x10) A11 c12 A14 c15)] w' D1 [bx b1 27 (c_T_api_Rec (x10) A11 c12 A14 c15), q1109] ∧ OwnD (kdInt .u8) 5 D1 A1107 c1108 (r) q1109) := by
 unfold rec_put_v2.f at hf
 have hS := Stp.refl hS0
 clear hS0
 refine calls_body (n := 29) Tryd.func38 rfl Tryd.ntmps38 rfl (fun a hE => ?_)
 have hE : Env a 29 [] [(0, .agg (List.toArray (c_T_api_Rec (x3) A4 c5 A7 c8))), (1, .func (.func 39) #[] #[.pointer (some ⟨b1, 0, none⟩)])] := hE
 refine wpIn_seq ?_
 refine region_at ?_
 refine at_op (op_box rfl rfl rfl rfl hE rfl hS rfl (fun a b1112 w _ hE hS => ?_)) rfl
 refine sN 1 2 [(4, .slice none 0 0)] hE (fun a hE => ?_)
 refine at_end rfl ?_
 refine wpIn_seq ?_
 refine wpIn_seq ?_
 refine region_at ?_
 refine aL 0 (.agg (List.toArray (c_T_api_Rec (x3) A4 c5 A7 c8))) hE hS (fun a hE => ?_)
 obtain ⟨r1119, h1120, hf⟩ := bind_some hf
 refine aC rfl rfl rfl rfl hE rfl rfl rfl rfl (rec_Right.calls (g := g) h1120 (hS.st.fore (L := [])) h6 h9) (fun a v w hR hE => ?_)
 obtain ⟨D1121, rfl, hS1⟩ := hR
 have le1123 := hS1.dle
 have hS := hS.callR hS1 rfl .n
 clear hS1
 refine sN 1 3 [(8, .bool ((!r1119)))] hE (fun a hE => ?_)
 refine at_end rfl ?_
 refine cond_split hE (b := (!r1119)) rfl (fun hb => ?_) (fun hb => ?_)
 ·replace hf := cond_t hb hf
  clear hb
  refine wpIn_seq ?_
  refine region_at ?_
  refine sN 1 1 [(4, .slice none 0 0)] hE (fun a hE => ?_)
  refine at_end rfl ?_
  refine wpIn_ret ?_
  have hS := hS.nils
  obtain rfl := Option.some.inj hf
  repeat (with_reducible first | refine then_ret ?_ | refine block_ret ?_ | refine qx_ret ?_)
  refine ret_gen ([.slice none 0 0]) hE (by rw [show Tryd.f38.results.toList = [.tmp 4] from rfl]; exact ⟨_, _, rfl, rfl, rfl⟩) ?_
  have hS := hS.pk (.c 2 rfl (.c 0 rfl .n)) rfl
  exact ⟨_, rfl, D1121, none, 0, none, rfl, hS, (OwnD.nil (kdInt .u8) 5 D1121)⟩
 ·replace hf := cond_f hb hf
  clear hb
  refine wpIn_skip ?_
  obtain ⟨j1689, hj1690, hf⟩ := jn_elim hf
  refine seq_join (fun a w => ∃ (y1637 : (List Int)), ∃ (A1640 : Option Addr), ∃ (c1641 : Nat), ∃ (q1642 : Blk), ∃ (D1638 : Snap), Env a 29 [] [(1, .func (.func 39) #[] #[.pointer (some ⟨b1, 0, none⟩)]), (2, .pointer (some ⟨b1112, 0, none⟩)), (5, .slice A1640 (List.length (y1637)) c1641)] ∧ Stp g w0 D0 [bx b1 27 (c_T_api_Rec (x10) A11 c12 A14 c15)] w D1638 [bx b1 27 (c_T_api_Rec (x10) A11 c12 A14 c15), bx b1112 27 (c_T_api_Rec (x3) A4 c5 A7 c8), q1642] ∧ Snap.le D1121 D1638 ∧ OwnD (kdInt .u8) 5 D1638 A1640 c1641 (y1637) q1642 ∧ j1689 y1637 = some r) ?_ ?_
  ·clear hj1690
   refine region_draw (fun j => Keeps (mfOf [] j)) (by kernel_rfl) ?_
   have hS := hS.drew
   first | generalize w.drew = w at hS ⊢ | generalize w0.drew = w at hS ⊢
   refine wF 0 1 12 0 3 0 hE (fun a hE => ?_)
   refine tT 1 3 (fuel := 11) (by kernel_rfl) hE (tk_load 0 (.int .i64 (x3.fKind)) rfl rfl rfl rfl hE rfl hS rfl rfl (by kernel_rfl) (kL (j := 0) hS rfl List.not_mem_nil) (fun a hE => ?_))
   refine wF 4 19 10 0 3 0 hE (fun a hE => ?_)
   refine tT 5 51 (fuel := 9) (by kernel_rfl) hE (tk_load 0 (.int .i64 (x3.fKind)) rfl rfl rfl rfl hE rfl hS rfl rfl (by kernel_rfl) (kL (j := 0) hS rfl List.not_mem_nil) (fun a hE => ?_))
   refine tT 8 307 (fuel := 8) (by kernel_rfl) hE (tk_load 0 (.agg (List.toArray (c_T_api_Rec (x3) A4 c5 A7 c8))) rfl rfl rfl rfl hE rfl hS rfl rfl (by kernel_rfl) (kL (j := 0) hS rfl List.not_mem_nil) (fun a hE => ?_))
   obtain ⟨r1947, h1948, hf⟩ := bind_some hf
   refine oG 2 311 (fuel := 7) (by kernel_rfl) (op_call rfl rfl rfl rfl hE rfl rfl rfl rfl (by kernel_rfl) (wire_Num.calls (g := g) h1948 (hS.st.fore (L := [])) ) (fun a v w hR hE => ?_))
   obtain ⟨D1949, A1951, c1952, q1953, rfl, hS1, h1954⟩ := hR
   refine ⟨(hS1.keeps.sub (M' := []) trivial).mono (fun _ h => h), ?_⟩
   have le1956 := hS1.dle
   have hS := hS.callR hS1 rfl (.c .n)
   clear hS1
   obtain ⟨r1957, h1958, hf⟩ := bind_some hf
   refine oG 3 319 (fuel := 6) (by kernel_rfl) (op_call rfl rfl rfl rfl hE rfl rfl rfl rfl (by kernel_rfl) (rec_forms.calls (g := g) h1958 (hS.st.fore (L := [])) ) (fun a v w hR hE => ?_))
   obtain ⟨D1959, rfl, hS1⟩ := hR
   refine ⟨(hS1.keeps.sub (M' := []) trivial).mono (fun _ h => h), ?_⟩
   have le1961 := hS1.dle
   have hS := hS.callR hS1 rfl .n
   clear hS1
   cases hb : decide (x3.fKind = (0 : Int))
   ·replace hf := cond_f hb hf
    clear hb
    cases hb : decide (x3.fKind = (1 : Int))
    ·replace hf := cond_f hb hf
     clear hb
     cases hb : decide (x3.fKind = (2 : Int))
     ·replace hf := cond_f hb hf
      clear hb
      cases hb : decide (x3.fKind = (3 : Int))
      ·replace hf := cond_f hb hf
       clear hb
       cases hb : decide (x3.fKind = (4 : Int))
       ·replace hf := cond_f hb hf
        clear hb
        cases hb : decide (x3.fKind = (5 : Int))
        ·replace hf := cond_f hb hf
         clear hb
         cases hb : decide (x3.fKind = (6 : Int))
         ·replace hf := cond_f hb hf
          clear hb
          cases hf
         ·replace hf := cond_t hb hf
          have hk2163 := of_decide_eq_true hb
          clear hb
          refine tW 6 383 (fuel := 5) (by kernel_rfl) hE (fun M => tk_indexV (N := 7) (e := 79) (sz := 1) (cs := ([.nilFunc]) ++ (([.func (.func 85) #[] #[]]) ++ (([.func (.func 86) #[] #[]]) ++ (([.func (.func 87) #[] #[]]) ++ (([.func (.func 86) #[] #[]]) ++ (([.func (.func 89) #[] #[]]) ++ (([.func (.func 90) #[] #[]])))))))) 6 (.agg (List.toArray ([.func (.func 90) #[] #[]]))) rfl rfl rfl rfl hE rfl rfl rfl hk2163 (by kernel_rfl) (by kernel_rfl) (by kernel_rfl) (fun a hE => ?_))
          refine tW 7 511 (fuel := 4) (by kernel_rfl) hE (fun M => g_field (cs := [.func (.func 90) #[] #[]]) (fo := 0) (ft := 34) (.func (.func 90) #[] #[]) rfl rfl rfl rfl hE rfl rfl (by kernel_rfl) (by kernel_rfl) (fun a hE => ?_))
          obtain ⟨r2164, h2165, hf⟩ := bind_some hf
          refine oG 9 1023 (fuel := 3) (by kernel_rfl) (op_call rfl rfl rfl rfl hE rfl rfl rfl rfl (by kernel_rfl) (rec_forms_3.calls (g := g) h2165 (hS.st.fore (L := [])) (h6.mono (le2 (le2 le1123 le1956) le1961)) (h9.mono (le2 (le2 le1123 le1956) le1961))) (fun a v w hR hE => ?_))
          obtain ⟨D2166, A2168, c2169, q2170, rfl, hS1, h2171⟩ := hR
          refine ⟨(hS1.keeps.sub (M' := []) trivial).mono (fun _ h => h), ?_⟩
          have le2173 := hS1.dle
          have hS := hS.callR hS1 rfl (.c .n)
          clear hS1
          have hS := hS.pk (.c 1 rfl (.c 0 rfl (.c 2 rfl (.c 3 rfl .n)))) rfl
          obtain ⟨D2174, q2177, le2175, hS, h2178, h2176⟩ := hS.lent (h1954.mono (le2 le1961 le2173))
          have hS := hS.pk (.c 1 rfl (.c 0 rfl (.c 2 rfl (.c 3 rfl .n)))) rfl
          obtain ⟨D2179, q2182, le2180, hS, h2183, h2181⟩ := hS.lent (h2171.mono le2175)
          refine oG 10 2047 (fuel := 2) (by kernel_rfl) (op_buildSlice (K := (kdSlice (kdInt .u8))) (e := 25) (cs := [.slice A1951 (List.length (r1947)) c1952] ++ ([.slice A2168 (List.length (r2164)) c2169] ++ [])) ([r1947, r2164] : List (List Int)) rfl rfl rfl rfl hE rfl hS rfl (by kernel_rfl) rfl rfl (by exact (show RL (kdSlice (kdInt .u8)) D2179 ([r1947, r2164] : List (List Int)) ([.slice A1951 (List.length (r1947)) c1952] ++ ([.slice A2168 (List.length (r2164)) c2169] ++ [])) from ⟨_, _, rfl, (kslice (h2176.mono le2180)), ⟨_, _, rfl, (kslice h2181), rfl⟩⟩)) (fun a A2184 q2185 w hkp hE h2186 hS => ⟨hkp.mono (fun _ h => absurd h List.not_mem_nil), ?_⟩))
          clear hkp
          obtain ⟨D2188, q2191, le2189, hS, h2192, h2190⟩ := hS.lent h2186
          obtain ⟨r2193, h2194, hf⟩ := bind_some hf
          refine oG 11 4095 (fuel := 1) (by kernel_rfl) (op_call rfl rfl rfl rfl hE rfl rfl rfl rfl (by kernel_rfl) (wire_All.calls (g := g) h2194 (hS.st.fore (L := [])) h2190) (fun a v w hR hE => ?_))
          obtain ⟨D2195, A2197, c2198, q2199, rfl, hS1, h2200⟩ := hR
          refine ⟨(hS1.keeps.sub (M' := []) trivial).mono (fun _ h => h), ?_⟩
          have le2202 := hS1.dle
          have hS := hS.callR hS1 rfl (.c .n)
          clear hS1
          refine wP 12 8191 0 (.slice A2197 (List.length (r2193)) c2198) hE (fun a hE => ?_)
          refine doneG (by kernel_rfl) ?_
          have hS := hS.pk (.c 5 rfl (.c 4 rfl (.c 0 rfl .n))) rfl
          exact ⟨r2193, A2197, c2198, q2199, D2195, hE.weak (by kernel_rfl), hS, (le2 (le2 (le2 (le2 (le2 (le2 le1956 le1961) le2173) le2175) le2180) le2189) le2202), h2200, hf⟩
        ·replace hf := cond_t hb hf
         have hk2123 := of_decide_eq_true hb
         clear hb
         refine tW 6 383 (fuel := 5) (by kernel_rfl) hE (fun M => tk_indexV (N := 7) (e := 79) (sz := 1) (cs := ([.nilFunc]) ++ (([.func (.func 85) #[] #[]]) ++ (([.func (.func 86) #[] #[]]) ++ (([.func (.func 87) #[] #[]]) ++ (([.func (.func 86) #[] #[]]) ++ (([.func (.func 89) #[] #[]]) ++ (([.func (.func 90) #[] #[]])))))))) 5 (.agg (List.toArray ([.func (.func 89) #[] #[]]))) rfl rfl rfl rfl hE rfl rfl rfl hk2123 (by kernel_rfl) (by kernel_rfl) (by kernel_rfl) (fun a hE => ?_))
         refine tW 7 511 (fuel := 4) (by kernel_rfl) hE (fun M => g_field (cs := [.func (.func 89) #[] #[]]) (fo := 0) (ft := 34) (.func (.func 89) #[] #[]) rfl rfl rfl rfl hE rfl rfl (by kernel_rfl) (by kernel_rfl) (fun a hE => ?_))
         obtain ⟨r2124, h2125, hf⟩ := bind_some hf
         refine oG 9 1023 (fuel := 3) (by kernel_rfl) (op_call rfl rfl rfl rfl hE rfl rfl rfl rfl (by kernel_rfl) (rec_forms_2.calls (g := g) h2125 (hS.st.fore (L := [])) (h6.mono (le2 (le2 le1123 le1956) le1961)) (h9.mono (le2 (le2 le1123 le1956) le1961))) (fun a v w hR hE => ?_))
         obtain ⟨D2126, A2128, c2129, q2130, rfl, hS1, h2131⟩ := hR
         refine ⟨(hS1.keeps.sub (M' := []) trivial).mono (fun _ h => h), ?_⟩
         have le2133 := hS1.dle
         have hS := hS.callR hS1 rfl (.c .n)
         clear hS1
         have hS := hS.pk (.c 1 rfl (.c 0 rfl (.c 2 rfl (.c 3 rfl .n)))) rfl
         obtain ⟨D2134, q2137, le2135, hS, h2138, h2136⟩ := hS.lent (h1954.mono (le2 le1961 le2133))
         have hS := hS.pk (.c 1 rfl (.c 0 rfl (.c 2 rfl (.c 3 rfl .n)))) rfl
         obtain ⟨D2139, q2142, le2140, hS, h2143, h2141⟩ := hS.lent (h2131.mono le2135)
         refine oG 10 2047 (fuel := 2) (by kernel_rfl) (op_buildSlice (K := (kdSlice (kdInt .u8))) (e := 25) (cs := [.slice A1951 (List.length (r1947)) c1952] ++ ([.slice A2128 (List.length (r2124)) c2129] ++ [])) ([r1947, r2124] : List (List Int)) rfl rfl rfl rfl hE rfl hS rfl (by kernel_rfl) rfl rfl (by exact (show RL (kdSlice (kdInt .u8)) D2139 ([r1947, r2124] : List (List Int)) ([.slice A1951 (List.length (r1947)) c1952] ++ ([.slice A2128 (List.length (r2124)) c2129] ++ [])) from ⟨_, _, rfl, (kslice (h2136.mono le2140)), ⟨_, _, rfl, (kslice h2141), rfl⟩⟩)) (fun a A2144 q2145 w hkp hE h2146 hS => ⟨hkp.mono (fun _ h => absurd h List.not_mem_nil), ?_⟩))
         clear hkp
         obtain ⟨D2148, q2151, le2149, hS, h2152, h2150⟩ := hS.lent h2146
         obtain ⟨r2153, h2154, hf⟩ := bind_some hf
         refine oG 11 4095 (fuel := 1) (by kernel_rfl) (op_call rfl rfl rfl rfl hE rfl rfl rfl rfl (by kernel_rfl) (wire_All.calls (g := g) h2154 (hS.st.fore (L := [])) h2150) (fun a v w hR hE => ?_))
         obtain ⟨D2155, A2157, c2158, q2159, rfl, hS1, h2160⟩ := hR
         refine ⟨(hS1.keeps.sub (M' := []) trivial).mono (fun _ h => h), ?_⟩
         have le2162 := hS1.dle
         have hS := hS.callR hS1 rfl (.c .n)
         clear hS1
         refine wP 12 8191 0 (.slice A2157 (List.length (r2153)) c2158) hE (fun a hE => ?_)
         refine doneG (by kernel_rfl) ?_
         have hS := hS.pk (.c 5 rfl (.c 4 rfl (.c 0 rfl .n))) rfl
         exact ⟨r2153, A2157, c2158, q2159, D2155, hE.weak (by kernel_rfl), hS, (le2 (le2 (le2 (le2 (le2 (le2 le1956 le1961) le2133) le2135) le2140) le2149) le2162), h2160, hf⟩
       ·replace hf := cond_t hb hf
        have hk2083 := of_decide_eq_true hb
        clear hb
        refine tW 6 383 (fuel := 5) (by kernel_rfl) hE (fun M => tk_indexV (N := 7) (e := 79) (sz := 1) (cs := ([.nilFunc]) ++ (([.func (.func 85) #[] #[]]) ++ (([.func (.func 86) #[] #[]]) ++ (([.func (.func 87) #[] #[]]) ++ (([.func (.func 86) #[] #[]]) ++ (([.func (.func 89) #[] #[]]) ++ (([.func (.func 90) #[] #[]])))))))) 4 (.agg (List.toArray ([.func (.func 86) #[] #[]]))) rfl rfl rfl rfl hE rfl rfl rfl hk2083 (by kernel_rfl) (by kernel_rfl) (by kernel_rfl) (fun a hE => ?_))
        refine tW 7 511 (fuel := 4) (by kernel_rfl) hE (fun M => g_field (cs := [.func (.func 86) #[] #[]]) (fo := 0) (ft := 34) (.func (.func 86) #[] #[]) rfl rfl rfl rfl hE rfl rfl (by kernel_rfl) (by kernel_rfl) (fun a hE => ?_))
        obtain ⟨r2084, h2085, hf⟩ := bind_some hf
        refine oG 9 1023 (fuel := 3) (by kernel_rfl) (op_call rfl rfl rfl rfl hE rfl rfl rfl rfl (by kernel_rfl) (rec_call.calls (g := g) h2085 (hS.st.fore (L := [])) (h6.mono (le2 (le2 le1123 le1956) le1961)) (h9.mono (le2 (le2 le1123 le1956) le1961))) (fun a v w hR hE => ?_))
        obtain ⟨D2086, A2088, c2089, q2090, rfl, hS1, h2091⟩ := hR
        refine ⟨(hS1.keeps.sub (M' := []) trivial).mono (fun _ h => h), ?_⟩
        have le2093 := hS1.dle
        have hS := hS.callR hS1 rfl (.c .n)
        clear hS1
        have hS := hS.pk (.c 1 rfl (.c 0 rfl (.c 2 rfl (.c 3 rfl .n)))) rfl
        obtain ⟨D2094, q2097, le2095, hS, h2098, h2096⟩ := hS.lent (h1954.mono (le2 le1961 le2093))
        have hS := hS.pk (.c 1 rfl (.c 0 rfl (.c 2 rfl (.c 3 rfl .n)))) rfl
        obtain ⟨D2099, q2102, le2100, hS, h2103, h2101⟩ := hS.lent (h2091.mono le2095)
        refine oG 10 2047 (fuel := 2) (by kernel_rfl) (op_buildSlice (K := (kdSlice (kdInt .u8))) (e := 25) (cs := [.slice A1951 (List.length (r1947)) c1952] ++ ([.slice A2088 (List.length (r2084)) c2089] ++ [])) ([r1947, r2084] : List (List Int)) rfl rfl rfl rfl hE rfl hS rfl (by kernel_rfl) rfl rfl (by exact (show RL (kdSlice (kdInt .u8)) D2099 ([r1947, r2084] : List (List Int)) ([.slice A1951 (List.length (r1947)) c1952] ++ ([.slice A2088 (List.length (r2084)) c2089] ++ [])) from ⟨_, _, rfl, (kslice (h2096.mono le2100)), ⟨_, _, rfl, (kslice h2101), rfl⟩⟩)) (fun a A2104 q2105 w hkp hE h2106 hS => ⟨hkp.mono (fun _ h => absurd h List.not_mem_nil), ?_⟩))
        clear hkp
        obtain ⟨D2108, q2111, le2109, hS, h2112, h2110⟩ := hS.lent h2106
        obtain ⟨r2113, h2114, hf⟩ := bind_some hf
        refine oG 11 4095 (fuel := 1) (by kernel_rfl) (op_call rfl rfl rfl rfl hE rfl rfl rfl rfl (by kernel_rfl) (wire_All.calls (g := g) h2114 (hS.st.fore (L := [])) h2110) (fun a v w hR hE => ?_))
        obtain ⟨D2115, A2117, c2118, q2119, rfl, hS1, h2120⟩ := hR
        refine ⟨(hS1.keeps.sub (M' := []) trivial).mono (fun _ h => h), ?_⟩
        have le2122 := hS1.dle
        have hS := hS.callR hS1 rfl (.c .n)
        clear hS1
        refine wP 12 8191 0 (.slice A2117 (List.length (r2113)) c2118) hE (fun a hE => ?_)
        refine doneG (by kernel_rfl) ?_
        have hS := hS.pk (.c 5 rfl (.c 4 rfl (.c 0 rfl .n))) rfl
        exact ⟨r2113, A2117, c2118, q2119, D2115, hE.weak (by kernel_rfl), hS, (le2 (le2 (le2 (le2 (le2 (le2 le1956 le1961) le2093) le2095) le2100) le2109) le2122), h2120, hf⟩
      ·replace hf := cond_t hb hf
       have hk2043 := of_decide_eq_true hb
       clear hb
       refine tW 6 383 (fuel := 5) (by kernel_rfl) hE (fun M => tk_indexV (N := 7) (e := 79) (sz := 1) (cs := ([.nilFunc]) ++ (([.func (.func 85) #[] #[]]) ++ (([.func (.func 86) #[] #[]]) ++ (([.func (.func 87) #[] #[]]) ++ (([.func (.func 86) #[] #[]]) ++ (([.func (.func 89) #[] #[]]) ++ (([.func (.func 90) #[] #[]])))))))) 3 (.agg (List.toArray ([.func (.func 87) #[] #[]]))) rfl rfl rfl rfl hE rfl rfl rfl hk2043 (by kernel_rfl) (by kernel_rfl) (by kernel_rfl) (fun a hE => ?_))
       refine tW 7 511 (fuel := 4) (by kernel_rfl) hE (fun M => g_field (cs := [.func (.func 87) #[] #[]]) (fo := 0) (ft := 34) (.func (.func 87) #[] #[]) rfl rfl rfl rfl hE rfl rfl (by kernel_rfl) (by kernel_rfl) (fun a hE => ?_))
       obtain ⟨r2044, h2045, hf⟩ := bind_some hf
       refine oG 9 1023 (fuel := 3) (by kernel_rfl) (op_call rfl rfl rfl rfl hE rfl rfl rfl rfl (by kernel_rfl) (rec_forms_1.calls (g := g) h2045 (hS.st.fore (L := [])) (h6.mono (le2 (le2 le1123 le1956) le1961)) (h9.mono (le2 (le2 le1123 le1956) le1961))) (fun a v w hR hE => ?_))
       obtain ⟨D2046, A2048, c2049, q2050, rfl, hS1, h2051⟩ := hR
       refine ⟨(hS1.keeps.sub (M' := []) trivial).mono (fun _ h => h), ?_⟩
       have le2053 := hS1.dle
       have hS := hS.callR hS1 rfl (.c .n)
       clear hS1
       have hS := hS.pk (.c 1 rfl (.c 0 rfl (.c 2 rfl (.c 3 rfl .n)))) rfl
       obtain ⟨D2054, q2057, le2055, hS, h2058, h2056⟩ := hS.lent (h1954.mono (le2 le1961 le2053))
       have hS := hS.pk (.c 1 rfl (.c 0 rfl (.c 2 rfl (.c 3 rfl .n)))) rfl
       obtain ⟨D2059, q2062, le2060, hS, h2063, h2061⟩ := hS.lent (h2051.mono le2055)
       refine oG 10 2047 (fuel := 2) (by kernel_rfl) (op_buildSlice (K := (kdSlice (kdInt .u8))) (e := 25) (cs := [.slice A1951 (List.length (r1947)) c1952] ++ ([.slice A2048 (List.length (r2044)) c2049] ++ [])) ([r1947, r2044] : List (List Int)) rfl rfl rfl rfl hE rfl hS rfl (by kernel_rfl) rfl rfl (by exact (show RL (kdSlice (kdInt .u8)) D2059 ([r1947, r2044] : List (List Int)) ([.slice A1951 (List.length (r1947)) c1952] ++ ([.slice A2048 (List.length (r2044)) c2049] ++ [])) from ⟨_, _, rfl, (kslice (h2056.mono le2060)), ⟨_, _, rfl, (kslice h2061), rfl⟩⟩)) (fun a A2064 q2065 w hkp hE h2066 hS => ⟨hkp.mono (fun _ h => absurd h List.not_mem_nil), ?_⟩))
       clear hkp
       obtain ⟨D2068, q2071, le2069, hS, h2072, h2070⟩ := hS.lent h2066
       obtain ⟨r2073, h2074, hf⟩ := bind_some hf
       refine oG 11 4095 (fuel := 1) (by kernel_rfl) (op_call rfl rfl rfl rfl hE rfl rfl rfl rfl (by kernel_rfl) (wire_All.calls (g := g) h2074 (hS.st.fore (L := [])) h2070) (fun a v w hR hE => ?_))
       obtain ⟨D2075, A2077, c2078, q2079, rfl, hS1, h2080⟩ := hR
       refine ⟨(hS1.keeps.sub (M' := []) trivial).mono (fun _ h => h), ?_⟩
       have le2082 := hS1.dle
       have hS := hS.callR hS1 rfl (.c .n)
       clear hS1
       refine wP 12 8191 0 (.slice A2077 (List.length (r2073)) c2078) hE (fun a hE => ?_)
       refine doneG (by kernel_rfl) ?_
       have hS := hS.pk (.c 5 rfl (.c 4 rfl (.c 0 rfl .n))) rfl
       exact ⟨r2073, A2077, c2078, q2079, D2075, hE.weak (by kernel_rfl), hS, (le2 (le2 (le2 (le2 (le2 (le2 le1956 le1961) le2053) le2055) le2060) le2069) le2082), h2080, hf⟩
     ·replace hf := cond_t hb hf
      have hk2003 := of_decide_eq_true hb
      clear hb
      refine tW 6 383 (fuel := 5) (by kernel_rfl) hE (fun M => tk_indexV (N := 7) (e := 79) (sz := 1) (cs := ([.nilFunc]) ++ (([.func (.func 85) #[] #[]]) ++ (([.func (.func 86) #[] #[]]) ++ (([.func (.func 87) #[] #[]]) ++ (([.func (.func 86) #[] #[]]) ++ (([.func (.func 89) #[] #[]]) ++ (([.func (.func 90) #[] #[]])))))))) 2 (.agg (List.toArray ([.func (.func 86) #[] #[]]))) rfl rfl rfl rfl hE rfl rfl rfl hk2003 (by kernel_rfl) (by kernel_rfl) (by kernel_rfl) (fun a hE => ?_))
      refine tW 7 511 (fuel := 4) (by kernel_rfl) hE (fun M => g_field (cs := [.func (.func 86) #[] #[]]) (fo := 0) (ft := 34) (.func (.func 86) #[] #[]) rfl rfl rfl rfl hE rfl rfl (by kernel_rfl) (by kernel_rfl) (fun a hE => ?_))
      obtain ⟨r2004, h2005, hf⟩ := bind_some hf
      refine oG 9 1023 (fuel := 3) (by kernel_rfl) (op_call rfl rfl rfl rfl hE rfl rfl rfl rfl (by kernel_rfl) (rec_call.calls (g := g) h2005 (hS.st.fore (L := [])) (h6.mono (le2 (le2 le1123 le1956) le1961)) (h9.mono (le2 (le2 le1123 le1956) le1961))) (fun a v w hR hE => ?_))
      obtain ⟨D2006, A2008, c2009, q2010, rfl, hS1, h2011⟩ := hR
      refine ⟨(hS1.keeps.sub (M' := []) trivial).mono (fun _ h => h), ?_⟩
      have le2013 := hS1.dle
      have hS := hS.callR hS1 rfl (.c .n)
      clear hS1
      have hS := hS.pk (.c 1 rfl (.c 0 rfl (.c 2 rfl (.c 3 rfl .n)))) rfl
      obtain ⟨D2014, q2017, le2015, hS, h2018, h2016⟩ := hS.lent (h1954.mono (le2 le1961 le2013))
      have hS := hS.pk (.c 1 rfl (.c 0 rfl (.c 2 rfl (.c 3 rfl .n)))) rfl
      obtain ⟨D2019, q2022, le2020, hS, h2023, h2021⟩ := hS.lent (h2011.mono le2015)
      refine oG 10 2047 (fuel := 2) (by kernel_rfl) (op_buildSlice (K := (kdSlice (kdInt .u8))) (e := 25) (cs := [.slice A1951 (List.length (r1947)) c1952] ++ ([.slice A2008 (List.length (r2004)) c2009] ++ [])) ([r1947, r2004] : List (List Int)) rfl rfl rfl rfl hE rfl hS rfl (by kernel_rfl) rfl rfl (by exact (show RL (kdSlice (kdInt .u8)) D2019 ([r1947, r2004] : List (List Int)) ([.slice A1951 (List.length (r1947)) c1952] ++ ([.slice A2008 (List.length (r2004)) c2009] ++ [])) from ⟨_, _, rfl, (kslice (h2016.mono le2020)), ⟨_, _, rfl, (kslice h2021), rfl⟩⟩)) (fun a A2024 q2025 w hkp hE h2026 hS => ⟨hkp.mono (fun _ h => absurd h List.not_mem_nil), ?_⟩))
      clear hkp
      obtain ⟨D2028, q2031, le2029, hS, h2032, h2030⟩ := hS.lent h2026
      obtain ⟨r2033, h2034, hf⟩ := bind_some hf
      refine oG 11 4095 (fuel := 1) (by kernel_rfl) (op_call rfl rfl rfl rfl hE rfl rfl rfl rfl (by kernel_rfl) (wire_All.calls (g := g) h2034 (hS.st.fore (L := [])) h2030) (fun a v w hR hE => ?_))
      obtain ⟨D2035, A2037, c2038, q2039, rfl, hS1, h2040⟩ := hR
      refine ⟨(hS1.keeps.sub (M' := []) trivial).mono (fun _ h => h), ?_⟩
      have le2042 := hS1.dle
      have hS := hS.callR hS1 rfl (.c .n)
      clear hS1
      refine wP 12 8191 0 (.slice A2037 (List.length (r2033)) c2038) hE (fun a hE => ?_)
      refine doneG (by kernel_rfl) ?_
      have hS := hS.pk (.c 5 rfl (.c 4 rfl (.c 0 rfl .n))) rfl
      exact ⟨r2033, A2037, c2038, q2039, D2035, hE.weak (by kernel_rfl), hS, (le2 (le2 (le2 (le2 (le2 (le2 le1956 le1961) le2013) le2015) le2020) le2029) le2042), h2040, hf⟩
    ·replace hf := cond_t hb hf
     have hk1963 := of_decide_eq_true hb
     clear hb
     refine tW 6 383 (fuel := 5) (by kernel_rfl) hE (fun M => tk_indexV (N := 7) (e := 79) (sz := 1) (cs := ([.nilFunc]) ++ (([.func (.func 85) #[] #[]]) ++ (([.func (.func 86) #[] #[]]) ++ (([.func (.func 87) #[] #[]]) ++ (([.func (.func 86) #[] #[]]) ++ (([.func (.func 89) #[] #[]]) ++ (([.func (.func 90) #[] #[]])))))))) 1 (.agg (List.toArray ([.func (.func 85) #[] #[]]))) rfl rfl rfl rfl hE rfl rfl rfl hk1963 (by kernel_rfl) (by kernel_rfl) (by kernel_rfl) (fun a hE => ?_))
     refine tW 7 511 (fuel := 4) (by kernel_rfl) hE (fun M => g_field (cs := [.func (.func 85) #[] #[]]) (fo := 0) (ft := 34) (.func (.func 85) #[] #[]) rfl rfl rfl rfl hE rfl rfl (by kernel_rfl) (by kernel_rfl) (fun a hE => ?_))
     obtain ⟨r1964, h1965, hf⟩ := bind_some hf
     refine oG 9 1023 (fuel := 3) (by kernel_rfl) (op_call rfl rfl rfl rfl hE rfl rfl rfl rfl (by kernel_rfl) (rec_begin.calls (g := g) h1965 (hS.st.fore (L := [])) (h6.mono (le2 (le2 le1123 le1956) le1961)) (h9.mono (le2 (le2 le1123 le1956) le1961))) (fun a v w hR hE => ?_))
     obtain ⟨D1966, A1968, c1969, q1970, rfl, hS1, h1971⟩ := hR
     refine ⟨(hS1.keeps.sub (M' := []) trivial).mono (fun _ h => h), ?_⟩
     have le1973 := hS1.dle
     have hS := hS.callR hS1 rfl (.c .n)
     clear hS1
     have hS := hS.pk (.c 1 rfl (.c 0 rfl (.c 2 rfl (.c 3 rfl .n)))) rfl
     obtain ⟨D1974, q1977, le1975, hS, h1978, h1976⟩ := hS.lent (h1954.mono (le2 le1961 le1973))
     have hS := hS.pk (.c 1 rfl (.c 0 rfl (.c 2 rfl (.c 3 rfl .n)))) rfl
     obtain ⟨D1979, q1982, le1980, hS, h1983, h1981⟩ := hS.lent (h1971.mono le1975)
     refine oG 10 2047 (fuel := 2) (by kernel_rfl) (op_buildSlice (K := (kdSlice (kdInt .u8))) (e := 25) (cs := [.slice A1951 (List.length (r1947)) c1952] ++ ([.slice A1968 (List.length (r1964)) c1969] ++ [])) ([r1947, r1964] : List (List Int)) rfl rfl rfl rfl hE rfl hS rfl (by kernel_rfl) rfl rfl (by exact (show RL (kdSlice (kdInt .u8)) D1979 ([r1947, r1964] : List (List Int)) ([.slice A1951 (List.length (r1947)) c1952] ++ ([.slice A1968 (List.length (r1964)) c1969] ++ [])) from ⟨_, _, rfl, (kslice (h1976.mono le1980)), ⟨_, _, rfl, (kslice h1981), rfl⟩⟩)) (fun a A1984 q1985 w hkp hE h1986 hS => ⟨hkp.mono (fun _ h => absurd h List.not_mem_nil), ?_⟩))
     clear hkp
     obtain ⟨D1988, q1991, le1989, hS, h1992, h1990⟩ := hS.lent h1986
     obtain ⟨r1993, h1994, hf⟩ := bind_some hf
     refine oG 11 4095 (fuel := 1) (by kernel_rfl) (op_call rfl rfl rfl rfl hE rfl rfl rfl rfl (by kernel_rfl) (wire_All.calls (g := g) h1994 (hS.st.fore (L := [])) h1990) (fun a v w hR hE => ?_))
     obtain ⟨D1995, A1997, c1998, q1999, rfl, hS1, h2000⟩ := hR
     refine ⟨(hS1.keeps.sub (M' := []) trivial).mono (fun _ h => h), ?_⟩
     have le2002 := hS1.dle
     have hS := hS.callR hS1 rfl (.c .n)
     clear hS1
     refine wP 12 8191 0 (.slice A1997 (List.length (r1993)) c1998) hE (fun a hE => ?_)
     refine doneG (by kernel_rfl) ?_
     have hS := hS.pk (.c 5 rfl (.c 4 rfl (.c 0 rfl .n))) rfl
     exact ⟨r1993, A1997, c1998, q1999, D1995, hE.weak (by kernel_rfl), hS, (le2 (le2 (le2 (le2 (le2 (le2 le1956 le1961) le1973) le1975) le1980) le1989) le2002), h2000, hf⟩
   ·replace hf := cond_t hb hf
    have hk1962 := of_decide_eq_true hb
    clear hb
    refine tW 6 383 (fuel := 5) (by kernel_rfl) hE (fun M => tk_indexV (N := 7) (e := 79) (sz := 1) (cs := ([.nilFunc]) ++ (([.func (.func 85) #[] #[]]) ++ (([.func (.func 86) #[] #[]]) ++ (([.func (.func 87) #[] #[]]) ++ (([.func (.func 86) #[] #[]]) ++ (([.func (.func 89) #[] #[]]) ++ (([.func (.func 90) #[] #[]])))))))) 0 (.agg (List.toArray ([.nilFunc]))) rfl rfl rfl rfl hE rfl rfl rfl hk1962 (by kernel_rfl) (by kernel_rfl) (by kernel_rfl) (fun a hE => ?_))
    refine tW 7 511 (fuel := 4) (by kernel_rfl) hE (fun M => g_field (cs := [.nilFunc]) (fo := 0) (ft := 34) (.nilFunc) rfl rfl rfl rfl hE rfl rfl (by kernel_rfl) (by kernel_rfl) (fun a hE => ?_))
    cases hf
  ·clear hE hS
   rintro a w ⟨y1637, A1640, c1641, q1642, D1638, hE, hS, le1639, h1643, hf⟩
   replace hf := hj1690 _ hf
   clear hj1690
   refine wpIn_seq ?_
   refine wpIn_seq ?_
   refine region_at ?_
   refine aF 0 3 0 hE (fun a hE => ?_)
   refine aL 1 (.int .i64 (x3.fKind)) hE hS (fun a hE => ?_)
   refine sN 1 3 [(23, .bool ((decide (x3.fKind = (1 : Int)))))] hE (fun a hE => ?_)
   refine at_end rfl ?_
   refine cond_split hE (b := (decide (x3.fKind = (1 : Int)))) rfl (fun hb => ?_) (fun hb => ?_)
   ·replace hf := cond_t hb hf
    clear hb
    refine region_at ?_
    refine sN 2 2 [(24, .slice A1640 (List.length (y1637)) c1641), (25, .func (.func 39) #[] #[.pointer (some ⟨b1, 0, none⟩)])] hE (fun a hE => ?_)
    obtain ⟨r1667, h1668, hf⟩ := bind_some hf
    refine aC rfl rfl rfl rfl hE rfl rfl rfl rfl (rec_Sealed_1.calls (g := g) h1668 (hS.st.fore (L := [bx b1 27 (c_T_api_Rec (x10) A11 c12 A14 c15)])) (h13.mono (le2 le1123 le1639)) (h16.mono (le2 le1123 le1639)) (hG0.mono (le2 le1123 le1639)) (hG1.mono (le2 le1123 le1639))) (fun a v w hR hE => ?_)
    obtain ⟨D1669, A1671, c1672, q1673, rfl, hS1, h1674⟩ := hR
    have le1676 := hS1.dle
    have hS := hS.callR hS1 rfl (.c (.c .n))
    clear hS1
    have hS := hS.pk (.c 1 rfl (.c 0 rfl (.c 2 rfl (.c 3 rfl .n)))) rfl
    obtain ⟨D1677, q1680, le1678, hS, h1681, h1679⟩ := hS.lent h1674
    have hS := hS.pk (.c 3 rfl (.c 0 rfl (.c 1 rfl (.c 2 rfl .n)))) rfl
    obtain ⟨l1682, h1683, hf⟩ := bind_some hf
    refine at_op (g_append (K := (kdInt .u8)) (e := 5) (bytes := 1) (l := y1637) (m := r1667) rfl rfl rfl rfl hE rfl hS rfl rfl (by kernel_rfl) rfl rfl (h1643.mono (le2 le1676 le1678)) h1679 h1683 (fun a A1684 c1685 q1686 w _ hE h1687 hS => ?_)) rfl
    refine sN 1 5 [(5, .slice A1684 (List.length (l1682)) c1685)] hE (fun a hE => ?_)
    refine at_end rfl ?_
    refine wpIn_seq ?_
    refine region_at ?_
    refine sN 2 2 [(4, .slice A1684 (List.length (l1682)) c1685)] hE (fun a hE => ?_)
    refine at_end rfl ?_
    refine wpIn_ret ?_
    obtain rfl := Option.some.inj hf
    repeat (with_reducible first | refine then_ret ?_ | refine block_ret ?_ | refine qx_ret ?_)
    refine ret_gen ([.slice A1684 (List.length (l1682)) c1685]) hE (by rw [show Tryd.f38.results.toList = [.tmp 4] from rfl]; exact ⟨_, _, rfl, rfl, rfl⟩) ?_
    have hS := hS.pk (.c 2 rfl (.c 0 rfl .n)) rfl
    exact ⟨_, rfl, D1677, A1684, c1685, q1686, rfl, hS, h1687⟩
   ·replace hf := cond_f hb hf
    clear hb
    refine wpIn_skip ?_
    refine wpIn_seq ?_
    refine region_at ?_
    refine sN 2 2 [(4, .slice A1640 (List.length (y1637)) c1641)] hE (fun a hE => ?_)
    refine at_end rfl ?_
    refine wpIn_ret ?_
    obtain rfl := Option.some.inj hf
    repeat (with_reducible first | refine then_ret ?_ | refine block_ret ?_ | refine qx_ret ?_)
    refine ret_gen ([.slice A1640 (List.length (y1637)) c1641]) hE (by rw [show Tryd.f38.results.toList = [.tmp 4] from rfl]; exact ⟨_, _, rfl, rfl, rfl⟩) ?_
    have hS := hS.pk (.c 0 rfl (.c 2 rfl .n)) rfl
    exact ⟨_, rfl, D1638, A1640, c1641, q1642, rfl, hS, h1643⟩
set_option maxRecDepth 100000 in
set_option maxHeartbeats 4000000 in
theorem rec_Sealed.calls {K : Nat} {g w0 : World} {D0 : Snap} {x1 : T_api_Rec} {A2 : Option Addr} {c3 : Nat} {A5 : Option Addr} {c6 : Nat} {r : ((List Int))} (hf : rec_Sealed.f K x1 = some r) (hS0 : St g w0 D0 []) (h4 : Sl kd_T_api_Step D0 A2 c3 (x1.fSteps)) (h7 : Sl (kdInt .u8) D0 A5 c6 (x1.fData)) (hG0 : Cell (kdArr .u32 8) D0 0 0 gl_First) (hG1 : Cell (kdArr .u32 64) D0 1 0 gl_K) :
  CallsIn (Fw none) 0 Tryd.prog 20 (List.toArray [.agg (List.toArray (c_T_api_Rec (x1) A2 c3 A5 c6))]) w0 (fun e w' => ∃ v, e = .returned v ∧ ∃ (D1 : Snap) (A20 : Option Addr) (c21 : Nat) (q22 : Blk), v = .slice A20 (List.length (r)) c21 ∧ Stp g w0 D0 [] w' D1 [q22] ∧ OwnD (kdInt .u8) 5 D1 A20 c21 (r) q22) := by
 unfold rec_Sealed.f at hf
 have hS := Stp.refl hS0
 clear hS0
 refine calls_body (n := 6) Tryd.func20 rfl Tryd.ntmps20 rfl (fun a hE => ?_)
 have hE : Env a 6 [] [(0, .agg (List.toArray (c_T_api_Rec (x1) A2 c3 A5 c6)))] := hE
 refine wpIn_seq ?_
 refine region_at ?_
 refine at_op (op_box rfl rfl rfl rfl hE rfl hS rfl (fun a b25 w _ hE hS => ?_)) rfl
 refine sN 1 2 [(2, .slice none 0 0)] hE (fun a hE => ?_)
 refine at_end rfl ?_
 refine wpIn_seq ?_
 refine region_at ?_
 refine aL 0 (.agg (List.toArray (c_T_api_Rec (x1) A2 c3 A5 c6))) hE hS (fun a hE => ?_)
 refine sN 1 2 [(4, .func (.func 39) #[] #[.pointer (some ⟨b25, 0, none⟩)])] hE (fun a hE => ?_)
 obtain ⟨r27, h28, hf⟩ := bind_some hf
 refine aC rfl rfl rfl rfl hE rfl rfl rfl rfl (rec_put_v2.calls (g := g) h28 (hS.st.fore (L := [bx b25 27 (c_T_api_Rec (x1) A2 c3 A5 c6)])) h4 h7 h4 h7 hG0 hG1) (fun a v w hR hE => ?_)
 obtain ⟨D29, A31, c32, q33, rfl, hS1, h34⟩ := hR
 have le36 := hS1.dle
 have hS := hS.callR hS1 rfl (.c (.c .n))
 clear hS1
 refine sN 1 4 [(2, .slice A31 (List.length (r27)) c32)] hE (fun a hE => ?_)
 refine at_end rfl ?_
 refine wpIn_ret ?_
 obtain rfl := Option.some.inj hf
 repeat (with_reducible first | refine then_ret ?_ | refine block_ret ?_ | refine qx_ret ?_)
 refine ret_gen ([.slice A31 (List.length (r27)) c32]) hE (by rw [show Tryd.f20.results.toList = [.tmp 2] from rfl]; exact ⟨_, _, rfl, rfl, rfl⟩) ?_
 have hS := hS.pk (.c 1 rfl .n) rfl
 exact ⟨_, rfl, D29, A31, c32, q33, rfl, hS, h34⟩
set_option maxRecDepth 100000 in
set_option maxHeartbeats 4000000 in
theorem inspeximuslaw04_alive.calls {K : Nat} {g w0 : World} {D0 : Snap} {r : (Bool)} (hf : inspeximuslaw04_alive.f K = some r) (hS0 : St g w0 D0 []) (hG0 : Cell (kdArr .u32 8) D0 0 0 gl_First) (hG1 : Cell (kdArr .u32 64) D0 1 0 gl_K) :
  CallsIn (Fw none) 0 Tryd.prog 9 (List.toArray []) w0 (fun e w' => ∃ v, e = .returned v ∧ ∃ (D1 : Snap), v = .bool (r) ∧ Stp g w0 D0 [] w' D1 []) := by
 unfold inspeximuslaw04_alive.f at hf
 have hS := Stp.refl hS0
 clear hS0
 refine calls_body (n := 77) Tryd.func9 rfl Tryd.ntmps9 rfl (fun a hE => ?_)
 have hE : Env a 77 [] [] := hE
 refine wpIn_seq ?_
 refine region_at ?_
 refine sN 1 1 [(0, .bool false)] hE (fun a hE => ?_)
 refine at_end rfl ?_
 refine wpIn_seq ?_
 refine region_at ?_
 refine at_op (op_tk hE (tk_build (c_T_api_Rec ({ z_T_api_Rec with fKind := (6 : Int), fPart := (1 : Int), fEpoch := (2 : Int) }) none 0 none 0) rfl rfl rfl rfl hE rfl rfl (by kernel_rfl) (fun a hE => ?_))) rfl
 obtain ⟨r437, h438, hf⟩ := bind_some hf
 have hc := (rec_Open.calls (g := g) h438 (hS.st.fore (L := [])) (Sl.nil kd_T_api_Step D0) (Sl.nil (kdInt .u8) D0))
 refine aC rfl rfl rfl rfl hE rfl rfl rfl rfl hc (fun a v w hR hE => ?_)
 obtain ⟨D439, A441, c442, q443, rfl, hS1, h444⟩ := hR
 have le446 := hS1.dle
 have hS := hS.callR hS1 rfl (.c .n)
 clear hS1
 refine sN 1 3 [(1, .slice A441 (List.length (r437)) c442)] hE (fun a hE => ?_)
 refine at_end rfl ?_
 refine wpIn_seq ?_
 refine region_at ?_
 refine at_op (op_tk hE (tk_build (c_T_api_Step ((T_api_Step.mk ((1 : Int)) ((1 : Int))))) rfl rfl rfl rfl hE rfl rfl (by kernel_rfl) (fun a hE => ?_))) rfl
 refine at_op (op_buildSlice (K := kd_T_api_Step) (e := 37) (cs := (c_T_api_Step ((T_api_Step.mk ((1 : Int)) ((1 : Int))))) ++ []) ([(T_api_Step.mk ((1 : Int)) ((1 : Int)))] : List T_api_Step) rfl rfl rfl rfl hE rfl hS rfl (by kernel_rfl) rfl rfl (by exact (show RL kd_T_api_Step D439 ([(T_api_Step.mk ((1 : Int)) ((1 : Int)))] : List T_api_Step) ((c_T_api_Step ((T_api_Step.mk ((1 : Int)) ((1 : Int))))) ++ []) from ⟨_, _, rfl, (kd_T_api_Step_mk (D := D439) (x := (T_api_Step.mk ((1 : Int)) ((1 : Int)))) rfl rfl), rfl⟩)) (fun a A447 q448 w _ hE h449 hS => ?_)) rfl
 refine at_op (op_buildSlice (K := (kdInt .u8)) (e := 5) (cs := [.int .u8 ((97 : Int))] ++ []) ([(97 : Int)] : List Int) rfl rfl rfl rfl hE rfl hS rfl (by kernel_rfl) rfl rfl (by exact (show RL (kdInt .u8) D439 ([(97 : Int)] : List Int) ([.int .u8 ((97 : Int))] ++ []) from ⟨_, _, rfl, rfl, rfl⟩)) (fun a A451 q452 w _ hE h453 hS => ?_)) rfl
 refine at_op (op_lit (T := 5) (l := ([(97 : Int)] : List Int)) rfl rfl rfl rfl hE rfl hS rfl (by kernel_rfl) h453 (by kernel_rfl) (fun a D455 w _ le456 hE h457 hS => ?_)) rfl
 obtain ⟨D458, q461, le459, hS, h462, h460⟩ := hS.lent (h449.mono le456)
 refine at_op (op_tk hE (tk_build (c_T_api_Rec ({ z_T_api_Rec with fKind := (1 : Int), fSaga := (3 : Int), fSteps := ([(T_api_Step.mk ((1 : Int)) ((1 : Int)))] : List T_api_Step), fData := ([(97 : Int)] : List Int) }) A447 1 A451 1) rfl rfl rfl rfl hE rfl rfl (by kernel_rfl) (fun a hE => ?_))) rfl
 refine at_op (op_alloc (z := .agg (List.toArray (c_T_api_Rec (z_T_api_Rec) none 0 none 0))) rfl rfl rfl rfl hE rfl hS (by kernel_rfl) (fun a b463 w _ hE hS => ?_)) rfl
 obtain ⟨v465, hv466, hf⟩ := bind_some hf
 replace hv466 := Option.some.inj hv466
 refine at_op (op_store (v := .agg (List.toArray (c_T_api_Rec ({ z_T_api_Rec with fKind := (1 : Int), fSaga := (3 : Int), fSteps := ([(T_api_Step.mk ((1 : Int)) ((1 : Int)))] : List T_api_Step), fData := ([(97 : Int)] : List Int) }) A447 1 A451 1))) (c_T_api_Rec (v465) A447 1 A451 1) rfl rfl rfl rfl hE hS rfl rfl (by kernel_rfl) (by kernel_rfl) (by kernel_rfl) (by kernel_rfl) (by rw [← hv466]; kernel_rfl) (fun a w _ hE hS => ?_)) rfl
 have h467 : Sl kd_T_api_Step D458 A447 1 (v465.fSteps) := by rw [← hv466]; exact h460
 have h468 : Sl (kdInt .u8) D455 A451 1 (v465.fData) := by rw [← hv466]; exact h457
 refine at_end rfl ?_
 refine wpIn_seq ?_
 refine region_at ?_
 refine aL 0 (.agg (List.toArray (c_T_api_Rec (v465) A447 1 A451 1))) hE hS (fun a hE => ?_)
 have hS := hS.pk (.c 0 rfl (.c 2 rfl .n)) rfl
 obtain ⟨r469, h470, hf⟩ := bind_some hf
 refine aC rfl rfl rfl rfl hE rfl rfl rfl rfl (rec_Open.calls (g := g) h470 (hS.st.fore (L := [])) h467 (h468.mono le459)) (fun a v w hR hE => ?_)
 obtain ⟨D471, A473, c474, q475, rfl, hS1, h476⟩ := hR
 have le478 := hS1.dle
 have hS := hS.callR hS1 rfl (.c .n)
 clear hS1
 obtain ⟨D479, q482, le480, hS, h483, h481⟩ := hS.lent h476
 obtain ⟨r484, h485, hf⟩ := bind_some hf
 refine aC rfl rfl rfl rfl hE rfl rfl rfl rfl (rec_Get.calls (g := g) h485 (hS.st.fore (L := [])) h481) (fun a v w hR hE => ?_)
 obtain ⟨D486, A488, c489, A491, c492, rfl, hS1, h490, h493⟩ := hR
 have le494 := hS1.dle
 have hS := hS.callR hS1 rfl .n
 clear hS1
 refine sN 3 6 [(19, .agg (List.toArray (c_T_api_Rec (r484.1) A488 c489 A491 c492))), (20, .int .i64 (r484.2))] hE (fun a hE => ?_)
 refine at_op (op_alloc (z := .agg (List.toArray (c_T_api_Rec (z_T_api_Rec) none 0 none 0))) rfl rfl rfl rfl hE rfl hS (by kernel_rfl) (fun a b495 w _ hE hS => ?_)) rfl
 refine at_op (op_store (v := .agg (List.toArray (c_T_api_Rec (r484.1) A488 c489 A491 c492))) (c_T_api_Rec (r484.1) A488 c489 A491 c492) rfl rfl rfl rfl hE hS rfl rfl (by kernel_rfl) (by kernel_rfl) (by kernel_rfl) (by kernel_rfl) (by kernel_rfl) (fun a w _ hE hS => ?_)) rfl
 refine sN 1 9 [(4, .int .i64 (r484.2))] hE (fun a hE => ?_)
 refine at_end rfl ?_
 refine wpIn_seq ?_
 refine region_at ?_
 refine at_op (op_buildSlice (K := (kdInt .u8)) (e := 5) (cs := [.int .u8 ((9 : Int))] ++ []) ([(9 : Int)] : List Int) rfl rfl rfl rfl hE rfl hS rfl (by kernel_rfl) rfl rfl (by exact (show RL (kdInt .u8) D486 ([(9 : Int)] : List Int) ([.int .u8 ((9 : Int))] ++ []) from ⟨_, _, rfl, rfl, rfl⟩)) (fun a A497 q498 w _ hE h499 hS => ?_)) rfl
 obtain ⟨D501, q504, le502, hS, h505, h503⟩ := hS.lent h499
 have hS := hS.pk (.c 0 rfl (.c 1 rfl (.c 3 rfl (.c 4 rfl .n)))) rfl
 obtain ⟨r506, h507, hf⟩ := bind_some hf
 refine aC rfl rfl rfl rfl hE rfl rfl rfl rfl (rec_Get.calls (g := g) h507 (hS.st.fore (L := [])) h503) (fun a v w hR hE => ?_)
 obtain ⟨D508, A510, c511, A513, c514, rfl, hS1, h512, h515⟩ := hR
 have le516 := hS1.dle
 have hS := hS.callR hS1 rfl .n
 clear hS1
 refine sN 3 5 [(24, .agg (List.toArray (c_T_api_Rec (r506.1) A510 c511 A513 c514))), (25, .int .i64 (r506.2))] hE (fun a hE => ?_)
 refine at_op (op_alloc (z := .agg (List.toArray (c_T_api_Rec (z_T_api_Rec) none 0 none 0))) rfl rfl rfl rfl hE rfl hS (by kernel_rfl) (fun a b517 w _ hE hS => ?_)) rfl
 refine at_op (op_store (v := .agg (List.toArray (c_T_api_Rec (r506.1) A510 c511 A513 c514))) (c_T_api_Rec (r506.1) A510 c511 A513 c514) rfl rfl rfl rfl hE hS rfl rfl (by kernel_rfl) (by kernel_rfl) (by kernel_rfl) (by kernel_rfl) (by kernel_rfl) (fun a w _ hE hS => ?_)) rfl
 refine sN 1 8 [(6, .int .i64 (r506.2))] hE (fun a hE => ?_)
 refine at_end rfl ?_
 refine wpIn_seq ?_
 refine region_at ?_
 refine aL 3 (.agg (List.toArray (c_T_api_Rec (v465) A447 1 A451 1))) hE hS (fun a hE => ?_)
 have hS := hS.pk (.c 0 rfl (.c 2 rfl (.c 3 rfl (.c 4 rfl .n)))) rfl
 obtain ⟨r519, h520, hf⟩ := bind_some hf
 refine aC rfl rfl rfl rfl hE rfl rfl rfl rfl (rec_Redact.calls (g := g) h520 (hS.st.fore (L := [])) (h467.mono (le2 (le2 (le2 (le2 le478 le480) le494) le502) le516)) (h468.mono (le2 (le2 (le2 (le2 (le2 le459 le478) le480) le494) le502) le516)) (hG0.mono (le2 (le2 (le2 (le2 (le2 (le2 (le2 le446 le456) le459) le478) le480) le494) le502) le516)) (hG1.mono (le2 (le2 (le2 (le2 (le2 (le2 (le2 le446 le456) le459) le478) le480) le494) le502) le516))) (fun a v w hR hE => ?_)
 obtain ⟨D521, A523, c524, A526, c527, rfl, hS1, h525, h528⟩ := hR
 have le529 := hS1.dle
 have hS := hS.callR hS1 rfl .n
 clear hS1
 refine at_op (op_alloc (z := .agg (List.toArray (c_T_api_Rec (z_T_api_Rec) none 0 none 0))) rfl rfl rfl rfl hE rfl hS (by kernel_rfl) (fun a b530 w _ hE hS => ?_)) rfl
 refine at_op (op_store (v := .agg (List.toArray (c_T_api_Rec (r519) A523 c524 A526 c527))) (c_T_api_Rec (r519) A523 c524 A526 c527) rfl rfl rfl rfl hE hS rfl rfl (by kernel_rfl) (by kernel_rfl) (by kernel_rfl) (by kernel_rfl) (by kernel_rfl) (fun a w _ hE hS => ?_)) rfl
 refine at_end rfl ?_
 obtain ⟨j703, hj704, hf⟩ := jn_elim hf
 refine seq_join (fun a w => ∃ (y700 : Bool), ∃ (D701 : Snap), Env a 77 [] [(0, .bool (y700))] ∧ Stp g w0 D0 [] w D701 [] ∧ Snap.le D521 D701 ∧ j703 y700 = some r) ?_ ?_
 ·clear hj704
  refine region_draw (fun j => Keeps (mfOf [] j)) (by kernel_rfl) ?_
  have hS := hS.drew
  first | generalize w.drew = w at hS ⊢ | generalize w0.drew = w at hS ⊢
  refine wP 0 1 49 (.slice A441 (List.length (r437)) c442) hE (fun a hE => ?_)
  refine oG 1 3 (fuel := 48) (by kernel_rfl) (op_buildSlice (K := (kdInt .u8)) (e := 5) (cs := [.int .u8 ((6 : Int))] ++ ([.int .u8 ((1 : Int))] ++ ([.int .u8 ((2 : Int))] ++ []))) ([(6 : Int), (1 : Int), (2 : Int)] : List Int) rfl rfl rfl rfl hE rfl hS rfl (by kernel_rfl) rfl rfl (by exact (show RL (kdInt .u8) D521 ([(6 : Int), (1 : Int), (2 : Int)] : List Int) ([.int .u8 ((6 : Int))] ++ ([.int .u8 ((1 : Int))] ++ ([.int .u8 ((2 : Int))] ++ []))) from ⟨_, _, rfl, rfl, ⟨_, _, rfl, rfl, ⟨_, _, rfl, rfl, rfl⟩⟩⟩)) (fun a A789 q790 w hkp hE h791 hS => ⟨hkp.mono (fun _ h => absurd h List.not_mem_nil), ?_⟩))
  clear hkp
  have hS := hS.pk (.c 5 rfl (.c 0 rfl (.c 1 rfl (.c 2 rfl (.c 3 rfl (.c 4 rfl .n)))))) rfl
  obtain ⟨D793, q796, le794, hS, h797, h795⟩ := hS.lent (h444.mono (le2 (le2 (le2 (le2 (le2 (le2 (le2 le456 le459) le478) le480) le494) le502) le516) le529))
  have hS := hS.pk (.c 1 rfl (.c 0 rfl (.c 2 rfl (.c 3 rfl (.c 4 rfl (.c 5 rfl .n)))))) rfl
  obtain ⟨D798, q801, le799, hS, h802, h800⟩ := hS.lent (h791.mono le794)
  obtain ⟨r803, h804, hf⟩ := bind_some hf
  refine oG 2 7 (fuel := 47) (by kernel_rfl) (op_call rfl rfl rfl rfl hE rfl rfl rfl rfl (by kernel_rfl) (inspeximusref01_Bytes.calls (g := g) h804 (hS.st.fore (L := [])) (h795.mono le799) h800) (fun a v w hR hE => ?_))
  obtain ⟨D805, rfl, hS1⟩ := hR
  refine ⟨(hS1.keeps.sub (M' := []) trivial).mono (fun _ h => h), ?_⟩
  have le807 := hS1.dle
  have hS := hS.callR hS1 rfl .n
  clear hS1
  refine wP 3 15 46 (.bool (r803)) hE (fun a hE => ?_)
  refine Or.elim (Bool.eq_false_or_eq_true (r803)).symm (fun hb => ?_) (fun hb => ?_)
  ·replace hf := cond_f hb hf
   have hE := hE.know (t := 31) (b := r803) (b' := false) rfl hb
   clear hb
   refine wS 4 31 45 hE (fun a hE => ?_)
   refine wS 5 63 44 hE (fun a hE => ?_)
   refine wP 6 127 43 (.bool false) hE (fun a hE => ?_)
   refine wP 7 255 42 (.bool false) hE (fun a hE => ?_)
   refine wS 8 511 41 hE (fun a hE => ?_)
   refine wS 9 1023 40 hE (fun a hE => ?_)
   refine wP 10 2047 39 (.bool false) hE (fun a hE => ?_)
   refine wP 11 4095 38 (.bool false) hE (fun a hE => ?_)
   refine wS 12 8191 37 hE (fun a hE => ?_)
   refine wS 13 16383 36 hE (fun a hE => ?_)
   refine wS 14 32767 35 hE (fun a hE => ?_)
   refine wP 15 65535 34 (.bool false) hE (fun a hE => ?_)
   refine wP 16 131071 33 (.bool false) hE (fun a hE => ?_)
   refine wS 17 262143 32 hE (fun a hE => ?_)
   refine wS 18 524287 31 hE (fun a hE => ?_)
   refine wP 19 1048575 30 (.bool false) hE (fun a hE => ?_)
   refine wP 20 2097151 29 (.bool false) hE (fun a hE => ?_)
   refine wS 21 4194303 28 hE (fun a hE => ?_)
   refine wS 22 8388607 27 hE (fun a hE => ?_)
   refine wS 23 16777215 26 hE (fun a hE => ?_)
   refine wP 24 33554431 25 (.bool false) hE (fun a hE => ?_)
   refine wP 25 67108863 24 (.bool false) hE (fun a hE => ?_)
   refine wS 26 134217727 23 hE (fun a hE => ?_)
   refine wS 27 268435455 22 hE (fun a hE => ?_)
   refine wP 28 536870911 21 (.bool false) hE (fun a hE => ?_)
   refine wP 29 1073741823 20 (.bool false) hE (fun a hE => ?_)
   refine wS 30 2147483647 19 hE (fun a hE => ?_)
   refine wS 31 4294967295 18 hE (fun a hE => ?_)
   refine wS 32 8589934591 17 hE (fun a hE => ?_)
   refine wS 33 17179869183 16 hE (fun a hE => ?_)
   refine wS 34 34359738367 15 hE (fun a hE => ?_)
   refine wP 35 68719476735 14 (.bool false) hE (fun a hE => ?_)
   refine wP 36 137438953471 13 (.bool false) hE (fun a hE => ?_)
   refine wS 37 274877906943 12 hE (fun a hE => ?_)
   refine wS 38 549755813887 11 hE (fun a hE => ?_)
   refine wS 39 1099511627775 10 hE (fun a hE => ?_)
   refine wS 40 2199023255551 9 hE (fun a hE => ?_)
   refine wS 41 4398046511103 8 hE (fun a hE => ?_)
   refine wP 42 8796093022207 7 (.bool false) hE (fun a hE => ?_)
   refine wP 43 17592186044415 6 (.bool false) hE (fun a hE => ?_)
   refine wS 44 35184372088831 5 hE (fun a hE => ?_)
   refine wS 45 70368744177663 4 hE (fun a hE => ?_)
   refine wS 46 140737488355327 3 hE (fun a hE => ?_)
   refine wS 47 281474976710655 2 hE (fun a hE => ?_)
   refine wP 48 562949953421311 1 (.bool false) hE (fun a hE => ?_)
   refine wP 49 1125899906842623 0 (.bool false) hE (fun a hE => ?_)
   refine doneG (by kernel_rfl) ?_
   have hS := hS.pk .n rfl
   exact ⟨false, D805, hE.weak (by kernel_rfl), hS, (le2 (le2 le794 le799) le807), hf⟩
  ·replace hf := cond_t hb hf
   have hE := hE.know (t := 31) (b := r803) (b' := true) rfl hb
   clear hb
   refine wP 4 31 45 (.int .i64 (r484.2)) hE (fun a hE => ?_)
   refine wP 5 63 44 (.bool ((decide (r484.2 = (0 : Int))))) hE (fun a hE => ?_)
   refine wP 6 127 43 (.bool ((decide (r484.2 = (0 : Int))))) hE (fun a hE => ?_)
   refine wP 7 255 42 (.bool ((decide (r484.2 = (0 : Int))))) hE (fun a hE => ?_)
   refine Or.elim (Bool.eq_false_or_eq_true ((decide (r484.2 = (0 : Int))))).symm (fun hb => ?_) (fun hb => ?_)
   ·replace hf := cond_f hb hf
    have hE := hE.know (t := 35) (b := (decide (r484.2 = (0 : Int)))) (b' := false) rfl hb
    clear hb
    refine wS 8 511 41 hE (fun a hE => ?_)
    refine wS 9 1023 40 hE (fun a hE => ?_)
    refine wP 10 2047 39 (.bool false) hE (fun a hE => ?_)
    refine wP 11 4095 38 (.bool false) hE (fun a hE => ?_)
    refine wS 12 8191 37 hE (fun a hE => ?_)
    refine wS 13 16383 36 hE (fun a hE => ?_)
    refine wS 14 32767 35 hE (fun a hE => ?_)
    refine wP 15 65535 34 (.bool false) hE (fun a hE => ?_)
    refine wP 16 131071 33 (.bool false) hE (fun a hE => ?_)
    refine wS 17 262143 32 hE (fun a hE => ?_)
    refine wS 18 524287 31 hE (fun a hE => ?_)
    refine wP 19 1048575 30 (.bool false) hE (fun a hE => ?_)
    refine wP 20 2097151 29 (.bool false) hE (fun a hE => ?_)
    refine wS 21 4194303 28 hE (fun a hE => ?_)
    refine wS 22 8388607 27 hE (fun a hE => ?_)
    refine wS 23 16777215 26 hE (fun a hE => ?_)
    refine wP 24 33554431 25 (.bool false) hE (fun a hE => ?_)
    refine wP 25 67108863 24 (.bool false) hE (fun a hE => ?_)
    refine wS 26 134217727 23 hE (fun a hE => ?_)
    refine wS 27 268435455 22 hE (fun a hE => ?_)
    refine wP 28 536870911 21 (.bool false) hE (fun a hE => ?_)
    refine wP 29 1073741823 20 (.bool false) hE (fun a hE => ?_)
    refine wS 30 2147483647 19 hE (fun a hE => ?_)
    refine wS 31 4294967295 18 hE (fun a hE => ?_)
    refine wS 32 8589934591 17 hE (fun a hE => ?_)
    refine wS 33 17179869183 16 hE (fun a hE => ?_)
    refine wS 34 34359738367 15 hE (fun a hE => ?_)
    refine wP 35 68719476735 14 (.bool false) hE (fun a hE => ?_)
    refine wP 36 137438953471 13 (.bool false) hE (fun a hE => ?_)
    refine wS 37 274877906943 12 hE (fun a hE => ?_)
    refine wS 38 549755813887 11 hE (fun a hE => ?_)
    refine wS 39 1099511627775 10 hE (fun a hE => ?_)
    refine wS 40 2199023255551 9 hE (fun a hE => ?_)
    refine wS 41 4398046511103 8 hE (fun a hE => ?_)
    refine wP 42 8796093022207 7 (.bool false) hE (fun a hE => ?_)
    refine wP 43 17592186044415 6 (.bool false) hE (fun a hE => ?_)
    refine wS 44 35184372088831 5 hE (fun a hE => ?_)
    refine wS 45 70368744177663 4 hE (fun a hE => ?_)
    refine wS 46 140737488355327 3 hE (fun a hE => ?_)
    refine wS 47 281474976710655 2 hE (fun a hE => ?_)
    refine wP 48 562949953421311 1 (.bool false) hE (fun a hE => ?_)
    refine wP 49 1125899906842623 0 (.bool false) hE (fun a hE => ?_)
    refine doneG (by kernel_rfl) ?_
    have hS := hS.pk .n rfl
    exact ⟨false, D805, hE.weak (by kernel_rfl), hS, (le2 (le2 le794 le799) le807), hf⟩
   ·replace hf := cond_t hb hf
    have hE := hE.know (t := 35) (b := (decide (r484.2 = (0 : Int)))) (b' := true) rfl hb
    clear hb
    refine wP 8 511 41 (.int .i64 (r506.2)) hE (fun a hE => ?_)
    refine wP 9 1023 40 (.bool ((decide (r506.2 = (2 : Int))))) hE (fun a hE => ?_)
    refine wP 10 2047 39 (.bool ((decide (r506.2 = (2 : Int))))) hE (fun a hE => ?_)
    refine wP 11 4095 38 (.bool ((decide (r506.2 = (2 : Int))))) hE (fun a hE => ?_)
    refine Or.elim (Bool.eq_false_or_eq_true ((decide (r506.2 = (2 : Int))))).symm (fun hb => ?_) (fun hb => ?_)
    ·replace hf := cond_f hb hf
     have hE := hE.know (t := 39) (b := (decide (r506.2 = (2 : Int)))) (b' := false) rfl hb
     clear hb
     refine wS 12 8191 37 hE (fun a hE => ?_)
     refine wS 13 16383 36 hE (fun a hE => ?_)
     refine wS 14 32767 35 hE (fun a hE => ?_)
     refine wP 15 65535 34 (.bool false) hE (fun a hE => ?_)
     refine wP 16 131071 33 (.bool false) hE (fun a hE => ?_)
     refine wS 17 262143 32 hE (fun a hE => ?_)
     refine wS 18 524287 31 hE (fun a hE => ?_)
     refine wP 19 1048575 30 (.bool false) hE (fun a hE => ?_)
     refine wP 20 2097151 29 (.bool false) hE (fun a hE => ?_)
     refine wS 21 4194303 28 hE (fun a hE => ?_)
     refine wS 22 8388607 27 hE (fun a hE => ?_)
     refine wS 23 16777215 26 hE (fun a hE => ?_)
     refine wP 24 33554431 25 (.bool false) hE (fun a hE => ?_)
     refine wP 25 67108863 24 (.bool false) hE (fun a hE => ?_)
     refine wS 26 134217727 23 hE (fun a hE => ?_)
     refine wS 27 268435455 22 hE (fun a hE => ?_)
     refine wP 28 536870911 21 (.bool false) hE (fun a hE => ?_)
     refine wP 29 1073741823 20 (.bool false) hE (fun a hE => ?_)
     refine wS 30 2147483647 19 hE (fun a hE => ?_)
     refine wS 31 4294967295 18 hE (fun a hE => ?_)
     refine wS 32 8589934591 17 hE (fun a hE => ?_)
     refine wS 33 17179869183 16 hE (fun a hE => ?_)
     refine wS 34 34359738367 15 hE (fun a hE => ?_)
     refine wP 35 68719476735 14 (.bool false) hE (fun a hE => ?_)
     refine wP 36 137438953471 13 (.bool false) hE (fun a hE => ?_)
     refine wS 37 274877906943 12 hE (fun a hE => ?_)
     refine wS 38 549755813887 11 hE (fun a hE => ?_)
     refine wS 39 1099511627775 10 hE (fun a hE => ?_)
     refine wS 40 2199023255551 9 hE (fun a hE => ?_)
     refine wS 41 4398046511103 8 hE (fun a hE => ?_)
     refine wP 42 8796093022207 7 (.bool false) hE (fun a hE => ?_)
     refine wP 43 17592186044415 6 (.bool false) hE (fun a hE => ?_)
     refine wS 44 35184372088831 5 hE (fun a hE => ?_)
     refine wS 45 70368744177663 4 hE (fun a hE => ?_)
     refine wS 46 140737488355327 3 hE (fun a hE => ?_)
     refine wS 47 281474976710655 2 hE (fun a hE => ?_)
     refine wP 48 562949953421311 1 (.bool false) hE (fun a hE => ?_)
     refine wP 49 1125899906842623 0 (.bool false) hE (fun a hE => ?_)
     refine doneG (by kernel_rfl) ?_
     have hS := hS.pk .n rfl
     exact ⟨false, D805, hE.weak (by kernel_rfl), hS, (le2 (le2 le794 le799) le807), hf⟩
    ·replace hf := cond_t hb hf
     have hE := hE.know (t := 39) (b := (decide (r506.2 = (2 : Int)))) (b' := true) rfl hb
     clear hb
     refine tT 12 8191 (fuel := 37) (by kernel_rfl) hE (tk_load 5 (.agg (List.toArray (c_T_api_Rec (v465) A447 1 A451 1))) rfl rfl rfl rfl hE rfl hS rfl rfl (by kernel_rfl) (kL (j := 5) hS rfl List.not_mem_nil) (fun a hE => ?_))
     refine tT 13 16383 (fuel := 36) (by kernel_rfl) hE (tk_load 4 (.agg (List.toArray (c_T_api_Rec (r484.1) A488 c489 A491 c492))) rfl rfl rfl rfl hE rfl hS rfl rfl (by kernel_rfl) (kL (j := 4) hS rfl List.not_mem_nil) (fun a hE => ?_))
     obtain ⟨r808, h809, hf⟩ := bind_some hf
     refine oG 14 32767 (fuel := 35) (by kernel_rfl) (op_call rfl rfl rfl rfl hE rfl rfl rfl rfl (by kernel_rfl) (rec_Same.calls (g := g) h809 (hS.st.fore (L := [])) (h467.mono (le2 (le2 (le2 (le2 (le2 (le2 (le2 (le2 le478 le480) le494) le502) le516) le529) le794) le799) le807)) (h468.mono (le2 (le2 (le2 (le2 (le2 (le2 (le2 (le2 (le2 le459 le478) le480) le494) le502) le516) le529) le794) le799) le807)) (h490.mono (le2 (le2 (le2 (le2 (le2 le502 le516) le529) le794) le799) le807)) (h493.mono (le2 (le2 (le2 (le2 (le2 le502 le516) le529) le794) le799) le807))) (fun a v w hR hE => ?_))
     obtain ⟨D810, rfl, hS1⟩ := hR
     refine ⟨(hS1.keeps.sub (M' := []) trivial).mono (fun _ h => h), ?_⟩
     have le812 := hS1.dle
     have hS := hS.callR hS1 rfl .n
     clear hS1
     refine wP 15 65535 34 (.bool (r808)) hE (fun a hE => ?_)
     refine wP 16 131071 33 (.bool (r808)) hE (fun a hE => ?_)
     refine Or.elim (Bool.eq_false_or_eq_true (r808)).symm (fun hb => ?_) (fun hb => ?_)
     ·replace hf := cond_f hb hf
      have hE := hE.know (t := 44) (b := r808) (b' := false) rfl hb
      clear hb
      refine wS 17 262143 32 hE (fun a hE => ?_)
      refine wS 18 524287 31 hE (fun a hE => ?_)
      refine wP 19 1048575 30 (.bool false) hE (fun a hE => ?_)
      refine wP 20 2097151 29 (.bool false) hE (fun a hE => ?_)
      refine wS 21 4194303 28 hE (fun a hE => ?_)
      refine wS 22 8388607 27 hE (fun a hE => ?_)
      refine wS 23 16777215 26 hE (fun a hE => ?_)
      refine wP 24 33554431 25 (.bool false) hE (fun a hE => ?_)
      refine wP 25 67108863 24 (.bool false) hE (fun a hE => ?_)
      refine wS 26 134217727 23 hE (fun a hE => ?_)
      refine wS 27 268435455 22 hE (fun a hE => ?_)
      refine wP 28 536870911 21 (.bool false) hE (fun a hE => ?_)
      refine wP 29 1073741823 20 (.bool false) hE (fun a hE => ?_)
      refine wS 30 2147483647 19 hE (fun a hE => ?_)
      refine wS 31 4294967295 18 hE (fun a hE => ?_)
      refine wS 32 8589934591 17 hE (fun a hE => ?_)
      refine wS 33 17179869183 16 hE (fun a hE => ?_)
      refine wS 34 34359738367 15 hE (fun a hE => ?_)
      refine wP 35 68719476735 14 (.bool false) hE (fun a hE => ?_)
      refine wP 36 137438953471 13 (.bool false) hE (fun a hE => ?_)
      refine wS 37 274877906943 12 hE (fun a hE => ?_)
      refine wS 38 549755813887 11 hE (fun a hE => ?_)
      refine wS 39 1099511627775 10 hE (fun a hE => ?_)
      refine wS 40 2199023255551 9 hE (fun a hE => ?_)
      refine wS 41 4398046511103 8 hE (fun a hE => ?_)
      refine wP 42 8796093022207 7 (.bool false) hE (fun a hE => ?_)
      refine wP 43 17592186044415 6 (.bool false) hE (fun a hE => ?_)
      refine wS 44 35184372088831 5 hE (fun a hE => ?_)
      refine wS 45 70368744177663 4 hE (fun a hE => ?_)
      refine wS 46 140737488355327 3 hE (fun a hE => ?_)
      refine wS 47 281474976710655 2 hE (fun a hE => ?_)
      refine wP 48 562949953421311 1 (.bool false) hE (fun a hE => ?_)
      refine wP 49 1125899906842623 0 (.bool false) hE (fun a hE => ?_)
      refine doneG (by kernel_rfl) ?_
      have hS := hS.pk .n rfl
      exact ⟨false, D810, hE.weak (by kernel_rfl), hS, (le2 (le2 (le2 le794 le799) le807) le812), hf⟩
     ·replace hf := cond_t hb hf
      have hE := hE.know (t := 44) (b := r808) (b' := true) rfl hb
      clear hb
      refine tT 17 262143 (fuel := 32) (by kernel_rfl) hE (tk_load 5 (.agg (List.toArray (c_T_api_Rec (v465) A447 1 A451 1))) rfl rfl rfl rfl hE rfl hS rfl rfl (by kernel_rfl) (kL (j := 5) hS rfl List.not_mem_nil) (fun a hE => ?_))
      obtain ⟨r813, h814, hf⟩ := bind_some hf
      refine oG 18 524287 (fuel := 31) (by kernel_rfl) (op_call rfl rfl rfl rfl hE rfl rfl rfl rfl (by kernel_rfl) (rec_Right.calls (g := g) h814 (hS.st.fore (L := [])) (h467.mono (le2 (le2 (le2 (le2 (le2 (le2 (le2 (le2 (le2 le478 le480) le494) le502) le516) le529) le794) le799) le807) le812)) (h468.mono (le2 (le2 (le2 (le2 (le2 (le2 (le2 (le2 (le2 (le2 le459 le478) le480) le494) le502) le516) le529) le794) le799) le807) le812))) (fun a v w hR hE => ?_))
      obtain ⟨D815, rfl, hS1⟩ := hR
      refine ⟨(hS1.keeps.sub (M' := []) trivial).mono (fun _ h => h), ?_⟩
      have le817 := hS1.dle
      have hS := hS.callR hS1 rfl .n
      clear hS1
      refine wP 19 1048575 30 (.bool (r813)) hE (fun a hE => ?_)
      refine wP 20 2097151 29 (.bool (r813)) hE (fun a hE => ?_)
      refine Or.elim (Bool.eq_false_or_eq_true (r813)).symm (fun hb => ?_) (fun hb => ?_)
      ·replace hf := cond_f hb hf
       have hE := hE.know (t := 48) (b := r813) (b' := false) rfl hb
       clear hb
       refine wS 21 4194303 28 hE (fun a hE => ?_)
       refine wS 22 8388607 27 hE (fun a hE => ?_)
       refine wS 23 16777215 26 hE (fun a hE => ?_)
       refine wP 24 33554431 25 (.bool false) hE (fun a hE => ?_)
       refine wP 25 67108863 24 (.bool false) hE (fun a hE => ?_)
       refine wS 26 134217727 23 hE (fun a hE => ?_)
       refine wS 27 268435455 22 hE (fun a hE => ?_)
       refine wP 28 536870911 21 (.bool false) hE (fun a hE => ?_)
       refine wP 29 1073741823 20 (.bool false) hE (fun a hE => ?_)
       refine wS 30 2147483647 19 hE (fun a hE => ?_)
       refine wS 31 4294967295 18 hE (fun a hE => ?_)
       refine wS 32 8589934591 17 hE (fun a hE => ?_)
       refine wS 33 17179869183 16 hE (fun a hE => ?_)
       refine wS 34 34359738367 15 hE (fun a hE => ?_)
       refine wP 35 68719476735 14 (.bool false) hE (fun a hE => ?_)
       refine wP 36 137438953471 13 (.bool false) hE (fun a hE => ?_)
       refine wS 37 274877906943 12 hE (fun a hE => ?_)
       refine wS 38 549755813887 11 hE (fun a hE => ?_)
       refine wS 39 1099511627775 10 hE (fun a hE => ?_)
       refine wS 40 2199023255551 9 hE (fun a hE => ?_)
       refine wS 41 4398046511103 8 hE (fun a hE => ?_)
       refine wP 42 8796093022207 7 (.bool false) hE (fun a hE => ?_)
       refine wP 43 17592186044415 6 (.bool false) hE (fun a hE => ?_)
       refine wS 44 35184372088831 5 hE (fun a hE => ?_)
       refine wS 45 70368744177663 4 hE (fun a hE => ?_)
       refine wS 46 140737488355327 3 hE (fun a hE => ?_)
       refine wS 47 281474976710655 2 hE (fun a hE => ?_)
       refine wP 48 562949953421311 1 (.bool false) hE (fun a hE => ?_)
       refine wP 49 1125899906842623 0 (.bool false) hE (fun a hE => ?_)
       refine doneG (by kernel_rfl) ?_
       have hS := hS.pk .n rfl
       exact ⟨false, D815, hE.weak (by kernel_rfl), hS, (le2 (le2 (le2 (le2 le794 le799) le807) le812) le817), hf⟩
      ·replace hf := cond_t hb hf
       have hE := hE.know (t := 48) (b := r813) (b' := true) rfl hb
       clear hb
       refine tW 21 4194303 (fuel := 28) (by kernel_rfl) hE (fun M => tk_build (c_T_api_Rec (z_T_api_Rec) none 0 none 0) rfl rfl rfl rfl hE rfl rfl (by kernel_rfl) (fun a hE => ?_))
       obtain ⟨r818, h819, hf⟩ := bind_some hf
       refine oG 22 8388607 (fuel := 27) (by kernel_rfl) (op_call rfl rfl rfl rfl hE rfl rfl rfl rfl (by kernel_rfl) (rec_Right.calls (g := g) h819 (hS.st.fore (L := [])) (Sl.nil kd_T_api_Step D815) (Sl.nil (kdInt .u8) D815)) (fun a v w hR hE => ?_))
       obtain ⟨D820, rfl, hS1⟩ := hR
       refine ⟨(hS1.keeps.sub (M' := []) trivial).mono (fun _ h => h), ?_⟩
       have le822 := hS1.dle
       have hS := hS.callR hS1 rfl .n
       clear hS1
       refine wP 23 16777215 26 (.bool ((!r818))) hE (fun a hE => ?_)
       refine wP 24 33554431 25 (.bool ((!r818))) hE (fun a hE => ?_)
       refine wP 25 67108863 24 (.bool ((!r818))) hE (fun a hE => ?_)
       refine Or.elim (Bool.eq_false_or_eq_true ((!r818))).symm (fun hb => ?_) (fun hb => ?_)
       ·replace hf := cond_f hb hf
        have hE := hE.know (t := 53) (b := (!r818)) (b' := false) rfl hb
        clear hb
        refine wS 26 134217727 23 hE (fun a hE => ?_)
        refine wS 27 268435455 22 hE (fun a hE => ?_)
        refine wP 28 536870911 21 (.bool false) hE (fun a hE => ?_)
        refine wP 29 1073741823 20 (.bool false) hE (fun a hE => ?_)
        refine wS 30 2147483647 19 hE (fun a hE => ?_)
        refine wS 31 4294967295 18 hE (fun a hE => ?_)
        refine wS 32 8589934591 17 hE (fun a hE => ?_)
        refine wS 33 17179869183 16 hE (fun a hE => ?_)
        refine wS 34 34359738367 15 hE (fun a hE => ?_)
        refine wP 35 68719476735 14 (.bool false) hE (fun a hE => ?_)
        refine wP 36 137438953471 13 (.bool false) hE (fun a hE => ?_)
        refine wS 37 274877906943 12 hE (fun a hE => ?_)
        refine wS 38 549755813887 11 hE (fun a hE => ?_)
        refine wS 39 1099511627775 10 hE (fun a hE => ?_)
        refine wS 40 2199023255551 9 hE (fun a hE => ?_)
        refine wS 41 4398046511103 8 hE (fun a hE => ?_)
        refine wP 42 8796093022207 7 (.bool false) hE (fun a hE => ?_)
        refine wP 43 17592186044415 6 (.bool false) hE (fun a hE => ?_)
        refine wS 44 35184372088831 5 hE (fun a hE => ?_)
        refine wS 45 70368744177663 4 hE (fun a hE => ?_)
        refine wS 46 140737488355327 3 hE (fun a hE => ?_)
        refine wS 47 281474976710655 2 hE (fun a hE => ?_)
        refine wP 48 562949953421311 1 (.bool false) hE (fun a hE => ?_)
        refine wP 49 1125899906842623 0 (.bool false) hE (fun a hE => ?_)
        refine doneG (by kernel_rfl) ?_
        have hS := hS.pk .n rfl
        exact ⟨false, D820, hE.weak (by kernel_rfl), hS, (le2 (le2 (le2 (le2 (le2 le794 le799) le807) le812) le817) le822), hf⟩
       ·replace hf := cond_t hb hf
        have hE := hE.know (t := 53) (b := (!r818)) (b' := true) rfl hb
        clear hb
        refine wF 26 134217727 23 76 4 76 hE (fun a hE => ?_)
        refine tT 27 268435455 (fuel := 22) (by kernel_rfl) hE (tk_load 2 (.bool (r519.fGone)) rfl rfl rfl rfl hE rfl hS rfl rfl (by kernel_rfl) (kL (j := 2) hS rfl List.not_mem_nil) (fun a hE => ?_))
        refine wP 28 536870911 21 (.bool (r519.fGone)) hE (fun a hE => ?_)
        refine wP 29 1073741823 20 (.bool (r519.fGone)) hE (fun a hE => ?_)
        refine Or.elim (Bool.eq_false_or_eq_true (r519.fGone)).symm (fun hb => ?_) (fun hb => ?_)
        ·replace hf := cond_f hb hf
         have hE := hE.know (t := 57) (b := r519.fGone) (b' := false) rfl hb
         clear hb
         refine wS 30 2147483647 19 hE (fun a hE => ?_)
         refine wS 31 4294967295 18 hE (fun a hE => ?_)
         refine wS 32 8589934591 17 hE (fun a hE => ?_)
         refine wS 33 17179869183 16 hE (fun a hE => ?_)
         refine wS 34 34359738367 15 hE (fun a hE => ?_)
         refine wP 35 68719476735 14 (.bool false) hE (fun a hE => ?_)
         refine wP 36 137438953471 13 (.bool false) hE (fun a hE => ?_)
         refine wS 37 274877906943 12 hE (fun a hE => ?_)
         refine wS 38 549755813887 11 hE (fun a hE => ?_)
         refine wS 39 1099511627775 10 hE (fun a hE => ?_)
         refine wS 40 2199023255551 9 hE (fun a hE => ?_)
         refine wS 41 4398046511103 8 hE (fun a hE => ?_)
         refine wP 42 8796093022207 7 (.bool false) hE (fun a hE => ?_)
         refine wP 43 17592186044415 6 (.bool false) hE (fun a hE => ?_)
         refine wS 44 35184372088831 5 hE (fun a hE => ?_)
         refine wS 45 70368744177663 4 hE (fun a hE => ?_)
         refine wS 46 140737488355327 3 hE (fun a hE => ?_)
         refine wS 47 281474976710655 2 hE (fun a hE => ?_)
         refine wP 48 562949953421311 1 (.bool false) hE (fun a hE => ?_)
         refine wP 49 1125899906842623 0 (.bool false) hE (fun a hE => ?_)
         refine doneG (by kernel_rfl) ?_
         have hS := hS.pk .n rfl
         exact ⟨false, D820, hE.weak (by kernel_rfl), hS, (le2 (le2 (le2 (le2 (le2 le794 le799) le807) le812) le817) le822), hf⟩
        ·replace hf := cond_t hb hf
         have hE := hE.know (t := 57) (b := r519.fGone) (b' := true) rfl hb
         clear hb
         refine wF 30 2147483647 19 77 23 77 hE (fun a hE => ?_)
         refine tT 31 4294967295 (fuel := 18) (by kernel_rfl) hE (tk_load 2 (.agg (List.toArray (acells .u8 32 (r519.fCom)))) rfl rfl rfl rfl hE rfl hS rfl rfl (by kernel_rfl) (kL (j := 2) hS rfl List.not_mem_nil) (fun a hE => ?_))
         refine tT 32 8589934591 (fuel := 17) (by kernel_rfl) hE (tk_load 5 (.agg (List.toArray (c_T_api_Rec (v465) A447 1 A451 1))) rfl rfl rfl rfl hE rfl hS rfl rfl (by kernel_rfl) (kL (j := 5) hS rfl List.not_mem_nil) (fun a hE => ?_))
         obtain ⟨r823, h824, hf⟩ := bind_some hf
         refine oG 33 17179869183 (fuel := 16) (by kernel_rfl) (op_call rfl rfl rfl rfl hE rfl rfl rfl rfl (by kernel_rfl) (rec_Com.calls (g := g) h824 (hS.st.fore (L := [])) (h467.mono (le2 (le2 (le2 (le2 (le2 (le2 (le2 (le2 (le2 (le2 (le2 le478 le480) le494) le502) le516) le529) le794) le799) le807) le812) le817) le822)) (h468.mono (le2 (le2 (le2 (le2 (le2 (le2 (le2 (le2 (le2 (le2 (le2 (le2 le459 le478) le480) le494) le502) le516) le529) le794) le799) le807) le812) le817) le822)) (hG0.mono (le2 (le2 (le2 (le2 (le2 (le2 (le2 (le2 (le2 (le2 (le2 (le2 (le2 (le2 le446 le456) le459) le478) le480) le494) le502) le516) le529) le794) le799) le807) le812) le817) le822)) (hG1.mono (le2 (le2 (le2 (le2 (le2 (le2 (le2 (le2 (le2 (le2 (le2 (le2 (le2 (le2 le446 le456) le459) le478) le480) le494) le502) le516) le529) le794) le799) le807) le812) le817) le822))) (fun a v w hR hE => ?_))
         obtain ⟨D825, rfl, hS1⟩ := hR
         refine ⟨(hS1.keeps.sub (M' := []) trivial).mono (fun _ h => h), ?_⟩
         have le827 := hS1.dle
         have hS := hS.callR hS1 rfl .n
         clear hS1
         refine tW 34 34359738367 (fuel := 15) (by kernel_rfl) hE (fun M => tk_bin (r := .bool ((decide (r519.fCom = r823)))) rfl rfl rfl rfl hE rfl rfl rfl (eqagg_run (by kernel_rfl) (EqR_arr (k := .u8) (N := 32) (by kernel_rfl))) (fun a hE => ?_))
         refine wP 35 68719476735 14 (.bool ((decide (r519.fCom = r823)))) hE (fun a hE => ?_)
         refine wP 36 137438953471 13 (.bool ((decide (r519.fCom = r823)))) hE (fun a hE => ?_)
         refine Or.elim (Bool.eq_false_or_eq_true ((decide (r519.fCom = r823)))).symm (fun hb => ?_) (fun hb => ?_)
         ·replace hf := cond_f hb hf
          have hE := hE.know (t := 64) (b := (decide (r519.fCom = r823))) (b' := false) rfl hb
          clear hb
          refine wS 37 274877906943 12 hE (fun a hE => ?_)
          refine wS 38 549755813887 11 hE (fun a hE => ?_)
          refine wS 39 1099511627775 10 hE (fun a hE => ?_)
          refine wS 40 2199023255551 9 hE (fun a hE => ?_)
          refine wS 41 4398046511103 8 hE (fun a hE => ?_)
          refine wP 42 8796093022207 7 (.bool false) hE (fun a hE => ?_)
          refine wP 43 17592186044415 6 (.bool false) hE (fun a hE => ?_)
          refine wS 44 35184372088831 5 hE (fun a hE => ?_)
          refine wS 45 70368744177663 4 hE (fun a hE => ?_)
          refine wS 46 140737488355327 3 hE (fun a hE => ?_)
          refine wS 47 281474976710655 2 hE (fun a hE => ?_)
          refine wP 48 562949953421311 1 (.bool false) hE (fun a hE => ?_)
          refine wP 49 1125899906842623 0 (.bool false) hE (fun a hE => ?_)
          refine doneG (by kernel_rfl) ?_
          have hS := hS.pk .n rfl
          exact ⟨false, D825, hE.weak (by kernel_rfl), hS, (le2 (le2 (le2 (le2 (le2 (le2 le794 le799) le807) le812) le817) le822) le827), hf⟩
         ·replace hf := cond_t hb hf
          have hE := hE.know (t := 64) (b := (decide (r519.fCom = r823))) (b' := true) rfl hb
          clear hb
          refine tT 37 274877906943 (fuel := 12) (by kernel_rfl) hE (tk_load 5 (.agg (List.toArray (c_T_api_Rec (v465) A447 1 A451 1))) rfl rfl rfl rfl hE rfl hS rfl rfl (by kernel_rfl) (kL (j := 5) hS rfl List.not_mem_nil) (fun a hE => ?_))
          refine tT 39 824633720831 (fuel := 11) (by kernel_rfl) hE (tk_load 2 (.agg (List.toArray (c_T_api_Rec (r519) A523 c524 A526 c527))) rfl rfl rfl rfl hE rfl hS rfl rfl (by kernel_rfl) (kL (j := 2) hS rfl List.not_mem_nil) (fun a hE => ?_))
          obtain ⟨r828, h829, hf⟩ := bind_some hf
          refine oG 38 1099511627775 (fuel := 10) (by kernel_rfl) (op_call rfl rfl rfl rfl hE rfl rfl rfl rfl (by kernel_rfl) (rec_Sealed.calls (g := g) h829 (hS.st.fore (L := [])) (h467.mono (le2 (le2 (le2 (le2 (le2 (le2 (le2 (le2 (le2 (le2 (le2 (le2 le478 le480) le494) le502) le516) le529) le794) le799) le807) le812) le817) le822) le827)) (h468.mono (le2 (le2 (le2 (le2 (le2 (le2 (le2 (le2 (le2 (le2 (le2 (le2 (le2 le459 le478) le480) le494) le502) le516) le529) le794) le799) le807) le812) le817) le822) le827)) (hG0.mono (le2 (le2 (le2 (le2 (le2 (le2 (le2 (le2 (le2 (le2 (le2 (le2 (le2 (le2 (le2 le446 le456) le459) le478) le480) le494) le502) le516) le529) le794) le799) le807) le812) le817) le822) le827)) (hG1.mono (le2 (le2 (le2 (le2 (le2 (le2 (le2 (le2 (le2 (le2 (le2 (le2 (le2 (le2 (le2 le446 le456) le459) le478) le480) le494) le502) le516) le529) le794) le799) le807) le812) le817) le822) le827))) (fun a v w hR hE => ?_))
          obtain ⟨D830, A832, c833, q834, rfl, hS1, h835⟩ := hR
          refine ⟨(hS1.keeps.sub (M' := []) trivial).mono (fun _ h => h), ?_⟩
          have le837 := hS1.dle
          have hS := hS.callR hS1 rfl (.c .n)
          clear hS1
          obtain ⟨r838, h839, hf⟩ := bind_some hf
          refine oG 40 2199023255551 (fuel := 9) (by kernel_rfl) (op_call rfl rfl rfl rfl hE rfl rfl rfl rfl (by kernel_rfl) (rec_Sealed.calls (g := g) h839 (hS.st.fore (L := [])) (h525.mono (le2 (le2 (le2 (le2 (le2 (le2 (le2 le794 le799) le807) le812) le817) le822) le827) le837)) (h528.mono (le2 (le2 (le2 (le2 (le2 (le2 (le2 le794 le799) le807) le812) le817) le822) le827) le837)) (hG0.mono (le2 (le2 (le2 (le2 (le2 (le2 (le2 (le2 (le2 (le2 (le2 (le2 (le2 (le2 (le2 (le2 le446 le456) le459) le478) le480) le494) le502) le516) le529) le794) le799) le807) le812) le817) le822) le827) le837)) (hG1.mono (le2 (le2 (le2 (le2 (le2 (le2 (le2 (le2 (le2 (le2 (le2 (le2 (le2 (le2 (le2 (le2 le446 le456) le459) le478) le480) le494) le502) le516) le529) le794) le799) le807) le812) le817) le822) le827) le837))) (fun a v w hR hE => ?_))
          obtain ⟨D840, A842, c843, q844, rfl, hS1, h845⟩ := hR
          refine ⟨(hS1.keeps.sub (M' := []) trivial).mono (fun _ h => h), ?_⟩
          have le847 := hS1.dle
          have hS := hS.callR hS1 rfl (.c .n)
          clear hS1
          have hS := hS.pk (.c 1 rfl (.c 0 rfl (.c 2 rfl (.c 3 rfl (.c 4 rfl (.c 5 rfl (.c 6 rfl (.c 7 rfl .n)))))))) rfl
          obtain ⟨D848, q851, le849, hS, h852, h850⟩ := hS.lent (h835.mono le847)
          have hS := hS.pk (.c 1 rfl (.c 0 rfl (.c 2 rfl (.c 3 rfl (.c 4 rfl (.c 5 rfl (.c 6 rfl (.c 7 rfl .n)))))))) rfl
          obtain ⟨D853, q856, le854, hS, h857, h855⟩ := hS.lent (h845.mono le849)
          obtain ⟨r858, h859, hf⟩ := bind_some hf
          refine oG 41 4398046511103 (fuel := 8) (by kernel_rfl) (op_call rfl rfl rfl rfl hE rfl rfl rfl rfl (by kernel_rfl) (inspeximusref01_Bytes.calls (g := g) h859 (hS.st.fore (L := [])) (h850.mono le854) h855) (fun a v w hR hE => ?_))
          obtain ⟨D860, rfl, hS1⟩ := hR
          refine ⟨(hS1.keeps.sub (M' := []) trivial).mono (fun _ h => h), ?_⟩
          have le862 := hS1.dle
          have hS := hS.callR hS1 rfl .n
          clear hS1
          refine wP 42 8796093022207 7 (.bool (r858)) hE (fun a hE => ?_)
          refine wP 43 17592186044415 6 (.bool (r858)) hE (fun a hE => ?_)
          refine Or.elim (Bool.eq_false_or_eq_true (r858)).symm (fun hb => ?_) (fun hb => ?_)
          ·replace hf := cond_f hb hf
           have hE := hE.know (t := 71) (b := r858) (b' := false) rfl hb
           clear hb
           refine wS 44 35184372088831 5 hE (fun a hE => ?_)
           refine wS 45 70368744177663 4 hE (fun a hE => ?_)
           refine wS 46 140737488355327 3 hE (fun a hE => ?_)
           refine wS 47 281474976710655 2 hE (fun a hE => ?_)
           refine wP 48 562949953421311 1 (.bool false) hE (fun a hE => ?_)
           refine wP 49 1125899906842623 0 (.bool false) hE (fun a hE => ?_)
           refine doneG (by kernel_rfl) ?_
           have hS := hS.pk .n rfl
           exact ⟨false, D860, hE.weak (by kernel_rfl), hS, (le2 (le2 (le2 (le2 (le2 (le2 (le2 (le2 (le2 (le2 (le2 le794 le799) le807) le812) le817) le822) le827) le837) le847) le849) le854) le862), hf⟩
          ·replace hf := cond_t hb hf
           have hE := hE.know (t := 71) (b := r858) (b' := true) rfl hb
           clear hb
           refine tT 44 35184372088831 (fuel := 5) (by kernel_rfl) hE (tk_load 4 (.agg (List.toArray (c_T_api_Rec (r519) A523 c524 A526 c527))) rfl rfl rfl rfl hE rfl hS rfl rfl (by kernel_rfl) (kL (j := 4) hS rfl List.not_mem_nil) (fun a hE => ?_))
           obtain ⟨r863, h864, hf⟩ := bind_some hf
           refine oG 45 70368744177663 (fuel := 4) (by kernel_rfl) (op_call rfl rfl rfl rfl hE rfl rfl rfl rfl (by kernel_rfl) (rec_Open.calls (g := g) h864 (hS.st.fore (L := [])) (h525.mono (le2 (le2 (le2 (le2 (le2 (le2 (le2 (le2 (le2 (le2 (le2 le794 le799) le807) le812) le817) le822) le827) le837) le847) le849) le854) le862)) (h528.mono (le2 (le2 (le2 (le2 (le2 (le2 (le2 (le2 (le2 (le2 (le2 le794 le799) le807) le812) le817) le822) le827) le837) le847) le849) le854) le862))) (fun a v w hR hE => ?_))
           obtain ⟨D865, A867, c868, q869, rfl, hS1, h870⟩ := hR
           refine ⟨(hS1.keeps.sub (M' := []) trivial).mono (fun _ h => h), ?_⟩
           have le872 := hS1.dle
           have hS := hS.callR hS1 rfl (.c .n)
           clear hS1
           refine wP 46 140737488355327 3 (.int .i64 (((List.length (r863) : Nat) : Int))) hE (fun a hE => ?_)
           refine wP 47 281474976710655 2 (.bool ((decide (((List.length (r863) : Nat) : Int) = (38 : Int))))) hE (fun a hE => ?_)
           refine wP 48 562949953421311 1 (.bool ((decide (((List.length (r863) : Nat) : Int) = (38 : Int))))) hE (fun a hE => ?_)
           refine wP 49 1125899906842623 0 (.bool ((decide (((List.length (r863) : Nat) : Int) = (38 : Int))))) hE (fun a hE => ?_)
           refine doneG (by kernel_rfl) ?_
           have hS := hS.pk .n rfl
           exact ⟨(decide (((List.length (r863) : Nat) : Int) = (38 : Int))), D865, hE.weak (by kernel_rfl), hS, (le2 (le2 (le2 (le2 (le2 (le2 (le2 (le2 (le2 (le2 (le2 (le2 le794 le799) le807) le812) le817) le822) le827) le837) le847) le849) le854) le862) le872), hf⟩
 ·clear hE hS
  rintro a w ⟨y700, D701, hE, hS, le702, hf⟩
  replace hf := hj704 _ hf
  clear hj704
  refine wpIn_ret ?_
  obtain rfl := Option.some.inj hf
  repeat (with_reducible first | refine then_ret ?_ | refine block_ret ?_ | refine qx_ret ?_)
  refine ret_gen ([.bool (y700)]) hE (by rw [show Tryd.f9.results.toList = [.tmp 0] from rfl]; exact ⟨_, _, rfl, rfl, rfl⟩) ?_
  exact ⟨_, rfl, D701, rfl, hS⟩
set_option maxRecDepth 100000 in
set_option maxHeartbeats 4000000 in
theorem inspeximusref04_Great.calls {K : Nat} {g w0 : World} {D0 : Snap} {x1 : T_api_Rec} {A2 : Option Addr} {c3 : Nat} {A5 : Option Addr} {c6 : Nat} {r : (Bool)} (hf : inspeximusref04_Great.f K x1 = some r) (hS0 : St g w0 D0 []) (h4 : Sl kd_T_api_Step D0 A2 c3 (x1.fSteps)) (h7 : Sl (kdInt .u8) D0 A5 c6 (x1.fData)) :
  CallsIn (Fw none) 0 Tryd.prog 10 (List.toArray [.agg (List.toArray (c_T_api_Rec (x1) A2 c3 A5 c6))]) w0 (fun e w' => ∃ v, e = .returned v ∧ ∃ (D1 : Snap), v = .bool (r) ∧ Stp g w0 D0 [] w' D1 []) := by
 unfold inspeximusref04_Great.f at hf
 have hS := Stp.refl hS0
 clear hS0
 refine calls_body (n := 13) Tryd.func10 rfl Tryd.ntmps10 rfl (fun a hE => ?_)
 have hE : Env a 13 [] [(0, .agg (List.toArray (c_T_api_Rec (x1) A2 c3 A5 c6)))] := hE
 refine wpIn_seq ?_
 refine region_at ?_
 refine at_op (op_box rfl rfl rfl rfl hE rfl hS rfl (fun a b10 w _ hE hS => ?_)) rfl
 refine sN 1 2 [(2, .bool false)] hE (fun a hE => ?_)
 refine at_end rfl ?_
 refine wpIn_seq ?_
 refine region_at ?_
 refine aF 42 24 42 hE (fun a hE => ?_)
 refine aL 0 (.slice A2 (List.length (x1.fSteps)) c3) hE hS (fun a hE => ?_)
 refine sN 3 5 [(7, .bool ((decide ((30 : Int) < ((List.length (x1.fSteps) : Nat) : Int)))))] hE (fun a hE => ?_)
 refine Or.elim (Bool.eq_false_or_eq_true ((decide ((30 : Int) < ((List.length (x1.fSteps) : Nat) : Int))))).symm (fun hb => ?_) (fun hb => ?_)
 ·replace hf := cond_f hb hf
  have hE := hE.know (t := 7) (b := (decide ((30 : Int) < ((List.length (x1.fSteps) : Nat) : Int)))) (b' := false) rfl hb
  clear hb
  refine aF 43 25 43 hE (fun a hE => ?_)
  refine aL 0 (.slice A5 (List.length (x1.fData)) c6) hE hS (fun a hE => ?_)
  refine sN 4 11 [(2, .bool ((decide ((300 : Int) < ((List.length (x1.fData) : Nat) : Int)))))] hE (fun a hE => ?_)
  refine at_end rfl ?_
  refine wpIn_ret ?_
  obtain rfl := Option.some.inj hf
  repeat (with_reducible first | refine then_ret ?_ | refine block_ret ?_ | refine qx_ret ?_)
  refine ret_gen ([.bool ((decide ((300 : Int) < ((List.length (x1.fData) : Nat) : Int))))]) hE (by rw [show Tryd.f10.results.toList = [.tmp 2] from rfl]; exact ⟨_, _, rfl, rfl, rfl⟩) ?_
  have hS := hS.pk .n rfl
  exact ⟨_, rfl, D0, rfl, hS⟩
 ·replace hf := cond_t hb hf
  have hE := hE.know (t := 7) (b := (decide ((30 : Int) < ((List.length (x1.fSteps) : Nat) : Int)))) (b' := true) rfl hb
  clear hb
  refine sN 6 11 [(2, .bool true)] hE (fun a hE => ?_)
  refine at_end rfl ?_
  refine wpIn_ret ?_
  obtain rfl := Option.some.inj hf
  repeat (with_reducible first | refine then_ret ?_ | refine block_ret ?_ | refine qx_ret ?_)
  refine ret_gen ([.bool true]) hE (by rw [show Tryd.f10.results.toList = [.tmp 2] from rfl]; exact ⟨_, _, rfl, rfl, rfl⟩) ?_
  have hS := hS.pk .n rfl
  exact ⟨_, rfl, D0, rfl, hS⟩
set_option maxRecDepth 100000 in
set_option maxHeartbeats 4000000 in
theorem inspeximusref04_in.calls {K : Nat} {g w0 : World} {D0 : Snap} {x1 : Int} {x2 : Int} {x3 : Int} {r : (Bool)} (hf : inspeximusref04_in.f K x1 x2 x3 = some r) (hS0 : St g w0 D0 []) :
  CallsIn (Fw none) 0 Tryd.prog 30 (List.toArray [.int .i64 (x1), .int .i64 (x2), .int .i64 (x3)]) w0 (fun e w' => ∃ v, e = .returned v ∧ ∃ (D1 : Snap), v = .bool (r) ∧ Stp g w0 D0 [] w' D1 []) := by
 unfold inspeximusref04_in.f at hf
 have hS := Stp.refl hS0
 clear hS0
 refine calls_body (n := 15) Tryd.func30 rfl Tryd.ntmps30 rfl (fun a hE => ?_)
 have hE : Env a 15 [] [(0, .int .i64 (x1)), (1, .int .i64 (x2)), (2, .int .i64 (x3))] := hE
 refine wpIn_seq ?_
 refine region_at ?_
 refine sN 1 1 [(6, .bool false)] hE (fun a hE => ?_)
 refine at_end rfl ?_
 refine wpIn_seq ?_
 refine region_at ?_
 refine sN 4 4 [(10, .bool ((decide (x2 ≤ x1))))] hE (fun a hE => ?_)
 refine Or.elim (Bool.eq_false_or_eq_true ((decide (x2 ≤ x1)))).symm (fun hb => ?_) (fun hb => ?_)
 ·replace hf := cond_f hb hf
  have hE := hE.know (t := 10) (b := (decide (x2 ≤ x1))) (b' := false) rfl hb
  clear hb
  refine sN 5 9 [(6, .bool false)] hE (fun a hE => ?_)
  refine at_end rfl ?_
  refine wpIn_ret ?_
  obtain rfl := Option.some.inj hf
  repeat (with_reducible first | refine then_ret ?_ | refine block_ret ?_ | refine qx_ret ?_)
  refine ret_gen ([.bool false]) hE (by rw [show Tryd.f30.results.toList = [.tmp 6] from rfl]; exact ⟨_, _, rfl, rfl, rfl⟩) ?_
  exact ⟨_, rfl, D0, rfl, hS⟩
 ·replace hf := cond_t hb hf
  have hE := hE.know (t := 10) (b := (decide (x2 ≤ x1))) (b' := true) rfl hb
  clear hb
  refine sN 5 9 [(6, .bool ((decide (x1 ≤ x3))))] hE (fun a hE => ?_)
  refine at_end rfl ?_
  refine wpIn_ret ?_
  obtain rfl := Option.some.inj hf
  repeat (with_reducible first | refine then_ret ?_ | refine block_ret ?_ | refine qx_ret ?_)
  refine ret_gen ([.bool ((decide (x1 ≤ x3)))]) hE (by rw [show Tryd.f30.results.toList = [.tmp 6] from rfl]; exact ⟨_, _, rfl, rfl, rfl⟩) ?_
  exact ⟨_, rfl, D0, rfl, hS⟩
set_option maxRecDepth 100000 in
set_option maxHeartbeats 4000000 in
theorem inspeximusref04_Right.calls {K : Nat} {g w0 : World} {D0 : Snap} {x1 : T_api_Rec} {A2 : Option Addr} {c3 : Nat} {A5 : Option Addr} {c6 : Nat} {r : (Bool)} (hf : inspeximusref04_Right.f K x1 = some r) (hS0 : St g w0 D0 []) (h4 : Sl kd_T_api_Step D0 A2 c3 (x1.fSteps)) (h7 : Sl (kdInt .u8) D0 A5 c6 (x1.fData)) :
  CallsIn (Fw none) 0 Tryd.prog 12 (List.toArray [.agg (List.toArray (c_T_api_Rec (x1) A2 c3 A5 c6))]) w0 (fun e w' => ∃ v, e = .returned v ∧ ∃ (D1 : Snap), v = .bool (r) ∧ Stp g w0 D0 [] w' D1 []) := by
 unfold inspeximusref04_Right.f at hf
 have hS := Stp.refl hS0
 clear hS0
 refine calls_body (n := 251) Tryd.func12 rfl Tryd.ntmps12 rfl (fun a hE => ?_)
 have hE : Env a 251 [] [(0, .agg (List.toArray (c_T_api_Rec (x1) A2 c3 A5 c6)))] := hE
 refine wpIn_seq ?_
 refine region_at ?_
 refine at_op (op_box rfl rfl rfl rfl hE rfl hS rfl (fun a b1274 w _ hE hS => ?_)) rfl
 refine sN 1 2 [(2, .bool false)] hE (fun a hE => ?_)
 refine at_end rfl ?_
 refine wpIn_seq ?_
 refine region_at ?_
 refine at_op (op_alloc (z := .agg (List.toArray (acells .u8 32 ((Vector.replicate 32 (0 : Int)))))) rfl rfl rfl rfl hE rfl hS (by kernel_rfl) (fun a b1276 w _ hE hS => ?_)) rfl
 refine at_end rfl ?_
 obtain ⟨j2538, hj2539, hf⟩ := jn_elim hf
 refine seq_join (fun a w => ∃ (y1278 : Bool), ∃ (D1279 : Snap), Env a 251 [] [(1, .pointer (some ⟨b1274, 0, none⟩)), (3, .pointer (some ⟨b1276, 0, none⟩)), (4, .bool ((decide (x1.fKind = (1 : Int))))), (5, .bool (y1278)), (6, .bool ((decide (x1.fKind = (3 : Int)))))] ∧ Stp g w0 D0 [] w D1279 [bx b1274 27 (c_T_api_Rec (x1) A2 c3 A5 c6), bx b1276 23 (acells .u8 32 ((Vector.replicate 32 (0 : Int))))] ∧ Snap.le D0 D1279 ∧ j2538 y1278 = some r) ?_ ?_
 ·clear hj2539
  refine region_draw (fun j => Keeps (mfOf [] j)) (by kernel_rfl) ?_
  have hS := hS.drew
  first | generalize w.drew = w at hS ⊢ | generalize w0.drew = w at hS ⊢
  refine wF 0 1 16 0 3 0 hE (fun a hE => ?_)
  refine tT 1 3 (fuel := 15) (by kernel_rfl) hE (tk_load 1 (.int .i64 (x1.fKind)) rfl rfl rfl rfl hE rfl hS rfl rfl (by kernel_rfl) (kL (j := 1) hS rfl List.not_mem_nil) (fun a hE => ?_))
  refine wP 2 7 14 (.bool ((decide (x1.fKind = (1 : Int))))) hE (fun a hE => ?_)
  refine wF 3 15 13 0 3 0 hE (fun a hE => ?_)
  refine tT 4 31 (fuel := 12) (by kernel_rfl) hE (tk_load 1 (.int .i64 (x1.fKind)) rfl rfl rfl rfl hE rfl hS rfl rfl (by kernel_rfl) (kL (j := 1) hS rfl List.not_mem_nil) (fun a hE => ?_))
  refine wP 5 63 11 (.bool ((decide ((2 : Int) ≤ x1.fKind)))) hE (fun a hE => ?_)
  refine wP 6 127 10 (.bool ((decide ((2 : Int) ≤ x1.fKind)))) hE (fun a hE => ?_)
  refine Or.elim (Bool.eq_false_or_eq_true ((decide ((2 : Int) ≤ x1.fKind)))).symm (fun hb => ?_) (fun hb => ?_)
  ·replace hf := cond_f hb hf
   have hE := hE.know (t := 14) (b := (decide ((2 : Int) ≤ x1.fKind))) (b' := false) rfl hb
   clear hb
   refine wS 7 255 9 hE (fun a hE => ?_)
   refine wS 8 511 8 hE (fun a hE => ?_)
   refine wS 9 1023 7 hE (fun a hE => ?_)
   refine wP 10 2047 6 (.bool false) hE (fun a hE => ?_)
   refine wP 14 18431 5 (.bool ((decide (x1.fKind = (1 : Int))))) hE (fun a hE => ?_)
   refine wP 15 51199 4 (.bool false) hE (fun a hE => ?_)
   refine wF 11 53247 3 0 3 0 hE (fun a hE => ?_)
   refine tT 12 57343 (fuel := 2) (by kernel_rfl) hE (tk_load 1 (.int .i64 (x1.fKind)) rfl rfl rfl rfl hE rfl hS rfl rfl (by kernel_rfl) (kL (j := 1) hS rfl List.not_mem_nil) (fun a hE => ?_))
   refine wP 13 65535 1 (.bool ((decide (x1.fKind = (3 : Int))))) hE (fun a hE => ?_)
   refine wP 16 131071 0 (.bool ((decide (x1.fKind = (3 : Int))))) hE (fun a hE => ?_)
   refine doneG (by kernel_rfl) ?_
   have hS := hS.pk (.c 1 rfl (.c 0 rfl .n)) rfl
   exact ⟨false, D0, hE.weak (by kernel_rfl), hS, Snap.le.refl _, hf⟩
  ·replace hf := cond_t hb hf
   have hE := hE.know (t := 14) (b := (decide ((2 : Int) ≤ x1.fKind))) (b' := true) rfl hb
   clear hb
   refine wP 14 16511 9 (.bool ((decide (x1.fKind = (1 : Int))))) hE (fun a hE => ?_)
   refine wF 7 16639 8 0 3 0 hE (fun a hE => ?_)
   refine tT 8 16895 (fuel := 7) (by kernel_rfl) hE (tk_load 1 (.int .i64 (x1.fKind)) rfl rfl rfl rfl hE rfl hS rfl rfl (by kernel_rfl) (kL (j := 1) hS rfl List.not_mem_nil) (fun a hE => ?_))
   refine wP 9 17407 6 (.bool ((decide (x1.fKind ≤ (4 : Int))))) hE (fun a hE => ?_)
   refine wP 10 18431 5 (.bool ((decide (x1.fKind ≤ (4 : Int))))) hE (fun a hE => ?_)
   refine wP 15 51199 4 (.bool ((decide (x1.fKind ≤ (4 : Int))))) hE (fun a hE => ?_)
   refine wF 11 53247 3 0 3 0 hE (fun a hE => ?_)
   refine tT 12 57343 (fuel := 2) (by kernel_rfl) hE (tk_load 1 (.int .i64 (x1.fKind)) rfl rfl rfl rfl hE rfl hS rfl rfl (by kernel_rfl) (kL (j := 1) hS rfl List.not_mem_nil) (fun a hE => ?_))
   refine wP 13 65535 1 (.bool ((decide (x1.fKind = (3 : Int))))) hE (fun a hE => ?_)
   refine wP 16 131071 0 (.bool ((decide (x1.fKind = (3 : Int))))) hE (fun a hE => ?_)
   refine doneG (by kernel_rfl) ?_
   have hS := hS.pk (.c 1 rfl (.c 0 rfl .n)) rfl
   exact ⟨(decide (x1.fKind ≤ (4 : Int))), D0, hE.weak (by kernel_rfl), hS, Snap.le.refl _, hf⟩
 ·clear hE hS
  rintro a w ⟨y1278, D1279, hE, hS, le1280, hf⟩
  replace hf := hj2539 _ hf
  clear hj2539
  refine wpIn_seq ?_
  obtain ⟨j2531, hj2532, hf⟩ := jn_elim hf
  refine seq_join (fun a w => ∃ (y1301 : Bool), ∃ (D1302 : Snap), Env a 251 [] [(1, .pointer (some ⟨b1274, 0, none⟩)), (3, .pointer (some ⟨b1276, 0, none⟩)), (4, .bool ((decide (x1.fKind = (1 : Int))))), (5, .bool (y1278)), (6, .bool ((decide (x1.fKind = (3 : Int))))), (45, .bool (y1301))] ∧ Stp g w0 D0 [] w D1302 [bx b1274 27 (c_T_api_Rec (x1) A2 c3 A5 c6), bx b1276 23 (acells .u8 32 ((Vector.replicate 32 (0 : Int))))] ∧ Snap.le D1279 D1302 ∧ j2531 y1301 = some r) ?_ ?_
  ·clear hj2532
   refine region_at ?_
   refine aF 0 3 0 hE (fun a hE => ?_)
   refine aL 0 (.int .i64 (x1.fKind)) hE hS (fun a hE => ?_)
   refine sN 2 4 [(25, .bool ((decide (x1.fKind < (1 : Int)))))] hE (fun a hE => ?_)
   refine Or.elim (Bool.eq_false_or_eq_true ((decide (x1.fKind < (1 : Int))))).symm (fun hb => ?_) (fun hb => ?_)
   ·replace hf := cond_f hb hf
    have hE := hE.know (t := 25) (b := (decide (x1.fKind < (1 : Int)))) (b' := false) rfl hb
    clear hb
    refine aF 0 3 0 hE (fun a hE => ?_)
    refine aL 0 (.int .i64 (x1.fKind)) hE hS (fun a hE => ?_)
    refine sN 3 9 [(30, .bool ((decide ((6 : Int) < x1.fKind))))] hE (fun a hE => ?_)
    refine Or.elim (Bool.eq_false_or_eq_true ((decide ((6 : Int) < x1.fKind)))).symm (fun hb => ?_) (fun hb => ?_)
    ·replace hf := cond_f hb hf
     have hE := hE.know (t := 30) (b := (decide ((6 : Int) < x1.fKind))) (b' := false) rfl hb
     clear hb
     refine aF 1 3 1 hE (fun a hE => ?_)
     refine aL 0 (.int .i64 (x1.fSaga)) hE hS (fun a hE => ?_)
     obtain ⟨r2533, h2534, hf⟩ := bind_some hf
     refine aC rfl rfl rfl rfl hE rfl rfl rfl rfl (inspeximusref04_in.calls (g := g) h2534 (hS.st.fore (L := [])) ) (fun a v w hR hE => ?_)
     obtain ⟨D2535, rfl, hS1⟩ := hR
     have le2537 := hS1.dle
     have hS := hS.callR hS1 rfl .n
     clear hS1
     refine sN 3 15 [(36, .bool ((!r2533)))] hE (fun a hE => ?_)
     refine Or.elim (Bool.eq_false_or_eq_true ((!r2533))).symm (fun hb => ?_) (fun hb => ?_)
     ·replace hf := cond_f hb hf
      have hE := hE.know (t := 36) (b := (!r2533)) (b' := false) rfl hb
      clear hb
      refine aF 0 3 0 hE (fun a hE => ?_)
      refine aL 0 (.int .i64 (x1.fKind)) hE hS (fun a hE => ?_)
      refine sN 2 19 [(40, .bool ((decide (x1.fKind = (6 : Int)))))] hE (fun a hE => ?_)
      refine Or.elim (Bool.eq_false_or_eq_true ((decide (x1.fKind = (6 : Int))))).symm (fun hb => ?_) (fun hb => ?_)
      ·replace hf := cond_f hb hf
       have hE := hE.know (t := 40) (b := (decide (x1.fKind = (6 : Int)))) (b' := false) rfl hb
       clear hb
       refine sN 5 24 [(45, .bool false)] hE (fun a hE => ?_)
       refine at_end rfl ?_
       exact ⟨false, D2535, hE.weak (by kernel_rfl), hS, le2537, hf⟩
      ·replace hf := cond_t hb hf
       have hE := hE.know (t := 40) (b := (decide (x1.fKind = (6 : Int)))) (b' := true) rfl hb
       clear hb
       refine aF 1 3 1 hE (fun a hE => ?_)
       refine aL 0 (.int .i64 (x1.fSaga)) hE hS (fun a hE => ?_)
       refine sN 3 24 [(45, .bool ((!decide (x1.fSaga = (0 : Int)))))] hE (fun a hE => ?_)
       refine at_end rfl ?_
       exact ⟨(!decide (x1.fSaga = (0 : Int))), D2535, hE.weak (by kernel_rfl), hS, le2537, hf⟩
     ·replace hf := cond_t hb hf
      have hE := hE.know (t := 36) (b := (!r2533)) (b' := true) rfl hb
      clear hb
      refine sN 9 24 [(45, .bool true)] hE (fun a hE => ?_)
      refine at_end rfl ?_
      exact ⟨true, D2535, hE.weak (by kernel_rfl), hS, le2537, hf⟩
    ·replace hf := cond_t hb hf
     have hE := hE.know (t := 30) (b := (decide ((6 : Int) < x1.fKind))) (b' := true) rfl hb
     clear hb
     refine sN 15 24 [(45, .bool true)] hE (fun a hE => ?_)
     refine at_end rfl ?_
     exact ⟨true, D1279, hE.weak (by kernel_rfl), hS, Snap.le.refl _, hf⟩
   ·replace hf := cond_t hb hf
    have hE := hE.know (t := 25) (b := (decide (x1.fKind < (1 : Int)))) (b' := true) rfl hb
    clear hb
    refine sN 20 24 [(45, .bool true)] hE (fun a hE => ?_)
    refine at_end rfl ?_
    exact ⟨true, D1279, hE.weak (by kernel_rfl), hS, Snap.le.refl _, hf⟩
  ·clear hE hS
   rintro a w ⟨y1301, D1302, hE, hS, le1303, hf⟩
   replace hf := hj2532 _ hf
   clear hj2532
   refine cond_split hE (b := y1301) rfl (fun hb => ?_) (fun hb => ?_)
   ·replace hf := cond_t hb hf
    clear hb
    refine wpIn_seq ?_
    refine region_at ?_
    refine sN 1 1 [(2, .bool false)] hE (fun a hE => ?_)
    refine at_end rfl ?_
    refine wpIn_ret ?_
    obtain rfl := Option.some.inj hf
    repeat (with_reducible first | refine then_ret ?_ | refine block_ret ?_ | refine qx_ret ?_)
    refine ret_gen ([.bool false]) hE (by rw [show Tryd.f12.results.toList = [.tmp 2] from rfl]; exact ⟨_, _, rfl, rfl, rfl⟩) ?_
    have hS := hS.pk .n rfl
    exact ⟨_, rfl, D1302, rfl, hS⟩
   ·replace hf := cond_f hb hf
    clear hb
    refine wpIn_skip ?_
    obtain ⟨j2519, hj2520, hf⟩ := jn_elim hf
    refine seq_join (fun a w => ∃ (y1314 : Unit), ∃ (D1315 : Snap), Env a 251 [] [(1, .pointer (some ⟨b1274, 0, none⟩)), (3, .pointer (some ⟨b1276, 0, none⟩)), (4, .bool ((decide (x1.fKind = (1 : Int))))), (5, .bool (y1278)), (6, .bool ((decide (x1.fKind = (3 : Int)))))] ∧ Stp g w0 D0 [] w D1315 [bx b1274 27 (c_T_api_Rec (x1) A2 c3 A5 c6), bx b1276 23 (acells .u8 32 ((Vector.replicate 32 (0 : Int))))] ∧ Snap.le D1302 D1315 ∧ j2519 y1314 = some r) ?_ ?_
    ·clear hj2520
     obtain ⟨j2529, hj2530, hf⟩ := jn_elim hf
     refine seq_join (fun a w => ∃ (y2521 : Bool), ∃ (D2522 : Snap), Env a 251 [] [(1, .pointer (some ⟨b1274, 0, none⟩)), (3, .pointer (some ⟨b1276, 0, none⟩)), (4, .bool ((decide (x1.fKind = (1 : Int))))), (5, .bool (y1278)), (6, .bool ((decide (x1.fKind = (3 : Int))))), (51, .bool (y2521))] ∧ Stp g w0 D0 [] w D2522 [bx b1274 27 (c_T_api_Rec (x1) A2 c3 A5 c6), bx b1276 23 (acells .u8 32 ((Vector.replicate 32 (0 : Int))))] ∧ Snap.le D1302 D2522 ∧ j2529 y2521 = some r) ?_ ?_
     ·clear hj2530
      refine region_at ?_
      refine sN 2 2 [(47, .bool (y1278))] hE (fun a hE => ?_)
      refine Or.elim (Bool.eq_false_or_eq_true (y1278)).symm (fun hb => ?_) (fun hb => ?_)
      ·replace hf := cond_f hb hf
       have hE := hE.know (t := 47) (b := y1278) (b' := false) rfl hb
       clear hb
       refine aF 0 3 0 hE (fun a hE => ?_)
       refine aL 0 (.int .i64 (x1.fKind)) hE hS (fun a hE => ?_)
       refine sN 2 6 [(51, .bool ((decide (x1.fKind = (5 : Int)))))] hE (fun a hE => ?_)
       refine at_end rfl ?_
       exact ⟨(decide (x1.fKind = (5 : Int))), D1302, hE.weak (by kernel_rfl), hS, Snap.le.refl _, hf⟩
      ·replace hf := cond_t hb hf
       have hE := hE.know (t := 47) (b := y1278) (b' := true) rfl hb
       clear hb
       refine sN 4 6 [(51, .bool true)] hE (fun a hE => ?_)
       refine at_end rfl ?_
       exact ⟨true, D1302, hE.weak (by kernel_rfl), hS, Snap.le.refl _, hf⟩
     ·clear hE hS
      rintro a w ⟨y2521, D2522, hE, hS, le2523, hf⟩
      replace hf := hj2530 _ hf
      clear hj2530
      refine cond_split hE (b := y2521) rfl (fun hb => ?_) (fun hb => ?_)
      ·replace hf := cond_t hb hf
       clear hb
       refine wpIn_seq ?_
       refine region_at ?_
       refine aF 2 3 2 hE (fun a hE => ?_)
       refine aL 0 (.int .i64 (x1.fSeq)) hE hS (fun a hE => ?_)
       obtain ⟨r2524, h2525, hf⟩ := bind_some hf
       refine aC rfl rfl rfl rfl hE rfl rfl rfl rfl (inspeximusref04_in.calls (g := g) h2525 (hS.st.fore (L := [])) ) (fun a v w hR hE => ?_)
       obtain ⟨D2526, rfl, hS1⟩ := hR
       have le2528 := hS1.dle
       have hS := hS.callR hS1 rfl .n
       clear hS1
       refine sN 1 4 [(55, .bool ((!r2524)))] hE (fun a hE => ?_)
       refine at_end rfl ?_
       refine cond_split hE (b := (!r2524)) rfl (fun hb => ?_) (fun hb => ?_)
       ·replace hf := cond_t hb hf
        clear hb
        refine wpIn_seq ?_
        refine region_at ?_
        refine sN 1 1 [(2, .bool false)] hE (fun a hE => ?_)
        refine at_end rfl ?_
        refine wpIn_ret ?_
        obtain rfl := Option.some.inj hf
        repeat (with_reducible first | refine then_ret ?_ | refine block_ret ?_ | refine qx_ret ?_)
        refine ret_gen ([.bool false]) hE (by rw [show Tryd.f12.results.toList = [.tmp 2] from rfl]; exact ⟨_, _, rfl, rfl, rfl⟩) ?_
        have hS := hS.pk .n rfl
        exact ⟨_, rfl, D2526, rfl, hS⟩
       ·replace hf := cond_f hb hf
        clear hb
        refine wpIn_skip ?_
        exact ⟨(), D2526, hE.weak (by kernel_rfl), hS, (le2 le2523 le2528), hf⟩
      ·replace hf := cond_f hb hf
       clear hb
       refine wpIn_seq ?_
       refine region_at ?_
       refine aF 2 3 2 hE (fun a hE => ?_)
       refine aL 0 (.int .i64 (x1.fSeq)) hE hS (fun a hE => ?_)
       refine sN 1 3 [(58, .bool ((!decide (x1.fSeq = (0 : Int)))))] hE (fun a hE => ?_)
       refine at_end rfl ?_
       refine cond_split hE (b := (!decide (x1.fSeq = (0 : Int)))) rfl (fun hb => ?_) (fun hb => ?_)
       ·replace hf := cond_t hb hf
        clear hb
        refine wpIn_seq ?_
        refine region_at ?_
        refine sN 1 1 [(2, .bool false)] hE (fun a hE => ?_)
        refine at_end rfl ?_
        refine wpIn_ret ?_
        obtain rfl := Option.some.inj hf
        repeat (with_reducible first | refine then_ret ?_ | refine block_ret ?_ | refine qx_ret ?_)
        refine ret_gen ([.bool false]) hE (by rw [show Tryd.f12.results.toList = [.tmp 2] from rfl]; exact ⟨_, _, rfl, rfl, rfl⟩) ?_
        have hS := hS.pk .n rfl
        exact ⟨_, rfl, D2522, rfl, hS⟩
       ·replace hf := cond_f hb hf
        clear hb
        refine wpIn_skip ?_
        exact ⟨(), D2522, hE.weak (by kernel_rfl), hS, le2523, hf⟩
    ·clear hE hS
     rintro a w ⟨y1314, D1315, hE, hS, le1316, hf⟩
     replace hf := hj2520 _ hf
     clear hj2520
     refine wpIn_seq ?_
     obtain ⟨j2507, hj2508, hf⟩ := jn_elim hf
     refine seq_join (fun a w => ∃ (y1352 : Bool), ∃ (D1353 : Snap), Env a 251 [] [(1, .pointer (some ⟨b1274, 0, none⟩)), (3, .pointer (some ⟨b1276, 0, none⟩)), (4, .bool ((decide (x1.fKind = (1 : Int))))), (6, .bool ((decide (x1.fKind = (3 : Int))))), (89, .bool (y1352))] ∧ Stp g w0 D0 [] w D1353 [bx b1274 27 (c_T_api_Rec (x1) A2 c3 A5 c6), bx b1276 23 (acells .u8 32 ((Vector.replicate 32 (0 : Int))))] ∧ Snap.le D1315 D1353 ∧ j2507 y1352 = some r) ?_ ?_
     ·clear hj2508
      refine region_at ?_
      refine sN 2 2 [(60, .bool (y1278))] hE (fun a hE => ?_)
      refine Or.elim (Bool.eq_false_or_eq_true (y1278)).symm (fun hb => ?_) (fun hb => ?_)
      ·replace hf := cond_f hb hf
       have hE := hE.know (t := 60) (b := y1278) (b' := false) rfl hb
       clear hb
       refine sN 15 17 [(72, .bool false), (75, .bool ((!y1278)))] hE (fun a hE => ?_)
       refine Or.elim (Bool.eq_false_or_eq_true ((!y1278))).symm (fun hb => ?_) (fun hb => ?_)
       ·replace hf := cond_f hb hf
        have hE := hE.know (t := 75) (b := (!y1278)) (b' := false) rfl hb
        clear hb
        refine sN 14 31 [(89, .bool false)] hE (fun a hE => ?_)
        refine at_end rfl ?_
        exact ⟨false, D1315, hE.weak (by kernel_rfl), hS, Snap.le.refl _, hf⟩
       ·replace hf := cond_t hb hf
        have hE := hE.know (t := 75) (b := (!y1278)) (b' := true) rfl hb
        clear hb
        refine aF 3 3 3 hE (fun a hE => ?_)
        refine aL 0 (.int .i64 (x1.fStep)) hE hS (fun a hE => ?_)
        refine sN 2 21 [(79, .bool ((!decide (x1.fStep = (0 : Int)))))] hE (fun a hE => ?_)
        refine Or.elim (Bool.eq_false_or_eq_true ((!decide (x1.fStep = (0 : Int))))).symm (fun hb => ?_) (fun hb => ?_)
        ·replace hf := cond_f hb hf
         have hE := hE.know (t := 79) (b := (!decide (x1.fStep = (0 : Int)))) (b' := false) rfl hb
         clear hb
         refine aF 4 3 4 hE (fun a hE => ?_)
         refine aL 0 (.int .i64 (x1.fTry)) hE hS (fun a hE => ?_)
         refine sN 3 26 [(84, .bool ((!decide (x1.fTry = (0 : Int)))))] hE (fun a hE => ?_)
         refine Or.elim (Bool.eq_false_or_eq_true ((!decide (x1.fTry = (0 : Int))))).symm (fun hb => ?_) (fun hb => ?_)
         ·replace hf := cond_f hb hf
          have hE := hE.know (t := 84) (b := (!decide (x1.fTry = (0 : Int)))) (b' := false) rfl hb
          clear hb
          refine aF 5 4 5 hE (fun a hE => ?_)
          refine aL 0 (.bool (x1.fBack)) hE hS (fun a hE => ?_)
          refine sN 3 31 [(89, .bool (x1.fBack))] hE (fun a hE => ?_)
          refine at_end rfl ?_
          exact ⟨x1.fBack, D1315, hE.weak (by kernel_rfl), hS, Snap.le.refl _, hf⟩
         ·replace hf := cond_t hb hf
          have hE := hE.know (t := 84) (b := (!decide (x1.fTry = (0 : Int)))) (b' := true) rfl hb
          clear hb
          refine sN 5 31 [(89, .bool true)] hE (fun a hE => ?_)
          refine at_end rfl ?_
          exact ⟨true, D1315, hE.weak (by kernel_rfl), hS, Snap.le.refl _, hf⟩
        ·replace hf := cond_t hb hf
         have hE := hE.know (t := 79) (b := (!decide (x1.fStep = (0 : Int)))) (b' := true) rfl hb
         clear hb
         refine sN 10 31 [(89, .bool true)] hE (fun a hE => ?_)
         refine at_end rfl ?_
         exact ⟨true, D1315, hE.weak (by kernel_rfl), hS, Snap.le.refl _, hf⟩
      ·replace hf := cond_t hb hf
       have hE := hE.know (t := 60) (b := y1278) (b' := true) rfl hb
       clear hb
       refine aF 3 3 3 hE (fun a hE => ?_)
       refine aL 0 (.int .i64 (x1.fStep)) hE hS (fun a hE => ?_)
       obtain ⟨r2509, h2510, hf⟩ := bind_some hf
       refine aC rfl rfl rfl rfl hE rfl rfl rfl rfl (inspeximusref04_in.calls (g := g) h2510 (hS.st.fore (L := [])) ) (fun a v w hR hE => ?_)
       obtain ⟨D2511, rfl, hS1⟩ := hR
       have le2513 := hS1.dle
       have hS := hS.callR hS1 rfl .n
       clear hS1
       refine sN 2 7 [(65, .bool ((!r2509)))] hE (fun a hE => ?_)
       refine Or.elim (Bool.eq_false_or_eq_true ((!r2509))).symm (fun hb => ?_) (fun hb => ?_)
       ·replace hf := cond_f hb hf
        have hE := hE.know (t := 65) (b := (!r2509)) (b' := false) rfl hb
        clear hb
        refine aF 4 3 4 hE (fun a hE => ?_)
        refine aL 0 (.int .i64 (x1.fTry)) hE hS (fun a hE => ?_)
        obtain ⟨r2514, h2515, hf⟩ := bind_some hf
        refine aC rfl rfl rfl rfl hE rfl rfl rfl rfl (inspeximusref04_in.calls (g := g) h2515 (hS.st.fore (L := [])) ) (fun a v w hR hE => ?_)
        obtain ⟨D2516, rfl, hS1⟩ := hR
        have le2518 := hS1.dle
        have hS := hS.callR hS1 rfl .n
        clear hS1
        refine sN 4 14 [(72, .bool ((!r2514)))] hE (fun a hE => ?_)
        refine Or.elim (Bool.eq_false_or_eq_true ((!r2514))).symm (fun hb => ?_) (fun hb => ?_)
        ·replace hf := cond_f hb hf
         have hE := hE.know (t := 72) (b := (!r2514)) (b' := false) rfl hb
         clear hb
         refine sN 3 17 [(75, .bool ((!y1278)))] hE (fun a hE => ?_)
         refine Or.elim (Bool.eq_false_or_eq_true ((!y1278))).symm (fun hb => ?_) (fun hb => ?_)
         ·replace hf := cond_f hb hf
          have hE := hE.know (t := 75) (b := (!y1278)) (b' := false) rfl hb
          clear hb
          refine sN 14 31 [(89, .bool false)] hE (fun a hE => ?_)
          refine at_end rfl ?_
          exact ⟨false, D2516, hE.weak (by kernel_rfl), hS, (le2 le2513 le2518), hf⟩
         ·replace hf := cond_t hb hf
          have hE := hE.know (t := 75) (b := (!y1278)) (b' := true) rfl hb
          clear hb
          refine aF 3 3 3 hE (fun a hE => ?_)
          refine aL 0 (.int .i64 (x1.fStep)) hE hS (fun a hE => ?_)
          refine sN 2 21 [(79, .bool ((!decide (x1.fStep = (0 : Int)))))] hE (fun a hE => ?_)
          refine Or.elim (Bool.eq_false_or_eq_true ((!decide (x1.fStep = (0 : Int))))).symm (fun hb => ?_) (fun hb => ?_)
          ·replace hf := cond_f hb hf
           have hE := hE.know (t := 79) (b := (!decide (x1.fStep = (0 : Int)))) (b' := false) rfl hb
           clear hb
           refine aF 4 3 4 hE (fun a hE => ?_)
           refine aL 0 (.int .i64 (x1.fTry)) hE hS (fun a hE => ?_)
           refine sN 3 26 [(84, .bool ((!decide (x1.fTry = (0 : Int)))))] hE (fun a hE => ?_)
           refine Or.elim (Bool.eq_false_or_eq_true ((!decide (x1.fTry = (0 : Int))))).symm (fun hb => ?_) (fun hb => ?_)
           ·replace hf := cond_f hb hf
            have hE := hE.know (t := 84) (b := (!decide (x1.fTry = (0 : Int)))) (b' := false) rfl hb
            clear hb
            refine aF 5 4 5 hE (fun a hE => ?_)
            refine aL 0 (.bool (x1.fBack)) hE hS (fun a hE => ?_)
            refine sN 3 31 [(89, .bool (x1.fBack))] hE (fun a hE => ?_)
            refine at_end rfl ?_
            exact ⟨x1.fBack, D2516, hE.weak (by kernel_rfl), hS, (le2 le2513 le2518), hf⟩
           ·replace hf := cond_t hb hf
            have hE := hE.know (t := 84) (b := (!decide (x1.fTry = (0 : Int)))) (b' := true) rfl hb
            clear hb
            refine sN 5 31 [(89, .bool true)] hE (fun a hE => ?_)
            refine at_end rfl ?_
            exact ⟨true, D2516, hE.weak (by kernel_rfl), hS, (le2 le2513 le2518), hf⟩
          ·replace hf := cond_t hb hf
           have hE := hE.know (t := 79) (b := (!decide (x1.fStep = (0 : Int)))) (b' := true) rfl hb
           clear hb
           refine sN 10 31 [(89, .bool true)] hE (fun a hE => ?_)
           refine at_end rfl ?_
           exact ⟨true, D2516, hE.weak (by kernel_rfl), hS, (le2 le2513 le2518), hf⟩
        ·replace hf := cond_t hb hf
         have hE := hE.know (t := 72) (b := (!r2514)) (b' := true) rfl hb
         clear hb
         refine sN 17 31 [(89, .bool true)] hE (fun a hE => ?_)
         refine at_end rfl ?_
         exact ⟨true, D2516, hE.weak (by kernel_rfl), hS, (le2 le2513 le2518), hf⟩
       ·replace hf := cond_t hb hf
        have hE := hE.know (t := 65) (b := (!r2509)) (b' := true) rfl hb
        clear hb
        refine sN 24 31 [(89, .bool true)] hE (fun a hE => ?_)
        refine at_end rfl ?_
        exact ⟨true, D2511, hE.weak (by kernel_rfl), hS, le2513, hf⟩
     ·clear hE hS
      rintro a w ⟨y1352, D1353, hE, hS, le1354, hf⟩
      replace hf := hj2508 _ hf
      clear hj2508
      refine cond_split hE (b := y1352) rfl (fun hb => ?_) (fun hb => ?_)
      ·replace hf := cond_t hb hf
       clear hb
       refine wpIn_seq ?_
       refine region_at ?_
       refine sN 1 1 [(2, .bool false)] hE (fun a hE => ?_)
       refine at_end rfl ?_
       refine wpIn_ret ?_
       obtain rfl := Option.some.inj hf
       repeat (with_reducible first | refine then_ret ?_ | refine block_ret ?_ | refine qx_ret ?_)
       refine ret_gen ([.bool false]) hE (by rw [show Tryd.f12.results.toList = [.tmp 2] from rfl]; exact ⟨_, _, rfl, rfl, rfl⟩) ?_
       have hS := hS.pk .n rfl
       exact ⟨_, rfl, D1353, rfl, hS⟩
      ·replace hf := cond_f hb hf
       clear hb
       refine wpIn_skip ?_
       refine wpIn_seq ?_
       obtain ⟨j2495, hj2496, hf⟩ := jn_elim hf
       refine seq_join (fun a w => ∃ (y1390 : Bool), ∃ (D1391 : Snap), Env a 251 [] [(1, .pointer (some ⟨b1274, 0, none⟩)), (3, .pointer (some ⟨b1276, 0, none⟩)), (4, .bool ((decide (x1.fKind = (1 : Int))))), (6, .bool ((decide (x1.fKind = (3 : Int))))), (122, .bool (y1390))] ∧ Stp g w0 D0 [] w D1391 [bx b1274 27 (c_T_api_Rec (x1) A2 c3 A5 c6), bx b1276 23 (acells .u8 32 ((Vector.replicate 32 (0 : Int))))] ∧ Snap.le D1353 D1391 ∧ j2495 y1390 = some r) ?_ ?_
       ·clear hj2496
        refine region_at ?_
        refine sN 3 3 [(92, .bool ((!(decide (x1.fKind = (3 : Int))))))] hE (fun a hE => ?_)
        refine Or.elim (Bool.eq_false_or_eq_true ((!(decide (x1.fKind = (3 : Int)))))).symm (fun hb => ?_) (fun hb => ?_)
        ·replace hf := cond_f hb hf
         have hE := hE.know (t := 92) (b := (!(decide (x1.fKind = (3 : Int))))) (b' := false) rfl hb
         clear hb
         refine sN 10 13 [(102, .bool false)] hE (fun a hE => ?_)
         refine aF 0 3 0 hE (fun a hE => ?_)
         refine aL 0 (.int .i64 (x1.fKind)) hE hS (fun a hE => ?_)
         refine sN 2 17 [(106, .bool ((decide (x1.fKind = (5 : Int)))))] hE (fun a hE => ?_)
         refine Or.elim (Bool.eq_false_or_eq_true ((decide (x1.fKind = (5 : Int))))).symm (fun hb => ?_) (fun hb => ?_)
         ·replace hf := cond_f hb hf
          have hE := hE.know (t := 106) (b := (decide (x1.fKind = (5 : Int)))) (b' := false) rfl hb
          clear hb
          refine sN 7 24 [(113, .bool false)] hE (fun a hE => ?_)
          refine aF 0 3 0 hE (fun a hE => ?_)
          refine aL 0 (.int .i64 (x1.fKind)) hE hS (fun a hE => ?_)
          refine sN 2 28 [(117, .bool ((!decide (x1.fKind = (5 : Int)))))] hE (fun a hE => ?_)
          refine Or.elim (Bool.eq_false_or_eq_true ((!decide (x1.fKind = (5 : Int))))).symm (fun hb => ?_) (fun hb => ?_)
          ·replace hf := cond_f hb hf
           have hE := hE.know (t := 117) (b := (!decide (x1.fKind = (5 : Int)))) (b' := false) rfl hb
           clear hb
           refine sN 5 33 [(122, .bool false)] hE (fun a hE => ?_)
           refine at_end rfl ?_
           exact ⟨false, D1353, hE.weak (by kernel_rfl), hS, Snap.le.refl _, hf⟩
          ·replace hf := cond_t hb hf
           have hE := hE.know (t := 117) (b := (!decide (x1.fKind = (5 : Int)))) (b' := true) rfl hb
           clear hb
           refine aF 7 3 7 hE (fun a hE => ?_)
           refine aL 0 (.int .i64 (x1.fEnd)) hE hS (fun a hE => ?_)
           refine sN 3 33 [(122, .bool ((!decide (x1.fEnd = (0 : Int)))))] hE (fun a hE => ?_)
           refine at_end rfl ?_
           exact ⟨(!decide (x1.fEnd = (0 : Int))), D1353, hE.weak (by kernel_rfl), hS, Snap.le.refl _, hf⟩
         ·replace hf := cond_t hb hf
          have hE := hE.know (t := 106) (b := (decide (x1.fKind = (5 : Int)))) (b' := true) rfl hb
          clear hb
          refine aF 7 3 7 hE (fun a hE => ?_)
          refine aL 0 (.int .i64 (x1.fEnd)) hE hS (fun a hE => ?_)
          obtain ⟨r2497, h2498, hf⟩ := bind_some hf
          refine aC rfl rfl rfl rfl hE rfl rfl rfl rfl (inspeximusref04_in.calls (g := g) h2498 (hS.st.fore (L := [])) ) (fun a v w hR hE => ?_)
          obtain ⟨D2499, rfl, hS1⟩ := hR
          have le2501 := hS1.dle
          have hS := hS.callR hS1 rfl .n
          clear hS1
          refine sN 4 24 [(113, .bool ((!r2497)))] hE (fun a hE => ?_)
          refine Or.elim (Bool.eq_false_or_eq_true ((!r2497))).symm (fun hb => ?_) (fun hb => ?_)
          ·replace hf := cond_f hb hf
           have hE := hE.know (t := 113) (b := (!r2497)) (b' := false) rfl hb
           clear hb
           refine aF 0 3 0 hE (fun a hE => ?_)
           refine aL 0 (.int .i64 (x1.fKind)) hE hS (fun a hE => ?_)
           refine sN 2 28 [(117, .bool ((!decide (x1.fKind = (5 : Int)))))] hE (fun a hE => ?_)
           refine Or.elim (Bool.eq_false_or_eq_true ((!decide (x1.fKind = (5 : Int))))).symm (fun hb => ?_) (fun hb => ?_)
           ·replace hf := cond_f hb hf
            have hE := hE.know (t := 117) (b := (!decide (x1.fKind = (5 : Int)))) (b' := false) rfl hb
            clear hb
            refine sN 5 33 [(122, .bool false)] hE (fun a hE => ?_)
            refine at_end rfl ?_
            exact ⟨false, D2499, hE.weak (by kernel_rfl), hS, le2501, hf⟩
           ·replace hf := cond_t hb hf
            have hE := hE.know (t := 117) (b := (!decide (x1.fKind = (5 : Int)))) (b' := true) rfl hb
            clear hb
            refine aF 7 3 7 hE (fun a hE => ?_)
            refine aL 0 (.int .i64 (x1.fEnd)) hE hS (fun a hE => ?_)
            refine sN 3 33 [(122, .bool ((!decide (x1.fEnd = (0 : Int)))))] hE (fun a hE => ?_)
            refine at_end rfl ?_
            exact ⟨(!decide (x1.fEnd = (0 : Int))), D2499, hE.weak (by kernel_rfl), hS, le2501, hf⟩
          ·replace hf := cond_t hb hf
           have hE := hE.know (t := 113) (b := (!r2497)) (b' := true) rfl hb
           clear hb
           refine sN 9 33 [(122, .bool true)] hE (fun a hE => ?_)
           refine at_end rfl ?_
           exact ⟨true, D2499, hE.weak (by kernel_rfl), hS, le2501, hf⟩
        ·replace hf := cond_t hb hf
         have hE := hE.know (t := 92) (b := (!(decide (x1.fKind = (3 : Int))))) (b' := true) rfl hb
         clear hb
         refine aF 6 4 6 hE (fun a hE => ?_)
         refine aL 0 (.bool (x1.fGood)) hE hS (fun a hE => ?_)
         refine sN 1 6 [(95, .bool (x1.fGood))] hE (fun a hE => ?_)
         refine Or.elim (Bool.eq_false_or_eq_true (x1.fGood)).symm (fun hb => ?_) (fun hb => ?_)
         ·replace hf := cond_f hb hf
          have hE := hE.know (t := 95) (b := x1.fGood) (b' := false) rfl hb
          clear hb
          refine aF 10 23 10 hE (fun a hE => ?_)
          refine aL 0 (.agg (List.toArray (acells .u8 32 (x1.fTag)))) hE hS (fun a hE => ?_)
          refine aL 1 (.agg (List.toArray (acells .u8 32 ((Vector.replicate 32 (0 : Int)))))) hE hS (fun a hE => ?_)
          refine at_op (op_tk hE (tk_bin (r := .bool ((!(decide (x1.fTag = (Vector.replicate 32 (0 : Int))))))) rfl rfl rfl rfl hE rfl rfl rfl (neagg_run (by kernel_rfl) (EqR_arr (k := .u8) (N := 32) (by kernel_rfl))) (fun a hE => ?_))) rfl
          refine sN 3 13 [(102, .bool ((!(decide (x1.fTag = (Vector.replicate 32 (0 : Int)))))))] hE (fun a hE => ?_)
          refine Or.elim (Bool.eq_false_or_eq_true ((!(decide (x1.fTag = (Vector.replicate 32 (0 : Int))))))).symm (fun hb => ?_) (fun hb => ?_)
          ·replace hf := cond_f hb hf
           have hE := hE.know (t := 102) (b := (!(decide (x1.fTag = (Vector.replicate 32 (0 : Int)))))) (b' := false) rfl hb
           clear hb
           refine aF 0 3 0 hE (fun a hE => ?_)
           refine aL 0 (.int .i64 (x1.fKind)) hE hS (fun a hE => ?_)
           refine sN 2 17 [(106, .bool ((decide (x1.fKind = (5 : Int)))))] hE (fun a hE => ?_)
           refine Or.elim (Bool.eq_false_or_eq_true ((decide (x1.fKind = (5 : Int))))).symm (fun hb => ?_) (fun hb => ?_)
           ·replace hf := cond_f hb hf
            have hE := hE.know (t := 106) (b := (decide (x1.fKind = (5 : Int)))) (b' := false) rfl hb
            clear hb
            refine sN 7 24 [(113, .bool false)] hE (fun a hE => ?_)
            refine aF 0 3 0 hE (fun a hE => ?_)
            refine aL 0 (.int .i64 (x1.fKind)) hE hS (fun a hE => ?_)
            refine sN 2 28 [(117, .bool ((!decide (x1.fKind = (5 : Int)))))] hE (fun a hE => ?_)
            refine Or.elim (Bool.eq_false_or_eq_true ((!decide (x1.fKind = (5 : Int))))).symm (fun hb => ?_) (fun hb => ?_)
            ·replace hf := cond_f hb hf
             have hE := hE.know (t := 117) (b := (!decide (x1.fKind = (5 : Int)))) (b' := false) rfl hb
             clear hb
             refine sN 5 33 [(122, .bool false)] hE (fun a hE => ?_)
             refine at_end rfl ?_
             exact ⟨false, D1353, hE.weak (by kernel_rfl), hS, Snap.le.refl _, hf⟩
            ·replace hf := cond_t hb hf
             have hE := hE.know (t := 117) (b := (!decide (x1.fKind = (5 : Int)))) (b' := true) rfl hb
             clear hb
             refine aF 7 3 7 hE (fun a hE => ?_)
             refine aL 0 (.int .i64 (x1.fEnd)) hE hS (fun a hE => ?_)
             refine sN 3 33 [(122, .bool ((!decide (x1.fEnd = (0 : Int)))))] hE (fun a hE => ?_)
             refine at_end rfl ?_
             exact ⟨(!decide (x1.fEnd = (0 : Int))), D1353, hE.weak (by kernel_rfl), hS, Snap.le.refl _, hf⟩
           ·replace hf := cond_t hb hf
            have hE := hE.know (t := 106) (b := (decide (x1.fKind = (5 : Int)))) (b' := true) rfl hb
            clear hb
            refine aF 7 3 7 hE (fun a hE => ?_)
            refine aL 0 (.int .i64 (x1.fEnd)) hE hS (fun a hE => ?_)
            obtain ⟨r2502, h2503, hf⟩ := bind_some hf
            refine aC rfl rfl rfl rfl hE rfl rfl rfl rfl (inspeximusref04_in.calls (g := g) h2503 (hS.st.fore (L := [])) ) (fun a v w hR hE => ?_)
            obtain ⟨D2504, rfl, hS1⟩ := hR
            have le2506 := hS1.dle
            have hS := hS.callR hS1 rfl .n
            clear hS1
            refine sN 4 24 [(113, .bool ((!r2502)))] hE (fun a hE => ?_)
            refine Or.elim (Bool.eq_false_or_eq_true ((!r2502))).symm (fun hb => ?_) (fun hb => ?_)
            ·replace hf := cond_f hb hf
             have hE := hE.know (t := 113) (b := (!r2502)) (b' := false) rfl hb
             clear hb
             refine aF 0 3 0 hE (fun a hE => ?_)
             refine aL 0 (.int .i64 (x1.fKind)) hE hS (fun a hE => ?_)
             refine sN 2 28 [(117, .bool ((!decide (x1.fKind = (5 : Int)))))] hE (fun a hE => ?_)
             refine Or.elim (Bool.eq_false_or_eq_true ((!decide (x1.fKind = (5 : Int))))).symm (fun hb => ?_) (fun hb => ?_)
             ·replace hf := cond_f hb hf
              have hE := hE.know (t := 117) (b := (!decide (x1.fKind = (5 : Int)))) (b' := false) rfl hb
              clear hb
              refine sN 5 33 [(122, .bool false)] hE (fun a hE => ?_)
              refine at_end rfl ?_
              exact ⟨false, D2504, hE.weak (by kernel_rfl), hS, le2506, hf⟩
             ·replace hf := cond_t hb hf
              have hE := hE.know (t := 117) (b := (!decide (x1.fKind = (5 : Int)))) (b' := true) rfl hb
              clear hb
              refine aF 7 3 7 hE (fun a hE => ?_)
              refine aL 0 (.int .i64 (x1.fEnd)) hE hS (fun a hE => ?_)
              refine sN 3 33 [(122, .bool ((!decide (x1.fEnd = (0 : Int)))))] hE (fun a hE => ?_)
              refine at_end rfl ?_
              exact ⟨(!decide (x1.fEnd = (0 : Int))), D2504, hE.weak (by kernel_rfl), hS, le2506, hf⟩
            ·replace hf := cond_t hb hf
             have hE := hE.know (t := 113) (b := (!r2502)) (b' := true) rfl hb
             clear hb
             refine sN 9 33 [(122, .bool true)] hE (fun a hE => ?_)
             refine at_end rfl ?_
             exact ⟨true, D2504, hE.weak (by kernel_rfl), hS, le2506, hf⟩
          ·replace hf := cond_t hb hf
           have hE := hE.know (t := 102) (b := (!(decide (x1.fTag = (Vector.replicate 32 (0 : Int)))))) (b' := true) rfl hb
           clear hb
           refine sN 20 33 [(122, .bool true)] hE (fun a hE => ?_)
           refine at_end rfl ?_
           exact ⟨true, D1353, hE.weak (by kernel_rfl), hS, Snap.le.refl _, hf⟩
         ·replace hf := cond_t hb hf
          have hE := hE.know (t := 95) (b := x1.fGood) (b' := true) rfl hb
          clear hb
          refine sN 27 33 [(122, .bool true)] hE (fun a hE => ?_)
          refine at_end rfl ?_
          exact ⟨true, D1353, hE.weak (by kernel_rfl), hS, Snap.le.refl _, hf⟩
       ·clear hE hS
        rintro a w ⟨y1390, D1391, hE, hS, le1392, hf⟩
        replace hf := hj2496 _ hf
        clear hj2496
        refine cond_split hE (b := y1390) rfl (fun hb => ?_) (fun hb => ?_)
        ·replace hf := cond_t hb hf
         clear hb
         refine wpIn_seq ?_
         refine region_at ?_
         refine sN 1 1 [(2, .bool false)] hE (fun a hE => ?_)
         refine at_end rfl ?_
         refine wpIn_ret ?_
         obtain rfl := Option.some.inj hf
         repeat (with_reducible first | refine then_ret ?_ | refine block_ret ?_ | refine qx_ret ?_)
         refine ret_gen ([.bool false]) hE (by rw [show Tryd.f12.results.toList = [.tmp 2] from rfl]; exact ⟨_, _, rfl, rfl, rfl⟩) ?_
         have hS := hS.pk .n rfl
         exact ⟨_, rfl, D1391, rfl, hS⟩
        ·replace hf := cond_f hb hf
         clear hb
         refine wpIn_skip ?_
         refine wpIn_seq ?_
         obtain ⟨j2463, hj2464, hf⟩ := jn_elim hf
         refine seq_join (fun a w => ∃ (y1488 : Bool), ∃ (D1489 : Snap), Env a 251 [] [(1, .pointer (some ⟨b1274, 0, none⟩)), (3, .pointer (some ⟨b1276, 0, none⟩)), (4, .bool ((decide (x1.fKind = (1 : Int))))), (6, .bool ((decide (x1.fKind = (3 : Int))))), (152, .bool (y1488))] ∧ Stp g w0 D0 [] w D1489 [bx b1274 27 (c_T_api_Rec (x1) A2 c3 A5 c6), bx b1276 23 (acells .u8 32 ((Vector.replicate 32 (0 : Int))))] ∧ Snap.le D1391 D1489 ∧ j2463 y1488 = some r) ?_ ?_
         ·clear hj2464
          refine region_at ?_
          refine sN 2 2 [(124, .bool ((decide (x1.fKind = (3 : Int)))))] hE (fun a hE => ?_)
          refine Or.elim (Bool.eq_false_or_eq_true ((decide (x1.fKind = (3 : Int))))).symm (fun hb => ?_) (fun hb => ?_)
          ·replace hf := cond_f hb hf
           have hE := hE.know (t := 124) (b := (decide (x1.fKind = (3 : Int)))) (b' := false) rfl hb
           clear hb
           refine sN 12 14 [(136, .bool false)] hE (fun a hE => ?_)
           refine aF 0 3 0 hE (fun a hE => ?_)
           refine aL 0 (.int .i64 (x1.fKind)) hE hS (fun a hE => ?_)
           refine sN 2 18 [(140, .bool ((decide (x1.fKind = (6 : Int)))))] hE (fun a hE => ?_)
           refine Or.elim (Bool.eq_false_or_eq_true ((decide (x1.fKind = (6 : Int))))).symm (fun hb => ?_) (fun hb => ?_)
           ·replace hf := cond_f hb hf
            have hE := hE.know (t := 140) (b := (decide (x1.fKind = (6 : Int)))) (b' := false) rfl hb
            clear hb
            refine sN 12 30 [(152, .bool false)] hE (fun a hE => ?_)
            refine at_end rfl ?_
            exact ⟨false, D1391, hE.weak (by kernel_rfl), hS, Snap.le.refl _, hf⟩
           ·replace hf := cond_t hb hf
            have hE := hE.know (t := 140) (b := (decide (x1.fKind = (6 : Int)))) (b' := true) rfl hb
            clear hb
            refine aF 8 3 8 hE (fun a hE => ?_)
            refine aL 0 (.int .i64 (x1.fPart)) hE hS (fun a hE => ?_)
            obtain ⟨r2465, h2466, hf⟩ := bind_some hf
            refine aC rfl rfl rfl rfl hE rfl rfl rfl rfl (inspeximusref04_in.calls (g := g) h2466 (hS.st.fore (L := [])) ) (fun a v w hR hE => ?_)
            obtain ⟨D2467, rfl, hS1⟩ := hR
            have le2469 := hS1.dle
            have hS := hS.callR hS1 rfl .n
            clear hS1
            refine sN 2 23 [(145, .bool ((!r2465)))] hE (fun a hE => ?_)
            refine Or.elim (Bool.eq_false_or_eq_true ((!r2465))).symm (fun hb => ?_) (fun hb => ?_)
            ·replace hf := cond_f hb hf
             have hE := hE.know (t := 145) (b := (!r2465)) (b' := false) rfl hb
             clear hb
             refine aF 9 3 9 hE (fun a hE => ?_)
             refine aL 0 (.int .i64 (x1.fEpoch)) hE hS (fun a hE => ?_)
             obtain ⟨r2470, h2471, hf⟩ := bind_some hf
             refine aC rfl rfl rfl rfl hE rfl rfl rfl rfl (inspeximusref04_in.calls (g := g) h2471 (hS.st.fore (L := [])) ) (fun a v w hR hE => ?_)
             obtain ⟨D2472, rfl, hS1⟩ := hR
             have le2474 := hS1.dle
             have hS := hS.callR hS1 rfl .n
             clear hS1
             refine sN 4 30 [(152, .bool ((!r2470)))] hE (fun a hE => ?_)
             refine at_end rfl ?_
             exact ⟨(!r2470), D2472, hE.weak (by kernel_rfl), hS, (le2 le2469 le2474), hf⟩
            ·replace hf := cond_t hb hf
             have hE := hE.know (t := 145) (b := (!r2465)) (b' := true) rfl hb
             clear hb
             refine sN 7 30 [(152, .bool true)] hE (fun a hE => ?_)
             refine at_end rfl ?_
             exact ⟨true, D2467, hE.weak (by kernel_rfl), hS, le2469, hf⟩
          ·replace hf := cond_t hb hf
           have hE := hE.know (t := 124) (b := (decide (x1.fKind = (3 : Int)))) (b' := true) rfl hb
           clear hb
           refine aF 8 3 8 hE (fun a hE => ?_)
           refine aL 0 (.int .i64 (x1.fPart)) hE hS (fun a hE => ?_)
           obtain ⟨r2475, h2476, hf⟩ := bind_some hf
           refine aC rfl rfl rfl rfl hE rfl rfl rfl rfl (inspeximusref04_in.calls (g := g) h2476 (hS.st.fore (L := [])) ) (fun a v w hR hE => ?_)
           obtain ⟨D2477, rfl, hS1⟩ := hR
           have le2479 := hS1.dle
           have hS := hS.callR hS1 rfl .n
           clear hS1
           refine sN 2 7 [(129, .bool ((!r2475)))] hE (fun a hE => ?_)
           refine Or.elim (Bool.eq_false_or_eq_true ((!r2475))).symm (fun hb => ?_) (fun hb => ?_)
           ·replace hf := cond_f hb hf
            have hE := hE.know (t := 129) (b := (!r2475)) (b' := false) rfl hb
            clear hb
            refine aF 9 3 9 hE (fun a hE => ?_)
            refine aL 0 (.int .i64 (x1.fEpoch)) hE hS (fun a hE => ?_)
            obtain ⟨r2480, h2481, hf⟩ := bind_some hf
            refine aC rfl rfl rfl rfl hE rfl rfl rfl rfl (inspeximusref04_in.calls (g := g) h2481 (hS.st.fore (L := [])) ) (fun a v w hR hE => ?_)
            obtain ⟨D2482, rfl, hS1⟩ := hR
            have le2484 := hS1.dle
            have hS := hS.callR hS1 rfl .n
            clear hS1
            refine sN 4 14 [(136, .bool ((!r2480)))] hE (fun a hE => ?_)
            refine Or.elim (Bool.eq_false_or_eq_true ((!r2480))).symm (fun hb => ?_) (fun hb => ?_)
            ·replace hf := cond_f hb hf
             have hE := hE.know (t := 136) (b := (!r2480)) (b' := false) rfl hb
             clear hb
             refine aF 0 3 0 hE (fun a hE => ?_)
             refine aL 0 (.int .i64 (x1.fKind)) hE hS (fun a hE => ?_)
             refine sN 2 18 [(140, .bool ((decide (x1.fKind = (6 : Int)))))] hE (fun a hE => ?_)
             refine Or.elim (Bool.eq_false_or_eq_true ((decide (x1.fKind = (6 : Int))))).symm (fun hb => ?_) (fun hb => ?_)
             ·replace hf := cond_f hb hf
              have hE := hE.know (t := 140) (b := (decide (x1.fKind = (6 : Int)))) (b' := false) rfl hb
              clear hb
              refine sN 12 30 [(152, .bool false)] hE (fun a hE => ?_)
              refine at_end rfl ?_
              exact ⟨false, D2482, hE.weak (by kernel_rfl), hS, (le2 le2479 le2484), hf⟩
             ·replace hf := cond_t hb hf
              have hE := hE.know (t := 140) (b := (decide (x1.fKind = (6 : Int)))) (b' := true) rfl hb
              clear hb
              refine aF 8 3 8 hE (fun a hE => ?_)
              refine aL 0 (.int .i64 (x1.fPart)) hE hS (fun a hE => ?_)
              obtain ⟨r2485, h2486, hf⟩ := bind_some hf
              refine aC rfl rfl rfl rfl hE rfl rfl rfl rfl (inspeximusref04_in.calls (g := g) h2486 (hS.st.fore (L := [])) ) (fun a v w hR hE => ?_)
              obtain ⟨D2487, rfl, hS1⟩ := hR
              have le2489 := hS1.dle
              have hS := hS.callR hS1 rfl .n
              clear hS1
              refine sN 2 23 [(145, .bool ((!r2485)))] hE (fun a hE => ?_)
              refine Or.elim (Bool.eq_false_or_eq_true ((!r2485))).symm (fun hb => ?_) (fun hb => ?_)
              ·replace hf := cond_f hb hf
               have hE := hE.know (t := 145) (b := (!r2485)) (b' := false) rfl hb
               clear hb
               refine aF 9 3 9 hE (fun a hE => ?_)
               refine aL 0 (.int .i64 (x1.fEpoch)) hE hS (fun a hE => ?_)
               obtain ⟨r2490, h2491, hf⟩ := bind_some hf
               refine aC rfl rfl rfl rfl hE rfl rfl rfl rfl (inspeximusref04_in.calls (g := g) h2491 (hS.st.fore (L := [])) ) (fun a v w hR hE => ?_)
               obtain ⟨D2492, rfl, hS1⟩ := hR
               have le2494 := hS1.dle
               have hS := hS.callR hS1 rfl .n
               clear hS1
               refine sN 4 30 [(152, .bool ((!r2490)))] hE (fun a hE => ?_)
               refine at_end rfl ?_
               exact ⟨(!r2490), D2492, hE.weak (by kernel_rfl), hS, (le2 (le2 (le2 le2479 le2484) le2489) le2494), hf⟩
              ·replace hf := cond_t hb hf
               have hE := hE.know (t := 145) (b := (!r2485)) (b' := true) rfl hb
               clear hb
               refine sN 7 30 [(152, .bool true)] hE (fun a hE => ?_)
               refine at_end rfl ?_
               exact ⟨true, D2487, hE.weak (by kernel_rfl), hS, (le2 (le2 le2479 le2484) le2489), hf⟩
            ·replace hf := cond_t hb hf
             have hE := hE.know (t := 136) (b := (!r2480)) (b' := true) rfl hb
             clear hb
             refine sN 16 30 [(152, .bool true)] hE (fun a hE => ?_)
             refine at_end rfl ?_
             exact ⟨true, D2482, hE.weak (by kernel_rfl), hS, (le2 le2479 le2484), hf⟩
           ·replace hf := cond_t hb hf
            have hE := hE.know (t := 129) (b := (!r2475)) (b' := true) rfl hb
            clear hb
            refine sN 23 30 [(152, .bool true)] hE (fun a hE => ?_)
            refine at_end rfl ?_
            exact ⟨true, D2477, hE.weak (by kernel_rfl), hS, le2479, hf⟩
         ·clear hE hS
          rintro a w ⟨y1488, D1489, hE, hS, le1490, hf⟩
          replace hf := hj2464 _ hf
          clear hj2464
          refine cond_split hE (b := y1488) rfl (fun hb => ?_) (fun hb => ?_)
          ·replace hf := cond_t hb hf
           clear hb
           refine wpIn_seq ?_
           refine region_at ?_
           refine sN 1 1 [(2, .bool false)] hE (fun a hE => ?_)
           refine at_end rfl ?_
           refine wpIn_ret ?_
           obtain rfl := Option.some.inj hf
           repeat (with_reducible first | refine then_ret ?_ | refine block_ret ?_ | refine qx_ret ?_)
           refine ret_gen ([.bool false]) hE (by rw [show Tryd.f12.results.toList = [.tmp 2] from rfl]; exact ⟨_, _, rfl, rfl, rfl⟩) ?_
           have hS := hS.pk .n rfl
           exact ⟨_, rfl, D1489, rfl, hS⟩
          ·replace hf := cond_f hb hf
           clear hb
           refine wpIn_skip ?_
           refine wpIn_seq ?_
           obtain ⟨j2461, hj2462, hf⟩ := jn_elim hf
           refine seq_join (fun a w => ∃ (y1496 : Bool), ∃ (D1497 : Snap), Env a 251 [] [(1, .pointer (some ⟨b1274, 0, none⟩)), (3, .pointer (some ⟨b1276, 0, none⟩)), (4, .bool ((decide (x1.fKind = (1 : Int))))), (169, .bool (y1496))] ∧ Stp g w0 D0 [] w D1497 [bx b1274 27 (c_T_api_Rec (x1) A2 c3 A5 c6), bx b1276 23 (acells .u8 32 ((Vector.replicate 32 (0 : Int))))] ∧ Snap.le D1489 D1497 ∧ j2461 y1496 = some r) ?_ ?_
           ·clear hj2462
            refine region_at ?_
            refine sN 3 3 [(155, .bool ((!(decide (x1.fKind = (3 : Int))))))] hE (fun a hE => ?_)
            refine Or.elim (Bool.eq_false_or_eq_true ((!(decide (x1.fKind = (3 : Int)))))).symm (fun hb => ?_) (fun hb => ?_)
            ·replace hf := cond_f hb hf
             have hE := hE.know (t := 155) (b := (!(decide (x1.fKind = (3 : Int))))) (b' := false) rfl hb
             clear hb
             refine sN 14 17 [(169, .bool false)] hE (fun a hE => ?_)
             refine at_end rfl ?_
             exact ⟨false, D1489, hE.weak (by kernel_rfl), hS, Snap.le.refl _, hf⟩
            ·replace hf := cond_t hb hf
             have hE := hE.know (t := 155) (b := (!(decide (x1.fKind = (3 : Int))))) (b' := true) rfl hb
             clear hb
             refine aF 0 3 0 hE (fun a hE => ?_)
             refine aL 0 (.int .i64 (x1.fKind)) hE hS (fun a hE => ?_)
             refine sN 3 8 [(160, .bool ((!decide (x1.fKind = (6 : Int)))))] hE (fun a hE => ?_)
             refine Or.elim (Bool.eq_false_or_eq_true ((!decide (x1.fKind = (6 : Int))))).symm (fun hb => ?_) (fun hb => ?_)
             ·replace hf := cond_f hb hf
              have hE := hE.know (t := 160) (b := (!decide (x1.fKind = (6 : Int)))) (b' := false) rfl hb
              clear hb
              refine sN 9 17 [(169, .bool false)] hE (fun a hE => ?_)
              refine at_end rfl ?_
              exact ⟨false, D1489, hE.weak (by kernel_rfl), hS, Snap.le.refl _, hf⟩
             ·replace hf := cond_t hb hf
              have hE := hE.know (t := 160) (b := (!decide (x1.fKind = (6 : Int)))) (b' := true) rfl hb
              clear hb
              refine aF 8 3 8 hE (fun a hE => ?_)
              refine aL 0 (.int .i64 (x1.fPart)) hE hS (fun a hE => ?_)
              refine sN 2 12 [(164, .bool ((!decide (x1.fPart = (0 : Int)))))] hE (fun a hE => ?_)
              refine Or.elim (Bool.eq_false_or_eq_true ((!decide (x1.fPart = (0 : Int))))).symm (fun hb => ?_) (fun hb => ?_)
              ·replace hf := cond_f hb hf
               have hE := hE.know (t := 164) (b := (!decide (x1.fPart = (0 : Int)))) (b' := false) rfl hb
               clear hb
               refine aF 9 3 9 hE (fun a hE => ?_)
               refine aL 0 (.int .i64 (x1.fEpoch)) hE hS (fun a hE => ?_)
               refine sN 3 17 [(169, .bool ((!decide (x1.fEpoch = (0 : Int)))))] hE (fun a hE => ?_)
               refine at_end rfl ?_
               exact ⟨(!decide (x1.fEpoch = (0 : Int))), D1489, hE.weak (by kernel_rfl), hS, Snap.le.refl _, hf⟩
              ·replace hf := cond_t hb hf
               have hE := hE.know (t := 164) (b := (!decide (x1.fPart = (0 : Int)))) (b' := true) rfl hb
               clear hb
               refine sN 5 17 [(169, .bool true)] hE (fun a hE => ?_)
               refine at_end rfl ?_
               exact ⟨true, D1489, hE.weak (by kernel_rfl), hS, Snap.le.refl _, hf⟩
           ·clear hE hS
            rintro a w ⟨y1496, D1497, hE, hS, le1498, hf⟩
            replace hf := hj2462 _ hf
            clear hj2462
            refine cond_split hE (b := y1496) rfl (fun hb => ?_) (fun hb => ?_)
            ·replace hf := cond_t hb hf
             clear hb
             refine wpIn_seq ?_
             refine region_at ?_
             refine sN 1 1 [(2, .bool false)] hE (fun a hE => ?_)
             refine at_end rfl ?_
             refine wpIn_ret ?_
             obtain rfl := Option.some.inj hf
             repeat (with_reducible first | refine then_ret ?_ | refine block_ret ?_ | refine qx_ret ?_)
             refine ret_gen ([.bool false]) hE (by rw [show Tryd.f12.results.toList = [.tmp 2] from rfl]; exact ⟨_, _, rfl, rfl, rfl⟩) ?_
             have hS := hS.pk .n rfl
             exact ⟨_, rfl, D1497, rfl, hS⟩
            ·replace hf := cond_f hb hf
             clear hb
             refine wpIn_skip ?_
             refine wpIn_seq ?_
             refine wpIn_seq ?_
             refine region_at ?_
             refine sN 2 2 [(171, .bool ((!(decide (x1.fKind = (1 : Int))))))] hE (fun a hE => ?_)
             refine at_end rfl ?_
             refine cond_split hE (b := (!(decide (x1.fKind = (1 : Int))))) rfl (fun hb => ?_) (fun hb => ?_)
             ·replace hf := cond_t hb hf
              clear hb
              obtain ⟨j1507, hj1508, hf⟩ := jn_elim hf
              refine seq_join (fun a w => ∃ (y1504 : Bool), ∃ (D1505 : Snap), Env a 251 [] [(2, .bool (y1504))] ∧ Stp g w0 D0 [] w D1505 [] ∧ Snap.le D1497 D1505 ∧ j1507 y1504 = some r) ?_ ?_
              ·clear hj1508
               refine region_at ?_
               refine aF 42 24 42 hE (fun a hE => ?_)
               refine aL 0 (.slice A2 (List.length (x1.fSteps)) c3) hE hS (fun a hE => ?_)
               refine sN 3 5 [(176, .bool ((decide (((List.length (x1.fSteps) : Nat) : Int) = (0 : Int)))))] hE (fun a hE => ?_)
               refine Or.elim (Bool.eq_false_or_eq_true ((decide (((List.length (x1.fSteps) : Nat) : Int) = (0 : Int))))).symm (fun hb => ?_) (fun hb => ?_)
               ·replace hf := cond_f hb hf
                have hE := hE.know (t := 176) (b := (decide (((List.length (x1.fSteps) : Nat) : Int) = (0 : Int)))) (b' := false) rfl hb
                clear hb
                refine sN 23 28 [(2, .bool false)] hE (fun a hE => ?_)
                refine at_end rfl ?_
                have hS := hS.pk .n rfl
                exact ⟨false, D1497, hE.weak (by kernel_rfl), hS, Snap.le.refl _, hf⟩
               ·replace hf := cond_t hb hf
                have hE := hE.know (t := 176) (b := (decide (((List.length (x1.fSteps) : Nat) : Int) = (0 : Int)))) (b' := true) rfl hb
                clear hb
                refine aF 43 25 43 hE (fun a hE => ?_)
                refine aL 0 (.slice A5 (List.length (x1.fData)) c6) hE hS (fun a hE => ?_)
                refine sN 4 11 [(182, .bool ((decide (((List.length (x1.fData) : Nat) : Int) = (0 : Int)))))] hE (fun a hE => ?_)
                refine Or.elim (Bool.eq_false_or_eq_true ((decide (((List.length (x1.fData) : Nat) : Int) = (0 : Int))))).symm (fun hb => ?_) (fun hb => ?_)
                ·replace hf := cond_f hb hf
                 have hE := hE.know (t := 182) (b := (decide (((List.length (x1.fData) : Nat) : Int) = (0 : Int)))) (b' := false) rfl hb
                 clear hb
                 refine sN 17 28 [(2, .bool false)] hE (fun a hE => ?_)
                 refine at_end rfl ?_
                 have hS := hS.pk .n rfl
                 exact ⟨false, D1497, hE.weak (by kernel_rfl), hS, Snap.le.refl _, hf⟩
                ·replace hf := cond_t hb hf
                 have hE := hE.know (t := 182) (b := (decide (((List.length (x1.fData) : Nat) : Int) = (0 : Int)))) (b' := true) rfl hb
                 clear hb
                 refine aF 44 23 44 hE (fun a hE => ?_)
                 refine aL 0 (.agg (List.toArray (acells .u8 32 (x1.fSalt)))) hE hS (fun a hE => ?_)
                 refine aL 1 (.agg (List.toArray (acells .u8 32 ((Vector.replicate 32 (0 : Int)))))) hE hS (fun a hE => ?_)
                 refine at_op (op_tk hE (tk_bin (r := .bool ((decide (x1.fSalt = (Vector.replicate 32 (0 : Int)))))) rfl rfl rfl rfl hE rfl rfl rfl (eqagg_run (by kernel_rfl) (EqR_arr (k := .u8) (N := 32) (by kernel_rfl))) (fun a hE => ?_))) rfl
                 refine sN 2 17 [(188, .bool ((decide (x1.fSalt = (Vector.replicate 32 (0 : Int))))))] hE (fun a hE => ?_)
                 refine Or.elim (Bool.eq_false_or_eq_true ((decide (x1.fSalt = (Vector.replicate 32 (0 : Int)))))).symm (fun hb => ?_) (fun hb => ?_)
                 ·replace hf := cond_f hb hf
                  have hE := hE.know (t := 188) (b := (decide (x1.fSalt = (Vector.replicate 32 (0 : Int))))) (b' := false) rfl hb
                  clear hb
                  refine sN 11 28 [(2, .bool false)] hE (fun a hE => ?_)
                  refine at_end rfl ?_
                  have hS := hS.pk .n rfl
                  exact ⟨false, D1497, hE.weak (by kernel_rfl), hS, Snap.le.refl _, hf⟩
                 ·replace hf := cond_t hb hf
                  have hE := hE.know (t := 188) (b := (decide (x1.fSalt = (Vector.replicate 32 (0 : Int))))) (b' := true) rfl hb
                  clear hb
                  refine aF 76 4 76 hE (fun a hE => ?_)
                  refine aL 0 (.bool (x1.fGone)) hE hS (fun a hE => ?_)
                  refine sN 3 22 [(193, .bool ((!x1.fGone)))] hE (fun a hE => ?_)
                  refine Or.elim (Bool.eq_false_or_eq_true ((!x1.fGone))).symm (fun hb => ?_) (fun hb => ?_)
                  ·replace hf := cond_f hb hf
                   have hE := hE.know (t := 193) (b := (!x1.fGone)) (b' := false) rfl hb
                   clear hb
                   refine sN 6 28 [(2, .bool false)] hE (fun a hE => ?_)
                   refine at_end rfl ?_
                   have hS := hS.pk .n rfl
                   exact ⟨false, D1497, hE.weak (by kernel_rfl), hS, Snap.le.refl _, hf⟩
                  ·replace hf := cond_t hb hf
                   have hE := hE.know (t := 193) (b := (!x1.fGone)) (b' := true) rfl hb
                   clear hb
                   refine aF 77 23 77 hE (fun a hE => ?_)
                   refine aL 0 (.agg (List.toArray (acells .u8 32 (x1.fCom)))) hE hS (fun a hE => ?_)
                   refine aL 1 (.agg (List.toArray (acells .u8 32 ((Vector.replicate 32 (0 : Int)))))) hE hS (fun a hE => ?_)
                   refine at_op (op_tk hE (tk_bin (r := .bool ((decide (x1.fCom = (Vector.replicate 32 (0 : Int)))))) rfl rfl rfl rfl hE rfl rfl rfl (eqagg_run (by kernel_rfl) (EqR_arr (k := .u8) (N := 32) (by kernel_rfl))) (fun a hE => ?_))) rfl
                   refine sN 2 28 [(2, .bool ((decide (x1.fCom = (Vector.replicate 32 (0 : Int))))))] hE (fun a hE => ?_)
                   refine at_end rfl ?_
                   have hS := hS.pk .n rfl
                   exact ⟨(decide (x1.fCom = (Vector.replicate 32 (0 : Int)))), D1497, hE.weak (by kernel_rfl), hS, Snap.le.refl _, hf⟩
              ·clear hE hS
               rintro a w ⟨y1504, D1505, hE, hS, le1506, hf⟩
               replace hf := hj1508 _ hf
               clear hj1508
               refine wpIn_ret ?_
               obtain rfl := Option.some.inj hf
               repeat (with_reducible first | refine then_ret ?_ | refine block_ret ?_ | refine qx_ret ?_)
               refine ret_gen ([.bool (y1504)]) hE (by rw [show Tryd.f12.results.toList = [.tmp 2] from rfl]; exact ⟨_, _, rfl, rfl, rfl⟩) ?_
               exact ⟨_, rfl, D1505, rfl, hS⟩
             ·replace hf := cond_f hb hf
              clear hb
              refine wpIn_skip ?_
              refine wpIn_seq ?_
              refine wpIn_seq ?_
              refine region_at ?_
              refine sN 1 1 [(7, .int .i64 ((0 : Int)))] hE (fun a hE => ?_)
              refine at_end rfl ?_
              obtain ⟨s2280, hf, hs2281⟩ := bind_some hf
              refine block_loop (fun a w => ∃ (z2277 : Unit), ∃ (D2278 : Snap), Env a 251 [] [(1, .pointer (some ⟨b1274, 0, none⟩)), (3, .pointer (some ⟨b1276, 0, none⟩))] ∧ Stp g w0 D0 [] w D2278 [bx b1274 27 (c_T_api_Rec (x1) A2 c3 A5 c6), bx b1276 23 (acells .u8 32 ((Vector.replicate 32 (0 : Int))))] ∧ Snap.le D1497 D2278 ∧ (Sum.inr z2277) = s2280) (fun k a w => ∃ (y2125 : Int), ∃ (D2126 : Snap), Env a 251 [] [(1, .pointer (some ⟨b1274, 0, none⟩)), (3, .pointer (some ⟨b1276, 0, none⟩)), (7, .int .i64 (y2125))] ∧ Stp g w0 D0 [] w D2126 [bx b1274 27 (c_T_api_Rec (x1) A2 c3 A5 c6), bx b1276 23 (acells .u8 32 ((Vector.replicate 32 (0 : Int))))] ∧ Snap.le D1497 D2126 ∧ inspeximusref04_Right_l1.l K x1 k y2125 = some s2280) K ?_ ?_ ?_
              ·exact ⟨(0 : Int), D1497, hE.weak (by kernel_rfl), hS, Snap.le.refl _, hf⟩
              ·clear hE hS hf
               rintro a w ⟨z2277, D2278, hE, hS, le2279, rfl⟩
               have hf := hs2281
               clear hs2281
               refine wpIn_seq ?_
               obtain ⟨j2451, hj2452, hf⟩ := jn_elim hf
               refine seq_join (fun a w => ∃ (y2448 : Bool), ∃ (D2449 : Snap), Env a 251 [] [(1, .pointer (some ⟨b1274, 0, none⟩)), (3, .pointer (some ⟨b1276, 0, none⟩)), (234, .bool (y2448))] ∧ Stp g w0 D0 [] w D2449 [bx b1274 27 (c_T_api_Rec (x1) A2 c3 A5 c6), bx b1276 23 (acells .u8 32 ((Vector.replicate 32 (0 : Int))))] ∧ Snap.le D2278 D2449 ∧ j2451 y2448 = some r) ?_ ?_
               ·clear hj2452
                refine region_at ?_
                refine aF 42 24 42 hE (fun a hE => ?_)
                refine aL 0 (.slice A2 (List.length (x1.fSteps)) c3) hE hS (fun a hE => ?_)
                refine sN 1 3 [(226, .int .i64 (((List.length (x1.fSteps) : Nat) : Int)))] hE (fun a hE => ?_)
                obtain ⟨r2453, h2454, hf⟩ := bind_some hf
                refine aC rfl rfl rfl rfl hE rfl rfl rfl rfl (inspeximusref04_in.calls (g := g) h2454 (hS.st.fore (L := [])) ) (fun a v w hR hE => ?_)
                obtain ⟨D2455, rfl, hS1⟩ := hR
                have le2457 := hS1.dle
                have hS := hS.callR hS1 rfl .n
                clear hS1
                refine sN 2 6 [(229, .bool ((!r2453)))] hE (fun a hE => ?_)
                refine Or.elim (Bool.eq_false_or_eq_true ((!r2453))).symm (fun hb => ?_) (fun hb => ?_)
                ·replace hf := cond_f hb hf
                 have hE := hE.know (t := 229) (b := (!r2453)) (b' := false) rfl hb
                 clear hb
                 refine aF 43 25 43 hE (fun a hE => ?_)
                 refine aL 0 (.slice A5 (List.length (x1.fData)) c6) hE hS (fun a hE => ?_)
                 refine sN 3 11 [(234, .bool ((decide ((60 : Int) < ((List.length (x1.fData) : Nat) : Int)))))] hE (fun a hE => ?_)
                 refine at_end rfl ?_
                 exact ⟨(decide ((60 : Int) < ((List.length (x1.fData) : Nat) : Int))), D2455, hE.weak (by kernel_rfl), hS, le2457, hf⟩
                ·replace hf := cond_t hb hf
                 have hE := hE.know (t := 229) (b := (!r2453)) (b' := true) rfl hb
                 clear hb
                 refine sN 5 11 [(234, .bool true)] hE (fun a hE => ?_)
                 refine at_end rfl ?_
                 exact ⟨true, D2455, hE.weak (by kernel_rfl), hS, le2457, hf⟩
               ·clear hE hS
                rintro a w ⟨y2448, D2449, hE, hS, le2450, hf⟩
                replace hf := hj2452 _ hf
                clear hj2452
                refine cond_split hE (b := y2448) rfl (fun hb => ?_) (fun hb => ?_)
                ·replace hf := cond_t hb hf
                 clear hb
                 refine wpIn_seq ?_
                 refine region_at ?_
                 refine sN 1 1 [(2, .bool false)] hE (fun a hE => ?_)
                 refine at_end rfl ?_
                 refine wpIn_ret ?_
                 obtain rfl := Option.some.inj hf
                 repeat (with_reducible first | refine then_ret ?_ | refine block_ret ?_ | refine qx_ret ?_)
                 refine ret_gen ([.bool false]) hE (by rw [show Tryd.f12.results.toList = [.tmp 2] from rfl]; exact ⟨_, _, rfl, rfl, rfl⟩) ?_
                 have hS := hS.pk .n rfl
                 exact ⟨_, rfl, D2449, rfl, hS⟩
                ·replace hf := cond_f hb hf
                 clear hb
                 refine wpIn_skip ?_
                 refine wpIn_seq ?_
                 refine wpIn_seq ?_
                 refine region_at ?_
                 refine aF 76 4 76 hE (fun a hE => ?_)
                 refine aL 0 (.bool (x1.fGone)) hE hS (fun a hE => ?_)
                 refine at_end rfl ?_
                 refine cond_split hE (b := x1.fGone) rfl (fun hb => ?_) (fun hb => ?_)
                 ·replace hf := cond_t hb hf
                  clear hb
                  refine wpIn_seq ?_
                  refine region_at ?_
                  refine aF 43 25 43 hE (fun a hE => ?_)
                  refine aL 0 (.slice A5 (List.length (x1.fData)) c6) hE hS (fun a hE => ?_)
                  refine sN 3 5 [(241, .bool ((decide (((List.length (x1.fData) : Nat) : Int) = (0 : Int)))))] hE (fun a hE => ?_)
                  refine Or.elim (Bool.eq_false_or_eq_true ((decide (((List.length (x1.fData) : Nat) : Int) = (0 : Int))))).symm (fun hb => ?_) (fun hb => ?_)
                  ·replace hf := cond_f hb hf
                   have hE := hE.know (t := 241) (b := (decide (((List.length (x1.fData) : Nat) : Int) = (0 : Int)))) (b' := false) rfl hb
                   clear hb
                   refine sN 6 11 [(2, .bool false)] hE (fun a hE => ?_)
                   refine at_end rfl ?_
                   refine wpIn_ret ?_
                   obtain rfl := Option.some.inj hf
                   repeat (with_reducible first | refine then_ret ?_ | refine block_ret ?_ | refine qx_ret ?_)
                   refine ret_gen ([.bool false]) hE (by rw [show Tryd.f12.results.toList = [.tmp 2] from rfl]; exact ⟨_, _, rfl, rfl, rfl⟩) ?_
                   have hS := hS.pk .n rfl
                   exact ⟨_, rfl, D2449, rfl, hS⟩
                  ·replace hf := cond_t hb hf
                   have hE := hE.know (t := 241) (b := (decide (((List.length (x1.fData) : Nat) : Int) = (0 : Int)))) (b' := true) rfl hb
                   clear hb
                   refine aF 44 23 44 hE (fun a hE => ?_)
                   refine aL 0 (.agg (List.toArray (acells .u8 32 (x1.fSalt)))) hE hS (fun a hE => ?_)
                   refine aL 1 (.agg (List.toArray (acells .u8 32 ((Vector.replicate 32 (0 : Int)))))) hE hS (fun a hE => ?_)
                   refine at_op (op_tk hE (tk_bin (r := .bool ((decide (x1.fSalt = (Vector.replicate 32 (0 : Int)))))) rfl rfl rfl rfl hE rfl rfl rfl (eqagg_run (by kernel_rfl) (EqR_arr (k := .u8) (N := 32) (by kernel_rfl))) (fun a hE => ?_))) rfl
                   refine sN 2 11 [(2, .bool ((decide (x1.fSalt = (Vector.replicate 32 (0 : Int))))))] hE (fun a hE => ?_)
                   refine at_end rfl ?_
                   refine wpIn_ret ?_
                   obtain rfl := Option.some.inj hf
                   repeat (with_reducible first | refine then_ret ?_ | refine block_ret ?_ | refine qx_ret ?_)
                   refine ret_gen ([.bool ((decide (x1.fSalt = (Vector.replicate 32 (0 : Int)))))]) hE (by rw [show Tryd.f12.results.toList = [.tmp 2] from rfl]; exact ⟨_, _, rfl, rfl, rfl⟩) ?_
                   have hS := hS.pk .n rfl
                   exact ⟨_, rfl, D2449, rfl, hS⟩
                 ·replace hf := cond_f hb hf
                  clear hb
                  refine wpIn_skip ?_
                  refine wpIn_seq ?_
                  refine region_at ?_
                  refine aF 77 23 77 hE (fun a hE => ?_)
                  refine aL 0 (.agg (List.toArray (acells .u8 32 (x1.fCom)))) hE hS (fun a hE => ?_)
                  refine aL 1 (.agg (List.toArray (acells .u8 32 ((Vector.replicate 32 (0 : Int)))))) hE hS (fun a hE => ?_)
                  refine at_op (op_tk hE (tk_bin (r := .bool ((decide (x1.fCom = (Vector.replicate 32 (0 : Int)))))) rfl rfl rfl rfl hE rfl rfl rfl (eqagg_run (by kernel_rfl) (EqR_arr (k := .u8) (N := 32) (by kernel_rfl))) (fun a hE => ?_))) rfl
                  refine sN 1 5 [(2, .bool ((decide (x1.fCom = (Vector.replicate 32 (0 : Int))))))] hE (fun a hE => ?_)
                  refine at_end rfl ?_
                  refine wpIn_ret ?_
                  obtain rfl := Option.some.inj hf
                  repeat (with_reducible first | refine then_ret ?_ | refine block_ret ?_ | refine qx_ret ?_)
                  refine ret_gen ([.bool ((decide (x1.fCom = (Vector.replicate 32 (0 : Int)))))]) hE (by rw [show Tryd.f12.results.toList = [.tmp 2] from rfl]; exact ⟨_, _, rfl, rfl, rfl⟩) ?_
                  have hS := hS.pk .n rfl
                  exact ⟨_, rfl, D2449, rfl, hS⟩
              ·clear hE hS hf
               rintro k a w ⟨y2125, D2126, hE, hS, le2127, hf⟩
               obtain ⟨k, rfl, hf⟩ := inspeximusref04_Right_l1.some _ hf
               refine ⟨k, rfl, ?_⟩
               unfold inspeximusref04_Right_l1.b at hf
               refine wpIn_seq ?_
               refine wpIn_seq ?_
               refine region_at ?_
               refine sN 1 1 [(199, .int .i64 (y2125))] hE (fun a hE => ?_)
               refine aF 42 24 42 hE (fun a hE => ?_)
               refine aL 0 (.slice A2 (List.length (x1.fSteps)) c3) hE hS (fun a hE => ?_)
               refine sN 2 5 [(203, .bool ((decide (y2125 < ((List.length (x1.fSteps) : Nat) : Int)))))] hE (fun a hE => ?_)
               refine at_end rfl ?_
               refine cond_split hE (b := (decide (y2125 < ((List.length (x1.fSteps) : Nat) : Int)))) rfl (fun hb => ?_) (fun hb => ?_)
               ·replace hf := cond_t hb hf
                clear hb
                refine wpIn_skip ?_
                refine wpIn_seq ?_
                refine wpIn_block ?_
                obtain ⟨j2392, hj2393, hf⟩ := jn_elim hf
                refine seq_join (fun a w => ∃ (y2389 : Bool), ∃ (D2390 : Snap), Env a 251 [] [(1, .pointer (some ⟨b1274, 0, none⟩)), (3, .pointer (some ⟨b1276, 0, none⟩)), (7, .int .i64 (y2125)), (223, .bool (y2389))] ∧ Stp g w0 D0 [] w D2390 [bx b1274 27 (c_T_api_Rec (x1) A2 c3 A5 c6), bx b1276 23 (acells .u8 32 ((Vector.replicate 32 (0 : Int))))] ∧ Snap.le D2126 D2390 ∧ j2392 y2389 = some s2280) ?_ ?_
                ·clear hj2393
                 refine region_at ?_
                 refine aF 42 24 42 hE (fun a hE => ?_)
                 refine aL 0 (.slice A2 (List.length (x1.fSteps)) c3) hE hS (fun a hE => ?_)
                 refine sN 1 3 [(208, .int .i64 (y2125))] hE (fun a hE => ?_)
                 obtain ⟨x2394, h2395, hf⟩ := bind_some hf
                 refine at_op (op_tk hE (g_index (K := kd_T_api_Step) (e := 37) (by_ := 16) (zl := 2) rfl rfl rfl rfl hE rfl rfl rfl (by kernel_rfl) rfl (h4.mono (le2 (le2 (le2 (le2 (le2 (le2 (le2 le1280 le1303) le1316) le1354) le1392) le1490) le1498) le2127)) h2395 (fun a b2396 o2397 hE h2398 => ?_))) rfl
                 refine at_op (op_tk hE (g_fieldAddr (fo := 0) (ft := 3) (o2397 + 0) rfl rfl rfl rfl hE rfl rfl (by kernel_rfl) rfl (fun a hE => ?_))) rfl
                 obtain ⟨cs2399, C2400, T2401, fr2402, hr2403, hb2404, hc2405⟩ := h2398
                 obtain ⟨rfl⟩ := kd_T_api_Step_el hr2403
                 refine at_op (op_tk hE (tk_loadX (off0 := o2397) (off := 0) (c := c_T_api_Step (x2394)) (.int .i64 (x2394.fPart)) rfl rfl rfl rfl hE rfl hS rfl hb2404 hc2405 (by kernel_rfl) (by kernel_rfl) (kD hS dn_nil) (fun a hE => ?_))) rfl
                 obtain ⟨r2406, h2407, hf⟩ := bind_some hf
                 refine aC rfl rfl rfl rfl hE rfl rfl rfl rfl (inspeximusref04_in.calls (g := g) h2407 (hS.st.fore (L := [])) ) (fun a v w hR hE => ?_)
                 obtain ⟨D2408, rfl, hS1⟩ := hR
                 have le2410 := hS1.dle
                 have hS := hS.callR hS1 rfl .n
                 clear hS1
                 refine sN 2 9 [(214, .bool ((!r2406)))] hE (fun a hE => ?_)
                 refine Or.elim (Bool.eq_false_or_eq_true ((!r2406))).symm (fun hb => ?_) (fun hb => ?_)
                 ·replace hf := cond_f hb hf
                  have hE := hE.know (t := 214) (b := (!r2406)) (b' := false) rfl hb
                  clear hb
                  refine aF 42 24 42 hE (fun a hE => ?_)
                  refine aL 0 (.slice A2 (List.length (x1.fSteps)) c3) hE hS (fun a hE => ?_)
                  refine sN 1 12 [(217, .int .i64 (y2125))] hE (fun a hE => ?_)
                  obtain ⟨x2411, h2412, hf⟩ := bind_some hf
                  refine at_op (op_tk hE (g_index (K := kd_T_api_Step) (e := 37) (by_ := 16) (zl := 2) rfl rfl rfl rfl hE rfl rfl rfl (by kernel_rfl) rfl (h4.mono (le2 (le2 (le2 (le2 (le2 (le2 (le2 (le2 le1280 le1303) le1316) le1354) le1392) le1490) le1498) le2127) le2410)) h2412 (fun a b2413 o2414 hE h2415 => ?_))) rfl
                  refine at_op (op_tk hE (g_fieldAddr (fo := 1) (ft := 3) (o2414 + 1) rfl rfl rfl rfl hE rfl rfl (by kernel_rfl) rfl (fun a hE => ?_))) rfl
                  obtain ⟨cs2416, C2417, T2418, fr2419, hr2420, hb2421, hc2422⟩ := h2415
                  obtain ⟨rfl⟩ := kd_T_api_Step_el hr2420
                  refine at_op (op_tk hE (tk_loadX (off0 := o2414) (off := 1) (c := c_T_api_Step (x2411)) (.int .i64 (x2411.fKind)) rfl rfl rfl rfl hE rfl hS rfl hb2421 hc2422 (by kernel_rfl) (by kernel_rfl) (kD hS dn_nil) (fun a hE => ?_))) rfl
                  obtain ⟨r2423, h2424, hf⟩ := bind_some hf
                  refine aC rfl rfl rfl rfl hE rfl rfl rfl rfl (inspeximusref04_in.calls (g := g) h2424 (hS.st.fore (L := [])) ) (fun a v w hR hE => ?_)
                  obtain ⟨D2425, rfl, hS1⟩ := hR
                  have le2427 := hS1.dle
                  have hS := hS.callR hS1 rfl .n
                  clear hS1
                  refine sN 2 18 [(223, .bool ((!r2423)))] hE (fun a hE => ?_)
                  refine at_end rfl ?_
                  exact ⟨(!r2423), D2425, hE.weak (by kernel_rfl), hS, (le2 le2410 le2427), hf⟩
                 ·replace hf := cond_t hb hf
                  have hE := hE.know (t := 214) (b := (!r2406)) (b' := true) rfl hb
                  clear hb
                  refine sN 9 18 [(223, .bool true)] hE (fun a hE => ?_)
                  refine at_end rfl ?_
                  exact ⟨true, D2408, hE.weak (by kernel_rfl), hS, le2410, hf⟩
                ·clear hE hS
                 rintro a w ⟨y2389, D2390, hE, hS, le2391, hf⟩
                 replace hf := hj2393 _ hf
                 clear hj2393
                 refine cond_split hE (b := y2389) rfl (fun hb => ?_) (fun hb => ?_)
                 ·replace hf := cond_t hb hf
                  clear hb
                  refine wpIn_seq ?_
                  refine region_at ?_
                  refine sN 1 1 [(2, .bool false)] hE (fun a hE => ?_)
                  refine at_end rfl ?_
                  refine wpIn_ret ?_
                  obtain rfl := Option.some.inj hf
                  replace hf := hs2281
                  obtain rfl := Option.some.inj hf
                  repeat (with_reducible first | refine then_ret ?_ | refine block_ret ?_ | refine qx_ret ?_)
                  refine ret_gen ([.bool false]) hE (by rw [show Tryd.f12.results.toList = [.tmp 2] from rfl]; exact ⟨_, _, rfl, rfl, rfl⟩) ?_
                  have hS := hS.pk .n rfl
                  exact ⟨_, rfl, D2390, rfl, hS⟩
                 ·replace hf := cond_f hb hf
                  clear hb
                  refine wpIn_skip ?_
                  refine region_at ?_
                  refine sN 3 3 [(7, .int .i64 ((IntKind.wrap .i64 (y2125 + (1 : Int)))))] hE (fun a hE => ?_)
                  refine at_end rfl ?_
                  exact ⟨(IntKind.wrap .i64 (y2125 + (1 : Int))), D2390, hE.weak (by kernel_rfl), hS, (le2 le2127 le2391), hf⟩
               ·replace hf := cond_f hb hf
                clear hb
                refine wpIn_exit ?_
                obtain rfl := Option.some.inj hf
                exact ⟨(), D2126, hE.weak (by kernel_rfl), hS, le2127, rfl⟩
set_option maxRecDepth 100000 in
set_option maxHeartbeats 4000000 in
theorem inspeximusref03_Num.step {K : Nat} {self : Int → Option ((List Int))} (ih : ∀ {g w0 : World} {D0 : Snap} {x1 : Int} {r : ((List Int))} (hf : self x1 = some r) (hS0 : St g w0 D0 []), CallsIn (Fw none) 0 Tryd.prog 41 (List.toArray [.int .i64 (x1)]) w0 (fun e w' => ∃ v, e = .returned v ∧ ∃ (D1 : Snap) (A80 : Option Addr) (c81 : Nat) (q82 : Blk), v = .slice A80 (List.length (r)) c81 ∧ Stp g w0 D0 [] w' D1 [q82] ∧ OwnD (kdInt .u8) 5 D1 A80 c81 (r) q82)) {g w0 : World} {D0 : Snap} {x1 : Int} {r : ((List Int))} (hf : inspeximusref03_Num.b K self x1 = some r) (hS0 : St g w0 D0 []) :
  CallsIn (Fw none) 0 Tryd.prog 41 (List.toArray [.int .i64 (x1)]) w0 (fun e w' => ∃ v, e = .returned v ∧ ∃ (D1 : Snap) (A80 : Option Addr) (c81 : Nat) (q82 : Blk), v = .slice A80 (List.length (r)) c81 ∧ Stp g w0 D0 [] w' D1 [q82] ∧ OwnD (kdInt .u8) 5 D1 A80 c81 (r) q82) := by
 unfold inspeximusref03_Num.b at hf
 have hS := Stp.refl hS0
 clear hS0
 refine calls_body (n := 36) Tryd.func41 rfl Tryd.ntmps41 rfl (fun a hE => ?_)
 have hE : Env a 36 [] [(0, .int .i64 (x1))] := hE
 refine wpIn_seq ?_
 refine region_at ?_
 refine sN 1 1 [(2, .slice none 0 0)] hE (fun a hE => ?_)
 refine at_end rfl ?_
 refine wpIn_seq ?_
 obtain ⟨j144, hj145, hf⟩ := jn_elim hf
 refine seq_join (fun a w => ∃ (y90 : Bool), ∃ (D91 : Snap), Env a 36 [] [(0, .int .i64 (x1)), (9, .bool (y90))] ∧ Stp g w0 D0 [] w D91 [] ∧ Snap.le D0 D91 ∧ j144 y90 = some r) ?_ ?_
 ·clear hj145
  refine region_at ?_
  refine sN 3 3 [(6, .bool ((decide (x1 < (0 : Int)))))] hE (fun a hE => ?_)
  refine Or.elim (Bool.eq_false_or_eq_true ((decide (x1 < (0 : Int))))).symm (fun hb => ?_) (fun hb => ?_)
  ·replace hf := cond_f hb hf
   have hE := hE.know (t := 6) (b := (decide (x1 < (0 : Int)))) (b' := false) rfl hb
   clear hb
   refine sN 3 6 [(9, .bool ((decide ((2147483647 : Int) < x1))))] hE (fun a hE => ?_)
   refine at_end rfl ?_
   exact ⟨(decide ((2147483647 : Int) < x1)), D0, hE.weak (by kernel_rfl), hS, Snap.le.refl _, hf⟩
  ·replace hf := cond_t hb hf
   have hE := hE.know (t := 6) (b := (decide (x1 < (0 : Int)))) (b' := true) rfl hb
   clear hb
   refine sN 3 6 [(9, .bool true)] hE (fun a hE => ?_)
   refine at_end rfl ?_
   exact ⟨true, D0, hE.weak (by kernel_rfl), hS, Snap.le.refl _, hf⟩
 ·clear hE hS
  rintro a w ⟨y90, D91, hE, hS, le92, hf⟩
  replace hf := hj145 _ hf
  clear hj145
  refine cond_split hE (b := y90) rfl (fun hb => ?_) (fun hb => ?_)
  ·replace hf := cond_t hb hf
   clear hb
   refine wpIn_seq ?_
   refine region_at ?_
   refine sN 1 1 [(2, .slice none 0 0)] hE (fun a hE => ?_)
   refine at_end rfl ?_
   refine wpIn_ret ?_
   have hS := hS.nils
   obtain rfl := Option.some.inj hf
   repeat (with_reducible first | refine then_ret ?_ | refine block_ret ?_ | refine qx_ret ?_)
   refine ret_gen ([.slice none 0 0]) hE (by rw [show Tryd.f41.results.toList = [.tmp 2] from rfl]; exact ⟨_, _, rfl, rfl, rfl⟩) ?_
   exact ⟨_, rfl, D91, none, 0, none, rfl, hS, (OwnD.nil (kdInt .u8) 5 D91)⟩
  ·replace hf := cond_f hb hf
   clear hb
   refine wpIn_skip ?_
   refine wpIn_seq ?_
   refine wpIn_seq ?_
   refine region_at ?_
   refine sN 2 2 [(11, .bool ((decide (x1 < (128 : Int)))))] hE (fun a hE => ?_)
   refine at_end rfl ?_
   refine cond_split hE (b := (decide (x1 < (128 : Int)))) rfl (fun hb => ?_) (fun hb => ?_)
   ·replace hf := cond_t hb hf
    clear hb
    refine wpIn_seq ?_
    refine region_at ?_
    refine sN 2 2 [(13, .int .u8 ((IntKind.wrap .u8 x1)))] hE (fun a hE => ?_)
    refine at_op (op_buildSlice (K := (kdInt .u8)) (e := 5) (cs := [.int .u8 ((IntKind.wrap .u8 x1))] ++ []) ([(IntKind.wrap .u8 x1)] : List Int) rfl rfl rfl rfl hE rfl hS rfl (by kernel_rfl) rfl rfl (by exact (show RL (kdInt .u8) D91 ([(IntKind.wrap .u8 x1)] : List Int) ([.int .u8 ((IntKind.wrap .u8 x1))] ++ []) from ⟨_, _, rfl, rfl, rfl⟩)) (fun a A98 q99 w _ hE h100 hS => ?_)) rfl
    refine sN 1 4 [(2, .slice A98 (List.length (([(IntKind.wrap .u8 x1)] : List Int))) 1)] hE (fun a hE => ?_)
    refine at_end rfl ?_
    refine wpIn_ret ?_
    obtain rfl := Option.some.inj hf
    repeat (with_reducible first | refine then_ret ?_ | refine block_ret ?_ | refine qx_ret ?_)
    refine ret_gen ([.slice A98 (List.length (([(IntKind.wrap .u8 x1)] : List Int))) 1]) hE (by rw [show Tryd.f41.results.toList = [.tmp 2] from rfl]; exact ⟨_, _, rfl, rfl, rfl⟩) ?_
    exact ⟨_, rfl, D91, A98, 1, q99, rfl, hS, h100⟩
   ·replace hf := cond_f hb hf
    clear hb
    refine wpIn_skip ?_
    refine wpIn_seq ?_
    refine region_at ?_
    refine sN 2 2 [(16, .int .i64 ((IntKind.wrap .i64 (Int.tdiv x1 128))))] hE (fun a hE => ?_)
    obtain ⟨r102, h103, hf⟩ := bind_some hf
    refine aC rfl rfl rfl rfl hE rfl rfl rfl rfl (ih (g := g) h103 (hS.st.fore (L := [])) ) (fun a v w hR hE => ?_)
    obtain ⟨D104, A106, c107, q108, rfl, hS1, h109⟩ := hR
    have le111 := hS1.dle
    have hS := hS.callR hS1 rfl (.c .n)
    clear hS1
    refine sN 1 4 [(3, .slice A106 (List.length (r102)) c107)] hE (fun a hE => ?_)
    refine at_end rfl ?_
    refine wpIn_seq ?_
    refine region_at ?_
    refine sN 8 8 [(18, .slice A106 (List.length (r102)) c107), (21, .int .i64 ((IntKind.wrap .i64 (((List.length (r102) : Nat) : Int) - (1 : Int))))), (22, .slice A106 (List.length (r102)) c107), (25, .int .i64 ((IntKind.wrap .i64 (((List.length (r102) : Nat) : Int) - (1 : Int)))))] hE (fun a hE => ?_)
    obtain ⟨x112, h113, hf⟩ := bind_some hf
    refine at_op (op_tk hE (tk_indexO (K := (kdInt .u8)) (T := 5) (by_ := 1) (zl := 1) rfl rfl rfl rfl hE rfl rfl rfl (by kernel_rfl) h109 h113 (fun a b114 u115 hq hE => ?_))) rfl
    subst hq
    obtain ⟨cs116, C117, hr118, hb119, hc120⟩ := OwnD.cell h109 h113
    obtain rfl := hr118
    refine at_op (op_tk hE (tk_loadO 0 (off0 := Int.toNat ((IntKind.wrap .i64 (((List.length (r102) : Nat) : Int) - (1 : Int)))) * 1) (off := 0) (c := [.int .u8 (x112)]) (Cl := C117) (T := 5) (fr := (0, 0)) (.int .u8 (x112)) rfl rfl rfl rfl hE rfl hS rfl (by rw [hb119]; rfl) hc120 (by kernel_rfl) (kL (j := 0) hS rfl List.not_mem_nil) (fun a hE => ?_))) rfl
    refine sN 1 11 [(28, .int .u8 ((IntKind.wrap .u8 (x112 + (128 : Int)))))] hE (fun a hE => ?_)
    obtain ⟨x121, h122, hf⟩ := bind_some hf
    refine at_op (op_tk hE (tk_indexO (K := (kdInt .u8)) (T := 5) (by_ := 1) (zl := 1) rfl rfl rfl rfl hE rfl rfl rfl (by kernel_rfl) h109 h122 (fun a b123 u124 hq hE => ?_))) rfl
    obtain ⟨rfl, rfl⟩ := some_pair hq
    refine at_op (op_storeO (K := (kdInt .u8)) (T := 5) (l := r102) ((IntKind.wrap .u8 (x112 + (128 : Int)))) rfl rfl rfl rfl hE hS h109 rfl rfl (inI_of h122) (rfl) (by kernel_rfl) (by kernel_rfl) (fun a u125 w _ hE h126 hS => ?_)) rfl
    have hE : Env a 36 [] [(0, .int .i64 (x1)), (3, .slice A106 (List.length ((List.set (r102) (Int.toNat ((IntKind.wrap .i64 (((List.length (r102) : Nat) : Int) - (1 : Int))))) ((IntKind.wrap .u8 (x112 + (128 : Int))))))) c107), (9, .bool (y90)), (11, .bool ((decide (x1 < (128 : Int))))), (18, .slice A106 (List.length ((List.set (r102) (Int.toNat ((IntKind.wrap .i64 (((List.length (r102) : Nat) : Int) - (1 : Int))))) ((IntKind.wrap .u8 (x112 + (128 : Int))))))) c107), (21, .int .i64 ((IntKind.wrap .i64 (((List.length (r102) : Nat) : Int) - (1 : Int))))), (28, .int .u8 ((IntKind.wrap .u8 (x112 + (128 : Int))))), (29, .pointer (some ⟨b114, Int.toNat ((IntKind.wrap .i64 (((List.length (r102) : Nat) : Int) - (1 : Int)))) * 1, none⟩))] := by have h := hE.weak (E' := [(0, .int .i64 (x1)), (3, .slice A106 (List.length (r102)) c107), (9, .bool (y90)), (11, .bool ((decide (x1 < (128 : Int))))), (18, .slice A106 (List.length (r102)) c107), (21, .int .i64 ((IntKind.wrap .i64 (((List.length (r102) : Nat) : Int) - (1 : Int))))), (28, .int .u8 ((IntKind.wrap .u8 (x112 + (128 : Int))))), (29, .pointer (some ⟨b114, Int.toNat ((IntKind.wrap .i64 (((List.length (r102) : Nat) : Int) - (1 : Int)))) * 1, none⟩))]) (by kernel_rfl); simpa only [List.length_set] using h
    refine at_end rfl ?_
    refine wpIn_seq ?_
    refine region_at ?_
    refine sN 4 4 [(30, .slice A106 (List.length ((List.set (r102) (Int.toNat ((IntKind.wrap .i64 (((List.length (r102) : Nat) : Int) - (1 : Int))))) ((IntKind.wrap .u8 (x112 + (128 : Int))))))) c107), (33, .int .u8 ((IntKind.wrap .u8 (Int.tmod x1 128))))] hE (fun a hE => ?_)
    refine at_op (op_buildSlice (K := (kdInt .u8)) (e := 5) (cs := [.int .u8 ((IntKind.wrap .u8 (Int.tmod x1 128)))] ++ []) ([(IntKind.wrap .u8 (Int.tmod x1 128))] : List Int) rfl rfl rfl rfl hE rfl hS rfl (by kernel_rfl) rfl rfl (by exact (show RL (kdInt .u8) D104 ([(IntKind.wrap .u8 (Int.tmod x1 128))] : List Int) ([.int .u8 ((IntKind.wrap .u8 (Int.tmod x1 128)))] ++ []) from ⟨_, _, rfl, rfl, rfl⟩)) (fun a A128 q129 w _ hE h130 hS => ?_)) rfl
    obtain ⟨D132, q135, le133, hS, h136, h134⟩ := hS.lent h130
    have hS := hS.pk (.c 1 rfl (.c 0 rfl .n)) rfl
    obtain ⟨l137, h138, hf⟩ := bind_some hf
    refine at_op (g_append (K := (kdInt .u8)) (e := 5) (bytes := 1) (l := (List.set (r102) (Int.toNat ((IntKind.wrap .i64 (((List.length (r102) : Nat) : Int) - (1 : Int))))) ((IntKind.wrap .u8 (x112 + (128 : Int)))))) (m := ([(IntKind.wrap .u8 (Int.tmod x1 128))] : List Int)) rfl rfl rfl rfl hE rfl hS rfl rfl (by kernel_rfl) rfl rfl (h126.mono le133) h134 h138 (fun a A139 c140 q141 w _ hE h142 hS => ?_)) rfl
    refine sN 1 7 [(2, .slice A139 (List.length (l137)) c140)] hE (fun a hE => ?_)
    refine at_end rfl ?_
    refine wpIn_ret ?_
    obtain rfl := Option.some.inj hf
    repeat (with_reducible first | refine then_ret ?_ | refine block_ret ?_ | refine qx_ret ?_)
    refine ret_gen ([.slice A139 (List.length (l137)) c140]) hE (by rw [show Tryd.f41.results.toList = [.tmp 2] from rfl]; exact ⟨_, _, rfl, rfl, rfl⟩) ?_
    have hS := hS.pk (.c 0 rfl .n) rfl
    exact ⟨_, rfl, D132, A139, c140, q141, rfl, hS, h142⟩
set_option maxRecDepth 100000 in
set_option maxHeartbeats 4000000 in
theorem inspeximusref03_Num.rcalls {K : Nat} : ∀ (k : Nat) {g w0 : World} {D0 : Snap} {x1 : Int} {r : ((List Int))} (hf : inspeximusref03_Num.r K k x1 = some r) (hS0 : St g w0 D0 []),
  CallsIn (Fw none) 0 Tryd.prog 41 (List.toArray [.int .i64 (x1)]) w0 (fun e w' => ∃ v, e = .returned v ∧ ∃ (D1 : Snap) (A80 : Option Addr) (c81 : Nat) (q82 : Blk), v = .slice A80 (List.length (r)) c81 ∧ Stp g w0 D0 [] w' D1 [q82] ∧ OwnD (kdInt .u8) 5 D1 A80 c81 (r) q82) := by
 intro k
 induction k with
 | zero => intro g w0 D0 x1 r hf; cases hf
 | succ k ih => intro g w0 D0 x1 r hf hS0; exact inspeximusref03_Num.step ih hf hS0
theorem inspeximusref03_Num.calls {K : Nat} {g w0 : World} {D0 : Snap} {x1 : Int} {r : ((List Int))} (hf : inspeximusref03_Num.f K x1 = some r) (hS0 : St g w0 D0 []) :
  CallsIn (Fw none) 0 Tryd.prog 41 (List.toArray [.int .i64 (x1)]) w0 (fun e w' => ∃ v, e = .returned v ∧ ∃ (D1 : Snap) (A80 : Option Addr) (c81 : Nat) (q82 : Blk), v = .slice A80 (List.length (r)) c81 ∧ Stp g w0 D0 [] w' D1 [q82] ∧ OwnD (kdInt .u8) 5 D1 A80 c81 (r) q82) := inspeximusref03_Num.rcalls K hf hS0
set_option maxRecDepth 100000 in
set_option maxHeartbeats 4000000 in
theorem inspeximusref02_Number.calls {K : Nat} {g w0 : World} {D0 : Snap} {x1 : Int} {x2 : Int} {r : ((List Int))} (hf : inspeximusref02_Number.f K x1 x2 = some r) (hS0 : St g w0 D0 []) :
  CallsIn (Fw none) 0 Tryd.prog 83 (List.toArray [.int .i64 (x1), .int .i64 (x2)]) w0 (fun e w' => ∃ v, e = .returned v ∧ ∃ (D1 : Snap) (A184 : Option Addr) (c185 : Nat) (q186 : Blk), v = .slice A184 (List.length (r)) c185 ∧ Stp g w0 D0 [] w' D1 [q186] ∧ OwnD (kdInt .u8) 5 D1 A184 c185 (r) q186) := by
 unfold inspeximusref02_Number.f at hf
 have hS := Stp.refl hS0
 clear hS0
 refine calls_body (n := 27) Tryd.func83 rfl Tryd.ntmps83 rfl (fun a hE => ?_)
 have hE : Env a 27 [] [(0, .int .i64 (x1)), (1, .int .i64 (x2))] := hE
 refine wpIn_seq ?_
 refine region_at ?_
 refine sN 1 1 [(4, .slice none 0 0)] hE (fun a hE => ?_)
 refine at_end rfl ?_
 refine wpIn_seq ?_
 refine region_at ?_
 refine sN 1 1 [(8, .int .i64 (x2))] hE (fun a hE => ?_)
 obtain ⟨l189, h190, hf⟩ := bind_some hf
 refine at_op (op_makeSlice (K := (kdInt .u8)) (e := 5) (bytes := 1) (z := (0 : Int)) (cz := [.int .u8 ((0 : Int))]) rfl rfl rfl rfl hE rfl hS rfl rfl (by kernel_rfl) (by kernel_rfl) rfl rfl rfl h190 (fun a A191 c192 q193 w _ hE h194 hS => ?_)) rfl
 refine sN 1 3 [(5, .slice A191 (List.length (l189)) c192)] hE (fun a hE => ?_)
 refine at_end rfl ?_
 refine wpIn_seq ?_
 refine region_at ?_
 refine sN 3 3 [(6, .int .u64 ((IntKind.wrap .u64 x1)))] hE (fun a hE => ?_)
 refine at_end rfl ?_
 refine wpIn_seq ?_
 refine wpIn_seq ?_
 refine region_at ?_
 refine sN 3 3 [(7, .int .i64 ((IntKind.wrap .i64 (x2 - (1 : Int)))))] hE (fun a hE => ?_)
 refine at_end rfl ?_
 obtain ⟨s354, hf, hs355⟩ := bind_some hf
 refine block_loop (fun a w => ∃ (z346 : (List Int)), ∃ (q351 : Blk), ∃ (D347 : Snap), Env a 27 [] [(5, .slice A191 (List.length (z346)) c192)] ∧ Stp g w0 D0 [] w D347 [q351] ∧ Snap.le D0 D347 ∧ OwnD (kdInt .u8) 5 D347 A191 c192 (z346) q351 ∧ z346 = s354) (fun k a w => ∃ (y316 : (List Int) × Int × Int), ∃ (q321 : Blk), ∃ (D317 : Snap), Env a 27 [] [(5, .slice A191 (List.length (y316.1)) c192), (6, .int .u64 (y316.2.1)), (7, .int .i64 (y316.2.2))] ∧ Stp g w0 D0 [] w D317 [q321] ∧ Snap.le D0 D317 ∧ OwnD (kdInt .u8) 5 D317 A191 c192 (y316.1) q321 ∧ inspeximusref02_Number_l1.l K k y316 = some s354) K ?_ ?_ ?_
 ·exact ⟨(l189, (IntKind.wrap .u64 x1), (IntKind.wrap .i64 (x2 - (1 : Int)))), q193, D0, hE.weak (by kernel_rfl), hS, Snap.le.refl _, h194, hf⟩
 ·clear hE hS hf
  rintro a w ⟨z346, q351, D347, hE, hS, le348, h352, rfl⟩
  have hf := hs355
  clear hs355
  refine wpIn_seq ?_
  refine region_at ?_
  refine sN 2 2 [(4, .slice A191 (List.length (z346)) c192)] hE (fun a hE => ?_)
  refine at_end rfl ?_
  refine wpIn_ret ?_
  obtain rfl := Option.some.inj hf
  repeat (with_reducible first | refine then_ret ?_ | refine block_ret ?_ | refine qx_ret ?_)
  refine ret_gen ([.slice A191 (List.length (z346)) c192]) hE (by rw [show Tryd.f83.results.toList = [.tmp 4] from rfl]; exact ⟨_, _, rfl, rfl, rfl⟩) ?_
  exact ⟨_, rfl, D347, A191, c192, q351, rfl, hS, h352⟩
 ·clear hE hS hf
  rintro k a w ⟨y316, q321, D317, hE, hS, le318, h322, hf⟩
  obtain ⟨k, rfl, hf⟩ := inspeximusref02_Number_l1.some hf
  refine ⟨k, rfl, ?_⟩
  unfold inspeximusref02_Number_l1.b at hf
  refine wpIn_seq ?_
  refine wpIn_seq ?_
  refine region_at ?_
  refine sN 2 2 [(15, .bool ((decide ((0 : Int) ≤ y316.2.2))))] hE (fun a hE => ?_)
  refine at_end rfl ?_
  refine cond_split hE (b := (decide ((0 : Int) ≤ y316.2.2))) rfl (fun hb => ?_) (fun hb => ?_)
  ·replace hf := cond_t hb hf
   clear hb
   refine wpIn_skip ?_
   refine wpIn_seq ?_
   refine wpIn_block ?_
   refine wpIn_seq ?_
   refine region_at ?_
   refine sN 5 5 [(18, .slice A191 (List.length (y316.1)) c192), (19, .int .i64 (y316.2.2)), (22, .int .u8 ((IntKind.wrap .u8 (Int.tmod y316.2.1 256))))] hE (fun a hE => ?_)
   obtain ⟨x363, h364, hf⟩ := bind_some hf
   refine at_op (op_tk hE (tk_indexO (K := (kdInt .u8)) (T := 5) (by_ := 1) (zl := 1) rfl rfl rfl rfl hE rfl rfl rfl (by kernel_rfl) h322 h364 (fun a b365 u366 hq hE => ?_))) rfl
   subst hq
   refine at_op (op_storeO (K := (kdInt .u8)) (T := 5) (l := y316.1) ((IntKind.wrap .u8 (Int.tmod y316.2.1 256))) rfl rfl rfl rfl hE hS h322 rfl rfl (inI_of h364) (rfl) (by kernel_rfl) (by kernel_rfl) (fun a u367 w _ hE h368 hS => ?_)) rfl
   have hE : Env a 27 [] [(5, .slice A191 (List.length ((List.set (y316.1) (Int.toNat (y316.2.2)) ((IntKind.wrap .u8 (Int.tmod y316.2.1 256)))))) c192), (6, .int .u64 (y316.2.1)), (7, .int .i64 (y316.2.2)), (15, .bool ((decide ((0 : Int) ≤ y316.2.2)))), (18, .slice A191 (List.length ((List.set (y316.1) (Int.toNat (y316.2.2)) ((IntKind.wrap .u8 (Int.tmod y316.2.1 256)))))) c192), (19, .int .i64 (y316.2.2)), (22, .int .u8 ((IntKind.wrap .u8 (Int.tmod y316.2.1 256)))), (23, .pointer (some ⟨b365, Int.toNat (y316.2.2) * 1, none⟩))] := by have h := hE.weak (E' := [(5, .slice A191 (List.length (y316.1)) c192), (6, .int .u64 (y316.2.1)), (7, .int .i64 (y316.2.2)), (15, .bool ((decide ((0 : Int) ≤ y316.2.2)))), (18, .slice A191 (List.length (y316.1)) c192), (19, .int .i64 (y316.2.2)), (22, .int .u8 ((IntKind.wrap .u8 (Int.tmod y316.2.1 256)))), (23, .pointer (some ⟨b365, Int.toNat (y316.2.2) * 1, none⟩))]) (by kernel_rfl); simpa only [List.length_set] using h
   refine at_end rfl ?_
   refine region_at ?_
   refine sN 3 3 [(6, .int .u64 ((IntKind.wrap .u64 (Int.tdiv y316.2.1 256))))] hE (fun a hE => ?_)
   refine at_end rfl ?_
   refine region_at ?_
   refine sN 3 3 [(7, .int .i64 ((IntKind.wrap .i64 (y316.2.2 - (1 : Int)))))] hE (fun a hE => ?_)
   refine at_end rfl ?_
   exact ⟨((List.set (y316.1) (Int.toNat (y316.2.2)) ((IntKind.wrap .u8 (Int.tmod y316.2.1 256)))), (IntKind.wrap .u64 (Int.tdiv y316.2.1 256)), (IntKind.wrap .i64 (y316.2.2 - (1 : Int)))), (some (b365, u367)), D317, hE.weak (by kernel_rfl), hS, le318, h368, hf⟩
  ·replace hf := cond_f hb hf
   clear hb
   refine wpIn_exit ?_
   obtain rfl := Option.some.inj hf
   exact ⟨y316.1, q321, D317, hE.weak (by kernel_rfl), hS, le318, h322, rfl⟩
set_option maxRecDepth 100000 in
set_option maxHeartbeats 4000000 in
theorem inspeximusref02_Text.calls {K : Nat} {g w0 : World} {D0 : Snap} {x1 : Int} {x2 : (List (List Int))} {A3 : Option Addr} {c4 : Nat} {r : ((List Int))} (hf : inspeximusref02_Text.f K x1 x2 = some r) (hS0 : St g w0 D0 []) (h5 : Sl (kdSlice (kdInt .u8)) D0 A3 c4 (x2)) :
  CallsIn (Fw none) 0 Tryd.prog 65 (List.toArray [.int .i64 (x1), .slice A3 (List.length (x2)) c4]) w0 (fun e w' => ∃ v, e = .returned v ∧ ∃ (D1 : Snap) (A808 : Option Addr) (c809 : Nat) (q810 : Blk), v = .slice A808 (List.length (r)) c809 ∧ Stp g w0 D0 [] w' D1 [q810] ∧ OwnD (kdInt .u8) 5 D1 A808 c809 (r) q810) := by
 unfold inspeximusref02_Text.f at hf
 have hS := Stp.refl hS0
 clear hS0
 refine calls_body (n := 31) Tryd.func65 rfl Tryd.ntmps65 rfl (fun a hE => ?_)
 have hE : Env a 31 [] [(0, .int .i64 (x1)), (1, .slice A3 (List.length (x2)) c4)] := hE
 refine wpIn_seq ?_
 refine region_at ?_
 refine sN 1 1 [(4, .slice none 0 0)] hE (fun a hE => ?_)
 refine at_end rfl ?_
 refine wpIn_seq ?_
 refine region_at ?_
 refine sN 2 2 [(8, .int .u8 ((IntKind.wrap .u8 x1)))] hE (fun a hE => ?_)
 refine at_op (op_buildSlice (K := (kdInt .u8)) (e := 5) (cs := [.int .u8 ((IntKind.wrap .u8 x1))] ++ []) ([(IntKind.wrap .u8 x1)] : List Int) rfl rfl rfl rfl hE rfl hS rfl (by kernel_rfl) rfl rfl (by exact (show RL (kdInt .u8) D0 ([(IntKind.wrap .u8 x1)] : List Int) ([.int .u8 ((IntKind.wrap .u8 x1))] ++ []) from ⟨_, _, rfl, rfl, rfl⟩)) (fun a A813 q814 w _ hE h815 hS => ?_)) rfl
 refine sN 1 4 [(5, .slice A813 (List.length (([(IntKind.wrap .u8 x1)] : List Int))) 1)] hE (fun a hE => ?_)
 refine at_end rfl ?_
 refine wpIn_seq ?_
 refine wpIn_seq ?_
 refine region_at ?_
 refine sN 1 1 [(6, .int .i64 ((0 : Int)))] hE (fun a hE => ?_)
 refine at_end rfl ?_
 obtain ⟨s1495, hf, hs1496⟩ := bind_some hf
 refine block_loop (fun a w => ∃ (z1487 : (List Int)), ∃ (A1490 : Option Addr), ∃ (c1491 : Nat), ∃ (q1492 : Blk), ∃ (D1488 : Snap), Env a 31 [] [(5, .slice A1490 (List.length (z1487)) c1491)] ∧ Stp g w0 D0 [] w D1488 [q1492] ∧ Snap.le D0 D1488 ∧ OwnD (kdInt .u8) 5 D1488 A1490 c1491 (z1487) q1492 ∧ z1487 = s1495) (fun k a w => ∃ (y1353 : (List Int) × Int), ∃ (A1356 : Option Addr), ∃ (c1357 : Nat), ∃ (q1358 : Blk), ∃ (D1354 : Snap), Env a 31 [] [(1, .slice A3 (List.length (x2)) c4), (5, .slice A1356 (List.length (y1353.1)) c1357), (6, .int .i64 (y1353.2))] ∧ Stp g w0 D0 [] w D1354 [q1358] ∧ Snap.le D0 D1354 ∧ OwnD (kdInt .u8) 5 D1354 A1356 c1357 (y1353.1) q1358 ∧ inspeximusref02_Text_l1.l K x2 k y1353 = some s1495) K ?_ ?_ ?_
 ·exact ⟨(([(IntKind.wrap .u8 x1)] : List Int), (0 : Int)), A813, 1, q814, D0, hE.weak (by kernel_rfl), hS, Snap.le.refl _, h815, hf⟩
 ·clear hE hS hf
  rintro a w ⟨z1487, A1490, c1491, q1492, D1488, hE, hS, le1489, h1493, rfl⟩
  have hf := hs1496
  clear hs1496
  refine wpIn_seq ?_
  refine region_at ?_
  refine sN 2 2 [(4, .slice A1490 (List.length (z1487)) c1491)] hE (fun a hE => ?_)
  refine at_end rfl ?_
  refine wpIn_ret ?_
  obtain rfl := Option.some.inj hf
  repeat (with_reducible first | refine then_ret ?_ | refine block_ret ?_ | refine qx_ret ?_)
  refine ret_gen ([.slice A1490 (List.length (z1487)) c1491]) hE (by rw [show Tryd.f65.results.toList = [.tmp 4] from rfl]; exact ⟨_, _, rfl, rfl, rfl⟩) ?_
  exact ⟨_, rfl, D1488, A1490, c1491, q1492, rfl, hS, h1493⟩
 ·clear hE hS hf
  rintro k a w ⟨y1353, A1356, c1357, q1358, D1354, hE, hS, le1355, h1359, hf⟩
  obtain ⟨k, rfl, hf⟩ := inspeximusref02_Text_l1.some _ hf
  refine ⟨k, rfl, ?_⟩
  unfold inspeximusref02_Text_l1.b at hf
  refine wpIn_seq ?_
  refine wpIn_seq ?_
  refine region_at ?_
  refine sN 4 4 [(13, .bool ((decide (y1353.2 < ((List.length (x2) : Nat) : Int)))))] hE (fun a hE => ?_)
  refine at_end rfl ?_
  refine cond_split hE (b := (decide (y1353.2 < ((List.length (x2) : Nat) : Int)))) rfl (fun hb => ?_) (fun hb => ?_)
  ·replace hf := cond_t hb hf
   clear hb
   refine wpIn_skip ?_
   refine wpIn_seq ?_
   refine wpIn_block ?_
   refine wpIn_seq ?_
   refine region_at ?_
   refine sN 3 3 [(16, .slice A1356 (List.length (y1353.1)) c1357), (17, .slice A3 (List.length (x2)) c4), (18, .int .i64 (y1353.2))] hE (fun a hE => ?_)
   obtain ⟨x1556, h1557, hf⟩ := bind_some hf
   refine at_op (op_tk hE (g_index (K := (kdSlice (kdInt .u8))) (e := 25) (by_ := 24) (zl := 1) rfl rfl rfl rfl hE rfl rfl rfl (by kernel_rfl) rfl (h5.mono le1355) h1557 (fun a b1558 o1559 hE h1560 => ?_))) rfl
   obtain ⟨cs1561, C1562, T1563, fr1564, hr1565, hb1566, hc1567⟩ := h1560
   obtain ⟨A1568, c1569, rfl, h1570⟩ := hr1565
   refine at_op (op_tk hE (tk_loadX (off0 := o1559) (off := 0) (c := [.slice A1568 (List.length (x1556)) c1569]) (.slice A1568 (List.length (x1556)) c1569) rfl rfl rfl rfl hE rfl hS rfl hb1566 hc1567 (by kernel_rfl) (by kernel_rfl) (kD hS dn_nil) (fun a hE => ?_))) rfl
   refine sN 1 6 [(21, .int .i64 (((List.length (x1556) : Nat) : Int)))] hE (fun a hE => ?_)
   obtain ⟨r1571, h1572, hf⟩ := bind_some hf
   refine aC rfl rfl rfl rfl hE rfl rfl rfl rfl (inspeximusref02_Number.calls (g := g) h1572 (hS.st.fore (L := [])) ) (fun a v w hR hE => ?_)
   obtain ⟨D1573, A1575, c1576, q1577, rfl, hS1, h1578⟩ := hR
   have le1580 := hS1.dle
   have hS := hS.callR hS1 rfl (.c .n)
   clear hS1
   obtain ⟨D1581, q1584, le1582, hS, h1585, h1583⟩ := hS.lent h1578
   have hS := hS.pk (.c 1 rfl (.c 0 rfl .n)) rfl
   obtain ⟨l1586, h1587, hf⟩ := bind_some hf
   refine at_op (g_append (K := (kdInt .u8)) (e := 5) (bytes := 1) (l := y1353.1) (m := r1571) rfl rfl rfl rfl hE rfl hS rfl rfl (by kernel_rfl) rfl rfl (h1359.mono (le2 le1580 le1582)) h1583 h1587 (fun a A1588 c1589 q1590 w _ hE h1591 hS => ?_)) rfl
   refine sN 1 9 [(5, .slice A1588 (List.length (l1586)) c1589)] hE (fun a hE => ?_)
   refine at_end rfl ?_
   refine region_at ?_
   refine sN 3 3 [(24, .slice A1588 (List.length (l1586)) c1589), (25, .slice A3 (List.length (x2)) c4), (26, .int .i64 (y1353.2))] hE (fun a hE => ?_)
   obtain ⟨x1593, h1594, hf⟩ := bind_some hf
   refine at_op (op_tk hE (g_index (K := (kdSlice (kdInt .u8))) (e := 25) (by_ := 24) (zl := 1) rfl rfl rfl rfl hE rfl rfl rfl (by kernel_rfl) rfl (h5.mono (le2 (le2 le1355 le1580) le1582)) h1594 (fun a b1595 o1596 hE h1597 => ?_))) rfl
   obtain ⟨cs1598, C1599, T1600, fr1601, hr1602, hb1603, hc1604⟩ := h1597
   obtain ⟨A1605, c1606, rfl, h1607⟩ := hr1602
   refine at_op (op_tk hE (tk_loadX (off0 := o1596) (off := 0) (c := [.slice A1605 (List.length (x1593)) c1606]) (.slice A1605 (List.length (x1593)) c1606) rfl rfl rfl rfl hE rfl hS rfl hb1603 hc1604 (by kernel_rfl) (by kernel_rfl) (kD hS dn_nil) (fun a hE => ?_))) rfl
   obtain ⟨l1608, h1609, hf⟩ := bind_some hf
   refine at_op (g_append (K := (kdInt .u8)) (e := 5) (bytes := 1) (l := l1586) (m := x1593) rfl rfl rfl rfl hE rfl hS rfl rfl (by kernel_rfl) rfl rfl h1591 h1607 h1609 (fun a A1610 c1611 q1612 w _ hE h1613 hS => ?_)) rfl
   refine sN 1 7 [(5, .slice A1610 (List.length (l1608)) c1611)] hE (fun a hE => ?_)
   refine at_end rfl ?_
   refine region_at ?_
   refine sN 3 3 [(6, .int .i64 ((IntKind.wrap .i64 (y1353.2 + (1 : Int)))))] hE (fun a hE => ?_)
   refine at_end rfl ?_
   have hS := hS.pk (.c 0 rfl .n) rfl
   exact ⟨(l1608, (IntKind.wrap .i64 (y1353.2 + (1 : Int)))), A1610, c1611, q1612, D1581, hE.weak (by kernel_rfl), hS, (le2 (le2 le1355 le1580) le1582), h1613, hf⟩
  ·replace hf := cond_f hb hf
   clear hb
   refine wpIn_exit ?_
   obtain rfl := Option.some.inj hf
   exact ⟨y1353.1, A1356, c1357, q1358, D1354, hE.weak (by kernel_rfl), hS, le1355, h1359, rfl⟩
set_option maxRecDepth 100000 in
set_option maxHeartbeats 4000000 in
theorem inspeximusref01_Fill.calls {K : Nat} {g w0 : World} {D0 : Snap} {x1 : Int} {r : ((List Int))} (hf : inspeximusref01_Fill.f K x1 = some r) (hS0 : St g w0 D0 []) :
  CallsIn (Fw none) 0 Tryd.prog 81 (List.toArray [.int .i64 (x1)]) w0 (fun e w' => ∃ v, e = .returned v ∧ ∃ (D1 : Snap) (A482 : Option Addr) (c483 : Nat) (q484 : Blk), v = .slice A482 (List.length (r)) c483 ∧ Stp g w0 D0 [] w' D1 [q484] ∧ OwnD (kdInt .u8) 5 D1 A482 c483 (r) q484) := by
 unfold inspeximusref01_Fill.f at hf
 have hS := Stp.refl hS0
 clear hS0
 refine calls_body (n := 37) Tryd.func81 rfl Tryd.ntmps81 rfl (fun a hE => ?_)
 have hE : Env a 37 [] [(0, .int .i64 (x1))] := hE
 refine wpIn_seq ?_
 refine region_at ?_
 refine sN 1 1 [(2, .slice none 0 0)] hE (fun a hE => ?_)
 refine at_end rfl ?_
 refine wpIn_seq ?_
 refine wpIn_seq ?_
 refine region_at ?_
 refine sN 2 2 [(8, .bool ((decide (x1 < (0 : Int)))))] hE (fun a hE => ?_)
 refine at_end rfl ?_
 refine cond_split hE (b := (decide (x1 < (0 : Int)))) rfl (fun hb => ?_) (fun hb => ?_)
 ·replace hf := cond_t hb hf
  clear hb
  refine wpIn_seq ?_
  refine region_at ?_
  refine sN 1 1 [(2, .slice none 0 0)] hE (fun a hE => ?_)
  refine at_end rfl ?_
  refine wpIn_ret ?_
  have hS := hS.nils
  obtain rfl := Option.some.inj hf
  repeat (with_reducible first | refine then_ret ?_ | refine block_ret ?_ | refine qx_ret ?_)
  refine ret_gen ([.slice none 0 0]) hE (by rw [show Tryd.f81.results.toList = [.tmp 2] from rfl]; exact ⟨_, _, rfl, rfl, rfl⟩) ?_
  exact ⟨_, rfl, D0, none, 0, none, rfl, hS, (OwnD.nil (kdInt .u8) 5 D0)⟩
 ·replace hf := cond_f hb hf
  clear hb
  refine wpIn_skip ?_
  refine wpIn_seq ?_
  refine region_at ?_
  refine at_op (op_buildSlice (K := (kdInt .u8)) (e := 5) (cs := [.int .u8 ((128 : Int))] ++ []) ([(128 : Int)] : List Int) rfl rfl rfl rfl hE rfl hS rfl (by kernel_rfl) rfl rfl (by exact (show RL (kdInt .u8) D0 ([(128 : Int)] : List Int) ([.int .u8 ((128 : Int))] ++ []) from ⟨_, _, rfl, rfl, rfl⟩)) (fun a A488 q489 w _ hE h490 hS => ?_)) rfl
  refine sN 1 2 [(3, .slice A488 (List.length (([(128 : Int)] : List Int))) 1)] hE (fun a hE => ?_)
  refine at_end rfl ?_
  refine wpIn_seq ?_
  obtain ⟨s660, hf, hs661⟩ := bind_some hf
  refine block_loop (fun a w => ∃ (z652 : (List Int)), ∃ (A655 : Option Addr), ∃ (c656 : Nat), ∃ (q657 : Blk), ∃ (D653 : Snap), Env a 37 [] [(0, .int .i64 (x1)), (3, .slice A655 (List.length (z652)) c656)] ∧ Stp g w0 D0 [] w D653 [q657] ∧ Snap.le D0 D653 ∧ OwnD (kdInt .u8) 5 D653 A655 c656 (z652) q657 ∧ z652 = s660) (fun k a w => ∃ (y620 : (List Int)), ∃ (A623 : Option Addr), ∃ (c624 : Nat), ∃ (q625 : Blk), ∃ (D621 : Snap), Env a 37 [] [(0, .int .i64 (x1)), (3, .slice A623 (List.length (y620)) c624)] ∧ Stp g w0 D0 [] w D621 [q625] ∧ Snap.le D0 D621 ∧ OwnD (kdInt .u8) 5 D621 A623 c624 (y620) q625 ∧ inspeximusref01_Fill_l1.l K x1 k y620 = some s660) K ?_ ?_ ?_
  ·exact ⟨([(128 : Int)] : List Int), A488, 1, q489, D0, hE.weak (by kernel_rfl), hS, Snap.le.refl _, h490, hf⟩
  ·clear hE hS hf
   rintro a w ⟨z652, A655, c656, q657, D653, hE, hS, le654, h658, rfl⟩
   have hf := hs661
   clear hs661
   refine wpIn_seq ?_
   refine region_at ?_
   refine sN 4 4 [(4, .int .u64 ((IntKind.wrap .u64 ((IntKind.wrap .u64 x1) * (8 : Int)))))] hE (fun a hE => ?_)
   refine at_end rfl ?_
   refine wpIn_seq ?_
   refine region_at ?_
   refine sN 1 1 [(5, .int .u64 ((72057594037927936 : Int)))] hE (fun a hE => ?_)
   refine at_end rfl ?_
   refine wpIn_seq ?_
   refine wpIn_seq ?_
   refine region_at ?_
   refine sN 1 1 [(6, .int .i64 ((0 : Int)))] hE (fun a hE => ?_)
   refine at_end rfl ?_
   obtain ⟨s932, hf, hs933⟩ := bind_some hf
   refine block_loop (fun a w => ∃ (z924 : (List Int)), ∃ (A927 : Option Addr), ∃ (c928 : Nat), ∃ (q929 : Blk), ∃ (D925 : Snap), Env a 37 [] [(3, .slice A927 (List.length (z924)) c928)] ∧ Stp g w0 D0 [] w D925 [q929] ∧ Snap.le D653 D925 ∧ OwnD (kdInt .u8) 5 D925 A927 c928 (z924) q929 ∧ z924 = s932) (fun k a w => ∃ (y874 : (List Int) × Int × Int), ∃ (A877 : Option Addr), ∃ (c878 : Nat), ∃ (q879 : Blk), ∃ (D875 : Snap), Env a 37 [] [(3, .slice A877 (List.length (y874.1)) c878), (4, .int .u64 ((IntKind.wrap .u64 ((IntKind.wrap .u64 x1) * (8 : Int))))), (5, .int .u64 (y874.2.1)), (6, .int .i64 (y874.2.2))] ∧ Stp g w0 D0 [] w D875 [q879] ∧ Snap.le D653 D875 ∧ OwnD (kdInt .u8) 5 D875 A877 c878 (y874.1) q879 ∧ inspeximusref01_Fill_l2.l K x1 k y874 = some s932) K ?_ ?_ ?_
   ·exact ⟨(z652, (72057594037927936 : Int), (0 : Int)), A655, c656, q657, D653, hE.weak (by kernel_rfl), hS, Snap.le.refl _, h658, hf⟩
   ·clear hE hS hf
    rintro a w ⟨z924, A927, c928, q929, D925, hE, hS, le926, h930, rfl⟩
    have hf := hs933
    clear hs933
    refine wpIn_seq ?_
    refine region_at ?_
    refine sN 2 2 [(2, .slice A927 (List.length (z924)) c928)] hE (fun a hE => ?_)
    refine at_end rfl ?_
    refine wpIn_ret ?_
    obtain rfl := Option.some.inj hf
    repeat (with_reducible first | refine then_ret ?_ | refine block_ret ?_ | refine qx_ret ?_)
    refine ret_gen ([.slice A927 (List.length (z924)) c928]) hE (by rw [show Tryd.f81.results.toList = [.tmp 2] from rfl]; exact ⟨_, _, rfl, rfl, rfl⟩) ?_
    exact ⟨_, rfl, D925, A927, c928, q929, rfl, hS, h930⟩
   ·clear hE hS hf
    rintro k a w ⟨y874, A877, c878, q879, D875, hE, hS, le876, h880, hf⟩
    obtain ⟨k, rfl, hf⟩ := inspeximusref01_Fill_l2.some _ hf
    refine ⟨k, rfl, ?_⟩
    unfold inspeximusref01_Fill_l2.b at hf
    refine wpIn_seq ?_
    refine wpIn_seq ?_
    refine region_at ?_
    refine sN 2 2 [(23, .bool ((decide (y874.2.2 < (8 : Int)))))] hE (fun a hE => ?_)
    refine at_end rfl ?_
    refine cond_split hE (b := (decide (y874.2.2 < (8 : Int)))) rfl (fun hb => ?_) (fun hb => ?_)
    ·replace hf := cond_t hb hf
     clear hb
     refine wpIn_skip ?_
     refine wpIn_seq ?_
     refine wpIn_block ?_
     refine wpIn_seq ?_
     refine region_at ?_
     refine sN 3 3 [(26, .slice A877 (List.length (y874.1)) c878), (27, .int .u64 ((IntKind.wrap .u64 ((IntKind.wrap .u64 x1) * (8 : Int))))), (28, .int .u64 (y874.2.1))] hE (fun a hE => ?_)
     obtain ⟨hq951, hf⟩ := chk_not hf
     refine at_op (op_tk hE (tk_bin (r := .int .u64 ((IntKind.wrap .u64 (Int.tdiv (IntKind.wrap .u64 ((IntKind.wrap .u64 x1) * (8 : Int))) y874.2.1)))) rfl rfl rfl rfl hE rfl rfl rfl (quo_run hq951) (fun a hE => ?_))) rfl
     refine sN 2 6 [(31, .int .u8 ((IntKind.wrap .u8 (Int.tmod (IntKind.wrap .u64 (Int.tdiv (IntKind.wrap .u64 ((IntKind.wrap .u64 x1) * (8 : Int))) y874.2.1)) 256))))] hE (fun a hE => ?_)
     refine at_op (op_buildSlice (K := (kdInt .u8)) (e := 5) (cs := [.int .u8 ((IntKind.wrap .u8 (Int.tmod (IntKind.wrap .u64 (Int.tdiv (IntKind.wrap .u64 ((IntKind.wrap .u64 x1) * (8 : Int))) y874.2.1)) 256)))] ++ []) ([(IntKind.wrap .u8 (Int.tmod (IntKind.wrap .u64 (Int.tdiv (IntKind.wrap .u64 ((IntKind.wrap .u64 x1) * (8 : Int))) y874.2.1)) 256))] : List Int) rfl rfl rfl rfl hE rfl hS rfl (by kernel_rfl) rfl rfl (by exact (show RL (kdInt .u8) D875 ([(IntKind.wrap .u8 (Int.tmod (IntKind.wrap .u64 (Int.tdiv (IntKind.wrap .u64 ((IntKind.wrap .u64 x1) * (8 : Int))) y874.2.1)) 256))] : List Int) ([.int .u8 ((IntKind.wrap .u8 (Int.tmod (IntKind.wrap .u64 (Int.tdiv (IntKind.wrap .u64 ((IntKind.wrap .u64 x1) * (8 : Int))) y874.2.1)) 256)))] ++ []) from ⟨_, _, rfl, rfl, rfl⟩)) (fun a A952 q953 w _ hE h954 hS => ?_)) rfl
     obtain ⟨D956, q959, le957, hS, h960, h958⟩ := hS.lent h954
     have hS := hS.pk (.c 1 rfl (.c 0 rfl .n)) rfl
     obtain ⟨l961, h962, hf⟩ := bind_some hf
     refine at_op (g_append (K := (kdInt .u8)) (e := 5) (bytes := 1) (l := y874.1) (m := ([(IntKind.wrap .u8 (Int.tmod (IntKind.wrap .u64 (Int.tdiv (IntKind.wrap .u64 ((IntKind.wrap .u64 x1) * (8 : Int))) y874.2.1)) 256))] : List Int)) rfl rfl rfl rfl hE rfl hS rfl rfl (by kernel_rfl) rfl rfl (h880.mono le957) h958 h962 (fun a A963 c964 q965 w _ hE h966 hS => ?_)) rfl
     refine sN 1 9 [(3, .slice A963 (List.length (l961)) c964)] hE (fun a hE => ?_)
     refine at_end rfl ?_
     refine region_at ?_
     refine sN 3 3 [(5, .int .u64 ((IntKind.wrap .u64 (Int.tdiv y874.2.1 256))))] hE (fun a hE => ?_)
     refine at_end rfl ?_
     refine region_at ?_
     refine sN 3 3 [(6, .int .i64 ((IntKind.wrap .i64 (y874.2.2 + (1 : Int)))))] hE (fun a hE => ?_)
     refine at_end rfl ?_
     have hS := hS.pk (.c 0 rfl .n) rfl
     exact ⟨(l961, (IntKind.wrap .u64 (Int.tdiv y874.2.1 256)), (IntKind.wrap .i64 (y874.2.2 + (1 : Int)))), A963, c964, q965, D956, hE.weak (by kernel_rfl), hS, (le2 le876 le957), h966, hf⟩
    ·replace hf := cond_f hb hf
     clear hb
     refine wpIn_exit ?_
     obtain rfl := Option.some.inj hf
     exact ⟨y874.1, A877, c878, q879, D875, hE.weak (by kernel_rfl), hS, le876, h880, rfl⟩
  ·clear hE hS hf
   rintro k a w ⟨y620, A623, c624, q625, D621, hE, hS, le622, h626, hf⟩
   obtain ⟨k, rfl, hf⟩ := inspeximusref01_Fill_l1.some _ hf
   refine ⟨k, rfl, ?_⟩
   unfold inspeximusref01_Fill_l1.b at hf
   refine wpIn_seq ?_
   refine wpIn_seq ?_
   refine region_at ?_
   refine sN 6 6 [(15, .bool ((!decide ((Int.tmod (IntKind.wrap .i64 (x1 + ((List.length (y620) : Nat) : Int))) 64) = (56 : Int)))))] hE (fun a hE => ?_)
   refine at_end rfl ?_
   refine cond_split hE (b := (!decide ((Int.tmod (IntKind.wrap .i64 (x1 + ((List.length (y620) : Nat) : Int))) 64) = (56 : Int)))) rfl (fun hb => ?_) (fun hb => ?_)
   ·replace hf := cond_t hb hf
    clear hb
    refine wpIn_skip ?_
    refine wpIn_block ?_
    refine region_at ?_
    refine sN 1 1 [(16, .slice A623 (List.length (y620)) c624)] hE (fun a hE => ?_)
    refine at_op (op_buildSlice (K := (kdInt .u8)) (e := 5) (cs := [.int .u8 ((0 : Int))] ++ []) ([(0 : Int)] : List Int) rfl rfl rfl rfl hE rfl hS rfl (by kernel_rfl) rfl rfl (by exact (show RL (kdInt .u8) D621 ([(0 : Int)] : List Int) ([.int .u8 ((0 : Int))] ++ []) from ⟨_, _, rfl, rfl, rfl⟩)) (fun a A662 q663 w _ hE h664 hS => ?_)) rfl
    obtain ⟨D666, q669, le667, hS, h670, h668⟩ := hS.lent h664
    have hS := hS.pk (.c 1 rfl (.c 0 rfl .n)) rfl
    obtain ⟨l671, h672, hf⟩ := bind_some hf
    refine at_op (g_append (K := (kdInt .u8)) (e := 5) (bytes := 1) (l := y620) (m := ([(0 : Int)] : List Int)) rfl rfl rfl rfl hE rfl hS rfl rfl (by kernel_rfl) rfl rfl (h626.mono le667) h668 h672 (fun a A673 c674 q675 w _ hE h676 hS => ?_)) rfl
    refine sN 1 4 [(3, .slice A673 (List.length (l671)) c674)] hE (fun a hE => ?_)
    refine at_end rfl ?_
    have hS := hS.pk (.c 0 rfl .n) rfl
    exact ⟨l671, A673, c674, q675, D666, hE.weak (by kernel_rfl), hS, (le2 le622 le667), h676, hf⟩
   ·replace hf := cond_f hb hf
    clear hb
    refine wpIn_exit ?_
    obtain rfl := Option.some.inj hf
    exact ⟨y620, A623, c624, q625, D621, hE.weak (by kernel_rfl), hS, le622, h626, rfl⟩
set_option maxRecDepth 100000 in
set_option maxHeartbeats 4000000 in
theorem inspeximusref01_right.calls {K : Nat} {g w0 : World} {D0 : Snap} {x1 : Int} {x2 : Int} {r : (Int)} (hf : inspeximusref01_right.f K x1 x2 = some r) (hS0 : St g w0 D0 []) :
  CallsIn (Fw none) 0 Tryd.prog 94 (List.toArray [.int .u64 (x1), .int .i64 (x2)]) w0 (fun e w' => ∃ v, e = .returned v ∧ ∃ (D1 : Snap), v = .int .u64 (r) ∧ Stp g w0 D0 [] w' D1 []) := by
 unfold inspeximusref01_right.f at hf
 have hS := Stp.refl hS0
 clear hS0
 refine calls_body (n := 16) Tryd.func94 rfl Tryd.ntmps94 rfl (fun a hE => ?_)
 have hE : Env a 16 [] [(0, .int .u64 (x1)), (1, .int .i64 (x2))] := hE
 refine wpIn_seq ?_
 refine region_at ?_
 refine sN 1 1 [(4, .int .u64 ((0 : Int)))] hE (fun a hE => ?_)
 refine at_end rfl ?_
 refine wpIn_seq ?_
 refine region_at ?_
 refine sN 3 3 [(5, .int .u64 (x1)), (7, .int .u64 ((IntKind.wrap .u64 x2)))] hE (fun a hE => ?_)
 obtain ⟨hq5, hf⟩ := chk_not hf
 refine at_op (op_tk hE (tk_bin (r := .int .u64 ((Int.fdiv x1 (2 ^ (min (Int.toNat (IntKind.wrap .u64 x2)) 64))))) rfl rfl rfl rfl hE rfl rfl rfl (shr_run hq5) (fun a hE => ?_))) rfl
 refine sN 4 8 [(9, .int .u64 (x1)), (12, .int .u64 ((IntKind.wrap .u64 (IntKind.wrap .i64 ((32 : Int) - x2)))))] hE (fun a hE => ?_)
 obtain ⟨hq6, hf⟩ := chk_not hf
 refine at_op (op_tk hE (tk_bin (r := .int .u64 ((IntKind.wrap .u64 (x1 * 2 ^ (min (Int.toNat (IntKind.wrap .u64 (IntKind.wrap .i64 ((32 : Int) - x2)))) 64))))) rfl rfl rfl rfl hE rfl rfl rfl (shl_run hq6) (fun a hE => ?_))) rfl
 refine sN 3 12 [(4, .int .u64 ((Int.tmod (bor .u64 (Int.fdiv x1 (2 ^ (min (Int.toNat (IntKind.wrap .u64 x2)) 64))) (IntKind.wrap .u64 (x1 * 2 ^ (min (Int.toNat (IntKind.wrap .u64 (IntKind.wrap .i64 ((32 : Int) - x2)))) 64)))) 4294967296)))] hE (fun a hE => ?_)
 refine at_end rfl ?_
 refine wpIn_ret ?_
 obtain rfl := Option.some.inj hf
 repeat (with_reducible first | refine then_ret ?_ | refine block_ret ?_ | refine qx_ret ?_)
 refine ret_gen ([.int .u64 ((Int.tmod (bor .u64 (Int.fdiv x1 (2 ^ (min (Int.toNat (IntKind.wrap .u64 x2)) 64))) (IntKind.wrap .u64 (x1 * 2 ^ (min (Int.toNat (IntKind.wrap .u64 (IntKind.wrap .i64 ((32 : Int) - x2)))) 64)))) 4294967296))]) hE (by rw [show Tryd.f94.results.toList = [.tmp 4] from rfl]; exact ⟨_, _, rfl, rfl, rfl⟩) ?_
 exact ⟨_, rfl, D0, rfl, hS⟩
set_option maxRecDepth 100000 in
set_option maxHeartbeats 4000000 in
theorem inspeximusref01_shift.calls {K : Nat} {g w0 : World} {D0 : Snap} {x1 : Int} {x2 : Int} {r : (Int)} (hf : inspeximusref01_shift.f K x1 x2 = some r) (hS0 : St g w0 D0 []) :
  CallsIn (Fw none) 0 Tryd.prog 95 (List.toArray [.int .u64 (x1), .int .i64 (x2)]) w0 (fun e w' => ∃ v, e = .returned v ∧ ∃ (D1 : Snap), v = .int .u64 (r) ∧ Stp g w0 D0 [] w' D1 []) := by
 unfold inspeximusref01_shift.f at hf
 have hS := Stp.refl hS0
 clear hS0
 refine calls_body (n := 9) Tryd.func95 rfl Tryd.ntmps95 rfl (fun a hE => ?_)
 have hE : Env a 9 [] [(0, .int .u64 (x1)), (1, .int .i64 (x2))] := hE
 refine wpIn_seq ?_
 refine region_at ?_
 refine sN 1 1 [(4, .int .u64 ((0 : Int)))] hE (fun a hE => ?_)
 refine at_end rfl ?_
 refine wpIn_seq ?_
 refine region_at ?_
 refine sN 3 3 [(5, .int .u64 (x1)), (7, .int .u64 ((IntKind.wrap .u64 x2)))] hE (fun a hE => ?_)
 obtain ⟨hq4, hf⟩ := chk_not hf
 refine at_op (op_tk hE (tk_bin (r := .int .u64 ((Int.fdiv x1 (2 ^ (min (Int.toNat (IntKind.wrap .u64 x2)) 64))))) rfl rfl rfl rfl hE rfl rfl rfl (shr_run hq4) (fun a hE => ?_))) rfl
 refine sN 1 5 [(4, .int .u64 ((Int.fdiv x1 (2 ^ (min (Int.toNat (IntKind.wrap .u64 x2)) 64)))))] hE (fun a hE => ?_)
 refine at_end rfl ?_
 refine wpIn_ret ?_
 obtain rfl := Option.some.inj hf
 repeat (with_reducible first | refine then_ret ?_ | refine block_ret ?_ | refine qx_ret ?_)
 refine ret_gen ([.int .u64 ((Int.fdiv x1 (2 ^ (min (Int.toNat (IntKind.wrap .u64 x2)) 64))))]) hE (by rw [show Tryd.f95.results.toList = [.tmp 4] from rfl]; exact ⟨_, _, rfl, rfl, rfl⟩) ?_
 exact ⟨_, rfl, D0, rfl, hS⟩
end Go.Proofs.YtlcnliiampfigaaDoor
