/-
  Proved, text by text: a call of a function of the cut comes to what its plain function computes.
  Conditions: those that each theorem names.
-/
import Derived.Test.YtjgaokcplofimaaDoorProg
import Derived.Test.YtjgaokcplofimaaDoorSepN
import Derived.Test.YtjgaokcplofimaaDoorXExportPathsW1
set_option linter.unusedVariables false
set_option maxHeartbeats 4000000
namespace Go.Proofs.YtjgaokcplofimaaDoor
open Go Go.Sep
set_option maxRecDepth 100000 in
theorem export_made_v2.calls {K : Nat} {g w0 : World} {D0 : Snap} {x5 : (List T_api_Rec)} {x9 : T_api_Point} {x13 : Int} {x14 : Bool} {x15 : Int} {b1 : Nat} {b2 : Nat} {A6 : Option Addr} {c7 : Nat} {A10 : Option Addr} {c11 : Nat} {r : (T_api_Bundle × Bool)} (hf : export_made_v2.f K x5 x9 x13 x14 x15 = some r) (hS0 : St g w0 D0 [bx b1 3 ([.int .i64 (x15)]), bx b2 70 ([.func (.func 30) #[] #[]])]) (h8 : Sl kd_T_api_Rec D0 A6 c7 (x5)) (h12 : Sl kd_T_api_Sig D0 A10 c11 (x9.fSigs)) (hG0 : Cell (kdArr .u32 8) D0 0 0 gl_First) (hG1 : Cell (kdArr .u32 64) D0 1 0 gl_K) :
  CallsIn (Fw none) 0 Tryd.prog 28 (List.toArray [.slice A6 (List.length (x5)) c7, .agg (List.toArray (c_T_api_Point (x9) A10 c11)), .int .u32 (x13), .bool (x14), .func (.func 64) #[] #[.pointer (some ⟨b1, 0, none⟩), .pointer (some ⟨b2, 0, none⟩)]]) w0 (fun e w' => ∃ v, e = .returned v ∧ ∃ (D1 : Snap) (A20 : Option Addr) (c20 : Nat) (A21 : Option Addr) (c21 : Nat), v = .tuple #[.agg (List.toArray (c_T_api_Bundle ((T_api_Bundle.mk (r.1.fWhole) ((T_api_Point.mk (r.1.fPoint.fSize) (r.1.fPoint.fRoot) (r.1.fPoint.fSigs))) (r.1.fItems))) A20 c20 A21 c21)), .bool (r.2)] ∧ Stp g w0 D0 [bx b1 3 ([.int .i64 (x15)]), bx b2 70 ([.func (.func 30) #[] #[]])] w' D1 [bx b1 3 ([.int .i64 (x15)]), bx b2 70 ([.func (.func 30) #[] #[]])] ∧ Sl kd_T_api_Sig D1 A20 c20 (r.1.fPoint.fSigs) ∧ Sl kd_T_api_Item D1 A21 c21 (r.1.fItems)) := by
 unfold export_made_v2.f at hf
 have hS := Stp.refl hS0
 clear hS0
 refine calls_bodyM (n := 92) Tryd.func28 rfl Tryd.ntmps28 rfl fun a hE => ?_
 have hE : Env a 92 [] [(0, .slice A6 (List.length (x5)) c7), (1, .agg (List.toArray (c_T_api_Point (x9) A10 c11))), (2, .int .u32 (x13)), (3, .bool (x14)), (4, .func (.func 64) #[] #[.pointer (some ⟨b1, 0, none⟩), .pointer (some ⟨b2, 0, none⟩)])] := hE
 refine sq (ra ?_)
 refine at_op (op_box rfl rfl rfl rfl hE rfl hS rfl (fun a b3 w _ hE hS => ?_)) rfl
 refine at_op (op_box rfl rfl rfl rfl hE rfl hS rfl (fun a b4 w _ hE hS => ?_)) rfl
 refine at_op (op_box rfl rfl rfl rfl hE rfl hS rfl (fun a b5 w _ hE hS => ?_)) rfl
 refine at_op (op_box rfl rfl rfl rfl hE rfl hS rfl (fun a b6 w _ hE hS => ?_)) rfl
 refine at_op (op_alloc (z := .agg (List.toArray (c_T_api_Bundle (z_T_api_Bundle) none 0 none 0))) rfl rfl rfl rfl hE rfl hS (by kernel_rfl) (fun a b7 w _ hE hS => ?_)) rfl
 refine at_op (op_alloc (z := .bool false) rfl rfl rfl rfl hE rfl hS (by kernel_rfl) (fun a b8 w _ hE hS => ?_)) rfl
 refine ae ?_
 refine sq ?_
 obtain ⟨j1, hj1, hf⟩ := jn_elim hf
 refine seq_join (fun a w => ∃ (y7 : Bool), ∃ D5, Env a 92 [] [(4, .func (.func 64) #[] #[.pointer (some ⟨b1, 0, none⟩), .pointer (some ⟨b2, 0, none⟩)]), (5, .pointer (some ⟨b3, 0, none⟩)), (6, .pointer (some ⟨b4, 0, none⟩)), (7, .pointer (some ⟨b5, 0, none⟩)), (8, .pointer (some ⟨b6, 0, none⟩)), (10, .pointer (some ⟨b7, 0, none⟩)), (11, .pointer (some ⟨b8, 0, none⟩)), (35, .bool (y7))] ∧ Stp g w0 D0 [bx b1 3 ([.int .i64 (x15)]), bx b2 70 ([.func (.func 30) #[] #[]])] w D5 [bx b1 3 ([.int .i64 (x15)]), bx b2 70 ([.func (.func 30) #[] #[]]), bx b3 22 ([.slice A6 (List.length (x5)) c7]), bx b4 27 (c_T_api_Point (x9) A10 c11), bx b5 35 ([.int .u32 (x13)]), bx b6 4 ([.bool (x14)]), bx b7 32 (c_T_api_Bundle (z_T_api_Bundle) none 0 none 0), bx b8 4 ([.bool false])] ∧ Snap.le D0 D5 ∧ j1 y7 = some r) ?_ ?_
 ·clear hj1
  refine ra ?_
  refine sM 1 1 [5] [(16, .slice A6 (List.length (x5)) c7)] hE hS fun a hE => ?_
  obtain ⟨r7, h6, hf⟩ := bs hf
  refine aC rfl rfl rfl rfl hE rfl rfl rfl rfl (export_right.calls h6 (hS.st.fore (L := [])) h8) fun a v w hR hE => ?_
  obtain ⟨D9, rfl, hS1⟩ := hR
  have le9 := hS1.dle
  have hS := hS.callR hS1 rfl .n
  refine sN 2 4 [(19, .bool ((!r7)))] hE fun a hE => ?_
  refine bo ((!r7)) (fun hb => ?_) fun hb => ?_
  ·replace hf := cf hb hf
   have hE := hE.know (t := 19) rfl hb
   refine sM 5 9 [5] [(24, .bool ((decide ((400 : Int) < ((List.length (x5) : Nat) : Int)))))] hE hS fun a hE => ?_
   refine bo ((decide ((400 : Int) < ((List.length (x5) : Nat) : Int)))) (fun hb => ?_) fun hb => ?_
   ·replace hf := cf hb hf
    have hE := hE.know (t := 24) rfl hb
    refine sM 5 14 [4] [(29, .bool ((decide (x9.fSize < (0 : Int)))))] hE hS fun a hE => ?_
    refine bo ((decide (x9.fSize < (0 : Int)))) (fun hb => ?_) fun hb => ?_
    ·replace hf := cf hb hf
     have hE := hE.know (t := 29) rfl hb
     refine sM 6 20 [4, 5] [(35, .bool ((decide (((List.length (x5) : Nat) : Int) < x9.fSize))))] hE hS fun a hE => ?_
     refine ae ?_
     have hS := hS.p (.d 6 (.d 7 (.d 5 (.d 4 (.d 3 (.d 2 (.d 1 (.d 0 .n))))))))
     exact ⟨(decide (((List.length (x5) : Nat) : Int) < x9.fSize)), D9, hE.wk, hS, le9, hf⟩
    replace hf := ct hb hf
    have hE := hE.know (t := 29) rfl hb
    refine sN 6 20 [(35, .bool true)] hE fun a hE => ?_
    refine ae ?_
    have hS := hS.p (.d 6 (.d 7 (.d 5 (.d 4 (.d 3 (.d 2 (.d 1 (.d 0 .n))))))))
    exact ⟨true, D9, hE.wk, hS, le9, hf⟩
   replace hf := ct hb hf
   have hE := hE.know (t := 24) rfl hb
   refine sN 11 20 [(35, .bool true)] hE fun a hE => ?_
   refine ae ?_
   have hS := hS.p (.d 6 (.d 7 (.d 5 (.d 4 (.d 3 (.d 2 (.d 1 (.d 0 .n))))))))
   exact ⟨true, D9, hE.wk, hS, le9, hf⟩
  replace hf := ct hb hf
  have hE := hE.know (t := 19) rfl hb
  refine sN 16 20 [(35, .bool true)] hE fun a hE => ?_
  refine ae ?_
  have hS := hS.p (.d 6 (.d 7 (.d 5 (.d 4 (.d 3 (.d 2 (.d 1 (.d 0 .n))))))))
  exact ⟨true, D9, hE.wk, hS, le9, hf⟩
 clear hE hS
 rintro a w ⟨y7, D5, hE, hS, le3, hf⟩
 replace hf := hj1 _ hf
 clear hj1
 refine cond_split hE (b := y7) rfl (fun hb => ?_) (fun hb => ?_)
 ·replace hf := ct hb hf
  refine sq (ra ?_)
  refine at_op (op_tk hE (tk_build (c_T_api_Bundle (z_T_api_Bundle) none 0 none 0) rfl rfl rfl rfl hE rfl rfl (by kernel_rfl) (fun a hE => ?_))) rfl
  have hS := hS.p (.d 6 (.d 0 (.d 1 (.d 2 (.d 3 (.d 4 (.d 5 (.d 7 .n))))))))
  refine at_op (op_store (v := .agg (List.toArray (c_T_api_Bundle (z_T_api_Bundle) none 0 none 0))) (c_T_api_Bundle (z_T_api_Bundle) none 0 none 0) rfl rfl rfl rfl hE hS rfl rfl (by kernel_rfl) (by kernel_rfl) (by kernel_rfl) (by kernel_rfl) (by kernel_rfl) (fun a w _ hE hS => ?_)) rfl
  have hS := hS.p (.d 7 (.d 0 (.d 1 (.d 2 (.d 3 (.d 4 (.d 5 (.d 6 .n))))))))
  refine at_op (op_store (v := .bool false) ([.bool false]) rfl rfl rfl rfl hE hS rfl rfl (by kernel_rfl) (by kernel_rfl) (by kernel_rfl) (by kernel_rfl) (by kernel_rfl) (fun a w _ hE hS => ?_)) rfl
  refine ae ?_
  refine wpIn_ret ?_
  obtain rfl := si hf
  refine ret_ ?_
  refine ret_M0 ([.agg (List.toArray (c_T_api_Bundle (z_T_api_Bundle) none 0 none 0)), .bool false]) hE (by rw [show Tryd.f28.results.toList = [.cell 10 32, .cell 11 4] from rfl]; exact ⟨_, _, _, 0, _, _, rfl, rfl, hS.heapAt (j := 1) rfl, by kernel_rfl, ⟨_, _, _, 0, _, _, rfl, rfl, hS.heapAt (j := 0) rfl, by kernel_rfl, rfl⟩⟩) ?_
  have hS := hS.p (.d 2 (.d 3 .n))
  exact ⟨_, rfl, D5, none, 0, none, 0, rfl, hS, (Sl.nil kd_T_api_Sig D5), (Sl.nil kd_T_api_Item D5)⟩
 replace hf := cf hb hf
 refine wpIn_skip ?_
 refine sq (ra ?_)
 refine sM 3 3 [2, 3] [(37, .slice A6 (List.length (x5)) c7), (39, .int .i64 (x9.fSize))] hE hS fun a hE => ?_
 obtain ⟨l3, h7, hf⟩ := bs hf
 refine at_op (op_tk hE (g_slice (K := kd_T_api_Rec) (e := 39) (by_ := 224) (zl := 109) rfl rfl rfl rfl hE rfl rfl (by kernel_rfl) rfl ⟨_, rfl⟩ (h8.mono le3) h7 (fun a A24 c24 hE h9 => ?_))) rfl
 obtain ⟨r1, h10, hf⟩ := bs hf
 refine aC rfl rfl rfl rfl hE rfl rfl rfl rfl (export_Hashes.calls h10 (hS.st.fore (L := [])) h9 (hG0.mono le3) (hG1.mono le3)) fun a v w hR hE => ?_
 obtain ⟨D14, A2, c2, rfl, hS1, h11⟩ := hR
 have le6 := hS1.dle
 have hS := hS.callR hS1 rfl .n
 refine at_op (op_alloc (z := .slice none 0 0) rfl rfl rfl rfl hE rfl hS (by kernel_rfl) (fun a b10 w _ hE hS => ?_)) rfl
 refine at_op (op_store (v := .slice A2 (List.length (r1)) c2) ([.slice A2 (List.length (r1)) c2]) rfl rfl rfl rfl hE hS rfl rfl (by kernel_rfl) (by kernel_rfl) (by kernel_rfl) (by kernel_rfl) (by kernel_rfl) (fun a w _ hE hS => ?_)) rfl
 refine ae ?_
 obtain ⟨j2, hj2, hf⟩ := jn_elim hf
 refine seq_join (fun a w => ∃ (y2 : T_api_Point), ∃ A1, ∃ c1, ∃ b9, ∃ D2, Env a 92 [] [(4, .func (.func 64) #[] #[.pointer (some ⟨b1, 0, none⟩), .pointer (some ⟨b2, 0, none⟩)]), (5, .pointer (some ⟨b3, 0, none⟩)), (6, .pointer (some ⟨b4, 0, none⟩)), (7, .pointer (some ⟨b5, 0, none⟩)), (8, .pointer (some ⟨b6, 0, none⟩)), (10, .pointer (some ⟨b7, 0, none⟩)), (11, .pointer (some ⟨b8, 0, none⟩)), (12, .pointer (some ⟨b10, 0, none⟩)), (13, .pointer (some ⟨b9, 0, none⟩))] ∧ Stp g w0 D0 [bx b1 3 ([.int .i64 (x15)]), bx b2 70 ([.func (.func 30) #[] #[]])] w D2 [bx b9 32 (c_T_api_Bundle ((T_api_Bundle.mk (x14) (y2) (([] : List T_api_Item)))) A1 c1 none 0), bx b1 3 ([.int .i64 (x15)]), bx b2 70 ([.func (.func 30) #[] #[]]), bx b3 22 ([.slice A6 (List.length (x5)) c7]), bx b4 27 (c_T_api_Point (x9) A10 c11), bx b5 35 ([.int .u32 (x13)]), bx b6 4 ([.bool (x14)]), bx b7 32 (c_T_api_Bundle (z_T_api_Bundle) none 0 none 0), bx b8 4 ([.bool false]), bx b10 40 ([.slice A2 (List.length (r1)) c2])] ∧ Snap.le D14 D2 ∧ Sl kd_T_api_Sig D2 A1 c1 (y2.fSigs) ∧ j2 y2 = some r) ?_ ?_
 ·clear hj2
  refine region_draw (fun j => RD D14 (plOf [] [b4, b6] j)) (by kernel_rfl) ?_
  have hS := hS.drew
  first | generalize w.drew = w at hS ⊢ | generalize w0.drew = w at hS ⊢
  refine tD 0 1 (fuel := 11) (by kernel_rfl) hE (tk_load 6 (.bool (x14)) rfl rfl rfl rfl hE rfl hS rfl rfl (by kernel_rfl) (fun _ h => h.1.at_ (List.Mem.tail _ (List.Mem.head _))) (fun a hE => ?_))
  refine wF 1 3 10 0 3 0 hE fun a hE => ?_
  refine tD 2 7 (fuel := 9) (by kernel_rfl) hE (tk_load 4 (.int .i64 (x9.fSize)) rfl rfl rfl rfl hE rfl hS rfl rfl (by kernel_rfl) (fun _ h => h.1.at_ (List.Mem.head _)) (fun a hE => ?_))
  refine wF 3 15 8 1 24 1 hE fun a hE => ?_
  refine tD 4 31 (fuel := 7) (by kernel_rfl) hE (tk_load 4 (.agg (List.toArray (acells .u8 32 (x9.fRoot)))) rfl rfl rfl rfl hE rfl hS rfl rfl (by kernel_rfl) (fun _ h => h.1.at_ (List.Mem.head _)) (fun a hE => ?_))
  refine wF 5 63 6 33 25 33 hE fun a hE => ?_
  refine tD 6 127 (fuel := 5) (by kernel_rfl) hE (tk_load 4 (.slice A10 (List.length (x9.fSigs)) c11) rfl rfl rfl rfl hE rfl hS rfl rfl (by kernel_rfl) (fun _ h => h.1.at_ (List.Mem.head _)) (fun a hE => ?_))
  refine twoB (i := 7) (j := 10) (fuel := 4) (m1 := 255) (m2 := 1151) (by kernel_rfl) (by kernel_rfl) (by kernel_rfl) ?_ ?_
  ·have hp_b8817 := hS.heapAt (j := 4) rfl
   have hp_b8821 := hS.heapAt (j := 6) rfl
   obtain ⟨r2, h13, hf⟩ := bs hf
   refine (op_call rfl rfl rfl rfl hE rfl rfl rfl rfl (by kernel_rfl) (slices_Clone_api_Sig_api_Sig.calls h13 (hS.st.fore (L := [])) (h12.mono (le2 le3 le6))) (fun a v w hR hE => ?_))
   obtain ⟨D22, A8, c8, q9, rfl, hS1, h14⟩ := hR
   have le10 := hS1.dle
   have hS := hS.callR hS1 rfl (.c .n)
   refine ⟨⟨show RP [b4, b6] _ _ from ⟨(hS.heapAt (j := 5) rfl).trans hp_b8817.symm, ⟨(hS.heapAt (j := 7) rfl).trans hp_b8821.symm, trivial⟩⟩, fun _ => hS.st.sees.mono le10⟩, ?_⟩
   clear hp_b8817 hp_b8821
   obtain ⟨D16, q10, le14, hS, h42, h15⟩ := hS.lent h14
   refine tW 8 511 (fuel := 3) (by kernel_rfl) hE (fun M => tk_build (c_T_api_Point ({ x9 with fSigs := r2 }) A8 c8) rfl rfl rfl rfl hE rfl rfl (by kernel_rfl) (fun a hE => ?_))
   refine tW 9 1023 (fuel := 2) (by kernel_rfl) hE (fun M => tk_build (c_T_api_Bundle ((T_api_Bundle.mk (x14) ({ x9 with fSigs := r2 }) (([] : List T_api_Item)))) A8 c8 none 0) rfl rfl rfl rfl hE rfl rfl (by kernel_rfl) (fun a hE => ?_))
   have hp_b8817 := hS.heapAt (j := 5) rfl
   have hp_b8821 := hS.heapAt (j := 7) rfl
   refine oG 10 2047 (fuel := 1) (by kernel_rfl) (op_alloc (z := .agg (List.toArray (c_T_api_Bundle (z_T_api_Bundle) none 0 none 0))) rfl rfl rfl rfl hE rfl hS (by kernel_rfl) (fun a b12 w _ hE hS => ?_))
   refine ⟨⟨show RP [b4, b6] _ _ from ⟨(hS.heapAt (j := 6) rfl).trans hp_b8817.symm, ⟨(hS.heapAt (j := 8) rfl).trans hp_b8821.symm, trivial⟩⟩, fun _ => hS.st.sees.mono (le2 le10 le14)⟩, ?_⟩
   clear hp_b8817 hp_b8821
   have hp_b8817 := hS.heapAt (j := 6) rfl
   have hp_b8821 := hS.heapAt (j := 8) rfl
   refine oG 11 4095 (fuel := 0) (by kernel_rfl) (op_store (v := .agg (List.toArray (c_T_api_Bundle ((T_api_Bundle.mk (x14) ({ x9 with fSigs := r2 }) (([] : List T_api_Item)))) A8 c8 none 0))) (c_T_api_Bundle ((T_api_Bundle.mk (x14) ({ x9 with fSigs := r2 }) (([] : List T_api_Item)))) A8 c8 none 0) rfl rfl rfl rfl hE hS rfl rfl (by kernel_rfl) (by kernel_rfl) (by kernel_rfl) (by kernel_rfl) (by kernel_rfl) (fun a w _ hE hS => ?_))
   refine ⟨⟨show RP [b4, b6] _ _ from ⟨(hS.heapAt (j := 6) rfl).trans hp_b8817.symm, ⟨(hS.heapAt (j := 8) rfl).trans hp_b8821.symm, trivial⟩⟩, fun _ => hS.st.sees.mono (le2 le10 le14)⟩, ?_⟩
   clear hp_b8817 hp_b8821
   refine doneG (by kernel_rfl) ?_
   have hS := hS.p (.d 0 (.d 3 (.d 4 (.d 5 (.d 6 (.d 7 (.d 8 (.d 9 (.d 10 (.d 2 .n))))))))))
   exact ⟨{ x9 with fSigs := r2 }, A8, c8, b12, D16, hE.wk, hS, (le2 le10 le14), h15, hf⟩
  have hp_b8817 := hS.heapAt (j := 4) rfl
  have hp_b8821 := hS.heapAt (j := 6) rfl
  refine (op_alloc (z := .agg (List.toArray (c_T_api_Bundle (z_T_api_Bundle) none 0 none 0))) rfl rfl rfl rfl hE rfl hS (by kernel_rfl) (fun a b13 w _ hE hS => ?_))
  refine ⟨⟨show RP [b4, b6] _ _ from ⟨(hS.heapAt (j := 5) rfl).trans hp_b8817.symm, ⟨(hS.heapAt (j := 7) rfl).trans hp_b8821.symm, trivial⟩⟩, fun _ => hS.st.sees⟩, ?_⟩
  clear hp_b8817 hp_b8821
  have hp_b8817 := hS.heapAt (j := 5) rfl
  have hp_b8821 := hS.heapAt (j := 7) rfl
  obtain ⟨r3, h16, hf⟩ := bs hf
  refine oC 7 1279 3 rfl rfl rfl rfl hE rfl rfl rfl rfl (slices_Clone_api_Sig_api_Sig.calls h16 (hS.st.fore (L := [])) (h12.mono (le2 le3 le6))) fun a v w hR hE => ?_
  obtain ⟨D23, A9, c9, q11, rfl, hS1, h17⟩ := hR
  have le15 := hS1.dle
  have hS := hS.callR hS1 rfl (.c .n)
  refine ⟨⟨show RP [b4, b6] _ _ from ⟨(hS.heapAt (j := 6) rfl).trans hp_b8817.symm, ⟨(hS.heapAt (j := 8) rfl).trans hp_b8821.symm, trivial⟩⟩, fun _ => hS.st.sees.mono le15⟩, ?_⟩
  clear hp_b8817 hp_b8821
  obtain ⟨D17, q12, le17, hS, h43, h18⟩ := hS.lent h17
  refine tW 8 1535 (fuel := 2) (by kernel_rfl) hE (fun M => tk_build (c_T_api_Point ({ x9 with fSigs := r3 }) A9 c9) rfl rfl rfl rfl hE rfl rfl (by kernel_rfl) (fun a hE => ?_))
  refine tW 9 2047 (fuel := 1) (by kernel_rfl) hE (fun M => tk_build (c_T_api_Bundle ((T_api_Bundle.mk (x14) ({ x9 with fSigs := r3 }) (([] : List T_api_Item)))) A9 c9 none 0) rfl rfl rfl rfl hE rfl rfl (by kernel_rfl) (fun a hE => ?_))
  have hp_b8817 := hS.heapAt (j := 6) rfl
  have hp_b8821 := hS.heapAt (j := 8) rfl
  have hS := hS.p (.d 1 (.d 0 (.d 2 (.d 3 (.d 4 (.d 5 (.d 6 (.d 7 (.d 8 (.d 9 (.d 10 .n)))))))))))
  refine oG 11 4095 (fuel := 0) (by kernel_rfl) (op_store (v := .agg (List.toArray (c_T_api_Bundle ((T_api_Bundle.mk (x14) ({ x9 with fSigs := r3 }) (([] : List T_api_Item)))) A9 c9 none 0))) (c_T_api_Bundle ((T_api_Bundle.mk (x14) ({ x9 with fSigs := r3 }) (([] : List T_api_Item)))) A9 c9 none 0) rfl rfl rfl rfl hE hS rfl rfl (by kernel_rfl) (by kernel_rfl) (by kernel_rfl) (by kernel_rfl) (by kernel_rfl) (fun a w _ hE hS => ?_))
  refine ⟨⟨show RP [b4, b6] _ _ from ⟨(hS.heapAt (j := 6) rfl).trans hp_b8817.symm, ⟨(hS.heapAt (j := 8) rfl).trans hp_b8821.symm, trivial⟩⟩, fun _ => hS.st.sees.mono (le2 le15 le17)⟩, ?_⟩
  clear hp_b8817 hp_b8821
  refine doneG (by kernel_rfl) ?_
  have hS := hS.p (.d 0 (.d 3 (.d 4 (.d 5 (.d 6 (.d 7 (.d 8 (.d 9 (.d 10 (.d 2 .n))))))))))
  exact ⟨{ x9 with fSigs := r3 }, A9, c9, b13, D17, hE.wk, hS, (le2 le15 le17), h18, hf⟩
 clear hE hS
 rintro a w ⟨y2, A1, c1, b9, D2, hE, hS, le7, h2, hf⟩
 replace hf := hj2 _ hf
 clear hj2
 refine sq (sq (ra ?_))
 refine sN 1 1 [(52, .func (.func 64) #[] #[.pointer (some ⟨b1, 0, none⟩), .pointer (some ⟨b2, 0, none⟩)])] hE fun a hE => ?_
 refine ae ?_
 refine wpIn_block ?_
 have hEo1 := hE
 refine range_in2 (captured := #[.pointer (some ⟨b1, 0, none⟩), .pointer (some ⟨b2, 0, none⟩)]) hE hS rfl (by kernel_rfl) (fun fn1 l1 d13230 w q2 hq1 hS => ?_)
 refine calls_body (n := 19) Tryd.func64 rfl Tryd.ntmps64 rfl fun a hE => ?_
 have hE : Env a 19 [] [(0, .func (.yield l1) #[] #[]), (1, .pointer (some ⟨b1, 0, none⟩)), (2, .pointer (some ⟨b2, 0, none⟩))] := hE
 refine sq (ra ?_)
 refine sM 2 2 [3] [(5, .int .i64 (x15)), (6, .int .i64 ((0 : Int)))] hE hS fun a hE => ?_
 refine ae ?_
 obtain ⟨s1, hf, hs1⟩ := bs hf
 have hS := hS.nils
 have hS := hS.p (.d 4 (.d 5 (.d 6 (.d 7 (.d 8 (.d 9 (.d 10 (.d 11 (.d 12 (.d 3 (.d 1 (.d 2 (.d 0 .n)))))))))))))
 refine block_loopR (fun a w => ∃ (z1 : (List T_api_Item)), ∃ A4, ∃ c4, ∃ q4, ∃ D10, Env a 19 [] [] ∧ Stp g w0 D0 [bx b1 3 ([.int .i64 (x15)]), bx b2 70 ([.func (.func 30) #[] #[]])] w D10 [bx b1 3 ([.int .i64 (x15)]), bx b2 70 ([.func (.func 30) #[] #[]]), bx b3 22 ([.slice A6 (List.length (x5)) c7]), bx b4 27 (c_T_api_Point (x9) A10 c11), bx b5 35 ([.int .u32 (x13)]), bx b6 4 ([.bool (x14)]), bx b7 32 (c_T_api_Bundle (z_T_api_Bundle) none 0 none 0), bx b8 4 ([.bool false]), bx b10 40 ([.slice A2 (List.length (r1)) c2]), bx b9 32 (c_T_api_Bundle ((T_api_Bundle.mk (x14) (y2) (z1))) A1 c1 A4 c4), q2 .ready none, dk d13230, q4] ∧ Snap.le D2 D10 ∧ OwnL kd_T_api_Item 42 D10 A4 c4 (z1) q4 ∧ (Sum.inr z1) = s1) (fun a w => ∃ (z2 : (List T_api_Item)), ∃ A18, ∃ c18, ∃ q5, ∃ D4, Env a 19 [] [] ∧ Stp g w0 D0 [bx b1 3 ([.int .i64 (x15)]), bx b2 70 ([.func (.func 30) #[] #[]])] w D4 [bx b1 3 ([.int .i64 (x15)]), bx b2 70 ([.func (.func 30) #[] #[]]), bx b3 22 ([.slice A6 (List.length (x5)) c7]), bx b4 27 (c_T_api_Point (x9) A10 c11), bx b5 35 ([.int .u32 (x13)]), bx b6 4 ([.bool (x14)]), bx b7 32 (c_T_api_Bundle (z_T_api_Bundle) none 0 none 0), bx b8 4 ([.bool false]), bx b10 40 ([.slice A2 (List.length (r1)) c2]), bx b9 32 (c_T_api_Bundle ((T_api_Bundle.mk (x14) (y2) (z2))) A1 c1 A18 c18), q2 .done (some .ret), dk d13230, q5] ∧ Snap.le D2 D4 ∧ OwnL kd_T_api_Item 42 D4 A18 c18 (z2) q5 ∧ (Sum.inl z2) = s1) (fun k a w => ∃ (y1 : Int × (List T_api_Item)), ∃ A3, ∃ c3, ∃ q1, ∃ D6, Env a 19 [] [(0, .func (.yield l1) #[] #[]), (2, .pointer (some ⟨b2, 0, none⟩)), (5, .int .i64 (x15)), (6, .int .i64 (y1.1))] ∧ Stp g w0 D0 [bx b1 3 ([.int .i64 (x15)]), bx b2 70 ([.func (.func 30) #[] #[]])] w D6 [bx b1 3 ([.int .i64 (x15)]), bx b2 70 ([.func (.func 30) #[] #[]]), bx b3 22 ([.slice A6 (List.length (x5)) c7]), bx b4 27 (c_T_api_Point (x9) A10 c11), bx b5 35 ([.int .u32 (x13)]), bx b6 4 ([.bool (x14)]), bx b7 32 (c_T_api_Bundle (z_T_api_Bundle) none 0 none 0), bx b8 4 ([.bool false]), bx b10 40 ([.slice A2 (List.length (r1)) c2]), bx b9 32 (c_T_api_Bundle ((T_api_Bundle.mk (x14) (y2) (y1.2))) A1 c1 A3 c3), q2 .ready none, dk d13230, q1] ∧ Snap.le D2 D6 ∧ OwnL kd_T_api_Item 42 D6 A3 c3 (y1.2) q1 ∧ export_made_v2_l1.l K x5 x9 x13 x14 x15 r1 k y1 = some s1) K ?_ ?_ ?_ ?_
 ·exact ⟨((0 : Int), ([] : List T_api_Item)), none, 0, none, D2, hE.wk, hS, lr, (OwnD.nil kd_T_api_Item 42 D2), hf⟩
 ·clear hE hS hf
  rintro a w ⟨z1, A4, c4, q4, D10, hE, hS, le18, h19, rfl⟩
  have hf := hs1
  clear hs1
  refine ret_genN ([]) hE (by rw [show Tryd.f64.results.toList = [] from rfl]; rfl) ?_
  have hS := hS.p (.d 10 (.d 0 (.d 1 (.d 2 (.d 3 (.d 4 (.d 5 (.d 6 (.d 7 (.d 8 (.d 9 (.d 11 (.d 12 .n)))))))))))))
  refine range_done2 hq1 hS hEo1 (fun w a hS hE => ?_)
  refine sq (sq (ra ?_))
  refine sM 1 1 [9] [(87, .agg (List.toArray (c_T_api_Bundle ((T_api_Bundle.mk (x14) (y2) (z1))) A1 c1 A4 c4)))] hE hS fun a hE => ?_
  have hS := hS.p (.d 11 (.d 0 (.d 1 (.d 2 (.d 3 (.d 4 (.d 5 (.d 6 (.d 7 (.d 8 (.d 9 (.d 10 .n))))))))))))
  obtain ⟨D24, q13, le19, hS, h44, h3⟩ := hS.lent h19
  obtain ⟨r8, h20, hf⟩ := bs hf
  refine aC rfl rfl rfl rfl hE rfl rfl rfl rfl (bundle_Right.calls h20 (hS.st.fore (L := [])) (h2.mono (le2 le18 le19)) h3) fun a v w hR hE => ?_
  obtain ⟨D11, rfl, hS1⟩ := hR
  have le20 := hS1.dle
  have hS := hS.callR hS1 rfl .n
  refine sN 1 3 [(89, .bool ((!r8)))] hE fun a hE => ?_
  refine ae ?_
  refine cond_split hE (b := (!r8)) rfl (fun hb => ?_) (fun hb => ?_)
  ·replace hf := ct hb hf
   refine sq (ra ?_)
   refine at_op (op_tk hE (tk_build (c_T_api_Bundle (z_T_api_Bundle) none 0 none 0) rfl rfl rfl rfl hE rfl rfl (by kernel_rfl) (fun a hE => ?_))) rfl
   have hS := hS.p (.d 7 (.d 0 (.d 1 (.d 2 (.d 3 (.d 4 (.d 5 (.d 6 (.d 8 (.d 9 (.d 10 (.d 11 .n))))))))))))
   refine at_op (op_store (v := .agg (List.toArray (c_T_api_Bundle (z_T_api_Bundle) none 0 none 0))) (c_T_api_Bundle (z_T_api_Bundle) none 0 none 0) rfl rfl rfl rfl hE hS rfl rfl (by kernel_rfl) (by kernel_rfl) (by kernel_rfl) (by kernel_rfl) (by kernel_rfl) (fun a w _ hE hS => ?_)) rfl
   have hS := hS.p (.d 8 (.d 0 (.d 1 (.d 2 (.d 3 (.d 4 (.d 5 (.d 6 (.d 7 (.d 9 (.d 10 (.d 11 .n))))))))))))
   refine at_op (op_store (v := .bool false) ([.bool false]) rfl rfl rfl rfl hE hS rfl rfl (by kernel_rfl) (by kernel_rfl) (by kernel_rfl) (by kernel_rfl) (by kernel_rfl) (fun a w _ hE hS => ?_)) rfl
   refine ae ?_
   refine wpIn_ret ?_
   have hS := hS.p (.d 11 (.d 0 (.d 1 (.d 2 (.d 3 (.d 4 (.d 5 (.d 6 (.d 7 (.d 8 (.d 9 (.d 10 .n))))))))))))
   obtain rfl := si hf
   refine ret_ ?_
   refine ret_M1 ([.agg (List.toArray (c_T_api_Bundle (z_T_api_Bundle) none 0 none 0)), .bool false]) hE hS (fun w hS => ⟨by rw [show Tryd.f28.results.toList = [.cell 10 32, .cell 11 4] from rfl]; exact ⟨_, _, _, 0, _, _, rfl, rfl, hS.heapAt (j := 1) rfl, by kernel_rfl, ⟨_, _, _, 0, _, _, rfl, rfl, hS.heapAt (j := 0) rfl, by kernel_rfl, rfl⟩⟩, ?_⟩)
   have hS := hS.p (.d 3 (.d 4 .n))
   exact ⟨_, rfl, D11, none, 0, none, 0, rfl, hS, (Sl.nil kd_T_api_Sig D11), (Sl.nil kd_T_api_Item D11)⟩
  replace hf := cf hb hf
  refine wpIn_skip ?_
  refine sq (ra ?_)
  refine sM 1 1 [10] [(91, .agg (List.toArray (c_T_api_Bundle ((T_api_Bundle.mk (x14) (y2) (z1))) A1 c1 A4 c4)))] hE hS fun a hE => ?_
  have hS := hS.p (.d 7 (.d 0 (.d 1 (.d 2 (.d 3 (.d 4 (.d 5 (.d 6 (.d 8 (.d 9 (.d 10 (.d 11 .n))))))))))))
  refine at_op (op_store (v := .agg (List.toArray (c_T_api_Bundle ((T_api_Bundle.mk (x14) (y2) (z1))) A1 c1 A4 c4))) (c_T_api_Bundle ((T_api_Bundle.mk (x14) (y2) (z1))) A1 c1 A4 c4) rfl rfl rfl rfl hE hS rfl rfl (by kernel_rfl) (by kernel_rfl) (by kernel_rfl) (by kernel_rfl) (by kernel_rfl) (fun a w _ hE hS => ?_)) rfl
  have hS := hS.p (.d 8 (.d 0 (.d 1 (.d 2 (.d 3 (.d 4 (.d 5 (.d 6 (.d 7 (.d 9 (.d 10 (.d 11 .n))))))))))))
  refine at_op (op_store (v := .bool true) ([.bool true]) rfl rfl rfl rfl hE hS rfl rfl (by kernel_rfl) (by kernel_rfl) (by kernel_rfl) (by kernel_rfl) (by kernel_rfl) (fun a w _ hE hS => ?_)) rfl
  refine ae ?_
  refine wpIn_ret ?_
  have hS := hS.p (.d 11 (.d 0 (.d 1 (.d 2 (.d 3 (.d 4 (.d 5 (.d 6 (.d 7 (.d 8 (.d 9 (.d 10 .n))))))))))))
  obtain rfl := si hf
  refine ret_ ?_
  refine ret_M1 ([.agg (List.toArray (c_T_api_Bundle ((T_api_Bundle.mk (x14) (y2) (z1))) A1 c1 A4 c4)), .bool true]) hE hS (fun w hS => ⟨by rw [show Tryd.f28.results.toList = [.cell 10 32, .cell 11 4] from rfl]; exact ⟨_, _, _, 0, _, _, rfl, rfl, hS.heapAt (j := 1) rfl, by kernel_rfl, ⟨_, _, _, 0, _, _, rfl, rfl, hS.heapAt (j := 0) rfl, by kernel_rfl, rfl⟩⟩, ?_⟩)
  have hS := hS.p (.d 3 (.d 4 .n))
  exact ⟨_, rfl, D11, A1, c1, A4, c4, rfl, hS, (h2.mono (le2 (le2 le18 le19) le20)), (h3.mono le20)⟩
 ·clear hE hS hf
  rintro a w ⟨z2, A18, c18, q5, D4, hE, hS, le25, h45, rfl⟩
  have hf := hs1
  clear hs1
  refine ret_ ?_
  refine ret_gen ([]) hE (by rw [show Tryd.f64.results.toList = [] from rfl]; rfl) ?_
  have hS := hS.p (.d 10 (.d 0 (.d 1 (.d 2 (.d 3 (.d 4 (.d 5 (.d 6 (.d 7 (.d 8 (.d 9 (.d 11 (.d 12 .n)))))))))))))
  refine range_ret2 hq1 hS hEo1 (fun w a hS hE => ?_)
  have hS := hS.p (.d 10 (.d 0 (.d 1 (.d 2 (.d 3 (.d 4 (.d 5 (.d 6 (.d 7 (.d 8 (.d 9 (.d 11 .n))))))))))))
  obtain rfl := si hf
  refine ret_ ?_
  refine ret_M1 ([.agg (List.toArray (c_T_api_Bundle (z_T_api_Bundle) none 0 none 0)), .bool false]) hE hS (fun w hS => ⟨by rw [show Tryd.f28.results.toList = [.cell 10 32, .cell 11 4] from rfl]; exact ⟨_, _, _, 0, _, _, rfl, rfl, hS.heapAt (j := 6) rfl, by kernel_rfl, ⟨_, _, _, 0, _, _, rfl, rfl, hS.heapAt (j := 7) rfl, by kernel_rfl, rfl⟩⟩, ?_⟩)
  have hS := hS.p (.d 0 (.d 1 .n))
  exact ⟨_, rfl, D4, none, 0, none, 0, rfl, hS, (Sl.nil kd_T_api_Sig D4), (Sl.nil kd_T_api_Item D4)⟩
 clear hE hS hf
 rintro k a w ⟨y1, A3, c3, q1, D6, hE, hS, le5, h1, hf⟩
 obtain ⟨k, rfl, hf⟩ := export_made_v2_l1.some _ _ _ _ _ _ hf
 refine ⟨k, rfl, ?_⟩
 unfold export_made_v2_l1.b at hf
 refine sq (ra ?_)
 refine sN 1 1 [(7, .bool ((decide (y1.1 < x15))))] hE fun a hE => ?_
 refine ae ?_
 refine sq ?_
 refine cond_split hE (b := (decide (y1.1 < x15))) rfl (fun hb => ?_) (fun hb => ?_)
 ·replace hf := ct hb hf
  refine wpIn_skip ?_
  obtain ⟨j3, hj3, hf⟩ := jn_elim hf
  refine seq_join (fun a w => ∃ (y6 : (List T_api_Item)), ∃ A12, ∃ c12, ∃ q3, ∃ D8, Env a 19 [] [(0, .func (.yield l1) #[] #[]), (2, .pointer (some ⟨b2, 0, none⟩)), (5, .int .i64 (x15)), (6, .int .i64 (y1.1))] ∧ Stp g w0 D0 [bx b1 3 ([.int .i64 (x15)]), bx b2 70 ([.func (.func 30) #[] #[]])] w D8 [bx b1 3 ([.int .i64 (x15)]), bx b2 70 ([.func (.func 30) #[] #[]]), bx b3 22 ([.slice A6 (List.length (x5)) c7]), bx b4 27 (c_T_api_Point (x9) A10 c11), bx b5 35 ([.int .u32 (x13)]), bx b6 4 ([.bool (x14)]), bx b7 32 (c_T_api_Bundle (z_T_api_Bundle) none 0 none 0), bx b8 4 ([.bool false]), bx b10 40 ([.slice A2 (List.length (r1)) c2]), bx b9 32 (c_T_api_Bundle ((T_api_Bundle.mk (x14) (y2) (y6))) A1 c1 A12 c12), q2 .ready none, dk d13230, q3] ∧ Snap.le D6 D8 ∧ OwnL kd_T_api_Item 42 D8 A12 c12 (y6) q3 ∧ j3 y6 = some s1) ?_ ?_
  ·clear hj3
   refine wpIn_block ?_
   refine sq (ra ?_)
   refine sN 2 2 [(4, .int .i64 (y1.1))] hE fun a hE => ?_
   refine ae ?_
   refine sq (ra ?_)
   refine sM 2 2 [1] [(9, .func (.func 30) #[] #[]), (10, .int .i64 (y1.1))] hE hS fun a hE => ?_
   obtain ⟨r9, h21, hf⟩ := bs hf
   refine aC rfl rfl rfl rfl hE rfl rfl rfl rfl (export_Whole_1.calls h21 (hS.st.fore (L := [])) ) fun a v w hR hE => ?_
   obtain ⟨D12, rfl, hS1⟩ := hR
   have le1 := hS1.dle
   have hS := hS.callR hS1 rfl .n
   refine sN 1 4 [(12, .bool (r9))] hE fun a hE => ?_
   refine bo (r9) (fun hb => ?_) fun hb => ?_
   ·replace hf := cf hb hf
    have hE := hE.know (t := 12) rfl hb
    refine sN 5 9 [(17, .bool false)] hE fun a hE => ?_
    refine ae ?_
    refine wpIn_cond_false (hE.eval rfl) ?_
    refine wpIn_skip ?_
    exact ⟨y1.2, A3, c3, q1, D12, hE.wk, hS, le1, (h1.mono le1), hf⟩
   replace hf := ct hb hf
   have hE := hE.know (t := 12) rfl hb
   refine sN 2 6 [(13, .func (.yield l1) #[] #[]), (14, .int .i64 (y1.1))] hE fun a hE => ?_
   have hS := hS.p (.d 10 (.d 0 (.d 1 (.d 2 (.d 3 (.d 4 (.d 5 (.d 6 (.d 7 (.d 8 (.d 9 (.d 11 (.d 12 .n)))))))))))))
   refine at_op (op_yield2 (args := [.int .i64 (y1.1)]) hq1 rfl rfl rfl rfl hE rfl rfl rfl hS hEo1 rfl (by kernel_rfl) (fun a hE => ?_)) rfl
   refine ra ?_
   refine sN 1 1 [(14, .int .i64 (y1.1))] hE fun a hE => ?_
   refine ae ?_
   refine begin_in2 hq1 hS (fun w hS => ?_)
   refine wpIn_block ?_
   refine sq ?_
   obtain ⟨j4, hj4, hf⟩ := jn_elim hf
   refine seq_join (fun a w => ∃ (y5 : Bool), ∃ D7, Env a 92 [] [(5, .pointer (some ⟨b3, 0, none⟩)), (6, .pointer (some ⟨b4, 0, none⟩)), (7, .pointer (some ⟨b5, 0, none⟩)), (8, .pointer (some ⟨b6, 0, none⟩)), (10, .pointer (some ⟨b7, 0, none⟩)), (11, .pointer (some ⟨b8, 0, none⟩)), (12, .pointer (some ⟨b10, 0, none⟩)), (13, .pointer (some ⟨b9, 0, none⟩)), (14, .int .i64 (y1.1)), (52, .func (.func 64) #[] #[.pointer (some ⟨b1, 0, none⟩), .pointer (some ⟨b2, 0, none⟩)]), (53, .int .i64 (y1.1)), (61, .bool (y5))] ∧ Stp g w0 D0 [bx b1 3 ([.int .i64 (x15)]), bx b2 70 ([.func (.func 30) #[] #[]])] w D7 [bx b1 3 ([.int .i64 (x15)]), bx b2 70 ([.func (.func 30) #[] #[]]), bx b3 22 ([.slice A6 (List.length (x5)) c7]), bx b4 27 (c_T_api_Point (x9) A10 c11), bx b5 35 ([.int .u32 (x13)]), bx b6 4 ([.bool (x14)]), bx b7 32 (c_T_api_Bundle (z_T_api_Bundle) none 0 none 0), bx b8 4 ([.bool false]), bx b10 40 ([.slice A2 (List.length (r1)) c2]), bx b9 32 (c_T_api_Bundle ((T_api_Bundle.mk (x14) (y2) (y1.2))) A1 c1 A3 c3), q2 .busy none, dk d13230, q1] ∧ Snap.le D12 D7 ∧ j4 y5 = some s1) ?_ ?_
   ·clear hj4
    refine ra ?_
    refine sN 3 3 [(56, .bool ((decide (y1.1 < (0 : Int)))))] hE fun a hE => ?_
    refine bo ((decide (y1.1 < (0 : Int)))) (fun hb => ?_) fun hb => ?_
    ·replace hf := cf hb hf
     have hE := hE.know (t := 56) rfl hb
     refine sM 5 8 [4] [(61, .bool ((decide (x9.fSize ≤ y1.1))))] hE hS fun a hE => ?_
     refine ae ?_
     have hS := hS.p (.d 1 (.d 2 (.d 3 (.d 4 (.d 5 (.d 6 (.d 7 (.d 8 (.d 9 (.d 10 (.d 0 (.d 11 (.d 12 .n)))))))))))))
     exact ⟨(decide (x9.fSize ≤ y1.1)), D12, hE.wk, hS, lr, hf⟩
    replace hf := ct hb hf
    have hE := hE.know (t := 56) rfl hb
    refine sN 5 8 [(61, .bool true)] hE fun a hE => ?_
    refine ae ?_
    have hS := hS.p (.d 1 (.d 2 (.d 3 (.d 4 (.d 5 (.d 6 (.d 7 (.d 8 (.d 9 (.d 10 (.d 0 (.d 11 (.d 12 .n)))))))))))))
    exact ⟨true, D12, hE.wk, hS, lr, hf⟩
   clear hE hS
   rintro a w ⟨y5, D7, hE, hS, le4, hf⟩
   replace hf := hj4 _ hf
   clear hj4
   refine cond_split hE (b := y5) rfl (fun hb => ?_) (fun hb => ?_)
   ·replace hf := ct hb hf
    refine sq (ra ?_)
    refine at_op (op_tk hE (tk_build (c_T_api_Bundle (z_T_api_Bundle) none 0 none 0) rfl rfl rfl rfl hE rfl rfl (by kernel_rfl) (fun a hE => ?_))) rfl
    have hS := hS.p (.d 6 (.d 0 (.d 1 (.d 2 (.d 3 (.d 4 (.d 5 (.d 7 (.d 8 (.d 9 (.d 10 (.d 11 (.d 12 .n)))))))))))))
    refine at_op (op_store (v := .agg (List.toArray (c_T_api_Bundle (z_T_api_Bundle) none 0 none 0))) (c_T_api_Bundle (z_T_api_Bundle) none 0 none 0) rfl rfl rfl rfl hE hS rfl rfl (by kernel_rfl) (by kernel_rfl) (by kernel_rfl) (by kernel_rfl) (by kernel_rfl) (fun a w _ hE hS => ?_)) rfl
    have hS := hS.p (.d 7 (.d 0 (.d 1 (.d 2 (.d 3 (.d 4 (.d 5 (.d 6 (.d 8 (.d 9 (.d 10 (.d 11 (.d 12 .n)))))))))))))
    refine at_op (op_store (v := .bool false) ([.bool false]) rfl rfl rfl rfl hE hS rfl rfl (by kernel_rfl) (by kernel_rfl) (by kernel_rfl) (by kernel_rfl) (by kernel_rfl) (fun a w _ hE hS => ?_)) rfl
    refine ae ?_
    refine wpIn_ret ?_
    refine ret_ ?_
    have hS := hS.p (.d 10 (.d 0 (.d 1 (.d 2 (.d 3 (.d 4 (.d 5 (.d 6 (.d 7 (.d 8 (.d 9 (.d 11 (.d 12 .n)))))))))))))
    refine round_ret2 (a1 := a) hq1 hS (fun w a hS hE => ?_)
    refine sN 2 9 [(17, .bool true)] hE fun a hE => ?_
    refine ae ?_
    refine wpIn_cond_true (hE.eval rfl) ?_
    refine wpIn_ret ?_
    obtain rfl := si hf
    have hS := hS.p (.d 3 (.d 4 (.d 5 (.d 6 (.d 7 (.d 8 (.d 2 (.d 1 (.d 9 (.d 10 (.d 0 (.d 11 (.d 12 .n)))))))))))))
    exact ⟨y1.2, A3, c3, q1, D7, hE.wk, hS, (le2 (le2 le5 le1) le4), (h1.mono (le2 le1 le4)), rfl⟩
   replace hf := cf hb hf
   refine wpIn_skip ?_
   obtain ⟨j5, hj5, hf⟩ := jn_elim hf
   refine seq_join (fun a w => ∃ (y3 : T_api_Rec), ∃ A5, ∃ c5, ∃ A7, ∃ c6, ∃ b11, ∃ D3, Env a 92 [] [(5, .pointer (some ⟨b3, 0, none⟩)), (6, .pointer (some ⟨b4, 0, none⟩)), (7, .pointer (some ⟨b5, 0, none⟩)), (8, .pointer (some ⟨b6, 0, none⟩)), (10, .pointer (some ⟨b7, 0, none⟩)), (11, .pointer (some ⟨b8, 0, none⟩)), (12, .pointer (some ⟨b10, 0, none⟩)), (13, .pointer (some ⟨b9, 0, none⟩)), (14, .int .i64 (y1.1)), (15, .pointer (some ⟨b11, 0, none⟩)), (52, .func (.func 64) #[] #[.pointer (some ⟨b1, 0, none⟩), .pointer (some ⟨b2, 0, none⟩)]), (53, .int .i64 (y1.1)), (61, .bool (y5))] ∧ Stp g w0 D0 [bx b1 3 ([.int .i64 (x15)]), bx b2 70 ([.func (.func 30) #[] #[]])] w D3 [bx b11 42 (c_T_api_Item ((T_api_Item.mk (y1.1) (y3) (([] : List (Vector Int 32))))) A5 c5 A7 c6 none 0), bx b1 3 ([.int .i64 (x15)]), bx b2 70 ([.func (.func 30) #[] #[]]), bx b3 22 ([.slice A6 (List.length (x5)) c7]), bx b4 27 (c_T_api_Point (x9) A10 c11), bx b5 35 ([.int .u32 (x13)]), bx b6 4 ([.bool (x14)]), bx b7 32 (c_T_api_Bundle (z_T_api_Bundle) none 0 none 0), bx b8 4 ([.bool false]), bx b10 40 ([.slice A2 (List.length (r1)) c2]), bx b9 32 (c_T_api_Bundle ((T_api_Bundle.mk (x14) (y2) (y1.2))) A1 c1 A3 c3), q2 .busy none, dk d13230, q1] ∧ Snap.le D7 D3 ∧ Sl kd_T_api_Step D3 A5 c5 (y3.fSteps) ∧ Sl (kdInt .u8) D3 A7 c6 (y3.fData) ∧ j5 y3 = some s1) ?_ ?_
   ·clear hj5
    refine region_draw (fun j => RD D7 (plOf [] [b3, b5] j)) (by kernel_rfl) ?_
    have hS := hS.drew
    first | generalize w.drew = w at hS ⊢ | generalize w0.drew = w at hS ⊢
    refine wP 0 1 10 (.int .i64 (y1.1)) hE fun a hE => ?_
    refine wP 2 5 9 (.int .i64 (y1.1)) hE fun a hE => ?_
    refine wP 5 37 8 (.int .i64 (y1.1)) hE fun a hE => ?_
    refine tD 1 39 (fuel := 7) (by kernel_rfl) hE (tk_load 2 (.slice A6 (List.length (x5)) c7) rfl rfl rfl rfl hE rfl hS rfl rfl (by kernel_rfl) (fun _ h => h.1.at_ (List.Mem.head _)) (fun a hE => ?_))
    obtain ⟨x1, h22, hf⟩ := bs hf
    refine tW 3 47 (fuel := 6) (by kernel_rfl) hE (fun M => g_index (K := kd_T_api_Rec) (e := 39) (by_ := 224) (zl := 109) rfl rfl rfl rfl hE rfl rfl rfl (by kernel_rfl) rfl (h8.mono (le2 (le2 (le2 (le2 (le2 le3 le6) le7) le5) le1) le4)) h22 (fun a b16 o1 hE h23 => ?_))
    obtain ⟨cs1, C1, T1, fr1, hr1, hb1, hc1⟩ := id h23
    obtain ⟨A22, c22, A23, c23, rfl, h4, h5⟩ := kd_T_api_Rec_el hr1
    refine tD 4 63 (fuel := 5) (by kernel_rfl) hE (tk_loadX (off0 := o1) (off := 0) (c := c_T_api_Rec (x1) A22 c22 A23 c23) (.agg (List.toArray (c_T_api_Rec (x1) A22 c22 A23 c23))) rfl rfl rfl rfl hE rfl hS rfl hb1 hc1 (by kernel_rfl) (by kernel_rfl) (fun _ h => h.2 hS.st.sees) (fun a hE => ?_))
    refine tD 6 127 (fuel := 4) (by kernel_rfl) hE (tk_load 4 (.int .u32 (x13)) rfl rfl rfl rfl hE rfl hS rfl rfl (by kernel_rfl) (fun _ h => h.1.at_ (List.Mem.tail _ (List.Mem.head _))) (fun a hE => ?_))
    refine twoB (i := 7) (j := 9) (fuel := 3) (m1 := 255) (m2 := 639) (by kernel_rfl) (by kernel_rfl) (by kernel_rfl) ?_ ?_
    ·have hp_b8815 := hS.heapAt (j := 2) rfl
     have hp_b8819 := hS.heapAt (j := 4) rfl
     obtain ⟨r4, h24, hf⟩ := bs hf
     refine (op_call rfl rfl rfl rfl hE rfl rfl rfl rfl (by kernel_rfl) (export_masked.calls h24 (hS.st.fore (L := [])) h4 h5 (hG0.mono (le2 (le2 (le2 (le2 (le2 le3 le6) le7) le5) le1) le4)) (hG1.mono (le2 (le2 (le2 (le2 (le2 le3 le6) le7) le5) le1) le4))) (fun a v w hR hE => ?_))
     obtain ⟨D18, A13, c13, A14, c14, rfl, hS1, h25, h26⟩ := hR
     have le11 := hS1.dle
     have hS := hS.callR hS1 rfl .n
     refine ⟨⟨show RP [b3, b5] _ _ from ⟨(hS.heapAt (j := 2) rfl).trans hp_b8815.symm, ⟨(hS.heapAt (j := 4) rfl).trans hp_b8819.symm, trivial⟩⟩, fun _ => hS.st.sees.mono le11⟩, ?_⟩
     clear hp_b8815 hp_b8819
     refine tW 8 511 (fuel := 2) (by kernel_rfl) hE (fun M => tk_build (c_T_api_Item ((T_api_Item.mk (y1.1) (r4) (([] : List (Vector Int 32))))) A13 c13 A14 c14 none 0) rfl rfl rfl rfl hE rfl rfl (by kernel_rfl) (fun a hE => ?_))
     have hp_b8815 := hS.heapAt (j := 2) rfl
     have hp_b8819 := hS.heapAt (j := 4) rfl
     refine oG 9 1023 (fuel := 1) (by kernel_rfl) (op_alloc (z := .agg (List.toArray (c_T_api_Item (z_T_api_Item) none 0 none 0 none 0))) rfl rfl rfl rfl hE rfl hS (by kernel_rfl) (fun a b14 w _ hE hS => ?_))
     refine ⟨⟨show RP [b3, b5] _ _ from ⟨(hS.heapAt (j := 3) rfl).trans hp_b8815.symm, ⟨(hS.heapAt (j := 5) rfl).trans hp_b8819.symm, trivial⟩⟩, fun _ => hS.st.sees.mono le11⟩, ?_⟩
     clear hp_b8815 hp_b8819
     have hp_b8815 := hS.heapAt (j := 3) rfl
     have hp_b8819 := hS.heapAt (j := 5) rfl
     refine oG 10 2047 (fuel := 0) (by kernel_rfl) (op_store (v := .agg (List.toArray (c_T_api_Item ((T_api_Item.mk (y1.1) (r4) (([] : List (Vector Int 32))))) A13 c13 A14 c14 none 0))) (c_T_api_Item ((T_api_Item.mk (y1.1) (r4) (([] : List (Vector Int 32))))) A13 c13 A14 c14 none 0) rfl rfl rfl rfl hE hS rfl rfl (by kernel_rfl) (by kernel_rfl) (by kernel_rfl) (by kernel_rfl) (by kernel_rfl) (fun a w _ hE hS => ?_))
     refine ⟨⟨show RP [b3, b5] _ _ from ⟨(hS.heapAt (j := 3) rfl).trans hp_b8815.symm, ⟨(hS.heapAt (j := 5) rfl).trans hp_b8819.symm, trivial⟩⟩, fun _ => hS.st.sees.mono le11⟩, ?_⟩
     clear hp_b8815 hp_b8819
     refine doneG (by kernel_rfl) ?_
     exact ⟨r4, A13, c13, A14, c14, b14, D18, hE.wk, hS, le11, h25, h26, hf⟩
    have hp_b8815 := hS.heapAt (j := 2) rfl
    have hp_b8819 := hS.heapAt (j := 4) rfl
    refine (op_alloc (z := .agg (List.toArray (c_T_api_Item (z_T_api_Item) none 0 none 0 none 0))) rfl rfl rfl rfl hE rfl hS (by kernel_rfl) (fun a b15 w _ hE hS => ?_))
    refine ⟨⟨show RP [b3, b5] _ _ from ⟨(hS.heapAt (j := 3) rfl).trans hp_b8815.symm, ⟨(hS.heapAt (j := 5) rfl).trans hp_b8819.symm, trivial⟩⟩, fun _ => hS.st.sees⟩, ?_⟩
    clear hp_b8815 hp_b8819
    have hp_b8815 := hS.heapAt (j := 3) rfl
    have hp_b8819 := hS.heapAt (j := 5) rfl
    obtain ⟨r5, h27, hf⟩ := bs hf
    refine oC 7 767 2 rfl rfl rfl rfl hE rfl rfl rfl rfl (export_masked.calls h27 (hS.st.fore (L := [])) h4 h5 (hG0.mono (le2 (le2 (le2 (le2 (le2 le3 le6) le7) le5) le1) le4)) (hG1.mono (le2 (le2 (le2 (le2 (le2 le3 le6) le7) le5) le1) le4))) fun a v w hR hE => ?_
    obtain ⟨D19, A15, c15, A16, c16, rfl, hS1, h28, h29⟩ := hR
    have le16 := hS1.dle
    have hS := hS.callR hS1 rfl .n
    refine ⟨⟨show RP [b3, b5] _ _ from ⟨(hS.heapAt (j := 3) rfl).trans hp_b8815.symm, ⟨(hS.heapAt (j := 5) rfl).trans hp_b8819.symm, trivial⟩⟩, fun _ => hS.st.sees.mono le16⟩, ?_⟩
    clear hp_b8815 hp_b8819
    refine tW 8 1023 (fuel := 1) (by kernel_rfl) hE (fun M => tk_build (c_T_api_Item ((T_api_Item.mk (y1.1) (r5) (([] : List (Vector Int 32))))) A15 c15 A16 c16 none 0) rfl rfl rfl rfl hE rfl rfl (by kernel_rfl) (fun a hE => ?_))
    have hp_b8815 := hS.heapAt (j := 3) rfl
    have hp_b8819 := hS.heapAt (j := 5) rfl
    refine oG 10 2047 (fuel := 0) (by kernel_rfl) (op_store (v := .agg (List.toArray (c_T_api_Item ((T_api_Item.mk (y1.1) (r5) (([] : List (Vector Int 32))))) A15 c15 A16 c16 none 0))) (c_T_api_Item ((T_api_Item.mk (y1.1) (r5) (([] : List (Vector Int 32))))) A15 c15 A16 c16 none 0) rfl rfl rfl rfl hE hS rfl rfl (by kernel_rfl) (by kernel_rfl) (by kernel_rfl) (by kernel_rfl) (by kernel_rfl) (fun a w _ hE hS => ?_))
    refine ⟨⟨show RP [b3, b5] _ _ from ⟨(hS.heapAt (j := 3) rfl).trans hp_b8815.symm, ⟨(hS.heapAt (j := 5) rfl).trans hp_b8819.symm, trivial⟩⟩, fun _ => hS.st.sees.mono le16⟩, ?_⟩
    clear hp_b8815 hp_b8819
    refine doneG (by kernel_rfl) ?_
    exact ⟨r5, A15, c15, A16, c16, b15, D19, hE.wk, hS, le16, h28, h29, hf⟩
   clear hE hS
   rintro a w ⟨y3, A5, c5, A7, c6, b11, D3, hE, hS, le8, h30, h31, hf⟩
   replace hf := hj5 _ hf
   clear hj5
   obtain ⟨j6, hj6, hf⟩ := jn_elim hf
   refine seq_join (fun a w => ∃ (y4 : (List (Vector Int 32))), ∃ A11, ∃ c10, ∃ q6, ∃ D13, Env a 92 [] [(5, .pointer (some ⟨b3, 0, none⟩)), (6, .pointer (some ⟨b4, 0, none⟩)), (7, .pointer (some ⟨b5, 0, none⟩)), (8, .pointer (some ⟨b6, 0, none⟩)), (10, .pointer (some ⟨b7, 0, none⟩)), (11, .pointer (some ⟨b8, 0, none⟩)), (12, .pointer (some ⟨b10, 0, none⟩)), (13, .pointer (some ⟨b9, 0, none⟩)), (14, .int .i64 (y1.1)), (15, .pointer (some ⟨b11, 0, none⟩)), (52, .func (.func 64) #[] #[.pointer (some ⟨b1, 0, none⟩), .pointer (some ⟨b2, 0, none⟩)]), (53, .int .i64 (y1.1)), (61, .bool (y5)), (73, .bool ((!x14)))] ∧ Stp g w0 D0 [bx b1 3 ([.int .i64 (x15)]), bx b2 70 ([.func (.func 30) #[] #[]])] w D13 [bx b1 3 ([.int .i64 (x15)]), bx b2 70 ([.func (.func 30) #[] #[]]), bx b3 22 ([.slice A6 (List.length (x5)) c7]), bx b4 27 (c_T_api_Point (x9) A10 c11), bx b5 35 ([.int .u32 (x13)]), bx b6 4 ([.bool (x14)]), bx b7 32 (c_T_api_Bundle (z_T_api_Bundle) none 0 none 0), bx b8 4 ([.bool false]), bx b10 40 ([.slice A2 (List.length (r1)) c2]), bx b9 32 (c_T_api_Bundle ((T_api_Bundle.mk (x14) (y2) (y1.2))) A1 c1 A3 c3), bx b11 42 (c_T_api_Item ((T_api_Item.mk (y1.1) (y3) (y4))) A5 c5 A7 c6 A11 c10), q2 .busy none, dk d13230, q1, q6] ∧ Snap.le D3 D13 ∧ OwnD (kdArr .u8 32) 24 D13 A11 c10 (y4) q6 ∧ j6 y4 = some s1) ?_ ?_
   ·clear hj6
    refine sq (ra ?_)
    refine sM 2 2 [6] [(73, .bool ((!x14)))] hE hS fun a hE => ?_
    refine ae ?_
    refine cond_split hE (b := (!x14)) rfl (fun hb => ?_) (fun hb => ?_)
    ·replace hf := ct hb hf
     refine ra ?_
     refine sM 2 2 [9] [(75, .slice A2 (List.length (r1)) c2), (76, .int .i64 (y1.1))] hE hS fun a hE => ?_
     obtain ⟨r6, h32, hf⟩ := bs hf
     refine aC rfl rfl rfl rfl hE rfl rfl rfl rfl (proof_Path.calls h32 (hS.st.fore (L := [])) (h11.mono (le2 (le2 (le2 (le2 le7 le5) le1) le4) le8)) (hG0.mono (le2 (le2 (le2 (le2 (le2 (le2 le3 le6) le7) le5) le1) le4) le8)) (hG1.mono (le2 (le2 (le2 (le2 (le2 (le2 le3 le6) le7) le5) le1) le4) le8))) fun a v w hR hE => ?_
     obtain ⟨D20, A17, c17, q7, rfl, hS1, h33⟩ := hR
     have le23 := hS1.dle
     have hS := hS.callR hS1 rfl (.c .n)
     refine sM 4 7 [] [(78, .slice A17 (List.length (r6.1)) c17), (80, .pointer (some ⟨b11, 110, none⟩))] hE hS fun a hE => ?_
     have hS := hS.p (.d 1 (.d 0 (.d 2 (.d 3 (.d 4 (.d 5 (.d 6 (.d 7 (.d 8 (.d 9 (.d 10 (.d 11 (.d 12 (.d 13 (.d 14 .n)))))))))))))))
     refine at_op (op_store (v := .slice A17 (List.length (r6.1)) c17) (c_T_api_Item ((T_api_Item.mk (y1.1) (y3) (r6.1))) A5 c5 A7 c6 A17 c17) rfl rfl rfl rfl hE hS rfl rfl (by kernel_rfl) (by kernel_rfl) (by kernel_rfl) (by kernel_rfl) (by kernel_rfl) (fun a w _ hE hS => ?_)) rfl
     refine ae ?_
     have hS := hS.p (.d 2 (.d 3 (.d 4 (.d 5 (.d 6 (.d 7 (.d 8 (.d 9 (.d 10 (.d 11 (.d 0 (.d 12 (.d 13 (.d 14 (.d 1 .n)))))))))))))))
     exact ⟨r6.1, A17, c17, q7, D20, hE.wk, hS, le23, h33, hf⟩
    replace hf := cf hb hf
    refine wpIn_skip ?_
    have hS := hS.nils
    have hS := hS.p (.d 2 (.d 3 (.d 4 (.d 5 (.d 6 (.d 7 (.d 8 (.d 9 (.d 10 (.d 11 (.d 1 (.d 12 (.d 13 (.d 14 (.d 0 .n)))))))))))))))
    exact ⟨([] : List (Vector Int 32)), none, 0, none, D3, hE.wk, hS, lr, (OwnD.nil (kdArr .u8 32) 24 D3), hf⟩
   clear hE hS
   rintro a w ⟨y4, A11, c10, q6, D13, hE, hS, le12, h34, hf⟩
   replace hf := hj6 _ hf
   clear hj6
   refine ra ?_
   refine sM 3 3 [9, 10] [(82, .slice A3 (List.length (y1.2)) c3), (83, .agg (List.toArray (c_T_api_Item ((T_api_Item.mk (y1.1) (y3) (y4))) A5 c5 A7 c6 A11 c10)))] hE hS fun a hE => ?_
   have hS := hS.p (.d 14 (.d 0 (.d 1 (.d 2 (.d 3 (.d 4 (.d 5 (.d 6 (.d 7 (.d 8 (.d 9 (.d 10 (.d 11 (.d 12 (.d 13 .n)))))))))))))))
   obtain ⟨D15, q14, le13, hS, h46, h35⟩ := hS.lent h34
   refine at_op (op_buildSlice (K := kd_T_api_Item) (e := 42) (cs := (c_T_api_Item ((T_api_Item.mk (y1.1) (y3) (y4))) A5 c5 A7 c6 A11 c10) ++ []) ([(T_api_Item.mk (y1.1) (y3) (y4))] : List T_api_Item) rfl rfl rfl rfl hE rfl hS rfl (by kernel_rfl) rfl rfl (by exact ⟨_, _, rfl, (kd_T_api_Item_mk (D := D15) (x := (T_api_Item.mk (y1.1) (y3) (y4))) rfl (kd_T_api_Rec_mk (D := D15) (x := y3) rfl rfl rfl rfl rfl rfl rfl rfl rfl rfl rfl (kslice (h30.mono (le2 le12 le13))) (kslice (h31.mono (le2 le12 le13))) rfl rfl rfl) (kslice h35)), rfl⟩) (fun a A25 q15 w _ hE h36 hS => ?_)) rfl
   obtain ⟨D25, q16, le21, hS, h47, h37⟩ := hS.lent h36
   have hS := hS.p (.d 15 (.d 0 (.d 1 (.d 2 (.d 3 (.d 4 (.d 5 (.d 6 (.d 7 (.d 8 (.d 9 (.d 10 (.d 11 (.d 12 (.d 13 (.d 14 .n))))))))))))))))
   obtain ⟨D21, q17, le22, hS, h38, h48⟩ := hS.lent (h1.mono (le2 (le2 (le2 (le2 (le2 le1 le4) le8) le12) le13) le21))
   obtain ⟨l2, h39, hf⟩ := bs hf
   refine at_op (g_append (K := kd_T_api_Item) (e := 42) (bytes := 256) (l := y1.2) (m := ([(T_api_Item.mk (y1.1) (y3) (y4))] : List T_api_Item)) rfl rfl rfl rfl hE rfl hS rfl rfl (by kernel_rfl) rfl rfl h38 (h37.mono le22) h39 (fun a A19 c19 q8 w _ hE h40 hS => ?_)) rfl
   refine sM 1 6 [] [(86, .pointer (some ⟨b9, 35, none⟩))] hE hS fun a hE => ?_
   have hS := hS.p (.d 12 (.d 0 (.d 1 (.d 2 (.d 3 (.d 4 (.d 5 (.d 6 (.d 7 (.d 8 (.d 9 (.d 10 (.d 11 (.d 13 (.d 14 (.d 15 .n))))))))))))))))
   refine at_op (op_store (v := .slice A19 (List.length (l2)) c19) (c_T_api_Bundle ((T_api_Bundle.mk (x14) (y2) (l2))) A1 c1 A19 c19) rfl rfl rfl rfl hE hS rfl rfl (by kernel_rfl) (by kernel_rfl) (by kernel_rfl) (by kernel_rfl) (by kernel_rfl) (fun a w _ hE hS => ?_)) rfl
   refine ae ?_
   have hS := hS.p (.d 14 (.d 0 (.d 1 (.d 2 (.d 3 (.d 4 (.d 5 (.d 6 (.d 7 (.d 8 (.d 9 (.d 10 (.d 11 (.d 12 (.d 13 (.d 15 .n))))))))))))))))
   refine round_normal2 (a1 := a) hq1 hS (fun w a hS hE => ?_)
   refine sN 2 9 [(17, .bool false)] hE fun a hE => ?_
   refine ae ?_
   refine wpIn_cond_false (hE.eval rfl) ?_
   refine wpIn_skip ?_
   have hS := hS.p (.d 5 (.d 6 (.d 7 (.d 8 (.d 9 (.d 10 (.d 11 (.d 12 (.d 13 (.d 1 (.d 0 (.d 15 (.d 2 .n)))))))))))))
   exact ⟨l2, A19, c19, q8, D21, hE.wk, hS, (le2 (le2 (le2 (le2 (le2 (le2 le1 le4) le8) le12) le13) le21) le22), h40, hf⟩
  clear hE hS
  rintro a w ⟨y6, A12, c12, q3, D8, hE, hS, le24, h41, hf⟩
  replace hf := hj3 _ hf
  clear hj3
  refine ra ?_
  refine sN 2 2 [(6, .int .i64 ((IntKind.wrap .i64 (y1.1 + (1 : Int)))))] hE fun a hE => ?_
  exact ae ⟨((IntKind.wrap .i64 (y1.1 + (1 : Int))), y6), A12, c12, q3, D8, hE.wk, hS, (le2 le5 le24), h41, hf⟩
 replace hf := cf hb hf
 refine wpIn_exit ?_
 obtain rfl := si hf
 exact ⟨y1.2, A3, c3, q1, D6, hE.wk, hS, le5, h1, rfl⟩
set_option maxRecDepth 100000 in
theorem export_Whole.calls {K : Nat} {g w0 : World} {D0 : Snap} {x1 : (List T_api_Rec)} {x5 : T_api_Point} {x9 : Int} {A2 : Option Addr} {c3 : Nat} {A6 : Option Addr} {c7 : Nat} {r : (T_api_Bundle × Bool)} (hf : export_Whole.f K x1 x5 x9 = some r) (hS0 : St g w0 D0 []) (h4 : Sl kd_T_api_Rec D0 A2 c3 (x1)) (h8 : Sl kd_T_api_Sig D0 A6 c7 (x5.fSigs)) (hG0 : Cell (kdArr .u32 8) D0 0 0 gl_First) (hG1 : Cell (kdArr .u32 64) D0 1 0 gl_K) :
  CallsIn (Fw none) 0 Tryd.prog 10 (List.toArray [.slice A2 (List.length (x1)) c3, .agg (List.toArray (c_T_api_Point (x5) A6 c7)), .int .u32 (x9)]) w0 (fun e w' => ∃ v, e = .returned v ∧ ∃ (D1 : Snap) (A54 : Option Addr) (c55 : Nat) (A57 : Option Addr) (c58 : Nat), v = .tuple #[.agg (List.toArray (c_T_api_Bundle ((T_api_Bundle.mk (r.1.fWhole) ((T_api_Point.mk (r.1.fPoint.fSize) (r.1.fPoint.fRoot) (r.1.fPoint.fSigs))) (r.1.fItems))) A54 c55 A57 c58)), .bool (r.2)] ∧ Stp g w0 D0 [] w' D1 [] ∧ Sl kd_T_api_Sig D1 A54 c55 (r.1.fPoint.fSigs) ∧ Sl kd_T_api_Item D1 A57 c58 (r.1.fItems)) := by
 unfold export_Whole.f at hf
 have hS := Stp.refl hS0
 clear hS0
 refine calls_body (n := 18) Tryd.func10 rfl Tryd.ntmps10 rfl fun a hE => ?_
 have hE : Env a 18 [] [(0, .slice A2 (List.length (x1)) c3), (1, .agg (List.toArray (c_T_api_Point (x5) A6 c7))), (2, .int .u32 (x9))] := hE
 refine sq (ra ?_)
 refine at_op (op_box rfl rfl rfl rfl hE rfl hS rfl (fun a b60 w _ hE hS => ?_)) rfl
 refine at_op (op_alloc (z := .agg (List.toArray (c_T_api_Bundle (z_T_api_Bundle) none 0 none 0))) rfl rfl rfl rfl hE rfl hS (by kernel_rfl) (fun a b62 w _ hE hS => ?_)) rfl
 refine sN 1 3 [(7, .bool false)] hE fun a hE => ?_
 refine ae ?_
 refine sq ?_
 refine region_draw (fun j => Keeps (mfOf [(10, [b62])] j)) (by kernel_rfl) ?_
 have hS := hS.drew
 first | generalize w.drew = w at hS ⊢ | generalize w0.drew = w at hS ⊢
 refine wP 0 1 11 (.slice A2 (List.length (x1)) c3) hE fun a hE => ?_
 refine wP 2 5 10 (.int .u32 (x9)) hE fun a hE => ?_
 refine tL 1 7 9 1 (.agg (List.toArray (c_T_api_Point (x5) A6 c7))) hE hS fun a hE => ?_
 refine wF 3 15 8 0 3 0 hE fun a hE => ?_
 refine tL 4 31 7 1 (.int .i64 (x5.fSize)) hE hS fun a hE => ?_
 refine wP 5 63 6 (.int .i64 ((maxI (0 : Int) x5.fSize))) hE fun a hE => ?_
 obtain ⟨r84, h85, hf⟩ := bs hf
 refine oC 6 127 5 rfl rfl rfl rfl hE rfl rfl rfl rfl (export_those_v2.calls h85 (hS.st.fore (L := [])) ) fun a v w hR hE => ?_
 obtain ⟨D86, b88, b89, rfl, hS1⟩ := hR
 refine ⟨(hS1.keeps.sub (M' := []) trivial).mono (fun _ h => h), ?_⟩
 have le92 := hS1.dle
 have hS := hS.callR hS1 rfl (.c (.c .n))
 obtain ⟨r93, h94, hf⟩ := bs hf
 refine oC 7 255 4 rfl rfl rfl rfl hE rfl rfl rfl rfl (export_made_v2.calls h94 (hS.st.fore (L := [bx b88 3 ([.int .i64 (r84)]), bx b89 70 ([.func (.func 30) #[] #[]])])) (h4.mono le92) (h8.mono le92) (hG0.mono le92) (hG1.mono le92)) fun a v w hR hE => ?_
 obtain ⟨D95, A97, c98, A1, c1, rfl, hS1, h99, h1⟩ := hR
 refine ⟨(hS1.keeps.sub (M' := []) ⟨.inr ((hS1.heapAt (j := 0) rfl).trans (hS.heapAt (j := 0) rfl).symm), .inr ((hS1.heapAt (j := 1) rfl).trans (hS.heapAt (j := 1) rfl).symm), trivial⟩).mono (fun _ h => h), ?_⟩
 have le1 := hS1.dle
 have hS := hS.callR hS1 rfl (.c (.c .n))
 refine wP 8 511 3 (.agg (List.toArray (c_T_api_Bundle (r93.1) A97 c98 A1 c1))) hE fun a hE => ?_
 refine wP 9 1023 2 (.bool (r93.2)) hE fun a hE => ?_
 have hS := hS.p (.d 2 (.d 0 (.d 1 (.d 3 .n))))
 refine oG 10 2047 (fuel := 1) (by kernel_rfl) (op_store (v := .agg (List.toArray (c_T_api_Bundle (r93.1) A97 c98 A1 c1))) (c_T_api_Bundle (r93.1) A97 c98 A1 c1) rfl rfl rfl rfl hE hS rfl rfl (by kernel_rfl) (by kernel_rfl) (by kernel_rfl) (by kernel_rfl) (by kernel_rfl) (fun a w hkp hE hS => ⟨hkp.mono (fun _ h => h), ?_⟩))
 clear hkp
 refine wP 11 4095 0 (.bool (r93.2)) hE fun a hE => ?_
 refine doneG (by kernel_rfl) ?_
 refine wpIn_ret ?_
 obtain rfl := si hf
 refine ret_ ?_
 refine ret_gen ([.agg (List.toArray (c_T_api_Bundle (r93.1) A97 c98 A1 c1)), .bool (r93.2)]) hE (by rw [show Tryd.f10.results.toList = [.cell 6 32, .tmp 7] from rfl]; exact ⟨_, _, _, 0, _, _, rfl, rfl, hS.heapAt (j := 0) rfl, by kernel_rfl, ⟨_, _, rfl, rfl, rfl⟩⟩) ?_
 have hS := hS.p .n
 exact ⟨_, rfl, D95, A97, c98, A1, c1, rfl, hS, h99, h1⟩
set_option maxRecDepth 100000 in
theorem export_those_v3.calls {K : Nat} {g w0 : World} {D0 : Snap} {x5 : Int} {x6 : (List T_api_Rec)} {x10 : Int} {b1 : Nat} {b2 : Nat} {A7 : Option Addr} {c8 : Nat} {r : (Int)} (hf : export_those_v3.f K x5 x6 x10 = some r) (hS0 : St g w0 D0 [bx b1 22 ([.slice A7 (List.length (x6)) c8]), bx b2 3 ([.int .i64 (x10)])]) (h9 : Sl kd_T_api_Rec D0 A7 c8 (x6)) :
  CallsIn (Fw none) 0 Tryd.prog 29 (List.toArray [.int .i64 (x5), .func (.func 35) #[] #[.pointer (some ⟨b1, 0, none⟩), .pointer (some ⟨b2, 0, none⟩)]]) w0 (fun e w' => ∃ v, e = .returned v ∧ ∃ (D1 : Snap) (b15 : Nat) (b16 : Nat), v = .func (.func 64) #[] #[.pointer (some ⟨b15, 0, none⟩), .pointer (some ⟨b16, 0, none⟩)] ∧ Stp g w0 D0 [bx b1 22 ([.slice A7 (List.length (x6)) c8]), bx b2 3 ([.int .i64 (x10)])] w' D1 [bx b1 22 ([.slice A7 (List.length (x6)) c8]), bx b2 3 ([.int .i64 (x10)]), bx b15 3 ([.int .i64 (r)]), bx b16 70 ([.func (.func 35) #[] #[.pointer (some ⟨b1, 0, none⟩), .pointer (some ⟨b2, 0, none⟩)]])]) := by
 unfold export_those_v3.f at hf
 have hS := Stp.refl hS0
 clear hS0
 refine calls_body (n := 6) Tryd.func29 rfl Tryd.ntmps29 rfl fun a hE => ?_
 have hE : Env a 6 [] [(0, .int .i64 (x5)), (1, .func (.func 35) #[] #[.pointer (some ⟨b1, 0, none⟩), .pointer (some ⟨b2, 0, none⟩)])] := hE
 refine sq (ra ?_)
 refine at_op (op_box rfl rfl rfl rfl hE rfl hS rfl (fun a b19 w _ hE hS => ?_)) rfl
 refine at_op (op_box rfl rfl rfl rfl hE rfl hS rfl (fun a b21 w _ hE hS => ?_)) rfl
 refine sN 1 3 [(4, .nilFunc)] hE fun a hE => ?_
 refine ae ?_
 refine sq (ra ?_)
 refine sN 2 2 [(4, .func (.func 64) #[] #[.pointer (some ⟨b19, 0, none⟩), .pointer (some ⟨b21, 0, none⟩)])] hE fun a hE => ?_
 refine ae ?_
 refine wpIn_ret ?_
 obtain rfl := si hf
 refine ret_ ?_
 refine rT 4 (.func (.func 64) #[] #[.pointer (some ⟨b19, 0, none⟩), .pointer (some ⟨b21, 0, none⟩)]) hE ?_
 have hS := hS.p (.d 2 (.d 3 (.d 1 (.d 0 .n))))
 exact ⟨_, rfl, D0, b19, b21, rfl, hS⟩
set_option maxRecDepth 100000 in
theorem export_Saga_1.calls {K : Nat} {g w0 : World} {D0 : Snap} {x5 : Int} {x6 : (List T_api_Rec)} {x10 : Int} {b1 : Nat} {b2 : Nat} {A7 : Option Addr} {c8 : Nat} {r : (Bool)} (hf : export_Saga_1.f K x5 x6 x10 = some r) (hS0 : St g w0 D0 [bx b1 22 ([.slice A7 (List.length (x6)) c8]), bx b2 3 ([.int .i64 (x10)])]) (h9 : Sl kd_T_api_Rec D0 A7 c8 (x6)) :
  CallsIn (Fw none) 0 Tryd.prog 35 (List.toArray [.int .i64 (x5), .pointer (some ⟨b1, 0, none⟩), .pointer (some ⟨b2, 0, none⟩)]) w0 (fun e w' => ∃ v, e = .returned v ∧ ∃ D1, v = .bool (r) ∧ Stp g w0 D0 [bx b1 22 ([.slice A7 (List.length (x6)) c8]), bx b2 3 ([.int .i64 (x10)])] w' D1 [bx b1 22 ([.slice A7 (List.length (x6)) c8]), bx b2 3 ([.int .i64 (x10)])]) := by
 unfold export_Saga_1.f at hf
 have hS := Stp.refl hS0
 clear hS0
 refine calls_body (n := 20) Tryd.func35 rfl Tryd.ntmps35 rfl fun a hE => ?_
 have hE : Env a 20 [] [(0, .int .i64 (x5)), (1, .pointer (some ⟨b1, 0, none⟩)), (2, .pointer (some ⟨b2, 0, none⟩))] := hE
 refine sq (ra ?_)
 refine sN 1 1 [(4, .bool false)] hE fun a hE => ?_
 refine ae ?_
 refine sq ?_
 refine region_draw (fun j => Keeps (mfOf [] j)) (by kernel_rfl) ?_
 have hS := hS.drew
 first | generalize w.drew = w at hS ⊢ | generalize w0.drew = w at hS ⊢
 refine wP 1 2 15 (.int .i64 (x5)) hE fun a hE => ?_
 refine tL 0 3 14 0 (.slice A7 (List.length (x6)) c8) hE hS fun a hE => ?_
 obtain ⟨x2, h1, hf⟩ := bs hf
 refine tW 2 7 (fuel := 13) (by kernel_rfl) hE (fun M => g_index (K := kd_T_api_Rec) (e := 39) (by_ := 224) (zl := 109) rfl rfl rfl rfl hE rfl rfl rfl (by kernel_rfl) rfl h9 h1 (fun a b3 o1 hE h2 => ?_))
 refine tW 3 15 (fuel := 12) (by kernel_rfl) hE (fun M => g_fieldAddr (fo := 0) (ft := 3) (o1 + 0) rfl rfl rfl rfl hE rfl rfl (by kernel_rfl) rfl (fun a hE => ?_))
 obtain ⟨cs1, C1, T1, fr1, hr1, hb1, hc1⟩ := id h2
 obtain ⟨A1, c1, A2, c2, rfl, h5, h6⟩ := kd_T_api_Rec_el hr1
 refine tT 4 31 (fuel := 11) (by kernel_rfl) hE (tk_loadX (off0 := o1) (off := 0) (c := c_T_api_Rec (x2) A1 c1 A2 c2) (.int .i64 (x2.fKind)) rfl rfl rfl rfl hE rfl hS rfl hb1 hc1 (by kernel_rfl) (by kernel_rfl) (kD hS dn_nil) (fun a hE => ?_))
 refine wP 5 63 10 (.bool ((!decide (x2.fKind = (6 : Int))))) hE fun a hE => ?_
 refine wP 6 127 9 (.bool ((!decide (x2.fKind = (6 : Int))))) hE fun a hE => ?_
 refine bo ((!decide (x2.fKind = (6 : Int)))) (fun hb => ?_) fun hb => ?_
 ·replace hf := cf hb hf
  have hE := hE.know (t := 11) rfl hb
  refine wS 7 255 8 hE fun a hE => ?_
  refine wS 8 511 7 hE fun a hE => ?_
  refine wS 9 1023 6 hE fun a hE => ?_
  refine wS 10 2047 5 hE fun a hE => ?_
  refine wS 11 4095 4 hE fun a hE => ?_
  refine wS 12 8191 3 hE fun a hE => ?_
  refine wS 13 16383 2 hE fun a hE => ?_
  refine wP 14 32767 1 (.bool false) hE fun a hE => ?_
  refine wP 15 65535 0 (.bool false) hE fun a hE => ?_
  refine doneG (by kernel_rfl) ?_
  refine wpIn_ret ?_
  obtain rfl := si hf
  refine ret_ ?_
  refine rT 4 (.bool false) hE ?_
  exact ⟨_, rfl, D0, rfl, hS⟩
 replace hf := ct hb hf
 have hE := hE.know (t := 11) rfl hb
 refine wP 8 383 8 (.int .i64 (x5)) hE fun a hE => ?_
 refine tL 7 511 7 0 (.slice A7 (List.length (x6)) c8) hE hS fun a hE => ?_
 obtain ⟨x1, h3, hf⟩ := bs hf
 refine tW 9 1023 (fuel := 6) (by kernel_rfl) hE (fun M => g_index (K := kd_T_api_Rec) (e := 39) (by_ := 224) (zl := 109) rfl rfl rfl rfl hE rfl rfl rfl (by kernel_rfl) rfl h9 h3 (fun a b4 o2 hE h4 => ?_))
 refine tW 10 2047 (fuel := 5) (by kernel_rfl) hE (fun M => g_fieldAddr (fo := 1) (ft := 3) (o2 + 1) rfl rfl rfl rfl hE rfl rfl (by kernel_rfl) rfl (fun a hE => ?_))
 obtain ⟨cs2, C2, T2, fr2, hr2, hb2, hc2⟩ := id h4
 obtain ⟨A3, c3, A4, c4, rfl, h7, h8⟩ := kd_T_api_Rec_el hr2
 refine tT 11 4095 (fuel := 4) (by kernel_rfl) hE (tk_loadX (off0 := o2) (off := 1) (c := c_T_api_Rec (x1) A3 c3 A4 c4) (.int .i64 (x1.fSaga)) rfl rfl rfl rfl hE rfl hS rfl hb2 hc2 (by kernel_rfl) (by kernel_rfl) (kD hS dn_nil) (fun a hE => ?_))
 refine tL 12 8191 3 1 (.int .i64 (x10)) hE hS fun a hE => ?_
 refine wP 13 16383 2 (.bool ((decide (x1.fSaga = x10)))) hE fun a hE => ?_
 refine wP 14 32767 1 (.bool ((decide (x1.fSaga = x10)))) hE fun a hE => ?_
 refine wP 15 65535 0 (.bool ((decide (x1.fSaga = x10)))) hE fun a hE => ?_
 refine doneG (by kernel_rfl) ?_
 refine wpIn_ret ?_
 obtain rfl := si hf
 refine ret_ ?_
 refine rT 4 (.bool ((decide (x1.fSaga = x10)))) hE ?_
 exact ⟨_, rfl, D0, rfl, hS⟩
set_option maxRecDepth 100000 in
theorem export_made_v3.calls {K : Nat} {g w0 : World} {D0 : Snap} {x9 : (List T_api_Rec)} {x13 : T_api_Point} {x17 : Int} {x18 : Bool} {x19 : Int} {x20 : (List T_api_Rec)} {x24 : Int} {b1 : Nat} {b2 : Nat} {b3 : Nat} {b4 : Nat} {A10 : Option Addr} {c11 : Nat} {A14 : Option Addr} {c15 : Nat} {A21 : Option Addr} {c22 : Nat} {r : (T_api_Bundle × Bool)} (hf : export_made_v3.f K x9 x13 x17 x18 x19 x20 x24 = some r) (hS0 : St g w0 D0 [bx b1 3 ([.int .i64 (x19)]), bx b2 70 ([.func (.func 35) #[] #[.pointer (some ⟨b3, 0, none⟩), .pointer (some ⟨b4, 0, none⟩)]]), bx b3 22 ([.slice A21 (List.length (x20)) c22]), bx b4 3 ([.int .i64 (x24)])]) (h12 : Sl kd_T_api_Rec D0 A10 c11 (x9)) (h16 : Sl kd_T_api_Sig D0 A14 c15 (x13.fSigs)) (h23 : Sl kd_T_api_Rec D0 A21 c22 (x20)) (hG0 : Cell (kdArr .u32 8) D0 0 0 gl_First) (hG1 : Cell (kdArr .u32 64) D0 1 0 gl_K) :
  CallsIn (Fw none) 0 Tryd.prog 28 (List.toArray [.slice A10 (List.length (x9)) c11, .agg (List.toArray (c_T_api_Point (x13) A14 c15)), .int .u32 (x17), .bool (x18), .func (.func 64) #[] #[.pointer (some ⟨b1, 0, none⟩), .pointer (some ⟨b2, 0, none⟩)]]) w0 (fun e w' => ∃ v, e = .returned v ∧ ∃ (D1 : Snap) (A20 : Option Addr) (c20 : Nat) (A22 : Option Addr) (c21 : Nat), v = .tuple #[.agg (List.toArray (c_T_api_Bundle ((T_api_Bundle.mk (r.1.fWhole) ((T_api_Point.mk (r.1.fPoint.fSize) (r.1.fPoint.fRoot) (r.1.fPoint.fSigs))) (r.1.fItems))) A20 c20 A22 c21)), .bool (r.2)] ∧ Stp g w0 D0 [bx b1 3 ([.int .i64 (x19)]), bx b2 70 ([.func (.func 35) #[] #[.pointer (some ⟨b3, 0, none⟩), .pointer (some ⟨b4, 0, none⟩)]]), bx b3 22 ([.slice A21 (List.length (x20)) c22]), bx b4 3 ([.int .i64 (x24)])] w' D1 [bx b1 3 ([.int .i64 (x19)]), bx b2 70 ([.func (.func 35) #[] #[.pointer (some ⟨b3, 0, none⟩), .pointer (some ⟨b4, 0, none⟩)]]), bx b3 22 ([.slice A21 (List.length (x20)) c22]), bx b4 3 ([.int .i64 (x24)])] ∧ Sl kd_T_api_Sig D1 A20 c20 (r.1.fPoint.fSigs) ∧ Sl kd_T_api_Item D1 A22 c21 (r.1.fItems)) := by
 unfold export_made_v3.f at hf
 have hS := Stp.refl hS0
 clear hS0
 refine calls_bodyM (n := 92) Tryd.func28 rfl Tryd.ntmps28 rfl fun a hE => ?_
 have hE : Env a 92 [] [(0, .slice A10 (List.length (x9)) c11), (1, .agg (List.toArray (c_T_api_Point (x13) A14 c15))), (2, .int .u32 (x17)), (3, .bool (x18)), (4, .func (.func 64) #[] #[.pointer (some ⟨b1, 0, none⟩), .pointer (some ⟨b2, 0, none⟩)])] := hE
 refine sq (ra ?_)
 refine at_op (op_box rfl rfl rfl rfl hE rfl hS rfl (fun a b5 w _ hE hS => ?_)) rfl
 refine at_op (op_box rfl rfl rfl rfl hE rfl hS rfl (fun a b6 w _ hE hS => ?_)) rfl
 refine at_op (op_box rfl rfl rfl rfl hE rfl hS rfl (fun a b7 w _ hE hS => ?_)) rfl
 refine at_op (op_box rfl rfl rfl rfl hE rfl hS rfl (fun a b8 w _ hE hS => ?_)) rfl
 refine at_op (op_alloc (z := .agg (List.toArray (c_T_api_Bundle (z_T_api_Bundle) none 0 none 0))) rfl rfl rfl rfl hE rfl hS (by kernel_rfl) (fun a b9 w _ hE hS => ?_)) rfl
 refine at_op (op_alloc (z := .bool false) rfl rfl rfl rfl hE rfl hS (by kernel_rfl) (fun a b10 w _ hE hS => ?_)) rfl
 refine ae ?_
 refine sq ?_
 obtain ⟨j1, hj1, hf⟩ := jn_elim hf
 refine seq_join (fun a w => ∃ (y7 : Bool), ∃ D5, Env a 92 [] [(4, .func (.func 64) #[] #[.pointer (some ⟨b1, 0, none⟩), .pointer (some ⟨b2, 0, none⟩)]), (5, .pointer (some ⟨b5, 0, none⟩)), (6, .pointer (some ⟨b6, 0, none⟩)), (7, .pointer (some ⟨b7, 0, none⟩)), (8, .pointer (some ⟨b8, 0, none⟩)), (10, .pointer (some ⟨b9, 0, none⟩)), (11, .pointer (some ⟨b10, 0, none⟩)), (35, .bool (y7))] ∧ Stp g w0 D0 [bx b1 3 ([.int .i64 (x19)]), bx b2 70 ([.func (.func 35) #[] #[.pointer (some ⟨b3, 0, none⟩), .pointer (some ⟨b4, 0, none⟩)]]), bx b3 22 ([.slice A21 (List.length (x20)) c22]), bx b4 3 ([.int .i64 (x24)])] w D5 [bx b1 3 ([.int .i64 (x19)]), bx b2 70 ([.func (.func 35) #[] #[.pointer (some ⟨b3, 0, none⟩), .pointer (some ⟨b4, 0, none⟩)]]), bx b3 22 ([.slice A21 (List.length (x20)) c22]), bx b4 3 ([.int .i64 (x24)]), bx b5 22 ([.slice A10 (List.length (x9)) c11]), bx b6 27 (c_T_api_Point (x13) A14 c15), bx b7 35 ([.int .u32 (x17)]), bx b8 4 ([.bool (x18)]), bx b9 32 (c_T_api_Bundle (z_T_api_Bundle) none 0 none 0), bx b10 4 ([.bool false])] ∧ Snap.le D0 D5 ∧ j1 y7 = some r) ?_ ?_
 ·clear hj1
  refine ra ?_
  refine sM 1 1 [5] [(16, .slice A10 (List.length (x9)) c11)] hE hS fun a hE => ?_
  obtain ⟨r7, h6, hf⟩ := bs hf
  refine aC rfl rfl rfl rfl hE rfl rfl rfl rfl (export_right.calls h6 (hS.st.fore (L := [])) h12) fun a v w hR hE => ?_
  obtain ⟨D9, rfl, hS1⟩ := hR
  have le9 := hS1.dle
  have hS := hS.callR hS1 rfl .n
  refine sN 2 4 [(19, .bool ((!r7)))] hE fun a hE => ?_
  refine bo ((!r7)) (fun hb => ?_) fun hb => ?_
  ·replace hf := cf hb hf
   have hE := hE.know (t := 19) rfl hb
   refine sM 5 9 [5] [(24, .bool ((decide ((400 : Int) < ((List.length (x9) : Nat) : Int)))))] hE hS fun a hE => ?_
   refine bo ((decide ((400 : Int) < ((List.length (x9) : Nat) : Int)))) (fun hb => ?_) fun hb => ?_
   ·replace hf := cf hb hf
    have hE := hE.know (t := 24) rfl hb
    refine sM 5 14 [4] [(29, .bool ((decide (x13.fSize < (0 : Int)))))] hE hS fun a hE => ?_
    refine bo ((decide (x13.fSize < (0 : Int)))) (fun hb => ?_) fun hb => ?_
    ·replace hf := cf hb hf
     have hE := hE.know (t := 29) rfl hb
     refine sM 6 20 [4, 5] [(35, .bool ((decide (((List.length (x9) : Nat) : Int) < x13.fSize))))] hE hS fun a hE => ?_
     refine ae ?_
     have hS := hS.p (.d 6 (.d 7 (.d 8 (.d 9 (.d 5 (.d 4 (.d 3 (.d 2 (.d 1 (.d 0 .n))))))))))
     exact ⟨(decide (((List.length (x9) : Nat) : Int) < x13.fSize)), D9, hE.wk, hS, le9, hf⟩
    replace hf := ct hb hf
    have hE := hE.know (t := 29) rfl hb
    refine sN 6 20 [(35, .bool true)] hE fun a hE => ?_
    refine ae ?_
    have hS := hS.p (.d 6 (.d 7 (.d 8 (.d 9 (.d 5 (.d 4 (.d 3 (.d 2 (.d 1 (.d 0 .n))))))))))
    exact ⟨true, D9, hE.wk, hS, le9, hf⟩
   replace hf := ct hb hf
   have hE := hE.know (t := 24) rfl hb
   refine sN 11 20 [(35, .bool true)] hE fun a hE => ?_
   refine ae ?_
   have hS := hS.p (.d 6 (.d 7 (.d 8 (.d 9 (.d 5 (.d 4 (.d 3 (.d 2 (.d 1 (.d 0 .n))))))))))
   exact ⟨true, D9, hE.wk, hS, le9, hf⟩
  replace hf := ct hb hf
  have hE := hE.know (t := 19) rfl hb
  refine sN 16 20 [(35, .bool true)] hE fun a hE => ?_
  refine ae ?_
  have hS := hS.p (.d 6 (.d 7 (.d 8 (.d 9 (.d 5 (.d 4 (.d 3 (.d 2 (.d 1 (.d 0 .n))))))))))
  exact ⟨true, D9, hE.wk, hS, le9, hf⟩
 clear hE hS
 rintro a w ⟨y7, D5, hE, hS, le3, hf⟩
 replace hf := hj1 _ hf
 clear hj1
 refine cond_split hE (b := y7) rfl (fun hb => ?_) (fun hb => ?_)
 ·replace hf := ct hb hf
  refine sq (ra ?_)
  refine at_op (op_tk hE (tk_build (c_T_api_Bundle (z_T_api_Bundle) none 0 none 0) rfl rfl rfl rfl hE rfl rfl (by kernel_rfl) (fun a hE => ?_))) rfl
  have hS := hS.p (.d 8 (.d 0 (.d 1 (.d 2 (.d 3 (.d 4 (.d 5 (.d 6 (.d 7 (.d 9 .n))))))))))
  refine at_op (op_store (v := .agg (List.toArray (c_T_api_Bundle (z_T_api_Bundle) none 0 none 0))) (c_T_api_Bundle (z_T_api_Bundle) none 0 none 0) rfl rfl rfl rfl hE hS rfl rfl (by kernel_rfl) (by kernel_rfl) (by kernel_rfl) (by kernel_rfl) (by kernel_rfl) (fun a w _ hE hS => ?_)) rfl
  have hS := hS.p (.d 9 (.d 0 (.d 1 (.d 2 (.d 3 (.d 4 (.d 5 (.d 6 (.d 7 (.d 8 .n))))))))))
  refine at_op (op_store (v := .bool false) ([.bool false]) rfl rfl rfl rfl hE hS rfl rfl (by kernel_rfl) (by kernel_rfl) (by kernel_rfl) (by kernel_rfl) (by kernel_rfl) (fun a w _ hE hS => ?_)) rfl
  refine ae ?_
  refine wpIn_ret ?_
  obtain rfl := si hf
  refine ret_ ?_
  refine ret_M0 ([.agg (List.toArray (c_T_api_Bundle (z_T_api_Bundle) none 0 none 0)), .bool false]) hE (by rw [show Tryd.f28.results.toList = [.cell 10 32, .cell 11 4] from rfl]; exact ⟨_, _, _, 0, _, _, rfl, rfl, hS.heapAt (j := 1) rfl, by kernel_rfl, ⟨_, _, _, 0, _, _, rfl, rfl, hS.heapAt (j := 0) rfl, by kernel_rfl, rfl⟩⟩) ?_
  have hS := hS.p (.d 2 (.d 3 (.d 4 (.d 5 .n))))
  exact ⟨_, rfl, D5, none, 0, none, 0, rfl, hS, (Sl.nil kd_T_api_Sig D5), (Sl.nil kd_T_api_Item D5)⟩
 replace hf := cf hb hf
 refine wpIn_skip ?_
 refine sq (ra ?_)
 refine sM 3 3 [4, 5] [(37, .slice A10 (List.length (x9)) c11), (39, .int .i64 (x13.fSize))] hE hS fun a hE => ?_
 obtain ⟨l3, h7, hf⟩ := bs hf
 refine at_op (op_tk hE (g_slice (K := kd_T_api_Rec) (e := 39) (by_ := 224) (zl := 109) rfl rfl rfl rfl hE rfl rfl (by kernel_rfl) rfl ⟨_, rfl⟩ (h12.mono le3) h7 (fun a A25 c25 hE h8 => ?_))) rfl
 obtain ⟨r1, h9, hf⟩ := bs hf
 refine aC rfl rfl rfl rfl hE rfl rfl rfl rfl (export_Hashes.calls h9 (hS.st.fore (L := [])) h8 (hG0.mono le3) (hG1.mono le3)) fun a v w hR hE => ?_
 obtain ⟨D14, A2, c2, rfl, hS1, h10⟩ := hR
 have le6 := hS1.dle
 have hS := hS.callR hS1 rfl .n
 refine at_op (op_alloc (z := .slice none 0 0) rfl rfl rfl rfl hE rfl hS (by kernel_rfl) (fun a b12 w _ hE hS => ?_)) rfl
 refine at_op (op_store (v := .slice A2 (List.length (r1)) c2) ([.slice A2 (List.length (r1)) c2]) rfl rfl rfl rfl hE hS rfl rfl (by kernel_rfl) (by kernel_rfl) (by kernel_rfl) (by kernel_rfl) (by kernel_rfl) (fun a w _ hE hS => ?_)) rfl
 refine ae ?_
 obtain ⟨j2, hj2, hf⟩ := jn_elim hf
 refine seq_join (fun a w => ∃ (y2 : T_api_Point), ∃ A1, ∃ c1, ∃ b11, ∃ D2, Env a 92 [] [(4, .func (.func 64) #[] #[.pointer (some ⟨b1, 0, none⟩), .pointer (some ⟨b2, 0, none⟩)]), (5, .pointer (some ⟨b5, 0, none⟩)), (6, .pointer (some ⟨b6, 0, none⟩)), (7, .pointer (some ⟨b7, 0, none⟩)), (8, .pointer (some ⟨b8, 0, none⟩)), (10, .pointer (some ⟨b9, 0, none⟩)), (11, .pointer (some ⟨b10, 0, none⟩)), (12, .pointer (some ⟨b12, 0, none⟩)), (13, .pointer (some ⟨b11, 0, none⟩))] ∧ Stp g w0 D0 [bx b1 3 ([.int .i64 (x19)]), bx b2 70 ([.func (.func 35) #[] #[.pointer (some ⟨b3, 0, none⟩), .pointer (some ⟨b4, 0, none⟩)]]), bx b3 22 ([.slice A21 (List.length (x20)) c22]), bx b4 3 ([.int .i64 (x24)])] w D2 [bx b11 32 (c_T_api_Bundle ((T_api_Bundle.mk (x18) (y2) (([] : List T_api_Item)))) A1 c1 none 0), bx b1 3 ([.int .i64 (x19)]), bx b2 70 ([.func (.func 35) #[] #[.pointer (some ⟨b3, 0, none⟩), .pointer (some ⟨b4, 0, none⟩)]]), bx b3 22 ([.slice A21 (List.length (x20)) c22]), bx b4 3 ([.int .i64 (x24)]), bx b5 22 ([.slice A10 (List.length (x9)) c11]), bx b6 27 (c_T_api_Point (x13) A14 c15), bx b7 35 ([.int .u32 (x17)]), bx b8 4 ([.bool (x18)]), bx b9 32 (c_T_api_Bundle (z_T_api_Bundle) none 0 none 0), bx b10 4 ([.bool false]), bx b12 40 ([.slice A2 (List.length (r1)) c2])] ∧ Snap.le D14 D2 ∧ Sl kd_T_api_Sig D2 A1 c1 (y2.fSigs) ∧ j2 y2 = some r) ?_ ?_
 ·clear hj2
  refine region_draw (fun j => RD D14 (plOf [] [b6, b8] j)) (by kernel_rfl) ?_
  have hS := hS.drew
  first | generalize w.drew = w at hS ⊢ | generalize w0.drew = w at hS ⊢
  refine tD 0 1 (fuel := 11) (by kernel_rfl) hE (tk_load 8 (.bool (x18)) rfl rfl rfl rfl hE rfl hS rfl rfl (by kernel_rfl) (fun _ h => h.1.at_ (List.Mem.tail _ (List.Mem.head _))) (fun a hE => ?_))
  refine wF 1 3 10 0 3 0 hE fun a hE => ?_
  refine tD 2 7 (fuel := 9) (by kernel_rfl) hE (tk_load 6 (.int .i64 (x13.fSize)) rfl rfl rfl rfl hE rfl hS rfl rfl (by kernel_rfl) (fun _ h => h.1.at_ (List.Mem.head _)) (fun a hE => ?_))
  refine wF 3 15 8 1 24 1 hE fun a hE => ?_
  refine tD 4 31 (fuel := 7) (by kernel_rfl) hE (tk_load 6 (.agg (List.toArray (acells .u8 32 (x13.fRoot)))) rfl rfl rfl rfl hE rfl hS rfl rfl (by kernel_rfl) (fun _ h => h.1.at_ (List.Mem.head _)) (fun a hE => ?_))
  refine wF 5 63 6 33 25 33 hE fun a hE => ?_
  refine tD 6 127 (fuel := 5) (by kernel_rfl) hE (tk_load 6 (.slice A14 (List.length (x13.fSigs)) c15) rfl rfl rfl rfl hE rfl hS rfl rfl (by kernel_rfl) (fun _ h => h.1.at_ (List.Mem.head _)) (fun a hE => ?_))
  refine twoB (i := 7) (j := 10) (fuel := 4) (m1 := 255) (m2 := 1151) (by kernel_rfl) (by kernel_rfl) (by kernel_rfl) ?_ ?_
  ·have hp_b8826 := hS.heapAt (j := 6) rfl
   have hp_b8830 := hS.heapAt (j := 8) rfl
   obtain ⟨r2, h11, hf⟩ := bs hf
   refine (op_call rfl rfl rfl rfl hE rfl rfl rfl rfl (by kernel_rfl) (slices_Clone_api_Sig_api_Sig.calls h11 (hS.st.fore (L := [])) (h16.mono (le2 le3 le6))) (fun a v w hR hE => ?_))
   obtain ⟨D22, A7, c7, q9, rfl, hS1, h13⟩ := hR
   have le10 := hS1.dle
   have hS := hS.callR hS1 rfl (.c .n)
   refine ⟨⟨show RP [b6, b8] _ _ from ⟨(hS.heapAt (j := 7) rfl).trans hp_b8826.symm, ⟨(hS.heapAt (j := 9) rfl).trans hp_b8830.symm, trivial⟩⟩, fun _ => hS.st.sees.mono le10⟩, ?_⟩
   clear hp_b8826 hp_b8830
   obtain ⟨D16, q10, le14, hS, h43, h14⟩ := hS.lent h13
   refine tW 8 511 (fuel := 3) (by kernel_rfl) hE (fun M => tk_build (c_T_api_Point ({ x13 with fSigs := r2 }) A7 c7) rfl rfl rfl rfl hE rfl rfl (by kernel_rfl) (fun a hE => ?_))
   refine tW 9 1023 (fuel := 2) (by kernel_rfl) hE (fun M => tk_build (c_T_api_Bundle ((T_api_Bundle.mk (x18) ({ x13 with fSigs := r2 }) (([] : List T_api_Item)))) A7 c7 none 0) rfl rfl rfl rfl hE rfl rfl (by kernel_rfl) (fun a hE => ?_))
   have hp_b8826 := hS.heapAt (j := 7) rfl
   have hp_b8830 := hS.heapAt (j := 9) rfl
   refine oG 10 2047 (fuel := 1) (by kernel_rfl) (op_alloc (z := .agg (List.toArray (c_T_api_Bundle (z_T_api_Bundle) none 0 none 0))) rfl rfl rfl rfl hE rfl hS (by kernel_rfl) (fun a b14 w _ hE hS => ?_))
   refine ⟨⟨show RP [b6, b8] _ _ from ⟨(hS.heapAt (j := 8) rfl).trans hp_b8826.symm, ⟨(hS.heapAt (j := 10) rfl).trans hp_b8830.symm, trivial⟩⟩, fun _ => hS.st.sees.mono (le2 le10 le14)⟩, ?_⟩
   clear hp_b8826 hp_b8830
   have hp_b8826 := hS.heapAt (j := 8) rfl
   have hp_b8830 := hS.heapAt (j := 10) rfl
   refine oG 11 4095 (fuel := 0) (by kernel_rfl) (op_store (v := .agg (List.toArray (c_T_api_Bundle ((T_api_Bundle.mk (x18) ({ x13 with fSigs := r2 }) (([] : List T_api_Item)))) A7 c7 none 0))) (c_T_api_Bundle ((T_api_Bundle.mk (x18) ({ x13 with fSigs := r2 }) (([] : List T_api_Item)))) A7 c7 none 0) rfl rfl rfl rfl hE hS rfl rfl (by kernel_rfl) (by kernel_rfl) (by kernel_rfl) (by kernel_rfl) (by kernel_rfl) (fun a w _ hE hS => ?_))
   refine ⟨⟨show RP [b6, b8] _ _ from ⟨(hS.heapAt (j := 8) rfl).trans hp_b8826.symm, ⟨(hS.heapAt (j := 10) rfl).trans hp_b8830.symm, trivial⟩⟩, fun _ => hS.st.sees.mono (le2 le10 le14)⟩, ?_⟩
   clear hp_b8826 hp_b8830
   refine doneG (by kernel_rfl) ?_
   have hS := hS.p (.d 0 (.d 3 (.d 4 (.d 5 (.d 6 (.d 7 (.d 8 (.d 9 (.d 10 (.d 11 (.d 12 (.d 2 .n))))))))))))
   exact ⟨{ x13 with fSigs := r2 }, A7, c7, b14, D16, hE.wk, hS, (le2 le10 le14), h14, hf⟩
  have hp_b8826 := hS.heapAt (j := 6) rfl
  have hp_b8830 := hS.heapAt (j := 8) rfl
  refine (op_alloc (z := .agg (List.toArray (c_T_api_Bundle (z_T_api_Bundle) none 0 none 0))) rfl rfl rfl rfl hE rfl hS (by kernel_rfl) (fun a b15 w _ hE hS => ?_))
  refine ⟨⟨show RP [b6, b8] _ _ from ⟨(hS.heapAt (j := 7) rfl).trans hp_b8826.symm, ⟨(hS.heapAt (j := 9) rfl).trans hp_b8830.symm, trivial⟩⟩, fun _ => hS.st.sees⟩, ?_⟩
  clear hp_b8826 hp_b8830
  have hp_b8826 := hS.heapAt (j := 7) rfl
  have hp_b8830 := hS.heapAt (j := 9) rfl
  obtain ⟨r3, h15, hf⟩ := bs hf
  refine oC 7 1279 3 rfl rfl rfl rfl hE rfl rfl rfl rfl (slices_Clone_api_Sig_api_Sig.calls h15 (hS.st.fore (L := [])) (h16.mono (le2 le3 le6))) fun a v w hR hE => ?_
  obtain ⟨D23, A8, c8, q11, rfl, hS1, h17⟩ := hR
  have le15 := hS1.dle
  have hS := hS.callR hS1 rfl (.c .n)
  refine ⟨⟨show RP [b6, b8] _ _ from ⟨(hS.heapAt (j := 8) rfl).trans hp_b8826.symm, ⟨(hS.heapAt (j := 10) rfl).trans hp_b8830.symm, trivial⟩⟩, fun _ => hS.st.sees.mono le15⟩, ?_⟩
  clear hp_b8826 hp_b8830
  obtain ⟨D17, q12, le17, hS, h44, h18⟩ := hS.lent h17
  refine tW 8 1535 (fuel := 2) (by kernel_rfl) hE (fun M => tk_build (c_T_api_Point ({ x13 with fSigs := r3 }) A8 c8) rfl rfl rfl rfl hE rfl rfl (by kernel_rfl) (fun a hE => ?_))
  refine tW 9 2047 (fuel := 1) (by kernel_rfl) hE (fun M => tk_build (c_T_api_Bundle ((T_api_Bundle.mk (x18) ({ x13 with fSigs := r3 }) (([] : List T_api_Item)))) A8 c8 none 0) rfl rfl rfl rfl hE rfl rfl (by kernel_rfl) (fun a hE => ?_))
  have hp_b8826 := hS.heapAt (j := 8) rfl
  have hp_b8830 := hS.heapAt (j := 10) rfl
  have hS := hS.p (.d 1 (.d 0 (.d 2 (.d 3 (.d 4 (.d 5 (.d 6 (.d 7 (.d 8 (.d 9 (.d 10 (.d 11 (.d 12 .n)))))))))))))
  refine oG 11 4095 (fuel := 0) (by kernel_rfl) (op_store (v := .agg (List.toArray (c_T_api_Bundle ((T_api_Bundle.mk (x18) ({ x13 with fSigs := r3 }) (([] : List T_api_Item)))) A8 c8 none 0))) (c_T_api_Bundle ((T_api_Bundle.mk (x18) ({ x13 with fSigs := r3 }) (([] : List T_api_Item)))) A8 c8 none 0) rfl rfl rfl rfl hE hS rfl rfl (by kernel_rfl) (by kernel_rfl) (by kernel_rfl) (by kernel_rfl) (by kernel_rfl) (fun a w _ hE hS => ?_))
  refine ⟨⟨show RP [b6, b8] _ _ from ⟨(hS.heapAt (j := 8) rfl).trans hp_b8826.symm, ⟨(hS.heapAt (j := 10) rfl).trans hp_b8830.symm, trivial⟩⟩, fun _ => hS.st.sees.mono (le2 le15 le17)⟩, ?_⟩
  clear hp_b8826 hp_b8830
  refine doneG (by kernel_rfl) ?_
  have hS := hS.p (.d 0 (.d 3 (.d 4 (.d 5 (.d 6 (.d 7 (.d 8 (.d 9 (.d 10 (.d 11 (.d 12 (.d 2 .n))))))))))))
  exact ⟨{ x13 with fSigs := r3 }, A8, c8, b15, D17, hE.wk, hS, (le2 le15 le17), h18, hf⟩
 clear hE hS
 rintro a w ⟨y2, A1, c1, b11, D2, hE, hS, le7, h2, hf⟩
 replace hf := hj2 _ hf
 clear hj2
 refine sq (sq (ra ?_))
 refine sN 1 1 [(52, .func (.func 64) #[] #[.pointer (some ⟨b1, 0, none⟩), .pointer (some ⟨b2, 0, none⟩)])] hE fun a hE => ?_
 refine ae ?_
 refine wpIn_block ?_
 have hEo1 := hE
 refine range_in2 (captured := #[.pointer (some ⟨b1, 0, none⟩), .pointer (some ⟨b2, 0, none⟩)]) hE hS rfl (by kernel_rfl) (fun fn1 l1 d13239 w q2 hq1 hS => ?_)
 refine calls_body (n := 19) Tryd.func64 rfl Tryd.ntmps64 rfl fun a hE => ?_
 have hE : Env a 19 [] [(0, .func (.yield l1) #[] #[]), (1, .pointer (some ⟨b1, 0, none⟩)), (2, .pointer (some ⟨b2, 0, none⟩))] := hE
 refine sq (ra ?_)
 refine sM 2 2 [3] [(5, .int .i64 (x19)), (6, .int .i64 ((0 : Int)))] hE hS fun a hE => ?_
 refine ae ?_
 obtain ⟨s1, hf, hs1⟩ := bs hf
 have hS := hS.nils
 have hS := hS.p (.d 4 (.d 5 (.d 6 (.d 7 (.d 8 (.d 9 (.d 10 (.d 11 (.d 12 (.d 13 (.d 14 (.d 3 (.d 1 (.d 2 (.d 0 .n)))))))))))))))
 refine block_loopR (fun a w => ∃ (z1 : (List T_api_Item)), ∃ A4, ∃ c4, ∃ q4, ∃ D10, Env a 19 [] [] ∧ Stp g w0 D0 [bx b1 3 ([.int .i64 (x19)]), bx b2 70 ([.func (.func 35) #[] #[.pointer (some ⟨b3, 0, none⟩), .pointer (some ⟨b4, 0, none⟩)]]), bx b3 22 ([.slice A21 (List.length (x20)) c22]), bx b4 3 ([.int .i64 (x24)])] w D10 [bx b1 3 ([.int .i64 (x19)]), bx b2 70 ([.func (.func 35) #[] #[.pointer (some ⟨b3, 0, none⟩), .pointer (some ⟨b4, 0, none⟩)]]), bx b3 22 ([.slice A21 (List.length (x20)) c22]), bx b4 3 ([.int .i64 (x24)]), bx b5 22 ([.slice A10 (List.length (x9)) c11]), bx b6 27 (c_T_api_Point (x13) A14 c15), bx b7 35 ([.int .u32 (x17)]), bx b8 4 ([.bool (x18)]), bx b9 32 (c_T_api_Bundle (z_T_api_Bundle) none 0 none 0), bx b10 4 ([.bool false]), bx b12 40 ([.slice A2 (List.length (r1)) c2]), bx b11 32 (c_T_api_Bundle ((T_api_Bundle.mk (x18) (y2) (z1))) A1 c1 A4 c4), q2 .ready none, dk d13239, q4] ∧ Snap.le D2 D10 ∧ OwnL kd_T_api_Item 42 D10 A4 c4 (z1) q4 ∧ (Sum.inr z1) = s1) (fun a w => ∃ (z2 : (List T_api_Item)), ∃ A18, ∃ c18, ∃ q5, ∃ D4, Env a 19 [] [] ∧ Stp g w0 D0 [bx b1 3 ([.int .i64 (x19)]), bx b2 70 ([.func (.func 35) #[] #[.pointer (some ⟨b3, 0, none⟩), .pointer (some ⟨b4, 0, none⟩)]]), bx b3 22 ([.slice A21 (List.length (x20)) c22]), bx b4 3 ([.int .i64 (x24)])] w D4 [bx b1 3 ([.int .i64 (x19)]), bx b2 70 ([.func (.func 35) #[] #[.pointer (some ⟨b3, 0, none⟩), .pointer (some ⟨b4, 0, none⟩)]]), bx b3 22 ([.slice A21 (List.length (x20)) c22]), bx b4 3 ([.int .i64 (x24)]), bx b5 22 ([.slice A10 (List.length (x9)) c11]), bx b6 27 (c_T_api_Point (x13) A14 c15), bx b7 35 ([.int .u32 (x17)]), bx b8 4 ([.bool (x18)]), bx b9 32 (c_T_api_Bundle (z_T_api_Bundle) none 0 none 0), bx b10 4 ([.bool false]), bx b12 40 ([.slice A2 (List.length (r1)) c2]), bx b11 32 (c_T_api_Bundle ((T_api_Bundle.mk (x18) (y2) (z2))) A1 c1 A18 c18), q2 .done (some .ret), dk d13239, q5] ∧ Snap.le D2 D4 ∧ OwnL kd_T_api_Item 42 D4 A18 c18 (z2) q5 ∧ (Sum.inl z2) = s1) (fun k a w => ∃ (y1 : Int × (List T_api_Item)), ∃ A3, ∃ c3, ∃ q1, ∃ D6, Env a 19 [] [(0, .func (.yield l1) #[] #[]), (2, .pointer (some ⟨b2, 0, none⟩)), (5, .int .i64 (x19)), (6, .int .i64 (y1.1))] ∧ Stp g w0 D0 [bx b1 3 ([.int .i64 (x19)]), bx b2 70 ([.func (.func 35) #[] #[.pointer (some ⟨b3, 0, none⟩), .pointer (some ⟨b4, 0, none⟩)]]), bx b3 22 ([.slice A21 (List.length (x20)) c22]), bx b4 3 ([.int .i64 (x24)])] w D6 [bx b1 3 ([.int .i64 (x19)]), bx b2 70 ([.func (.func 35) #[] #[.pointer (some ⟨b3, 0, none⟩), .pointer (some ⟨b4, 0, none⟩)]]), bx b3 22 ([.slice A21 (List.length (x20)) c22]), bx b4 3 ([.int .i64 (x24)]), bx b5 22 ([.slice A10 (List.length (x9)) c11]), bx b6 27 (c_T_api_Point (x13) A14 c15), bx b7 35 ([.int .u32 (x17)]), bx b8 4 ([.bool (x18)]), bx b9 32 (c_T_api_Bundle (z_T_api_Bundle) none 0 none 0), bx b10 4 ([.bool false]), bx b12 40 ([.slice A2 (List.length (r1)) c2]), bx b11 32 (c_T_api_Bundle ((T_api_Bundle.mk (x18) (y2) (y1.2))) A1 c1 A3 c3), q2 .ready none, dk d13239, q1] ∧ Snap.le D2 D6 ∧ OwnL kd_T_api_Item 42 D6 A3 c3 (y1.2) q1 ∧ export_made_v3_l1.l K x9 x13 x17 x18 x19 x20 x24 r1 k y1 = some s1) K ?_ ?_ ?_ ?_
 ·exact ⟨((0 : Int), ([] : List T_api_Item)), none, 0, none, D2, hE.wk, hS, lr, (OwnD.nil kd_T_api_Item 42 D2), hf⟩
 ·clear hE hS hf
  rintro a w ⟨z1, A4, c4, q4, D10, hE, hS, le18, h19, rfl⟩
  have hf := hs1
  clear hs1
  refine ret_genN ([]) hE (by rw [show Tryd.f64.results.toList = [] from rfl]; rfl) ?_
  have hS := hS.p (.d 12 (.d 0 (.d 1 (.d 2 (.d 3 (.d 4 (.d 5 (.d 6 (.d 7 (.d 8 (.d 9 (.d 10 (.d 11 (.d 13 (.d 14 .n)))))))))))))))
  refine range_done2 hq1 hS hEo1 (fun w a hS hE => ?_)
  refine sq (sq (ra ?_))
  refine sM 1 1 [11] [(87, .agg (List.toArray (c_T_api_Bundle ((T_api_Bundle.mk (x18) (y2) (z1))) A1 c1 A4 c4)))] hE hS fun a hE => ?_
  have hS := hS.p (.d 13 (.d 0 (.d 1 (.d 2 (.d 3 (.d 4 (.d 5 (.d 6 (.d 7 (.d 8 (.d 9 (.d 10 (.d 11 (.d 12 .n))))))))))))))
  obtain ⟨D24, q13, le19, hS, h45, h3⟩ := hS.lent h19
  obtain ⟨r8, h20, hf⟩ := bs hf
  refine aC rfl rfl rfl rfl hE rfl rfl rfl rfl (bundle_Right.calls h20 (hS.st.fore (L := [])) (h2.mono (le2 le18 le19)) h3) fun a v w hR hE => ?_
  obtain ⟨D11, rfl, hS1⟩ := hR
  have le20 := hS1.dle
  have hS := hS.callR hS1 rfl .n
  refine sN 1 3 [(89, .bool ((!r8)))] hE fun a hE => ?_
  refine ae ?_
  refine cond_split hE (b := (!r8)) rfl (fun hb => ?_) (fun hb => ?_)
  ·replace hf := ct hb hf
   refine sq (ra ?_)
   refine at_op (op_tk hE (tk_build (c_T_api_Bundle (z_T_api_Bundle) none 0 none 0) rfl rfl rfl rfl hE rfl rfl (by kernel_rfl) (fun a hE => ?_))) rfl
   have hS := hS.p (.d 9 (.d 0 (.d 1 (.d 2 (.d 3 (.d 4 (.d 5 (.d 6 (.d 7 (.d 8 (.d 10 (.d 11 (.d 12 (.d 13 .n))))))))))))))
   refine at_op (op_store (v := .agg (List.toArray (c_T_api_Bundle (z_T_api_Bundle) none 0 none 0))) (c_T_api_Bundle (z_T_api_Bundle) none 0 none 0) rfl rfl rfl rfl hE hS rfl rfl (by kernel_rfl) (by kernel_rfl) (by kernel_rfl) (by kernel_rfl) (by kernel_rfl) (fun a w _ hE hS => ?_)) rfl
   have hS := hS.p (.d 10 (.d 0 (.d 1 (.d 2 (.d 3 (.d 4 (.d 5 (.d 6 (.d 7 (.d 8 (.d 9 (.d 11 (.d 12 (.d 13 .n))))))))))))))
   refine at_op (op_store (v := .bool false) ([.bool false]) rfl rfl rfl rfl hE hS rfl rfl (by kernel_rfl) (by kernel_rfl) (by kernel_rfl) (by kernel_rfl) (by kernel_rfl) (fun a w _ hE hS => ?_)) rfl
   refine ae ?_
   refine wpIn_ret ?_
   have hS := hS.p (.d 13 (.d 0 (.d 1 (.d 2 (.d 3 (.d 4 (.d 5 (.d 6 (.d 7 (.d 8 (.d 9 (.d 10 (.d 11 (.d 12 .n))))))))))))))
   obtain rfl := si hf
   refine ret_ ?_
   refine ret_M1 ([.agg (List.toArray (c_T_api_Bundle (z_T_api_Bundle) none 0 none 0)), .bool false]) hE hS (fun w hS => ⟨by rw [show Tryd.f28.results.toList = [.cell 10 32, .cell 11 4] from rfl]; exact ⟨_, _, _, 0, _, _, rfl, rfl, hS.heapAt (j := 1) rfl, by kernel_rfl, ⟨_, _, _, 0, _, _, rfl, rfl, hS.heapAt (j := 0) rfl, by kernel_rfl, rfl⟩⟩, ?_⟩)
   have hS := hS.p (.d 3 (.d 4 (.d 5 (.d 6 .n))))
   exact ⟨_, rfl, D11, none, 0, none, 0, rfl, hS, (Sl.nil kd_T_api_Sig D11), (Sl.nil kd_T_api_Item D11)⟩
  replace hf := cf hb hf
  refine wpIn_skip ?_
  refine sq (ra ?_)
  refine sM 1 1 [12] [(91, .agg (List.toArray (c_T_api_Bundle ((T_api_Bundle.mk (x18) (y2) (z1))) A1 c1 A4 c4)))] hE hS fun a hE => ?_
  have hS := hS.p (.d 9 (.d 0 (.d 1 (.d 2 (.d 3 (.d 4 (.d 5 (.d 6 (.d 7 (.d 8 (.d 10 (.d 11 (.d 12 (.d 13 .n))))))))))))))
  refine at_op (op_store (v := .agg (List.toArray (c_T_api_Bundle ((T_api_Bundle.mk (x18) (y2) (z1))) A1 c1 A4 c4))) (c_T_api_Bundle ((T_api_Bundle.mk (x18) (y2) (z1))) A1 c1 A4 c4) rfl rfl rfl rfl hE hS rfl rfl (by kernel_rfl) (by kernel_rfl) (by kernel_rfl) (by kernel_rfl) (by kernel_rfl) (fun a w _ hE hS => ?_)) rfl
  have hS := hS.p (.d 10 (.d 0 (.d 1 (.d 2 (.d 3 (.d 4 (.d 5 (.d 6 (.d 7 (.d 8 (.d 9 (.d 11 (.d 12 (.d 13 .n))))))))))))))
  refine at_op (op_store (v := .bool true) ([.bool true]) rfl rfl rfl rfl hE hS rfl rfl (by kernel_rfl) (by kernel_rfl) (by kernel_rfl) (by kernel_rfl) (by kernel_rfl) (fun a w _ hE hS => ?_)) rfl
  refine ae ?_
  refine wpIn_ret ?_
  have hS := hS.p (.d 13 (.d 0 (.d 1 (.d 2 (.d 3 (.d 4 (.d 5 (.d 6 (.d 7 (.d 8 (.d 9 (.d 10 (.d 11 (.d 12 .n))))))))))))))
  obtain rfl := si hf
  refine ret_ ?_
  refine ret_M1 ([.agg (List.toArray (c_T_api_Bundle ((T_api_Bundle.mk (x18) (y2) (z1))) A1 c1 A4 c4)), .bool true]) hE hS (fun w hS => ⟨by rw [show Tryd.f28.results.toList = [.cell 10 32, .cell 11 4] from rfl]; exact ⟨_, _, _, 0, _, _, rfl, rfl, hS.heapAt (j := 1) rfl, by kernel_rfl, ⟨_, _, _, 0, _, _, rfl, rfl, hS.heapAt (j := 0) rfl, by kernel_rfl, rfl⟩⟩, ?_⟩)
  have hS := hS.p (.d 3 (.d 4 (.d 5 (.d 6 .n))))
  exact ⟨_, rfl, D11, A1, c1, A4, c4, rfl, hS, (h2.mono (le2 (le2 le18 le19) le20)), (h3.mono le20)⟩
 ·clear hE hS hf
  rintro a w ⟨z2, A18, c18, q5, D4, hE, hS, le25, h46, rfl⟩
  have hf := hs1
  clear hs1
  refine ret_ ?_
  refine ret_gen ([]) hE (by rw [show Tryd.f64.results.toList = [] from rfl]; rfl) ?_
  have hS := hS.p (.d 12 (.d 0 (.d 1 (.d 2 (.d 3 (.d 4 (.d 5 (.d 6 (.d 7 (.d 8 (.d 9 (.d 10 (.d 11 (.d 13 (.d 14 .n)))))))))))))))
  refine range_ret2 hq1 hS hEo1 (fun w a hS hE => ?_)
  have hS := hS.p (.d 12 (.d 0 (.d 1 (.d 2 (.d 3 (.d 4 (.d 5 (.d 6 (.d 7 (.d 8 (.d 9 (.d 10 (.d 11 (.d 13 .n))))))))))))))
  obtain rfl := si hf
  refine ret_ ?_
  refine ret_M1 ([.agg (List.toArray (c_T_api_Bundle (z_T_api_Bundle) none 0 none 0)), .bool false]) hE hS (fun w hS => ⟨by rw [show Tryd.f28.results.toList = [.cell 10 32, .cell 11 4] from rfl]; exact ⟨_, _, _, 0, _, _, rfl, rfl, hS.heapAt (j := 8) rfl, by kernel_rfl, ⟨_, _, _, 0, _, _, rfl, rfl, hS.heapAt (j := 9) rfl, by kernel_rfl, rfl⟩⟩, ?_⟩)
  have hS := hS.p (.d 0 (.d 1 (.d 2 (.d 3 .n))))
  exact ⟨_, rfl, D4, none, 0, none, 0, rfl, hS, (Sl.nil kd_T_api_Sig D4), (Sl.nil kd_T_api_Item D4)⟩
 clear hE hS hf
 rintro k a w ⟨y1, A3, c3, q1, D6, hE, hS, le4, h1, hf⟩
 obtain ⟨k, rfl, hf⟩ := export_made_v3_l1.some _ _ _ _ _ _ _ _ hf
 refine ⟨k, rfl, ?_⟩
 unfold export_made_v3_l1.b at hf
 refine sq (ra ?_)
 refine sN 1 1 [(7, .bool ((decide (y1.1 < x19))))] hE fun a hE => ?_
 refine ae ?_
 refine sq ?_
 refine cond_split hE (b := (decide (y1.1 < x19))) rfl (fun hb => ?_) (fun hb => ?_)
 ·replace hf := ct hb hf
  refine wpIn_skip ?_
  obtain ⟨j3, hj3, hf⟩ := jn_elim hf
  refine seq_join (fun a w => ∃ (y6 : (List T_api_Item)), ∃ A11, ∃ c10, ∃ q3, ∃ D8, Env a 19 [] [(0, .func (.yield l1) #[] #[]), (2, .pointer (some ⟨b2, 0, none⟩)), (5, .int .i64 (x19)), (6, .int .i64 (y1.1))] ∧ Stp g w0 D0 [bx b1 3 ([.int .i64 (x19)]), bx b2 70 ([.func (.func 35) #[] #[.pointer (some ⟨b3, 0, none⟩), .pointer (some ⟨b4, 0, none⟩)]]), bx b3 22 ([.slice A21 (List.length (x20)) c22]), bx b4 3 ([.int .i64 (x24)])] w D8 [bx b1 3 ([.int .i64 (x19)]), bx b2 70 ([.func (.func 35) #[] #[.pointer (some ⟨b3, 0, none⟩), .pointer (some ⟨b4, 0, none⟩)]]), bx b3 22 ([.slice A21 (List.length (x20)) c22]), bx b4 3 ([.int .i64 (x24)]), bx b5 22 ([.slice A10 (List.length (x9)) c11]), bx b6 27 (c_T_api_Point (x13) A14 c15), bx b7 35 ([.int .u32 (x17)]), bx b8 4 ([.bool (x18)]), bx b9 32 (c_T_api_Bundle (z_T_api_Bundle) none 0 none 0), bx b10 4 ([.bool false]), bx b12 40 ([.slice A2 (List.length (r1)) c2]), bx b11 32 (c_T_api_Bundle ((T_api_Bundle.mk (x18) (y2) (y6))) A1 c1 A11 c10), q2 .ready none, dk d13239, q3] ∧ Snap.le D6 D8 ∧ OwnL kd_T_api_Item 42 D8 A11 c10 (y6) q3 ∧ j3 y6 = some s1) ?_ ?_
  ·clear hj3
   refine wpIn_block ?_
   refine sq (ra ?_)
   refine sN 2 2 [(4, .int .i64 (y1.1))] hE fun a hE => ?_
   refine ae ?_
   refine sq (ra ?_)
   refine sM 2 2 [1] [(9, .func (.func 35) #[] #[.pointer (some ⟨b3, 0, none⟩), .pointer (some ⟨b4, 0, none⟩)]), (10, .int .i64 (y1.1))] hE hS fun a hE => ?_
   have hS := hS.p (.d 2 (.d 3 (.d 0 (.d 1 (.d 4 (.d 5 (.d 6 (.d 7 (.d 8 (.d 9 (.d 10 (.d 11 (.d 12 (.d 13 (.d 14 .n)))))))))))))))
   obtain ⟨r9, h21, hf⟩ := bs hf
   refine aC rfl rfl rfl rfl hE rfl rfl rfl rfl (export_Saga_1.calls h21 (hS.st.fore (L := [bx b3 22 ([.slice A21 (List.length (x20)) c22]), bx b4 3 ([.int .i64 (x24)])])) (h23.mono (le2 (le2 (le2 le3 le6) le7) le4))) fun a v w hR hE => ?_
   obtain ⟨D12, rfl, hS1⟩ := hR
   have le1 := hS1.dle
   have hS := hS.callR hS1 rfl (.c (.c .n))
   refine sN 1 4 [(12, .bool (r9))] hE fun a hE => ?_
   refine bo (r9) (fun hb => ?_) fun hb => ?_
   ·replace hf := cf hb hf
    have hE := hE.know (t := 12) rfl hb
    refine sN 5 9 [(17, .bool false)] hE fun a hE => ?_
    refine ae ?_
    refine wpIn_cond_false (hE.eval rfl) ?_
    refine wpIn_skip ?_
    have hS := hS.p (.d 2 (.d 3 (.d 0 (.d 1 (.d 4 (.d 5 (.d 6 (.d 7 (.d 8 (.d 9 (.d 10 (.d 11 (.d 12 (.d 13 (.d 14 .n)))))))))))))))
    exact ⟨y1.2, A3, c3, q1, D12, hE.wk, hS, le1, (h1.mono le1), hf⟩
   replace hf := ct hb hf
   have hE := hE.know (t := 12) rfl hb
   refine sN 2 6 [(13, .func (.yield l1) #[] #[]), (14, .int .i64 (y1.1))] hE fun a hE => ?_
   have hS := hS.p (.d 12 (.d 0 (.d 1 (.d 2 (.d 3 (.d 4 (.d 5 (.d 6 (.d 7 (.d 8 (.d 9 (.d 10 (.d 11 (.d 13 (.d 14 .n)))))))))))))))
   refine at_op (op_yield2 (args := [.int .i64 (y1.1)]) hq1 rfl rfl rfl rfl hE rfl rfl rfl hS hEo1 rfl (by kernel_rfl) (fun a hE => ?_)) rfl
   refine ra ?_
   refine sN 1 1 [(14, .int .i64 (y1.1))] hE fun a hE => ?_
   refine ae ?_
   refine begin_in2 hq1 hS (fun w hS => ?_)
   refine wpIn_block ?_
   refine sq ?_
   obtain ⟨j4, hj4, hf⟩ := jn_elim hf
   refine seq_join (fun a w => ∃ (y5 : Bool), ∃ D7, Env a 92 [] [(5, .pointer (some ⟨b5, 0, none⟩)), (6, .pointer (some ⟨b6, 0, none⟩)), (7, .pointer (some ⟨b7, 0, none⟩)), (8, .pointer (some ⟨b8, 0, none⟩)), (10, .pointer (some ⟨b9, 0, none⟩)), (11, .pointer (some ⟨b10, 0, none⟩)), (12, .pointer (some ⟨b12, 0, none⟩)), (13, .pointer (some ⟨b11, 0, none⟩)), (14, .int .i64 (y1.1)), (52, .func (.func 64) #[] #[.pointer (some ⟨b1, 0, none⟩), .pointer (some ⟨b2, 0, none⟩)]), (53, .int .i64 (y1.1)), (61, .bool (y5))] ∧ Stp g w0 D0 [bx b1 3 ([.int .i64 (x19)]), bx b2 70 ([.func (.func 35) #[] #[.pointer (some ⟨b3, 0, none⟩), .pointer (some ⟨b4, 0, none⟩)]]), bx b3 22 ([.slice A21 (List.length (x20)) c22]), bx b4 3 ([.int .i64 (x24)])] w D7 [bx b1 3 ([.int .i64 (x19)]), bx b2 70 ([.func (.func 35) #[] #[.pointer (some ⟨b3, 0, none⟩), .pointer (some ⟨b4, 0, none⟩)]]), bx b3 22 ([.slice A21 (List.length (x20)) c22]), bx b4 3 ([.int .i64 (x24)]), bx b5 22 ([.slice A10 (List.length (x9)) c11]), bx b6 27 (c_T_api_Point (x13) A14 c15), bx b7 35 ([.int .u32 (x17)]), bx b8 4 ([.bool (x18)]), bx b9 32 (c_T_api_Bundle (z_T_api_Bundle) none 0 none 0), bx b10 4 ([.bool false]), bx b12 40 ([.slice A2 (List.length (r1)) c2]), bx b11 32 (c_T_api_Bundle ((T_api_Bundle.mk (x18) (y2) (y1.2))) A1 c1 A3 c3), q2 .busy none, dk d13239, q1] ∧ Snap.le D12 D7 ∧ j4 y5 = some s1) ?_ ?_
   ·clear hj4
    refine ra ?_
    refine sN 3 3 [(56, .bool ((decide (y1.1 < (0 : Int)))))] hE fun a hE => ?_
    refine bo ((decide (y1.1 < (0 : Int)))) (fun hb => ?_) fun hb => ?_
    ·replace hf := cf hb hf
     have hE := hE.know (t := 56) rfl hb
     refine sM 5 8 [6] [(61, .bool ((decide (x13.fSize ≤ y1.1))))] hE hS fun a hE => ?_
     refine ae ?_
     have hS := hS.p (.d 3 (.d 4 (.d 1 (.d 2 (.d 5 (.d 6 (.d 7 (.d 8 (.d 9 (.d 10 (.d 11 (.d 12 (.d 0 (.d 13 (.d 14 .n)))))))))))))))
     exact ⟨(decide (x13.fSize ≤ y1.1)), D12, hE.wk, hS, lr, hf⟩
    replace hf := ct hb hf
    have hE := hE.know (t := 56) rfl hb
    refine sN 5 8 [(61, .bool true)] hE fun a hE => ?_
    refine ae ?_
    have hS := hS.p (.d 3 (.d 4 (.d 1 (.d 2 (.d 5 (.d 6 (.d 7 (.d 8 (.d 9 (.d 10 (.d 11 (.d 12 (.d 0 (.d 13 (.d 14 .n)))))))))))))))
    exact ⟨true, D12, hE.wk, hS, lr, hf⟩
   clear hE hS
   rintro a w ⟨y5, D7, hE, hS, le5, hf⟩
   replace hf := hj4 _ hf
   clear hj4
   refine cond_split hE (b := y5) rfl (fun hb => ?_) (fun hb => ?_)
   ·replace hf := ct hb hf
    refine sq (ra ?_)
    refine at_op (op_tk hE (tk_build (c_T_api_Bundle (z_T_api_Bundle) none 0 none 0) rfl rfl rfl rfl hE rfl rfl (by kernel_rfl) (fun a hE => ?_))) rfl
    have hS := hS.p (.d 8 (.d 0 (.d 1 (.d 2 (.d 3 (.d 4 (.d 5 (.d 6 (.d 7 (.d 9 (.d 10 (.d 11 (.d 12 (.d 13 (.d 14 .n)))))))))))))))
    refine at_op (op_store (v := .agg (List.toArray (c_T_api_Bundle (z_T_api_Bundle) none 0 none 0))) (c_T_api_Bundle (z_T_api_Bundle) none 0 none 0) rfl rfl rfl rfl hE hS rfl rfl (by kernel_rfl) (by kernel_rfl) (by kernel_rfl) (by kernel_rfl) (by kernel_rfl) (fun a w _ hE hS => ?_)) rfl
    have hS := hS.p (.d 9 (.d 0 (.d 1 (.d 2 (.d 3 (.d 4 (.d 5 (.d 6 (.d 7 (.d 8 (.d 10 (.d 11 (.d 12 (.d 13 (.d 14 .n)))))))))))))))
    refine at_op (op_store (v := .bool false) ([.bool false]) rfl rfl rfl rfl hE hS rfl rfl (by kernel_rfl) (by kernel_rfl) (by kernel_rfl) (by kernel_rfl) (by kernel_rfl) (fun a w _ hE hS => ?_)) rfl
    refine ae ?_
    refine wpIn_ret ?_
    refine ret_ ?_
    have hS := hS.p (.d 12 (.d 0 (.d 1 (.d 2 (.d 3 (.d 4 (.d 5 (.d 6 (.d 7 (.d 8 (.d 9 (.d 10 (.d 11 (.d 13 (.d 14 .n)))))))))))))))
    refine round_ret2 (a1 := a) hq1 hS (fun w a hS hE => ?_)
    refine sN 2 9 [(17, .bool true)] hE fun a hE => ?_
    refine ae ?_
    refine wpIn_cond_true (hE.eval rfl) ?_
    refine wpIn_ret ?_
    obtain rfl := si hf
    have hS := hS.p (.d 3 (.d 4 (.d 5 (.d 6 (.d 7 (.d 8 (.d 9 (.d 10 (.d 2 (.d 1 (.d 11 (.d 12 (.d 0 (.d 13 (.d 14 .n)))))))))))))))
    exact ⟨y1.2, A3, c3, q1, D7, hE.wk, hS, (le2 (le2 le4 le1) le5), (h1.mono (le2 le1 le5)), rfl⟩
   replace hf := cf hb hf
   refine wpIn_skip ?_
   obtain ⟨j5, hj5, hf⟩ := jn_elim hf
   refine seq_join (fun a w => ∃ (y3 : T_api_Rec), ∃ A5, ∃ c5, ∃ A6, ∃ c6, ∃ b13, ∃ D3, Env a 92 [] [(5, .pointer (some ⟨b5, 0, none⟩)), (6, .pointer (some ⟨b6, 0, none⟩)), (7, .pointer (some ⟨b7, 0, none⟩)), (8, .pointer (some ⟨b8, 0, none⟩)), (10, .pointer (some ⟨b9, 0, none⟩)), (11, .pointer (some ⟨b10, 0, none⟩)), (12, .pointer (some ⟨b12, 0, none⟩)), (13, .pointer (some ⟨b11, 0, none⟩)), (14, .int .i64 (y1.1)), (15, .pointer (some ⟨b13, 0, none⟩)), (52, .func (.func 64) #[] #[.pointer (some ⟨b1, 0, none⟩), .pointer (some ⟨b2, 0, none⟩)]), (53, .int .i64 (y1.1)), (61, .bool (y5))] ∧ Stp g w0 D0 [bx b1 3 ([.int .i64 (x19)]), bx b2 70 ([.func (.func 35) #[] #[.pointer (some ⟨b3, 0, none⟩), .pointer (some ⟨b4, 0, none⟩)]]), bx b3 22 ([.slice A21 (List.length (x20)) c22]), bx b4 3 ([.int .i64 (x24)])] w D3 [bx b13 42 (c_T_api_Item ((T_api_Item.mk (y1.1) (y3) (([] : List (Vector Int 32))))) A5 c5 A6 c6 none 0), bx b1 3 ([.int .i64 (x19)]), bx b2 70 ([.func (.func 35) #[] #[.pointer (some ⟨b3, 0, none⟩), .pointer (some ⟨b4, 0, none⟩)]]), bx b3 22 ([.slice A21 (List.length (x20)) c22]), bx b4 3 ([.int .i64 (x24)]), bx b5 22 ([.slice A10 (List.length (x9)) c11]), bx b6 27 (c_T_api_Point (x13) A14 c15), bx b7 35 ([.int .u32 (x17)]), bx b8 4 ([.bool (x18)]), bx b9 32 (c_T_api_Bundle (z_T_api_Bundle) none 0 none 0), bx b10 4 ([.bool false]), bx b12 40 ([.slice A2 (List.length (r1)) c2]), bx b11 32 (c_T_api_Bundle ((T_api_Bundle.mk (x18) (y2) (y1.2))) A1 c1 A3 c3), q2 .busy none, dk d13239, q1] ∧ Snap.le D7 D3 ∧ Sl kd_T_api_Step D3 A5 c5 (y3.fSteps) ∧ Sl (kdInt .u8) D3 A6 c6 (y3.fData) ∧ j5 y3 = some s1) ?_ ?_
   ·clear hj5
    refine region_draw (fun j => RD D7 (plOf [] [b5, b7] j)) (by kernel_rfl) ?_
    have hS := hS.drew
    first | generalize w.drew = w at hS ⊢ | generalize w0.drew = w at hS ⊢
    refine wP 0 1 10 (.int .i64 (y1.1)) hE fun a hE => ?_
    refine wP 2 5 9 (.int .i64 (y1.1)) hE fun a hE => ?_
    refine wP 5 37 8 (.int .i64 (y1.1)) hE fun a hE => ?_
    refine tD 1 39 (fuel := 7) (by kernel_rfl) hE (tk_load 4 (.slice A10 (List.length (x9)) c11) rfl rfl rfl rfl hE rfl hS rfl rfl (by kernel_rfl) (fun _ h => h.1.at_ (List.Mem.head _)) (fun a hE => ?_))
    obtain ⟨x1, h22, hf⟩ := bs hf
    refine tW 3 47 (fuel := 6) (by kernel_rfl) hE (fun M => g_index (K := kd_T_api_Rec) (e := 39) (by_ := 224) (zl := 109) rfl rfl rfl rfl hE rfl rfl rfl (by kernel_rfl) rfl (h12.mono (le2 (le2 (le2 (le2 (le2 le3 le6) le7) le4) le1) le5)) h22 (fun a b18 o1 hE h24 => ?_))
    obtain ⟨cs1, C1, T1, fr1, hr1, hb1, hc1⟩ := id h24
    obtain ⟨A23, c23, A24, c24, rfl, h4, h5⟩ := kd_T_api_Rec_el hr1
    refine tD 4 63 (fuel := 5) (by kernel_rfl) hE (tk_loadX (off0 := o1) (off := 0) (c := c_T_api_Rec (x1) A23 c23 A24 c24) (.agg (List.toArray (c_T_api_Rec (x1) A23 c23 A24 c24))) rfl rfl rfl rfl hE rfl hS rfl hb1 hc1 (by kernel_rfl) (by kernel_rfl) (fun _ h => h.2 hS.st.sees) (fun a hE => ?_))
    refine tD 6 127 (fuel := 4) (by kernel_rfl) hE (tk_load 6 (.int .u32 (x17)) rfl rfl rfl rfl hE rfl hS rfl rfl (by kernel_rfl) (fun _ h => h.1.at_ (List.Mem.tail _ (List.Mem.head _))) (fun a hE => ?_))
    refine twoB (i := 7) (j := 9) (fuel := 3) (m1 := 255) (m2 := 639) (by kernel_rfl) (by kernel_rfl) (by kernel_rfl) ?_ ?_
    ·have hp_b8824 := hS.heapAt (j := 4) rfl
     have hp_b8828 := hS.heapAt (j := 6) rfl
     obtain ⟨r4, h25, hf⟩ := bs hf
     refine (op_call rfl rfl rfl rfl hE rfl rfl rfl rfl (by kernel_rfl) (export_masked.calls h25 (hS.st.fore (L := [])) h4 h5 (hG0.mono (le2 (le2 (le2 (le2 (le2 le3 le6) le7) le4) le1) le5)) (hG1.mono (le2 (le2 (le2 (le2 (le2 le3 le6) le7) le4) le1) le5))) (fun a v w hR hE => ?_))
     obtain ⟨D18, A12, c12, A13, c13, rfl, hS1, h26, h27⟩ := hR
     have le11 := hS1.dle
     have hS := hS.callR hS1 rfl .n
     refine ⟨⟨show RP [b5, b7] _ _ from ⟨(hS.heapAt (j := 4) rfl).trans hp_b8824.symm, ⟨(hS.heapAt (j := 6) rfl).trans hp_b8828.symm, trivial⟩⟩, fun _ => hS.st.sees.mono le11⟩, ?_⟩
     clear hp_b8824 hp_b8828
     refine tW 8 511 (fuel := 2) (by kernel_rfl) hE (fun M => tk_build (c_T_api_Item ((T_api_Item.mk (y1.1) (r4) (([] : List (Vector Int 32))))) A12 c12 A13 c13 none 0) rfl rfl rfl rfl hE rfl rfl (by kernel_rfl) (fun a hE => ?_))
     have hp_b8824 := hS.heapAt (j := 4) rfl
     have hp_b8828 := hS.heapAt (j := 6) rfl
     refine oG 9 1023 (fuel := 1) (by kernel_rfl) (op_alloc (z := .agg (List.toArray (c_T_api_Item (z_T_api_Item) none 0 none 0 none 0))) rfl rfl rfl rfl hE rfl hS (by kernel_rfl) (fun a b16 w _ hE hS => ?_))
     refine ⟨⟨show RP [b5, b7] _ _ from ⟨(hS.heapAt (j := 5) rfl).trans hp_b8824.symm, ⟨(hS.heapAt (j := 7) rfl).trans hp_b8828.symm, trivial⟩⟩, fun _ => hS.st.sees.mono le11⟩, ?_⟩
     clear hp_b8824 hp_b8828
     have hp_b8824 := hS.heapAt (j := 5) rfl
     have hp_b8828 := hS.heapAt (j := 7) rfl
     refine oG 10 2047 (fuel := 0) (by kernel_rfl) (op_store (v := .agg (List.toArray (c_T_api_Item ((T_api_Item.mk (y1.1) (r4) (([] : List (Vector Int 32))))) A12 c12 A13 c13 none 0))) (c_T_api_Item ((T_api_Item.mk (y1.1) (r4) (([] : List (Vector Int 32))))) A12 c12 A13 c13 none 0) rfl rfl rfl rfl hE hS rfl rfl (by kernel_rfl) (by kernel_rfl) (by kernel_rfl) (by kernel_rfl) (by kernel_rfl) (fun a w _ hE hS => ?_))
     refine ⟨⟨show RP [b5, b7] _ _ from ⟨(hS.heapAt (j := 5) rfl).trans hp_b8824.symm, ⟨(hS.heapAt (j := 7) rfl).trans hp_b8828.symm, trivial⟩⟩, fun _ => hS.st.sees.mono le11⟩, ?_⟩
     clear hp_b8824 hp_b8828
     refine doneG (by kernel_rfl) ?_
     exact ⟨r4, A12, c12, A13, c13, b16, D18, hE.wk, hS, le11, h26, h27, hf⟩
    have hp_b8824 := hS.heapAt (j := 4) rfl
    have hp_b8828 := hS.heapAt (j := 6) rfl
    refine (op_alloc (z := .agg (List.toArray (c_T_api_Item (z_T_api_Item) none 0 none 0 none 0))) rfl rfl rfl rfl hE rfl hS (by kernel_rfl) (fun a b17 w _ hE hS => ?_))
    refine ⟨⟨show RP [b5, b7] _ _ from ⟨(hS.heapAt (j := 5) rfl).trans hp_b8824.symm, ⟨(hS.heapAt (j := 7) rfl).trans hp_b8828.symm, trivial⟩⟩, fun _ => hS.st.sees⟩, ?_⟩
    clear hp_b8824 hp_b8828
    have hp_b8824 := hS.heapAt (j := 5) rfl
    have hp_b8828 := hS.heapAt (j := 7) rfl
    obtain ⟨r5, h28, hf⟩ := bs hf
    refine oC 7 767 2 rfl rfl rfl rfl hE rfl rfl rfl rfl (export_masked.calls h28 (hS.st.fore (L := [])) h4 h5 (hG0.mono (le2 (le2 (le2 (le2 (le2 le3 le6) le7) le4) le1) le5)) (hG1.mono (le2 (le2 (le2 (le2 (le2 le3 le6) le7) le4) le1) le5))) fun a v w hR hE => ?_
    obtain ⟨D19, A15, c14, A16, c16, rfl, hS1, h29, h30⟩ := hR
    have le16 := hS1.dle
    have hS := hS.callR hS1 rfl .n
    refine ⟨⟨show RP [b5, b7] _ _ from ⟨(hS.heapAt (j := 5) rfl).trans hp_b8824.symm, ⟨(hS.heapAt (j := 7) rfl).trans hp_b8828.symm, trivial⟩⟩, fun _ => hS.st.sees.mono le16⟩, ?_⟩
    clear hp_b8824 hp_b8828
    refine tW 8 1023 (fuel := 1) (by kernel_rfl) hE (fun M => tk_build (c_T_api_Item ((T_api_Item.mk (y1.1) (r5) (([] : List (Vector Int 32))))) A15 c14 A16 c16 none 0) rfl rfl rfl rfl hE rfl rfl (by kernel_rfl) (fun a hE => ?_))
    have hp_b8824 := hS.heapAt (j := 5) rfl
    have hp_b8828 := hS.heapAt (j := 7) rfl
    refine oG 10 2047 (fuel := 0) (by kernel_rfl) (op_store (v := .agg (List.toArray (c_T_api_Item ((T_api_Item.mk (y1.1) (r5) (([] : List (Vector Int 32))))) A15 c14 A16 c16 none 0))) (c_T_api_Item ((T_api_Item.mk (y1.1) (r5) (([] : List (Vector Int 32))))) A15 c14 A16 c16 none 0) rfl rfl rfl rfl hE hS rfl rfl (by kernel_rfl) (by kernel_rfl) (by kernel_rfl) (by kernel_rfl) (by kernel_rfl) (fun a w _ hE hS => ?_))
    refine ⟨⟨show RP [b5, b7] _ _ from ⟨(hS.heapAt (j := 5) rfl).trans hp_b8824.symm, ⟨(hS.heapAt (j := 7) rfl).trans hp_b8828.symm, trivial⟩⟩, fun _ => hS.st.sees.mono le16⟩, ?_⟩
    clear hp_b8824 hp_b8828
    refine doneG (by kernel_rfl) ?_
    exact ⟨r5, A15, c14, A16, c16, b17, D19, hE.wk, hS, le16, h29, h30, hf⟩
   clear hE hS
   rintro a w ⟨y3, A5, c5, A6, c6, b13, D3, hE, hS, le8, h31, h32, hf⟩
   replace hf := hj5 _ hf
   clear hj5
   obtain ⟨j6, hj6, hf⟩ := jn_elim hf
   refine seq_join (fun a w => ∃ (y4 : (List (Vector Int 32))), ∃ A9, ∃ c9, ∃ q6, ∃ D13, Env a 92 [] [(5, .pointer (some ⟨b5, 0, none⟩)), (6, .pointer (some ⟨b6, 0, none⟩)), (7, .pointer (some ⟨b7, 0, none⟩)), (8, .pointer (some ⟨b8, 0, none⟩)), (10, .pointer (some ⟨b9, 0, none⟩)), (11, .pointer (some ⟨b10, 0, none⟩)), (12, .pointer (some ⟨b12, 0, none⟩)), (13, .pointer (some ⟨b11, 0, none⟩)), (14, .int .i64 (y1.1)), (15, .pointer (some ⟨b13, 0, none⟩)), (52, .func (.func 64) #[] #[.pointer (some ⟨b1, 0, none⟩), .pointer (some ⟨b2, 0, none⟩)]), (53, .int .i64 (y1.1)), (61, .bool (y5)), (73, .bool ((!x18)))] ∧ Stp g w0 D0 [bx b1 3 ([.int .i64 (x19)]), bx b2 70 ([.func (.func 35) #[] #[.pointer (some ⟨b3, 0, none⟩), .pointer (some ⟨b4, 0, none⟩)]]), bx b3 22 ([.slice A21 (List.length (x20)) c22]), bx b4 3 ([.int .i64 (x24)])] w D13 [bx b1 3 ([.int .i64 (x19)]), bx b2 70 ([.func (.func 35) #[] #[.pointer (some ⟨b3, 0, none⟩), .pointer (some ⟨b4, 0, none⟩)]]), bx b3 22 ([.slice A21 (List.length (x20)) c22]), bx b4 3 ([.int .i64 (x24)]), bx b5 22 ([.slice A10 (List.length (x9)) c11]), bx b6 27 (c_T_api_Point (x13) A14 c15), bx b7 35 ([.int .u32 (x17)]), bx b8 4 ([.bool (x18)]), bx b9 32 (c_T_api_Bundle (z_T_api_Bundle) none 0 none 0), bx b10 4 ([.bool false]), bx b12 40 ([.slice A2 (List.length (r1)) c2]), bx b11 32 (c_T_api_Bundle ((T_api_Bundle.mk (x18) (y2) (y1.2))) A1 c1 A3 c3), bx b13 42 (c_T_api_Item ((T_api_Item.mk (y1.1) (y3) (y4))) A5 c5 A6 c6 A9 c9), q2 .busy none, dk d13239, q1, q6] ∧ Snap.le D3 D13 ∧ OwnD (kdArr .u8 32) 24 D13 A9 c9 (y4) q6 ∧ j6 y4 = some s1) ?_ ?_
   ·clear hj6
    refine sq (ra ?_)
    refine sM 2 2 [8] [(73, .bool ((!x18)))] hE hS fun a hE => ?_
    refine ae ?_
    refine cond_split hE (b := (!x18)) rfl (fun hb => ?_) (fun hb => ?_)
    ·replace hf := ct hb hf
     refine ra ?_
     refine sM 2 2 [11] [(75, .slice A2 (List.length (r1)) c2), (76, .int .i64 (y1.1))] hE hS fun a hE => ?_
     obtain ⟨r6, h33, hf⟩ := bs hf
     refine aC rfl rfl rfl rfl hE rfl rfl rfl rfl (proof_Path.calls h33 (hS.st.fore (L := [])) (h10.mono (le2 (le2 (le2 (le2 le7 le4) le1) le5) le8)) (hG0.mono (le2 (le2 (le2 (le2 (le2 (le2 le3 le6) le7) le4) le1) le5) le8)) (hG1.mono (le2 (le2 (le2 (le2 (le2 (le2 le3 le6) le7) le4) le1) le5) le8))) fun a v w hR hE => ?_
     obtain ⟨D20, A17, c17, q7, rfl, hS1, h34⟩ := hR
     have le23 := hS1.dle
     have hS := hS.callR hS1 rfl (.c .n)
     refine sM 4 7 [] [(78, .slice A17 (List.length (r6.1)) c17), (80, .pointer (some ⟨b13, 110, none⟩))] hE hS fun a hE => ?_
     have hS := hS.p (.d 1 (.d 0 (.d 2 (.d 3 (.d 4 (.d 5 (.d 6 (.d 7 (.d 8 (.d 9 (.d 10 (.d 11 (.d 12 (.d 13 (.d 14 (.d 15 (.d 16 .n)))))))))))))))))
     refine at_op (op_store (v := .slice A17 (List.length (r6.1)) c17) (c_T_api_Item ((T_api_Item.mk (y1.1) (y3) (r6.1))) A5 c5 A6 c6 A17 c17) rfl rfl rfl rfl hE hS rfl rfl (by kernel_rfl) (by kernel_rfl) (by kernel_rfl) (by kernel_rfl) (by kernel_rfl) (fun a w _ hE hS => ?_)) rfl
     refine ae ?_
     have hS := hS.p (.d 2 (.d 3 (.d 4 (.d 5 (.d 6 (.d 7 (.d 8 (.d 9 (.d 10 (.d 11 (.d 12 (.d 13 (.d 0 (.d 14 (.d 15 (.d 16 (.d 1 .n)))))))))))))))))
     exact ⟨r6.1, A17, c17, q7, D20, hE.wk, hS, le23, h34, hf⟩
    replace hf := cf hb hf
    refine wpIn_skip ?_
    have hS := hS.nils
    have hS := hS.p (.d 2 (.d 3 (.d 4 (.d 5 (.d 6 (.d 7 (.d 8 (.d 9 (.d 10 (.d 11 (.d 12 (.d 13 (.d 1 (.d 14 (.d 15 (.d 16 (.d 0 .n)))))))))))))))))
    exact ⟨([] : List (Vector Int 32)), none, 0, none, D3, hE.wk, hS, lr, (OwnD.nil (kdArr .u8 32) 24 D3), hf⟩
   clear hE hS
   rintro a w ⟨y4, A9, c9, q6, D13, hE, hS, le12, h35, hf⟩
   replace hf := hj6 _ hf
   clear hj6
   refine ra ?_
   refine sM 3 3 [11, 12] [(82, .slice A3 (List.length (y1.2)) c3), (83, .agg (List.toArray (c_T_api_Item ((T_api_Item.mk (y1.1) (y3) (y4))) A5 c5 A6 c6 A9 c9)))] hE hS fun a hE => ?_
   have hS := hS.p (.d 16 (.d 0 (.d 1 (.d 2 (.d 3 (.d 4 (.d 5 (.d 6 (.d 7 (.d 8 (.d 9 (.d 10 (.d 11 (.d 12 (.d 13 (.d 14 (.d 15 .n)))))))))))))))))
   obtain ⟨D15, q14, le13, hS, h47, h36⟩ := hS.lent h35
   refine at_op (op_buildSlice (K := kd_T_api_Item) (e := 42) (cs := (c_T_api_Item ((T_api_Item.mk (y1.1) (y3) (y4))) A5 c5 A6 c6 A9 c9) ++ []) ([(T_api_Item.mk (y1.1) (y3) (y4))] : List T_api_Item) rfl rfl rfl rfl hE rfl hS rfl (by kernel_rfl) rfl rfl (by exact ⟨_, _, rfl, (kd_T_api_Item_mk (D := D15) (x := (T_api_Item.mk (y1.1) (y3) (y4))) rfl (kd_T_api_Rec_mk (D := D15) (x := y3) rfl rfl rfl rfl rfl rfl rfl rfl rfl rfl rfl (kslice (h31.mono (le2 le12 le13))) (kslice (h32.mono (le2 le12 le13))) rfl rfl rfl) (kslice h36)), rfl⟩) (fun a A26 q15 w _ hE h37 hS => ?_)) rfl
   obtain ⟨D25, q16, le21, hS, h48, h38⟩ := hS.lent h37
   have hS := hS.p (.d 17 (.d 0 (.d 1 (.d 2 (.d 3 (.d 4 (.d 5 (.d 6 (.d 7 (.d 8 (.d 9 (.d 10 (.d 11 (.d 12 (.d 13 (.d 14 (.d 15 (.d 16 .n))))))))))))))))))
   obtain ⟨D21, q17, le22, hS, h39, h49⟩ := hS.lent (h1.mono (le2 (le2 (le2 (le2 (le2 le1 le5) le8) le12) le13) le21))
   obtain ⟨l2, h40, hf⟩ := bs hf
   refine at_op (g_append (K := kd_T_api_Item) (e := 42) (bytes := 256) (l := y1.2) (m := ([(T_api_Item.mk (y1.1) (y3) (y4))] : List T_api_Item)) rfl rfl rfl rfl hE rfl hS rfl rfl (by kernel_rfl) rfl rfl h39 (h38.mono le22) h40 (fun a A19 c19 q8 w _ hE h41 hS => ?_)) rfl
   refine sM 1 6 [] [(86, .pointer (some ⟨b11, 35, none⟩))] hE hS fun a hE => ?_
   have hS := hS.p (.d 14 (.d 0 (.d 1 (.d 2 (.d 3 (.d 4 (.d 5 (.d 6 (.d 7 (.d 8 (.d 9 (.d 10 (.d 11 (.d 12 (.d 13 (.d 15 (.d 16 (.d 17 .n))))))))))))))))))
   refine at_op (op_store (v := .slice A19 (List.length (l2)) c19) (c_T_api_Bundle ((T_api_Bundle.mk (x18) (y2) (l2))) A1 c1 A19 c19) rfl rfl rfl rfl hE hS rfl rfl (by kernel_rfl) (by kernel_rfl) (by kernel_rfl) (by kernel_rfl) (by kernel_rfl) (fun a w _ hE hS => ?_)) rfl
   refine ae ?_
   have hS := hS.p (.d 16 (.d 0 (.d 1 (.d 2 (.d 3 (.d 4 (.d 5 (.d 6 (.d 7 (.d 8 (.d 9 (.d 10 (.d 11 (.d 12 (.d 13 (.d 14 (.d 15 (.d 17 .n))))))))))))))))))
   refine round_normal2 (a1 := a) hq1 hS (fun w a hS hE => ?_)
   refine sN 2 9 [(17, .bool false)] hE fun a hE => ?_
   refine ae ?_
   refine wpIn_cond_false (hE.eval rfl) ?_
   refine wpIn_skip ?_
   have hS := hS.p (.d 5 (.d 6 (.d 7 (.d 8 (.d 9 (.d 10 (.d 11 (.d 12 (.d 13 (.d 14 (.d 15 (.d 1 (.d 0 (.d 17 (.d 2 .n)))))))))))))))
   exact ⟨l2, A19, c19, q8, D21, hE.wk, hS, (le2 (le2 (le2 (le2 (le2 (le2 le1 le5) le8) le12) le13) le21) le22), h41, hf⟩
  clear hE hS
  rintro a w ⟨y6, A11, c10, q3, D8, hE, hS, le24, h42, hf⟩
  replace hf := hj3 _ hf
  clear hj3
  refine ra ?_
  refine sN 2 2 [(6, .int .i64 ((IntKind.wrap .i64 (y1.1 + (1 : Int)))))] hE fun a hE => ?_
  exact ae ⟨((IntKind.wrap .i64 (y1.1 + (1 : Int))), y6), A11, c10, q3, D8, hE.wk, hS, (le2 le4 le24), h42, hf⟩
 replace hf := cf hb hf
 refine wpIn_exit ?_
 obtain rfl := si hf
 exact ⟨y1.2, A3, c3, q1, D6, hE.wk, hS, le4, h1, rfl⟩
set_option maxRecDepth 100000 in
theorem export_Saga.calls {K : Nat} {g w0 : World} {D0 : Snap} {x1 : (List T_api_Rec)} {x5 : T_api_Point} {x9 : Int} {x10 : Int} {A2 : Option Addr} {c3 : Nat} {A6 : Option Addr} {c7 : Nat} {r : (T_api_Bundle × Bool)} (hf : export_Saga.f K x1 x5 x9 x10 = some r) (hS0 : St g w0 D0 []) (h4 : Sl kd_T_api_Rec D0 A2 c3 (x1)) (h8 : Sl kd_T_api_Sig D0 A6 c7 (x5.fSigs)) (hG0 : Cell (kdArr .u32 8) D0 0 0 gl_First) (hG1 : Cell (kdArr .u32 64) D0 1 0 gl_K) :
  CallsIn (Fw none) 0 Tryd.prog 15 (List.toArray [.slice A2 (List.length (x1)) c3, .agg (List.toArray (c_T_api_Point (x5) A6 c7)), .int .u32 (x9), .int .i64 (x10)]) w0 (fun e w' => ∃ v, e = .returned v ∧ ∃ (D1 : Snap) (A59 : Option Addr) (c60 : Nat) (A62 : Option Addr) (c63 : Nat), v = .tuple #[.agg (List.toArray (c_T_api_Bundle ((T_api_Bundle.mk (r.1.fWhole) ((T_api_Point.mk (r.1.fPoint.fSize) (r.1.fPoint.fRoot) (r.1.fPoint.fSigs))) (r.1.fItems))) A59 c60 A62 c63)), .bool (r.2)] ∧ Stp g w0 D0 [] w' D1 [] ∧ Sl kd_T_api_Sig D1 A59 c60 (r.1.fPoint.fSigs) ∧ Sl kd_T_api_Item D1 A62 c63 (r.1.fItems)) := by
 unfold export_Saga.f at hf
 have hS := Stp.refl hS0
 clear hS0
 refine calls_body (n := 24) Tryd.func15 rfl Tryd.ntmps15 rfl fun a hE => ?_
 have hE : Env a 24 [] [(0, .slice A2 (List.length (x1)) c3), (1, .agg (List.toArray (c_T_api_Point (x5) A6 c7))), (2, .int .u32 (x9)), (3, .int .i64 (x10))] := hE
 refine sq (ra ?_)
 refine at_op (op_box rfl rfl rfl rfl hE rfl hS rfl (fun a b65 w _ hE hS => ?_)) rfl
 refine at_op (op_box rfl rfl rfl rfl hE rfl hS rfl (fun a b67 w _ hE hS => ?_)) rfl
 refine at_op (op_box rfl rfl rfl rfl hE rfl hS rfl (fun a b69 w _ hE hS => ?_)) rfl
 refine at_op (op_alloc (z := .agg (List.toArray (c_T_api_Bundle (z_T_api_Bundle) none 0 none 0))) rfl rfl rfl rfl hE rfl hS (by kernel_rfl) (fun a b71 w _ hE hS => ?_)) rfl
 refine sN 1 5 [(9, .bool false)] hE fun a hE => ?_
 refine ae ?_
 refine sq ?_
 refine region_draw (fun j => Keeps (mfOf [(14, [b71])] j)) (by kernel_rfl) ?_
 have hS := hS.drew
 first | generalize w.drew = w at hS ⊢ | generalize w0.drew = w at hS ⊢
 refine wP 2 4 15 (.int .u32 (x9)) hE fun a hE => ?_
 refine wP 9 516 14 (.func (.func 35) #[] #[.pointer (some ⟨b65, 0, none⟩), .pointer (some ⟨b69, 0, none⟩)]) hE fun a hE => ?_
 refine tL 0 517 13 3 (.slice A2 (List.length (x1)) c3) hE hS fun a hE => ?_
 refine tL 1 519 12 2 (.agg (List.toArray (c_T_api_Point (x5) A6 c7))) hE hS fun a hE => ?_
 refine wF 3 527 11 0 3 0 hE fun a hE => ?_
 refine tL 4 543 10 2 (.int .i64 (x5.fSize)) hE hS fun a hE => ?_
 refine wP 5 575 9 (.int .i64 ((maxI (0 : Int) x5.fSize))) hE fun a hE => ?_
 refine tL 6 639 8 3 (.slice A2 (List.length (x1)) c3) hE hS fun a hE => ?_
 refine wP 7 767 7 (.int .i64 (((List.length (x1) : Nat) : Int))) hE fun a hE => ?_
 refine wP 8 1023 6 (.int .i64 ((minI (maxI (0 : Int) x5.fSize) ((List.length (x1) : Nat) : Int)))) hE fun a hE => ?_
 have hS := hS.p (.d 3 (.d 1 (.d 0 (.d 2 .n))))
 obtain ⟨r93, h94, hf⟩ := bs hf
 refine oC 10 2047 5 rfl rfl rfl rfl hE rfl rfl rfl rfl (export_those_v3.calls h94 (hS.st.fore (L := [bx b65 22 ([.slice A2 (List.length (x1)) c3]), bx b69 3 ([.int .i64 (x10)])])) h4) fun a v w hR hE => ?_
 obtain ⟨D95, b97, b98, rfl, hS1⟩ := hR
 refine ⟨(hS1.keeps.sub (M' := []) ⟨.inr ((hS1.heapAt (j := 0) rfl).trans (hS.heapAt (j := 0) rfl).symm), .inr ((hS1.heapAt (j := 1) rfl).trans (hS.heapAt (j := 1) rfl).symm), trivial⟩).mono (fun _ h => h), ?_⟩
 have le1 := hS1.dle
 have hS := hS.callR hS1 rfl (.c (.c (.c (.c .n))))
 have hS := hS.p (.d 2 (.d 3 (.d 0 (.d 1 (.d 4 (.d 5 .n))))))
 obtain ⟨r1, h1, hf⟩ := bs hf
 refine oC 11 4095 4 rfl rfl rfl rfl hE rfl rfl rfl rfl (export_made_v3.calls h1 (hS.st.fore (L := [bx b97 3 ([.int .i64 (r93)]), bx b98 70 ([.func (.func 35) #[] #[.pointer (some ⟨b65, 0, none⟩), .pointer (some ⟨b69, 0, none⟩)]]), bx b65 22 ([.slice A2 (List.length (x1)) c3]), bx b69 3 ([.int .i64 (x10)])])) (h4.mono le1) (h8.mono le1) (h4.mono le1) (hG0.mono le1) (hG1.mono le1)) fun a v w hR hE => ?_
 obtain ⟨D2, A1, c1, A3, c2, rfl, hS1, h2, h3⟩ := hR
 refine ⟨(hS1.keeps.sub (M' := []) ⟨.inr ((hS1.heapAt (j := 0) rfl).trans (hS.heapAt (j := 0) rfl).symm), .inr ((hS1.heapAt (j := 1) rfl).trans (hS.heapAt (j := 1) rfl).symm), .inr ((hS1.heapAt (j := 2) rfl).trans (hS.heapAt (j := 2) rfl).symm), .inr ((hS1.heapAt (j := 3) rfl).trans (hS.heapAt (j := 3) rfl).symm), trivial⟩).mono (fun _ h => h), ?_⟩
 have le2 := hS1.dle
 have hS := hS.callR hS1 rfl (.c (.c (.c (.c .n))))
 refine wP 12 8191 3 (.agg (List.toArray (c_T_api_Bundle (r1.1) A1 c1 A3 c2))) hE fun a hE => ?_
 refine wP 13 16383 2 (.bool (r1.2)) hE fun a hE => ?_
 have hS := hS.p (.d 4 (.d 0 (.d 1 (.d 2 (.d 3 (.d 5 .n))))))
 refine oG 14 32767 (fuel := 1) (by kernel_rfl) (op_store (v := .agg (List.toArray (c_T_api_Bundle (r1.1) A1 c1 A3 c2))) (c_T_api_Bundle (r1.1) A1 c1 A3 c2) rfl rfl rfl rfl hE hS rfl rfl (by kernel_rfl) (by kernel_rfl) (by kernel_rfl) (by kernel_rfl) (by kernel_rfl) (fun a w hkp hE hS => ⟨hkp.mono (fun _ h => h), ?_⟩))
 clear hkp
 refine wP 15 65535 0 (.bool (r1.2)) hE fun a hE => ?_
 refine doneG (by kernel_rfl) ?_
 refine wpIn_ret ?_
 obtain rfl := si hf
 refine ret_ ?_
 refine ret_gen ([.agg (List.toArray (c_T_api_Bundle (r1.1) A1 c1 A3 c2)), .bool (r1.2)]) hE (by rw [show Tryd.f15.results.toList = [.cell 8 32, .tmp 9] from rfl]; exact ⟨_, _, _, 0, _, _, rfl, rfl, hS.heapAt (j := 0) rfl, by kernel_rfl, ⟨_, _, rfl, rfl, rfl⟩⟩) ?_
 have hS := hS.p .n
 exact ⟨_, rfl, D2, A1, c1, A3, c2, rfl, hS, h2, h3⟩
set_option maxRecDepth 100000 in
theorem slices_Values_int_int.calls {K : Nat} {g w0 : World} {D0 : Snap} {x1 : (List Int)} {A2 : Option Addr} {c3 : Nat} {r : ((List Int))} (hf : slices_Values_int_int.f K x1 = some r) (hS0 : St g w0 D0 []) (h4 : Sl (kdInt .i64) D0 A2 c3 (x1)) :
  CallsIn (Fw none) 0 Tryd.prog 33 (List.toArray [.slice A2 (List.length (x1)) c3]) w0 (fun e w' => ∃ v, e = .returned v ∧ ∃ (D1 : Snap) (b7 : Nat) (A9 : Option Addr) (c10 : Nat), v = .func (.func 65) #[] #[.pointer (some ⟨b7, 0, none⟩)] ∧ Stp g w0 D0 [] w' D1 [bx b7 47 ([.slice A9 (List.length (r)) c10])] ∧ Sl (kdInt .i64) D1 A9 c10 (r)) := by
 unfold slices_Values_int_int.f at hf
 have hS := Stp.refl hS0
 clear hS0
 refine calls_body (n := 4) Tryd.func33 rfl Tryd.ntmps33 rfl fun a hE => ?_
 have hE : Env a 4 [] [(0, .slice A2 (List.length (x1)) c3)] := hE
 refine sq (ra ?_)
 refine at_op (op_box rfl rfl rfl rfl hE rfl hS rfl (fun a b12 w _ hE hS => ?_)) rfl
 refine sN 1 2 [(2, .nilFunc)] hE fun a hE => ?_
 refine ae ?_
 refine sq (ra ?_)
 refine sN 2 2 [(2, .func (.func 65) #[] #[.pointer (some ⟨b12, 0, none⟩)])] hE fun a hE => ?_
 refine ae ?_
 refine wpIn_ret ?_
 obtain rfl := si hf
 refine ret_ ?_
 refine rT 2 (.func (.func 65) #[] #[.pointer (some ⟨b12, 0, none⟩)]) hE ?_
 exact ⟨_, rfl, D0, b12, A2, c3, rfl, hS, h4⟩
set_option maxRecDepth 100000 in
theorem export_made_v4.calls {K : Nat} {g w0 : World} {D0 : Snap} {x3 : (List T_api_Rec)} {x7 : T_api_Point} {x11 : Int} {x12 : Bool} {x13 : (List Int)} {b1 : Nat} {A4 : Option Addr} {c5 : Nat} {A8 : Option Addr} {c9 : Nat} {A14 : Option Addr} {c15 : Nat} {r : (T_api_Bundle × Bool)} (hf : export_made_v4.f K x3 x7 x11 x12 x13 = some r) (hS0 : St g w0 D0 [bx b1 47 ([.slice A14 (List.length (x13)) c15])]) (h6 : Sl kd_T_api_Rec D0 A4 c5 (x3)) (h10 : Sl kd_T_api_Sig D0 A8 c9 (x7.fSigs)) (h16 : Sl (kdInt .i64) D0 A14 c15 (x13)) (hG0 : Cell (kdArr .u32 8) D0 0 0 gl_First) (hG1 : Cell (kdArr .u32 64) D0 1 0 gl_K) :
  CallsIn (Fw none) 0 Tryd.prog 28 (List.toArray [.slice A4 (List.length (x3)) c5, .agg (List.toArray (c_T_api_Point (x7) A8 c9)), .int .u32 (x11), .bool (x12), .func (.func 65) #[] #[.pointer (some ⟨b1, 0, none⟩)]]) w0 (fun e w' => ∃ v, e = .returned v ∧ ∃ (D1 : Snap) (A20 : Option Addr) (c20 : Nat) (A21 : Option Addr) (c21 : Nat), v = .tuple #[.agg (List.toArray (c_T_api_Bundle ((T_api_Bundle.mk (r.1.fWhole) ((T_api_Point.mk (r.1.fPoint.fSize) (r.1.fPoint.fRoot) (r.1.fPoint.fSigs))) (r.1.fItems))) A20 c20 A21 c21)), .bool (r.2)] ∧ Stp g w0 D0 [bx b1 47 ([.slice A14 (List.length (x13)) c15])] w' D1 [bx b1 47 ([.slice A14 (List.length (x13)) c15])] ∧ Sl kd_T_api_Sig D1 A20 c20 (r.1.fPoint.fSigs) ∧ Sl kd_T_api_Item D1 A21 c21 (r.1.fItems)) := by
 unfold export_made_v4.f at hf
 have hS := Stp.refl hS0
 clear hS0
 refine calls_bodyM (n := 92) Tryd.func28 rfl Tryd.ntmps28 rfl fun a hE => ?_
 have hE : Env a 92 [] [(0, .slice A4 (List.length (x3)) c5), (1, .agg (List.toArray (c_T_api_Point (x7) A8 c9))), (2, .int .u32 (x11)), (3, .bool (x12)), (4, .func (.func 65) #[] #[.pointer (some ⟨b1, 0, none⟩)])] := hE
 refine sq (ra ?_)
 refine at_op (op_box rfl rfl rfl rfl hE rfl hS rfl (fun a b2 w _ hE hS => ?_)) rfl
 refine at_op (op_box rfl rfl rfl rfl hE rfl hS rfl (fun a b3 w _ hE hS => ?_)) rfl
 refine at_op (op_box rfl rfl rfl rfl hE rfl hS rfl (fun a b4 w _ hE hS => ?_)) rfl
 refine at_op (op_box rfl rfl rfl rfl hE rfl hS rfl (fun a b5 w _ hE hS => ?_)) rfl
 refine at_op (op_alloc (z := .agg (List.toArray (c_T_api_Bundle (z_T_api_Bundle) none 0 none 0))) rfl rfl rfl rfl hE rfl hS (by kernel_rfl) (fun a b6 w _ hE hS => ?_)) rfl
 refine at_op (op_alloc (z := .bool false) rfl rfl rfl rfl hE rfl hS (by kernel_rfl) (fun a b7 w _ hE hS => ?_)) rfl
 refine ae ?_
 refine sq ?_
 obtain ⟨j1, hj1, hf⟩ := jn_elim hf
 refine seq_join (fun a w => ∃ (y6 : Bool), ∃ D6, Env a 92 [] [(4, .func (.func 65) #[] #[.pointer (some ⟨b1, 0, none⟩)]), (5, .pointer (some ⟨b2, 0, none⟩)), (6, .pointer (some ⟨b3, 0, none⟩)), (7, .pointer (some ⟨b4, 0, none⟩)), (8, .pointer (some ⟨b5, 0, none⟩)), (10, .pointer (some ⟨b6, 0, none⟩)), (11, .pointer (some ⟨b7, 0, none⟩)), (35, .bool (y6))] ∧ Stp g w0 D0 [bx b1 47 ([.slice A14 (List.length (x13)) c15])] w D6 [bx b1 47 ([.slice A14 (List.length (x13)) c15]), bx b2 22 ([.slice A4 (List.length (x3)) c5]), bx b3 27 (c_T_api_Point (x7) A8 c9), bx b4 35 ([.int .u32 (x11)]), bx b5 4 ([.bool (x12)]), bx b6 32 (c_T_api_Bundle (z_T_api_Bundle) none 0 none 0), bx b7 4 ([.bool false])] ∧ Snap.le D0 D6 ∧ j1 y6 = some r) ?_ ?_
 ·clear hj1
  refine ra ?_
  refine sM 1 1 [5] [(16, .slice A4 (List.length (x3)) c5)] hE hS fun a hE => ?_
  obtain ⟨r7, h7, hf⟩ := bs hf
  refine aC rfl rfl rfl rfl hE rfl rfl rfl rfl (export_right.calls h7 (hS.st.fore (L := [])) h6) fun a v w hR hE => ?_
  obtain ⟨D8, rfl, hS1⟩ := hR
  have le8 := hS1.dle
  have hS := hS.callR hS1 rfl .n
  refine sN 2 4 [(19, .bool ((!r7)))] hE fun a hE => ?_
  refine bo ((!r7)) (fun hb => ?_) fun hb => ?_
  ·replace hf := cf hb hf
   have hE := hE.know (t := 19) rfl hb
   refine sM 5 9 [5] [(24, .bool ((decide ((400 : Int) < ((List.length (x3) : Nat) : Int)))))] hE hS fun a hE => ?_
   refine bo ((decide ((400 : Int) < ((List.length (x3) : Nat) : Int)))) (fun hb => ?_) fun hb => ?_
   ·replace hf := cf hb hf
    have hE := hE.know (t := 24) rfl hb
    refine sM 5 14 [4] [(29, .bool ((decide (x7.fSize < (0 : Int)))))] hE hS fun a hE => ?_
    refine bo ((decide (x7.fSize < (0 : Int)))) (fun hb => ?_) fun hb => ?_
    ·replace hf := cf hb hf
     have hE := hE.know (t := 29) rfl hb
     refine sM 6 20 [4, 5] [(35, .bool ((decide (((List.length (x3) : Nat) : Int) < x7.fSize))))] hE hS fun a hE => ?_
     refine ae ?_
     have hS := hS.p (.d 6 (.d 5 (.d 4 (.d 3 (.d 2 (.d 1 (.d 0 .n)))))))
     exact ⟨(decide (((List.length (x3) : Nat) : Int) < x7.fSize)), D8, hE.wk, hS, le8, hf⟩
    replace hf := ct hb hf
    have hE := hE.know (t := 29) rfl hb
    refine sN 6 20 [(35, .bool true)] hE fun a hE => ?_
    refine ae ?_
    have hS := hS.p (.d 6 (.d 5 (.d 4 (.d 3 (.d 2 (.d 1 (.d 0 .n)))))))
    exact ⟨true, D8, hE.wk, hS, le8, hf⟩
   replace hf := ct hb hf
   have hE := hE.know (t := 24) rfl hb
   refine sN 11 20 [(35, .bool true)] hE fun a hE => ?_
   refine ae ?_
   have hS := hS.p (.d 6 (.d 5 (.d 4 (.d 3 (.d 2 (.d 1 (.d 0 .n)))))))
   exact ⟨true, D8, hE.wk, hS, le8, hf⟩
  replace hf := ct hb hf
  have hE := hE.know (t := 19) rfl hb
  refine sN 16 20 [(35, .bool true)] hE fun a hE => ?_
  refine ae ?_
  have hS := hS.p (.d 6 (.d 5 (.d 4 (.d 3 (.d 2 (.d 1 (.d 0 .n)))))))
  exact ⟨true, D8, hE.wk, hS, le8, hf⟩
 clear hE hS
 rintro a w ⟨y6, D6, hE, hS, le1, hf⟩
 replace hf := hj1 _ hf
 clear hj1
 refine cond_split hE (b := y6) rfl (fun hb => ?_) (fun hb => ?_)
 ·replace hf := ct hb hf
  refine sq (ra ?_)
  refine at_op (op_tk hE (tk_build (c_T_api_Bundle (z_T_api_Bundle) none 0 none 0) rfl rfl rfl rfl hE rfl rfl (by kernel_rfl) (fun a hE => ?_))) rfl
  have hS := hS.p (.d 5 (.d 0 (.d 1 (.d 2 (.d 3 (.d 4 (.d 6 .n)))))))
  refine at_op (op_store (v := .agg (List.toArray (c_T_api_Bundle (z_T_api_Bundle) none 0 none 0))) (c_T_api_Bundle (z_T_api_Bundle) none 0 none 0) rfl rfl rfl rfl hE hS rfl rfl (by kernel_rfl) (by kernel_rfl) (by kernel_rfl) (by kernel_rfl) (by kernel_rfl) (fun a w _ hE hS => ?_)) rfl
  have hS := hS.p (.d 6 (.d 0 (.d 1 (.d 2 (.d 3 (.d 4 (.d 5 .n)))))))
  refine at_op (op_store (v := .bool false) ([.bool false]) rfl rfl rfl rfl hE hS rfl rfl (by kernel_rfl) (by kernel_rfl) (by kernel_rfl) (by kernel_rfl) (by kernel_rfl) (fun a w _ hE hS => ?_)) rfl
  refine ae ?_
  refine wpIn_ret ?_
  obtain rfl := si hf
  refine ret_ ?_
  refine ret_M0 ([.agg (List.toArray (c_T_api_Bundle (z_T_api_Bundle) none 0 none 0)), .bool false]) hE (by rw [show Tryd.f28.results.toList = [.cell 10 32, .cell 11 4] from rfl]; exact ⟨_, _, _, 0, _, _, rfl, rfl, hS.heapAt (j := 1) rfl, by kernel_rfl, ⟨_, _, _, 0, _, _, rfl, rfl, hS.heapAt (j := 0) rfl, by kernel_rfl, rfl⟩⟩) ?_
  have hS := hS.p (.d 2 .n)
  exact ⟨_, rfl, D6, none, 0, none, 0, rfl, hS, (Sl.nil kd_T_api_Sig D6), (Sl.nil kd_T_api_Item D6)⟩
 replace hf := cf hb hf
 refine wpIn_skip ?_
 refine sq (ra ?_)
 refine sM 3 3 [1, 2] [(37, .slice A4 (List.length (x3)) c5), (39, .int .i64 (x7.fSize))] hE hS fun a hE => ?_
 obtain ⟨l3, h8, hf⟩ := bs hf
 refine at_op (op_tk hE (g_slice (K := kd_T_api_Rec) (e := 39) (by_ := 224) (zl := 109) rfl rfl rfl rfl hE rfl rfl (by kernel_rfl) rfl ⟨_, rfl⟩ (h6.mono le1) h8 (fun a A24 c24 hE h9 => ?_))) rfl
 obtain ⟨r1, h11, hf⟩ := bs hf
 refine aC rfl rfl rfl rfl hE rfl rfl rfl rfl (export_Hashes.calls h11 (hS.st.fore (L := [])) h9 (hG0.mono le1) (hG1.mono le1)) fun a v w hR hE => ?_
 obtain ⟨D12, A2, c2, rfl, hS1, h12⟩ := hR
 have le5 := hS1.dle
 have hS := hS.callR hS1 rfl .n
 refine at_op (op_alloc (z := .slice none 0 0) rfl rfl rfl rfl hE rfl hS (by kernel_rfl) (fun a b9 w _ hE hS => ?_)) rfl
 refine at_op (op_store (v := .slice A2 (List.length (r1)) c2) ([.slice A2 (List.length (r1)) c2]) rfl rfl rfl rfl hE hS rfl rfl (by kernel_rfl) (by kernel_rfl) (by kernel_rfl) (by kernel_rfl) (by kernel_rfl) (fun a w _ hE hS => ?_)) rfl
 refine ae ?_
 obtain ⟨j2, hj2, hf⟩ := jn_elim hf
 refine seq_join (fun a w => ∃ (y1 : T_api_Point), ∃ A1, ∃ c1, ∃ b8, ∃ D2, Env a 92 [] [(4, .func (.func 65) #[] #[.pointer (some ⟨b1, 0, none⟩)]), (5, .pointer (some ⟨b2, 0, none⟩)), (6, .pointer (some ⟨b3, 0, none⟩)), (7, .pointer (some ⟨b4, 0, none⟩)), (8, .pointer (some ⟨b5, 0, none⟩)), (10, .pointer (some ⟨b6, 0, none⟩)), (11, .pointer (some ⟨b7, 0, none⟩)), (12, .pointer (some ⟨b9, 0, none⟩)), (13, .pointer (some ⟨b8, 0, none⟩))] ∧ Stp g w0 D0 [bx b1 47 ([.slice A14 (List.length (x13)) c15])] w D2 [bx b8 32 (c_T_api_Bundle ((T_api_Bundle.mk (x12) (y1) (([] : List T_api_Item)))) A1 c1 none 0), bx b1 47 ([.slice A14 (List.length (x13)) c15]), bx b2 22 ([.slice A4 (List.length (x3)) c5]), bx b3 27 (c_T_api_Point (x7) A8 c9), bx b4 35 ([.int .u32 (x11)]), bx b5 4 ([.bool (x12)]), bx b6 32 (c_T_api_Bundle (z_T_api_Bundle) none 0 none 0), bx b7 4 ([.bool false]), bx b9 40 ([.slice A2 (List.length (r1)) c2])] ∧ Snap.le D12 D2 ∧ Sl kd_T_api_Sig D2 A1 c1 (y1.fSigs) ∧ j2 y1 = some r) ?_ ?_
 ·clear hj2
  refine region_draw (fun j => RD D12 (plOf [] [b3, b5] j)) (by kernel_rfl) ?_
  have hS := hS.drew
  first | generalize w.drew = w at hS ⊢ | generalize w0.drew = w at hS ⊢
  refine tD 0 1 (fuel := 11) (by kernel_rfl) hE (tk_load 5 (.bool (x12)) rfl rfl rfl rfl hE rfl hS rfl rfl (by kernel_rfl) (fun _ h => h.1.at_ (List.Mem.tail _ (List.Mem.head _))) (fun a hE => ?_))
  refine wF 1 3 10 0 3 0 hE fun a hE => ?_
  refine tD 2 7 (fuel := 9) (by kernel_rfl) hE (tk_load 3 (.int .i64 (x7.fSize)) rfl rfl rfl rfl hE rfl hS rfl rfl (by kernel_rfl) (fun _ h => h.1.at_ (List.Mem.head _)) (fun a hE => ?_))
  refine wF 3 15 8 1 24 1 hE fun a hE => ?_
  refine tD 4 31 (fuel := 7) (by kernel_rfl) hE (tk_load 3 (.agg (List.toArray (acells .u8 32 (x7.fRoot)))) rfl rfl rfl rfl hE rfl hS rfl rfl (by kernel_rfl) (fun _ h => h.1.at_ (List.Mem.head _)) (fun a hE => ?_))
  refine wF 5 63 6 33 25 33 hE fun a hE => ?_
  refine tD 6 127 (fuel := 5) (by kernel_rfl) hE (tk_load 3 (.slice A8 (List.length (x7.fSigs)) c9) rfl rfl rfl rfl hE rfl hS rfl rfl (by kernel_rfl) (fun _ h => h.1.at_ (List.Mem.head _)) (fun a hE => ?_))
  refine twoB (i := 7) (j := 10) (fuel := 4) (m1 := 255) (m2 := 1151) (by kernel_rfl) (by kernel_rfl) (by kernel_rfl) ?_ ?_
  ·have hp_b4804 := hS.heapAt (j := 3) rfl
   have hp_b4808 := hS.heapAt (j := 5) rfl
   obtain ⟨r2, h13, hf⟩ := bs hf
   refine (op_call rfl rfl rfl rfl hE rfl rfl rfl rfl (by kernel_rfl) (slices_Clone_api_Sig_api_Sig.calls h13 (hS.st.fore (L := [])) (h10.mono (le2 le1 le5))) (fun a v w hR hE => ?_))
   obtain ⟨D20, A9, c8, q8, rfl, hS1, h14⟩ := hR
   have le9 := hS1.dle
   have hS := hS.callR hS1 rfl (.c .n)
   refine ⟨⟨show RP [b3, b5] _ _ from ⟨(hS.heapAt (j := 4) rfl).trans hp_b4804.symm, ⟨(hS.heapAt (j := 6) rfl).trans hp_b4808.symm, trivial⟩⟩, fun _ => hS.st.sees.mono le9⟩, ?_⟩
   clear hp_b4804 hp_b4808
   obtain ⟨D14, q9, le13, hS, h43, h15⟩ := hS.lent h14
   refine tW 8 511 (fuel := 3) (by kernel_rfl) hE (fun M => tk_build (c_T_api_Point ({ x7 with fSigs := r2 }) A9 c8) rfl rfl rfl rfl hE rfl rfl (by kernel_rfl) (fun a hE => ?_))
   refine tW 9 1023 (fuel := 2) (by kernel_rfl) hE (fun M => tk_build (c_T_api_Bundle ((T_api_Bundle.mk (x12) ({ x7 with fSigs := r2 }) (([] : List T_api_Item)))) A9 c8 none 0) rfl rfl rfl rfl hE rfl rfl (by kernel_rfl) (fun a hE => ?_))
   have hp_b4804 := hS.heapAt (j := 4) rfl
   have hp_b4808 := hS.heapAt (j := 6) rfl
   refine oG 10 2047 (fuel := 1) (by kernel_rfl) (op_alloc (z := .agg (List.toArray (c_T_api_Bundle (z_T_api_Bundle) none 0 none 0))) rfl rfl rfl rfl hE rfl hS (by kernel_rfl) (fun a b11 w _ hE hS => ?_))
   refine ⟨⟨show RP [b3, b5] _ _ from ⟨(hS.heapAt (j := 5) rfl).trans hp_b4804.symm, ⟨(hS.heapAt (j := 7) rfl).trans hp_b4808.symm, trivial⟩⟩, fun _ => hS.st.sees.mono (le2 le9 le13)⟩, ?_⟩
   clear hp_b4804 hp_b4808
   have hp_b4804 := hS.heapAt (j := 5) rfl
   have hp_b4808 := hS.heapAt (j := 7) rfl
   refine oG 11 4095 (fuel := 0) (by kernel_rfl) (op_store (v := .agg (List.toArray (c_T_api_Bundle ((T_api_Bundle.mk (x12) ({ x7 with fSigs := r2 }) (([] : List T_api_Item)))) A9 c8 none 0))) (c_T_api_Bundle ((T_api_Bundle.mk (x12) ({ x7 with fSigs := r2 }) (([] : List T_api_Item)))) A9 c8 none 0) rfl rfl rfl rfl hE hS rfl rfl (by kernel_rfl) (by kernel_rfl) (by kernel_rfl) (by kernel_rfl) (by kernel_rfl) (fun a w _ hE hS => ?_))
   refine ⟨⟨show RP [b3, b5] _ _ from ⟨(hS.heapAt (j := 5) rfl).trans hp_b4804.symm, ⟨(hS.heapAt (j := 7) rfl).trans hp_b4808.symm, trivial⟩⟩, fun _ => hS.st.sees.mono (le2 le9 le13)⟩, ?_⟩
   clear hp_b4804 hp_b4808
   refine doneG (by kernel_rfl) ?_
   have hS := hS.p (.d 0 (.d 3 (.d 4 (.d 5 (.d 6 (.d 7 (.d 8 (.d 9 (.d 2 .n)))))))))
   exact ⟨{ x7 with fSigs := r2 }, A9, c8, b11, D14, hE.wk, hS, (le2 le9 le13), h15, hf⟩
  have hp_b4804 := hS.heapAt (j := 3) rfl
  have hp_b4808 := hS.heapAt (j := 5) rfl
  refine (op_alloc (z := .agg (List.toArray (c_T_api_Bundle (z_T_api_Bundle) none 0 none 0))) rfl rfl rfl rfl hE rfl hS (by kernel_rfl) (fun a b12 w _ hE hS => ?_))
  refine ⟨⟨show RP [b3, b5] _ _ from ⟨(hS.heapAt (j := 4) rfl).trans hp_b4804.symm, ⟨(hS.heapAt (j := 6) rfl).trans hp_b4808.symm, trivial⟩⟩, fun _ => hS.st.sees⟩, ?_⟩
  clear hp_b4804 hp_b4808
  have hp_b4804 := hS.heapAt (j := 4) rfl
  have hp_b4808 := hS.heapAt (j := 6) rfl
  obtain ⟨r3, h17, hf⟩ := bs hf
  refine oC 7 1279 3 rfl rfl rfl rfl hE rfl rfl rfl rfl (slices_Clone_api_Sig_api_Sig.calls h17 (hS.st.fore (L := [])) (h10.mono (le2 le1 le5))) fun a v w hR hE => ?_
  obtain ⟨D21, A10, c10, q10, rfl, hS1, h18⟩ := hR
  have le14 := hS1.dle
  have hS := hS.callR hS1 rfl (.c .n)
  refine ⟨⟨show RP [b3, b5] _ _ from ⟨(hS.heapAt (j := 5) rfl).trans hp_b4804.symm, ⟨(hS.heapAt (j := 7) rfl).trans hp_b4808.symm, trivial⟩⟩, fun _ => hS.st.sees.mono le14⟩, ?_⟩
  clear hp_b4804 hp_b4808
  obtain ⟨D15, q11, le16, hS, h44, h19⟩ := hS.lent h18
  refine tW 8 1535 (fuel := 2) (by kernel_rfl) hE (fun M => tk_build (c_T_api_Point ({ x7 with fSigs := r3 }) A10 c10) rfl rfl rfl rfl hE rfl rfl (by kernel_rfl) (fun a hE => ?_))
  refine tW 9 2047 (fuel := 1) (by kernel_rfl) hE (fun M => tk_build (c_T_api_Bundle ((T_api_Bundle.mk (x12) ({ x7 with fSigs := r3 }) (([] : List T_api_Item)))) A10 c10 none 0) rfl rfl rfl rfl hE rfl rfl (by kernel_rfl) (fun a hE => ?_))
  have hp_b4804 := hS.heapAt (j := 5) rfl
  have hp_b4808 := hS.heapAt (j := 7) rfl
  have hS := hS.p (.d 1 (.d 0 (.d 2 (.d 3 (.d 4 (.d 5 (.d 6 (.d 7 (.d 8 (.d 9 .n))))))))))
  refine oG 11 4095 (fuel := 0) (by kernel_rfl) (op_store (v := .agg (List.toArray (c_T_api_Bundle ((T_api_Bundle.mk (x12) ({ x7 with fSigs := r3 }) (([] : List T_api_Item)))) A10 c10 none 0))) (c_T_api_Bundle ((T_api_Bundle.mk (x12) ({ x7 with fSigs := r3 }) (([] : List T_api_Item)))) A10 c10 none 0) rfl rfl rfl rfl hE hS rfl rfl (by kernel_rfl) (by kernel_rfl) (by kernel_rfl) (by kernel_rfl) (by kernel_rfl) (fun a w _ hE hS => ?_))
  refine ⟨⟨show RP [b3, b5] _ _ from ⟨(hS.heapAt (j := 5) rfl).trans hp_b4804.symm, ⟨(hS.heapAt (j := 7) rfl).trans hp_b4808.symm, trivial⟩⟩, fun _ => hS.st.sees.mono (le2 le14 le16)⟩, ?_⟩
  clear hp_b4804 hp_b4808
  refine doneG (by kernel_rfl) ?_
  have hS := hS.p (.d 0 (.d 3 (.d 4 (.d 5 (.d 6 (.d 7 (.d 8 (.d 9 (.d 2 .n)))))))))
  exact ⟨{ x7 with fSigs := r3 }, A10, c10, b12, D15, hE.wk, hS, (le2 le14 le16), h19, hf⟩
 clear hE hS
 rintro a w ⟨y1, A1, c1, b8, D2, hE, hS, le6, h2, hf⟩
 replace hf := hj2 _ hf
 clear hj2
 refine sq (sq (ra ?_))
 refine sN 1 1 [(52, .func (.func 65) #[] #[.pointer (some ⟨b1, 0, none⟩)])] hE fun a hE => ?_
 refine ae ?_
 refine wpIn_block ?_
 have hEo1 := hE
 refine range_in2 (captured := #[.pointer (some ⟨b1, 0, none⟩)]) hE hS rfl (by kernel_rfl) (fun fn1 l1 d7210 w q2 hq1 hS => ?_)
 refine calls_body (n := 16) Tryd.func65 rfl Tryd.ntmps65 rfl fun a hE => ?_
 have hE : Env a 16 [] [(0, .func (.yield l1) #[] #[]), (1, .pointer (some ⟨b1, 0, none⟩))] := hE
 refine sq (ra ?_)
 refine sM 3 3 [3] [(5, .slice A14 (List.length (x13)) c15), (6, .int .i64 (((List.length (x13) : Nat) : Int))), (7, .int .i64 ((0 : Int)))] hE hS fun a hE => ?_
 refine ae ?_
 obtain ⟨s1, hf, hs1⟩ := bs hf
 have hS := hS.nils
 have hS := hS.p (.d 4 (.d 5 (.d 6 (.d 7 (.d 8 (.d 9 (.d 10 (.d 11 (.d 3 (.d 1 (.d 2 (.d 0 .n))))))))))))
 refine block_loopR (fun a w => ∃ (z1 : (List T_api_Item)), ∃ A3, ∃ c3, ∃ q3, ∃ D9, Env a 16 [] [] ∧ Stp g w0 D0 [bx b1 47 ([.slice A14 (List.length (x13)) c15])] w D9 [bx b1 47 ([.slice A14 (List.length (x13)) c15]), bx b2 22 ([.slice A4 (List.length (x3)) c5]), bx b3 27 (c_T_api_Point (x7) A8 c9), bx b4 35 ([.int .u32 (x11)]), bx b5 4 ([.bool (x12)]), bx b6 32 (c_T_api_Bundle (z_T_api_Bundle) none 0 none 0), bx b7 4 ([.bool false]), bx b9 40 ([.slice A2 (List.length (r1)) c2]), bx b8 32 (c_T_api_Bundle ((T_api_Bundle.mk (x12) (y1) (z1))) A1 c1 A3 c3), q2 .ready none, dk d7210, q3] ∧ Snap.le D2 D9 ∧ OwnL kd_T_api_Item 42 D9 A3 c3 (z1) q3 ∧ (Sum.inr z1) = s1) (fun a w => ∃ (z2 : (List T_api_Item)), ∃ A18, ∃ c18, ∃ q4, ∃ D5, Env a 16 [] [] ∧ Stp g w0 D0 [bx b1 47 ([.slice A14 (List.length (x13)) c15])] w D5 [bx b1 47 ([.slice A14 (List.length (x13)) c15]), bx b2 22 ([.slice A4 (List.length (x3)) c5]), bx b3 27 (c_T_api_Point (x7) A8 c9), bx b4 35 ([.int .u32 (x11)]), bx b5 4 ([.bool (x12)]), bx b6 32 (c_T_api_Bundle (z_T_api_Bundle) none 0 none 0), bx b7 4 ([.bool false]), bx b9 40 ([.slice A2 (List.length (r1)) c2]), bx b8 32 (c_T_api_Bundle ((T_api_Bundle.mk (x12) (y1) (z2))) A1 c1 A18 c18), q2 .done (some .ret), dk d7210, q4] ∧ Snap.le D2 D5 ∧ OwnL kd_T_api_Item 42 D5 A18 c18 (z2) q4 ∧ (Sum.inl z2) = s1) (fun k a w => ∃ (y2 : Int × (List T_api_Item)), ∃ A5, ∃ c4, ∃ q1, ∃ D3, Env a 16 [] [(0, .func (.yield l1) #[] #[]), (5, .slice A14 (List.length (x13)) c15), (6, .int .i64 (((List.length (x13) : Nat) : Int))), (7, .int .i64 (y2.1))] ∧ Stp g w0 D0 [bx b1 47 ([.slice A14 (List.length (x13)) c15])] w D3 [bx b1 47 ([.slice A14 (List.length (x13)) c15]), bx b2 22 ([.slice A4 (List.length (x3)) c5]), bx b3 27 (c_T_api_Point (x7) A8 c9), bx b4 35 ([.int .u32 (x11)]), bx b5 4 ([.bool (x12)]), bx b6 32 (c_T_api_Bundle (z_T_api_Bundle) none 0 none 0), bx b7 4 ([.bool false]), bx b9 40 ([.slice A2 (List.length (r1)) c2]), bx b8 32 (c_T_api_Bundle ((T_api_Bundle.mk (x12) (y1) (y2.2))) A1 c1 A5 c4), q2 .ready none, dk d7210, q1] ∧ Snap.le D2 D3 ∧ OwnL kd_T_api_Item 42 D3 A5 c4 (y2.2) q1 ∧ export_made_v4_l1.l K x3 x7 x11 x12 x13 r1 k y2 = some s1) K ?_ ?_ ?_ ?_
 ·exact ⟨((0 : Int), ([] : List T_api_Item)), none, 0, none, D2, hE.wk, hS, lr, (OwnD.nil kd_T_api_Item 42 D2), hf⟩
 ·clear hE hS hf
  rintro a w ⟨z1, A3, c3, q3, D9, hE, hS, le17, h20, rfl⟩
  have hf := hs1
  clear hs1
  refine ret_genN ([]) hE (by rw [show Tryd.f65.results.toList = [] from rfl]; rfl) ?_
  have hS := hS.p (.d 9 (.d 0 (.d 1 (.d 2 (.d 3 (.d 4 (.d 5 (.d 6 (.d 7 (.d 8 (.d 10 (.d 11 .n))))))))))))
  refine range_done2 hq1 hS hEo1 (fun w a hS hE => ?_)
  refine sq (sq (ra ?_))
  refine sM 1 1 [8] [(87, .agg (List.toArray (c_T_api_Bundle ((T_api_Bundle.mk (x12) (y1) (z1))) A1 c1 A3 c3)))] hE hS fun a hE => ?_
  have hS := hS.p (.d 10 (.d 0 (.d 1 (.d 2 (.d 3 (.d 4 (.d 5 (.d 6 (.d 7 (.d 8 (.d 9 .n)))))))))))
  obtain ⟨D22, q12, le18, hS, h45, h3⟩ := hS.lent h20
  obtain ⟨r8, h21, hf⟩ := bs hf
  refine aC rfl rfl rfl rfl hE rfl rfl rfl rfl (bundle_Right.calls h21 (hS.st.fore (L := [])) (h2.mono (le2 le17 le18)) h3) fun a v w hR hE => ?_
  obtain ⟨D10, rfl, hS1⟩ := hR
  have le19 := hS1.dle
  have hS := hS.callR hS1 rfl .n
  refine sN 1 3 [(89, .bool ((!r8)))] hE fun a hE => ?_
  refine ae ?_
  refine cond_split hE (b := (!r8)) rfl (fun hb => ?_) (fun hb => ?_)
  ·replace hf := ct hb hf
   refine sq (ra ?_)
   refine at_op (op_tk hE (tk_build (c_T_api_Bundle (z_T_api_Bundle) none 0 none 0) rfl rfl rfl rfl hE rfl rfl (by kernel_rfl) (fun a hE => ?_))) rfl
   have hS := hS.p (.d 6 (.d 0 (.d 1 (.d 2 (.d 3 (.d 4 (.d 5 (.d 7 (.d 8 (.d 9 (.d 10 .n)))))))))))
   refine at_op (op_store (v := .agg (List.toArray (c_T_api_Bundle (z_T_api_Bundle) none 0 none 0))) (c_T_api_Bundle (z_T_api_Bundle) none 0 none 0) rfl rfl rfl rfl hE hS rfl rfl (by kernel_rfl) (by kernel_rfl) (by kernel_rfl) (by kernel_rfl) (by kernel_rfl) (fun a w _ hE hS => ?_)) rfl
   have hS := hS.p (.d 7 (.d 0 (.d 1 (.d 2 (.d 3 (.d 4 (.d 5 (.d 6 (.d 8 (.d 9 (.d 10 .n)))))))))))
   refine at_op (op_store (v := .bool false) ([.bool false]) rfl rfl rfl rfl hE hS rfl rfl (by kernel_rfl) (by kernel_rfl) (by kernel_rfl) (by kernel_rfl) (by kernel_rfl) (fun a w _ hE hS => ?_)) rfl
   refine ae ?_
   refine wpIn_ret ?_
   have hS := hS.p (.d 10 (.d 0 (.d 1 (.d 2 (.d 3 (.d 4 (.d 5 (.d 6 (.d 7 (.d 8 (.d 9 .n)))))))))))
   obtain rfl := si hf
   refine ret_ ?_
   refine ret_M1 ([.agg (List.toArray (c_T_api_Bundle (z_T_api_Bundle) none 0 none 0)), .bool false]) hE hS (fun w hS => ⟨by rw [show Tryd.f28.results.toList = [.cell 10 32, .cell 11 4] from rfl]; exact ⟨_, _, _, 0, _, _, rfl, rfl, hS.heapAt (j := 1) rfl, by kernel_rfl, ⟨_, _, _, 0, _, _, rfl, rfl, hS.heapAt (j := 0) rfl, by kernel_rfl, rfl⟩⟩, ?_⟩)
   have hS := hS.p (.d 3 .n)
   exact ⟨_, rfl, D10, none, 0, none, 0, rfl, hS, (Sl.nil kd_T_api_Sig D10), (Sl.nil kd_T_api_Item D10)⟩
  replace hf := cf hb hf
  refine wpIn_skip ?_
  refine sq (ra ?_)
  refine sM 1 1 [9] [(91, .agg (List.toArray (c_T_api_Bundle ((T_api_Bundle.mk (x12) (y1) (z1))) A1 c1 A3 c3)))] hE hS fun a hE => ?_
  have hS := hS.p (.d 6 (.d 0 (.d 1 (.d 2 (.d 3 (.d 4 (.d 5 (.d 7 (.d 8 (.d 9 (.d 10 .n)))))))))))
  refine at_op (op_store (v := .agg (List.toArray (c_T_api_Bundle ((T_api_Bundle.mk (x12) (y1) (z1))) A1 c1 A3 c3))) (c_T_api_Bundle ((T_api_Bundle.mk (x12) (y1) (z1))) A1 c1 A3 c3) rfl rfl rfl rfl hE hS rfl rfl (by kernel_rfl) (by kernel_rfl) (by kernel_rfl) (by kernel_rfl) (by kernel_rfl) (fun a w _ hE hS => ?_)) rfl
  have hS := hS.p (.d 7 (.d 0 (.d 1 (.d 2 (.d 3 (.d 4 (.d 5 (.d 6 (.d 8 (.d 9 (.d 10 .n)))))))))))
  refine at_op (op_store (v := .bool true) ([.bool true]) rfl rfl rfl rfl hE hS rfl rfl (by kernel_rfl) (by kernel_rfl) (by kernel_rfl) (by kernel_rfl) (by kernel_rfl) (fun a w _ hE hS => ?_)) rfl
  refine ae ?_
  refine wpIn_ret ?_
  have hS := hS.p (.d 10 (.d 0 (.d 1 (.d 2 (.d 3 (.d 4 (.d 5 (.d 6 (.d 7 (.d 8 (.d 9 .n)))))))))))
  obtain rfl := si hf
  refine ret_ ?_
  refine ret_M1 ([.agg (List.toArray (c_T_api_Bundle ((T_api_Bundle.mk (x12) (y1) (z1))) A1 c1 A3 c3)), .bool true]) hE hS (fun w hS => ⟨by rw [show Tryd.f28.results.toList = [.cell 10 32, .cell 11 4] from rfl]; exact ⟨_, _, _, 0, _, _, rfl, rfl, hS.heapAt (j := 1) rfl, by kernel_rfl, ⟨_, _, _, 0, _, _, rfl, rfl, hS.heapAt (j := 0) rfl, by kernel_rfl, rfl⟩⟩, ?_⟩)
  have hS := hS.p (.d 3 .n)
  exact ⟨_, rfl, D10, A1, c1, A3, c3, rfl, hS, (h2.mono (le2 (le2 le17 le18) le19)), (h3.mono le19)⟩
 ·clear hE hS hf
  rintro a w ⟨z2, A18, c18, q4, D5, hE, hS, le23, h46, rfl⟩
  have hf := hs1
  clear hs1
  refine ret_ ?_
  refine ret_gen ([]) hE (by rw [show Tryd.f65.results.toList = [] from rfl]; rfl) ?_
  have hS := hS.p (.d 9 (.d 0 (.d 1 (.d 2 (.d 3 (.d 4 (.d 5 (.d 6 (.d 7 (.d 8 (.d 10 (.d 11 .n))))))))))))
  refine range_ret2 hq1 hS hEo1 (fun w a hS hE => ?_)
  have hS := hS.p (.d 9 (.d 0 (.d 1 (.d 2 (.d 3 (.d 4 (.d 5 (.d 6 (.d 7 (.d 8 (.d 10 .n)))))))))))
  obtain rfl := si hf
  refine ret_ ?_
  refine ret_M1 ([.agg (List.toArray (c_T_api_Bundle (z_T_api_Bundle) none 0 none 0)), .bool false]) hE hS (fun w hS => ⟨by rw [show Tryd.f28.results.toList = [.cell 10 32, .cell 11 4] from rfl]; exact ⟨_, _, _, 0, _, _, rfl, rfl, hS.heapAt (j := 5) rfl, by kernel_rfl, ⟨_, _, _, 0, _, _, rfl, rfl, hS.heapAt (j := 6) rfl, by kernel_rfl, rfl⟩⟩, ?_⟩)
  have hS := hS.p (.d 0 .n)
  exact ⟨_, rfl, D5, none, 0, none, 0, rfl, hS, (Sl.nil kd_T_api_Sig D5), (Sl.nil kd_T_api_Item D5)⟩
 clear hE hS hf
 rintro k a w ⟨y2, A5, c4, q1, D3, hE, hS, le3, h1, hf⟩
 obtain ⟨k, rfl, hf⟩ := export_made_v4_l1.some _ _ _ _ _ _ hf
 refine ⟨k, rfl, ?_⟩
 unfold export_made_v4_l1.b at hf
 refine sq (ra ?_)
 refine sN 1 1 [(8, .bool ((decide (y2.1 < ((List.length (x13) : Nat) : Int)))))] hE fun a hE => ?_
 refine ae ?_
 refine sq ?_
 refine cond_split hE (b := (decide (y2.1 < ((List.length (x13) : Nat) : Int)))) rfl (fun hb => ?_) (fun hb => ?_)
 ·replace hf := ct hb hf
  refine wpIn_skip ?_
  refine sq ?_
  refine wpIn_block ?_
  refine sq (ra ?_)
  obtain ⟨x1, h22, hf⟩ := bs hf
  refine at_op (op_tk hE (g_index (K := (kdInt .i64)) (e := 3) (by_ := 8) (zl := 1) rfl rfl rfl rfl hE rfl rfl rfl (by kernel_rfl) rfl (h16.mono (le2 (le2 (le2 le1 le5) le6) le3)) h22 (fun a b15 o1 hE h23 => ?_))) rfl
  obtain ⟨cs1, C1, T1, fr1, hr1, hb1, hc1⟩ := id h23
  obtain rfl := hr1
  refine at_op (op_tk hE (tk_loadX (off0 := o1) (off := 0) (c := [.int .i64 (x1)]) (.int .i64 (x1)) rfl rfl rfl rfl hE rfl hS rfl hb1 hc1 (by kernel_rfl) (by kernel_rfl) (kD hS dn_nil) (fun a hE => ?_))) rfl
  refine sN 1 3 [(4, .int .i64 (x1))] hE fun a hE => ?_
  refine ae ?_
  refine sq (ra ?_)
  refine sN 2 2 [(11, .func (.yield l1) #[] #[]), (12, .int .i64 (x1))] hE fun a hE => ?_
  have hS := hS.p (.d 9 (.d 0 (.d 1 (.d 2 (.d 3 (.d 4 (.d 5 (.d 6 (.d 7 (.d 8 (.d 10 (.d 11 .n))))))))))))
  refine at_op (op_yield2 (args := [.int .i64 (x1)]) hq1 rfl rfl rfl rfl hE rfl rfl rfl hS hEo1 rfl (by kernel_rfl) (fun a hE => ?_)) rfl
  refine ra ?_
  refine sN 1 1 [(14, .int .i64 (x1))] hE fun a hE => ?_
  refine ae ?_
  refine begin_in2 hq1 hS (fun w hS => ?_)
  refine wpIn_block ?_
  refine sq ?_
  obtain ⟨j3, hj3, hf⟩ := jn_elim hf
  refine seq_join (fun a w => ∃ (y5 : Bool), ∃ D7, Env a 92 [] [(5, .pointer (some ⟨b2, 0, none⟩)), (6, .pointer (some ⟨b3, 0, none⟩)), (7, .pointer (some ⟨b4, 0, none⟩)), (8, .pointer (some ⟨b5, 0, none⟩)), (10, .pointer (some ⟨b6, 0, none⟩)), (11, .pointer (some ⟨b7, 0, none⟩)), (12, .pointer (some ⟨b9, 0, none⟩)), (13, .pointer (some ⟨b8, 0, none⟩)), (14, .int .i64 (x1)), (52, .func (.func 65) #[] #[.pointer (some ⟨b1, 0, none⟩)]), (53, .int .i64 (x1)), (61, .bool (y5))] ∧ Stp g w0 D0 [bx b1 47 ([.slice A14 (List.length (x13)) c15])] w D7 [bx b1 47 ([.slice A14 (List.length (x13)) c15]), bx b2 22 ([.slice A4 (List.length (x3)) c5]), bx b3 27 (c_T_api_Point (x7) A8 c9), bx b4 35 ([.int .u32 (x11)]), bx b5 4 ([.bool (x12)]), bx b6 32 (c_T_api_Bundle (z_T_api_Bundle) none 0 none 0), bx b7 4 ([.bool false]), bx b9 40 ([.slice A2 (List.length (r1)) c2]), bx b8 32 (c_T_api_Bundle ((T_api_Bundle.mk (x12) (y1) (y2.2))) A1 c1 A5 c4), q2 .busy none, dk d7210, q1] ∧ Snap.le D3 D7 ∧ j3 y5 = some s1) ?_ ?_
  ·clear hj3
   refine ra ?_
   refine sN 3 3 [(56, .bool ((decide (x1 < (0 : Int)))))] hE fun a hE => ?_
   refine bo ((decide (x1 < (0 : Int)))) (fun hb => ?_) fun hb => ?_
   ·replace hf := cf hb hf
    have hE := hE.know (t := 56) rfl hb
    refine sM 5 8 [3] [(61, .bool ((decide (x7.fSize ≤ x1))))] hE hS fun a hE => ?_
    refine ae ?_
    have hS := hS.p (.d 1 (.d 2 (.d 3 (.d 4 (.d 5 (.d 6 (.d 7 (.d 8 (.d 9 (.d 0 (.d 10 (.d 11 .n))))))))))))
    exact ⟨(decide (x7.fSize ≤ x1)), D3, hE.wk, hS, lr, hf⟩
   replace hf := ct hb hf
   have hE := hE.know (t := 56) rfl hb
   refine sN 5 8 [(61, .bool true)] hE fun a hE => ?_
   refine ae ?_
   have hS := hS.p (.d 1 (.d 2 (.d 3 (.d 4 (.d 5 (.d 6 (.d 7 (.d 8 (.d 9 (.d 0 (.d 10 (.d 11 .n))))))))))))
   exact ⟨true, D3, hE.wk, hS, lr, hf⟩
  clear hE hS
  rintro a w ⟨y5, D7, hE, hS, le4, hf⟩
  replace hf := hj3 _ hf
  clear hj3
  refine cond_split hE (b := y5) rfl (fun hb => ?_) (fun hb => ?_)
  ·replace hf := ct hb hf
   refine sq (ra ?_)
   refine at_op (op_tk hE (tk_build (c_T_api_Bundle (z_T_api_Bundle) none 0 none 0) rfl rfl rfl rfl hE rfl rfl (by kernel_rfl) (fun a hE => ?_))) rfl
   have hS := hS.p (.d 5 (.d 0 (.d 1 (.d 2 (.d 3 (.d 4 (.d 6 (.d 7 (.d 8 (.d 9 (.d 10 (.d 11 .n))))))))))))
   refine at_op (op_store (v := .agg (List.toArray (c_T_api_Bundle (z_T_api_Bundle) none 0 none 0))) (c_T_api_Bundle (z_T_api_Bundle) none 0 none 0) rfl rfl rfl rfl hE hS rfl rfl (by kernel_rfl) (by kernel_rfl) (by kernel_rfl) (by kernel_rfl) (by kernel_rfl) (fun a w _ hE hS => ?_)) rfl
   have hS := hS.p (.d 6 (.d 0 (.d 1 (.d 2 (.d 3 (.d 4 (.d 5 (.d 7 (.d 8 (.d 9 (.d 10 (.d 11 .n))))))))))))
   refine at_op (op_store (v := .bool false) ([.bool false]) rfl rfl rfl rfl hE hS rfl rfl (by kernel_rfl) (by kernel_rfl) (by kernel_rfl) (by kernel_rfl) (by kernel_rfl) (fun a w _ hE hS => ?_)) rfl
   refine ae ?_
   refine wpIn_ret ?_
   refine ret_ ?_
   have hS := hS.p (.d 9 (.d 0 (.d 1 (.d 2 (.d 3 (.d 4 (.d 5 (.d 6 (.d 7 (.d 8 (.d 10 (.d 11 .n))))))))))))
   refine round_ret2 (a1 := a) hq1 hS (fun w a hS hE => ?_)
   refine sN 1 4 [(14, .bool true)] hE fun a hE => ?_
   refine ae ?_
   refine wpIn_cond_true (hE.eval rfl) ?_
   refine wpIn_ret ?_
   obtain rfl := si hf
   have hS := hS.p (.d 3 (.d 4 (.d 5 (.d 6 (.d 7 (.d 2 (.d 1 (.d 8 (.d 9 (.d 0 (.d 10 (.d 11 .n))))))))))))
   exact ⟨y2.2, A5, c4, q1, D7, hE.wk, hS, (le2 le3 le4), (h1.mono le4), rfl⟩
  replace hf := cf hb hf
  refine wpIn_skip ?_
  obtain ⟨j4, hj4, hf⟩ := jn_elim hf
  refine seq_join (fun a w => ∃ (y3 : T_api_Rec), ∃ A6, ∃ c6, ∃ A7, ∃ c7, ∃ b10, ∃ D4, Env a 92 [] [(5, .pointer (some ⟨b2, 0, none⟩)), (6, .pointer (some ⟨b3, 0, none⟩)), (7, .pointer (some ⟨b4, 0, none⟩)), (8, .pointer (some ⟨b5, 0, none⟩)), (10, .pointer (some ⟨b6, 0, none⟩)), (11, .pointer (some ⟨b7, 0, none⟩)), (12, .pointer (some ⟨b9, 0, none⟩)), (13, .pointer (some ⟨b8, 0, none⟩)), (14, .int .i64 (x1)), (15, .pointer (some ⟨b10, 0, none⟩)), (52, .func (.func 65) #[] #[.pointer (some ⟨b1, 0, none⟩)]), (53, .int .i64 (x1)), (61, .bool (y5))] ∧ Stp g w0 D0 [bx b1 47 ([.slice A14 (List.length (x13)) c15])] w D4 [bx b10 42 (c_T_api_Item ((T_api_Item.mk (x1) (y3) (([] : List (Vector Int 32))))) A6 c6 A7 c7 none 0), bx b1 47 ([.slice A14 (List.length (x13)) c15]), bx b2 22 ([.slice A4 (List.length (x3)) c5]), bx b3 27 (c_T_api_Point (x7) A8 c9), bx b4 35 ([.int .u32 (x11)]), bx b5 4 ([.bool (x12)]), bx b6 32 (c_T_api_Bundle (z_T_api_Bundle) none 0 none 0), bx b7 4 ([.bool false]), bx b9 40 ([.slice A2 (List.length (r1)) c2]), bx b8 32 (c_T_api_Bundle ((T_api_Bundle.mk (x12) (y1) (y2.2))) A1 c1 A5 c4), q2 .busy none, dk d7210, q1] ∧ Snap.le D7 D4 ∧ Sl kd_T_api_Step D4 A6 c6 (y3.fSteps) ∧ Sl (kdInt .u8) D4 A7 c7 (y3.fData) ∧ j4 y3 = some s1) ?_ ?_
  ·clear hj4
   refine region_draw (fun j => RD D7 (plOf [] [b2, b4] j)) (by kernel_rfl) ?_
   have hS := hS.drew
   first | generalize w.drew = w at hS ⊢ | generalize w0.drew = w at hS ⊢
   refine wP 0 1 10 (.int .i64 (x1)) hE fun a hE => ?_
   refine wP 2 5 9 (.int .i64 (x1)) hE fun a hE => ?_
   refine wP 5 37 8 (.int .i64 (x1)) hE fun a hE => ?_
   refine tD 1 39 (fuel := 7) (by kernel_rfl) hE (tk_load 1 (.slice A4 (List.length (x3)) c5) rfl rfl rfl rfl hE rfl hS rfl rfl (by kernel_rfl) (fun _ h => h.1.at_ (List.Mem.head _)) (fun a hE => ?_))
   obtain ⟨x2, h24, hf⟩ := bs hf
   refine tW 3 47 (fuel := 6) (by kernel_rfl) hE (fun M => g_index (K := kd_T_api_Rec) (e := 39) (by_ := 224) (zl := 109) rfl rfl rfl rfl hE rfl rfl rfl (by kernel_rfl) rfl (h6.mono (le2 (le2 (le2 (le2 le1 le5) le6) le3) le4)) h24 (fun a b16 o2 hE h25 => ?_))
   obtain ⟨cs2, C2, T2, fr2, hr2, hb2, hc2⟩ := id h25
   obtain ⟨A22, c22, A23, c23, rfl, h4, h5⟩ := kd_T_api_Rec_el hr2
   refine tD 4 63 (fuel := 5) (by kernel_rfl) hE (tk_loadX (off0 := o2) (off := 0) (c := c_T_api_Rec (x2) A22 c22 A23 c23) (.agg (List.toArray (c_T_api_Rec (x2) A22 c22 A23 c23))) rfl rfl rfl rfl hE rfl hS rfl hb2 hc2 (by kernel_rfl) (by kernel_rfl) (fun _ h => h.2 hS.st.sees) (fun a hE => ?_))
   refine tD 6 127 (fuel := 4) (by kernel_rfl) hE (tk_load 3 (.int .u32 (x11)) rfl rfl rfl rfl hE rfl hS rfl rfl (by kernel_rfl) (fun _ h => h.1.at_ (List.Mem.tail _ (List.Mem.head _))) (fun a hE => ?_))
   refine twoB (i := 7) (j := 9) (fuel := 3) (m1 := 255) (m2 := 639) (by kernel_rfl) (by kernel_rfl) (by kernel_rfl) ?_ ?_
   ·have hp_b4802 := hS.heapAt (j := 1) rfl
    have hp_b4806 := hS.heapAt (j := 3) rfl
    obtain ⟨r4, h26, hf⟩ := bs hf
    refine (op_call rfl rfl rfl rfl hE rfl rfl rfl rfl (by kernel_rfl) (export_masked.calls h26 (hS.st.fore (L := [])) h4 h5 (hG0.mono (le2 (le2 (le2 (le2 le1 le5) le6) le3) le4)) (hG1.mono (le2 (le2 (le2 (le2 le1 le5) le6) le3) le4))) (fun a v w hR hE => ?_))
    obtain ⟨D16, A12, c12, A13, c13, rfl, hS1, h27, h28⟩ := hR
    have le10 := hS1.dle
    have hS := hS.callR hS1 rfl .n
    refine ⟨⟨show RP [b2, b4] _ _ from ⟨(hS.heapAt (j := 1) rfl).trans hp_b4802.symm, ⟨(hS.heapAt (j := 3) rfl).trans hp_b4806.symm, trivial⟩⟩, fun _ => hS.st.sees.mono le10⟩, ?_⟩
    clear hp_b4802 hp_b4806
    refine tW 8 511 (fuel := 2) (by kernel_rfl) hE (fun M => tk_build (c_T_api_Item ((T_api_Item.mk (x1) (r4) (([] : List (Vector Int 32))))) A12 c12 A13 c13 none 0) rfl rfl rfl rfl hE rfl rfl (by kernel_rfl) (fun a hE => ?_))
    have hp_b4802 := hS.heapAt (j := 1) rfl
    have hp_b4806 := hS.heapAt (j := 3) rfl
    refine oG 9 1023 (fuel := 1) (by kernel_rfl) (op_alloc (z := .agg (List.toArray (c_T_api_Item (z_T_api_Item) none 0 none 0 none 0))) rfl rfl rfl rfl hE rfl hS (by kernel_rfl) (fun a b13 w _ hE hS => ?_))
    refine ⟨⟨show RP [b2, b4] _ _ from ⟨(hS.heapAt (j := 2) rfl).trans hp_b4802.symm, ⟨(hS.heapAt (j := 4) rfl).trans hp_b4806.symm, trivial⟩⟩, fun _ => hS.st.sees.mono le10⟩, ?_⟩
    clear hp_b4802 hp_b4806
    have hp_b4802 := hS.heapAt (j := 2) rfl
    have hp_b4806 := hS.heapAt (j := 4) rfl
    refine oG 10 2047 (fuel := 0) (by kernel_rfl) (op_store (v := .agg (List.toArray (c_T_api_Item ((T_api_Item.mk (x1) (r4) (([] : List (Vector Int 32))))) A12 c12 A13 c13 none 0))) (c_T_api_Item ((T_api_Item.mk (x1) (r4) (([] : List (Vector Int 32))))) A12 c12 A13 c13 none 0) rfl rfl rfl rfl hE hS rfl rfl (by kernel_rfl) (by kernel_rfl) (by kernel_rfl) (by kernel_rfl) (by kernel_rfl) (fun a w _ hE hS => ?_))
    refine ⟨⟨show RP [b2, b4] _ _ from ⟨(hS.heapAt (j := 2) rfl).trans hp_b4802.symm, ⟨(hS.heapAt (j := 4) rfl).trans hp_b4806.symm, trivial⟩⟩, fun _ => hS.st.sees.mono le10⟩, ?_⟩
    clear hp_b4802 hp_b4806
    refine doneG (by kernel_rfl) ?_
    exact ⟨r4, A12, c12, A13, c13, b13, D16, hE.wk, hS, le10, h27, h28, hf⟩
   have hp_b4802 := hS.heapAt (j := 1) rfl
   have hp_b4806 := hS.heapAt (j := 3) rfl
   refine (op_alloc (z := .agg (List.toArray (c_T_api_Item (z_T_api_Item) none 0 none 0 none 0))) rfl rfl rfl rfl hE rfl hS (by kernel_rfl) (fun a b14 w _ hE hS => ?_))
   refine ⟨⟨show RP [b2, b4] _ _ from ⟨(hS.heapAt (j := 2) rfl).trans hp_b4802.symm, ⟨(hS.heapAt (j := 4) rfl).trans hp_b4806.symm, trivial⟩⟩, fun _ => hS.st.sees⟩, ?_⟩
   clear hp_b4802 hp_b4806
   have hp_b4802 := hS.heapAt (j := 2) rfl
   have hp_b4806 := hS.heapAt (j := 4) rfl
   obtain ⟨r5, h29, hf⟩ := bs hf
   refine oC 7 767 2 rfl rfl rfl rfl hE rfl rfl rfl rfl (export_masked.calls h29 (hS.st.fore (L := [])) h4 h5 (hG0.mono (le2 (le2 (le2 (le2 le1 le5) le6) le3) le4)) (hG1.mono (le2 (le2 (le2 (le2 le1 le5) le6) le3) le4))) fun a v w hR hE => ?_
   obtain ⟨D17, A15, c14, A16, c16, rfl, hS1, h30, h31⟩ := hR
   have le15 := hS1.dle
   have hS := hS.callR hS1 rfl .n
   refine ⟨⟨show RP [b2, b4] _ _ from ⟨(hS.heapAt (j := 2) rfl).trans hp_b4802.symm, ⟨(hS.heapAt (j := 4) rfl).trans hp_b4806.symm, trivial⟩⟩, fun _ => hS.st.sees.mono le15⟩, ?_⟩
   clear hp_b4802 hp_b4806
   refine tW 8 1023 (fuel := 1) (by kernel_rfl) hE (fun M => tk_build (c_T_api_Item ((T_api_Item.mk (x1) (r5) (([] : List (Vector Int 32))))) A15 c14 A16 c16 none 0) rfl rfl rfl rfl hE rfl rfl (by kernel_rfl) (fun a hE => ?_))
   have hp_b4802 := hS.heapAt (j := 2) rfl
   have hp_b4806 := hS.heapAt (j := 4) rfl
   refine oG 10 2047 (fuel := 0) (by kernel_rfl) (op_store (v := .agg (List.toArray (c_T_api_Item ((T_api_Item.mk (x1) (r5) (([] : List (Vector Int 32))))) A15 c14 A16 c16 none 0))) (c_T_api_Item ((T_api_Item.mk (x1) (r5) (([] : List (Vector Int 32))))) A15 c14 A16 c16 none 0) rfl rfl rfl rfl hE hS rfl rfl (by kernel_rfl) (by kernel_rfl) (by kernel_rfl) (by kernel_rfl) (by kernel_rfl) (fun a w _ hE hS => ?_))
   refine ⟨⟨show RP [b2, b4] _ _ from ⟨(hS.heapAt (j := 2) rfl).trans hp_b4802.symm, ⟨(hS.heapAt (j := 4) rfl).trans hp_b4806.symm, trivial⟩⟩, fun _ => hS.st.sees.mono le15⟩, ?_⟩
   clear hp_b4802 hp_b4806
   refine doneG (by kernel_rfl) ?_
   exact ⟨r5, A15, c14, A16, c16, b14, D17, hE.wk, hS, le15, h30, h31, hf⟩
  clear hE hS
  rintro a w ⟨y3, A6, c6, A7, c7, b10, D4, hE, hS, le7, h32, h33, hf⟩
  replace hf := hj4 _ hf
  clear hj4
  obtain ⟨j5, hj5, hf⟩ := jn_elim hf
  refine seq_join (fun a w => ∃ (y4 : (List (Vector Int 32))), ∃ A11, ∃ c11, ∃ q5, ∃ D11, Env a 92 [] [(5, .pointer (some ⟨b2, 0, none⟩)), (6, .pointer (some ⟨b3, 0, none⟩)), (7, .pointer (some ⟨b4, 0, none⟩)), (8, .pointer (some ⟨b5, 0, none⟩)), (10, .pointer (some ⟨b6, 0, none⟩)), (11, .pointer (some ⟨b7, 0, none⟩)), (12, .pointer (some ⟨b9, 0, none⟩)), (13, .pointer (some ⟨b8, 0, none⟩)), (14, .int .i64 (x1)), (15, .pointer (some ⟨b10, 0, none⟩)), (52, .func (.func 65) #[] #[.pointer (some ⟨b1, 0, none⟩)]), (53, .int .i64 (x1)), (61, .bool (y5)), (73, .bool ((!x12)))] ∧ Stp g w0 D0 [bx b1 47 ([.slice A14 (List.length (x13)) c15])] w D11 [bx b1 47 ([.slice A14 (List.length (x13)) c15]), bx b2 22 ([.slice A4 (List.length (x3)) c5]), bx b3 27 (c_T_api_Point (x7) A8 c9), bx b4 35 ([.int .u32 (x11)]), bx b5 4 ([.bool (x12)]), bx b6 32 (c_T_api_Bundle (z_T_api_Bundle) none 0 none 0), bx b7 4 ([.bool false]), bx b9 40 ([.slice A2 (List.length (r1)) c2]), bx b8 32 (c_T_api_Bundle ((T_api_Bundle.mk (x12) (y1) (y2.2))) A1 c1 A5 c4), bx b10 42 (c_T_api_Item ((T_api_Item.mk (x1) (y3) (y4))) A6 c6 A7 c7 A11 c11), q2 .busy none, dk d7210, q1, q5] ∧ Snap.le D4 D11 ∧ OwnD (kdArr .u8 32) 24 D11 A11 c11 (y4) q5 ∧ j5 y4 = some s1) ?_ ?_
  ·clear hj5
   refine sq (ra ?_)
   refine sM 2 2 [5] [(73, .bool ((!x12)))] hE hS fun a hE => ?_
   refine ae ?_
   refine cond_split hE (b := (!x12)) rfl (fun hb => ?_) (fun hb => ?_)
   ·replace hf := ct hb hf
    refine ra ?_
    refine sM 2 2 [8] [(75, .slice A2 (List.length (r1)) c2), (76, .int .i64 (x1))] hE hS fun a hE => ?_
    obtain ⟨r6, h34, hf⟩ := bs hf
    refine aC rfl rfl rfl rfl hE rfl rfl rfl rfl (proof_Path.calls h34 (hS.st.fore (L := [])) (h12.mono (le2 (le2 (le2 le6 le3) le4) le7)) (hG0.mono (le2 (le2 (le2 (le2 (le2 le1 le5) le6) le3) le4) le7)) (hG1.mono (le2 (le2 (le2 (le2 (le2 le1 le5) le6) le3) le4) le7))) fun a v w hR hE => ?_
    obtain ⟨D18, A17, c17, q6, rfl, hS1, h35⟩ := hR
    have le22 := hS1.dle
    have hS := hS.callR hS1 rfl (.c .n)
    refine sM 4 7 [] [(78, .slice A17 (List.length (r6.1)) c17), (80, .pointer (some ⟨b10, 110, none⟩))] hE hS fun a hE => ?_
    have hS := hS.p (.d 1 (.d 0 (.d 2 (.d 3 (.d 4 (.d 5 (.d 6 (.d 7 (.d 8 (.d 9 (.d 10 (.d 11 (.d 12 (.d 13 .n))))))))))))))
    refine at_op (op_store (v := .slice A17 (List.length (r6.1)) c17) (c_T_api_Item ((T_api_Item.mk (x1) (y3) (r6.1))) A6 c6 A7 c7 A17 c17) rfl rfl rfl rfl hE hS rfl rfl (by kernel_rfl) (by kernel_rfl) (by kernel_rfl) (by kernel_rfl) (by kernel_rfl) (fun a w _ hE hS => ?_)) rfl
    refine ae ?_
    have hS := hS.p (.d 2 (.d 3 (.d 4 (.d 5 (.d 6 (.d 7 (.d 8 (.d 9 (.d 10 (.d 0 (.d 11 (.d 12 (.d 13 (.d 1 .n))))))))))))))
    exact ⟨r6.1, A17, c17, q6, D18, hE.wk, hS, le22, h35, hf⟩
   replace hf := cf hb hf
   refine wpIn_skip ?_
   have hS := hS.nils
   have hS := hS.p (.d 2 (.d 3 (.d 4 (.d 5 (.d 6 (.d 7 (.d 8 (.d 9 (.d 10 (.d 1 (.d 11 (.d 12 (.d 13 (.d 0 .n))))))))))))))
   exact ⟨([] : List (Vector Int 32)), none, 0, none, D4, hE.wk, hS, lr, (OwnD.nil (kdArr .u8 32) 24 D4), hf⟩
  clear hE hS
  rintro a w ⟨y4, A11, c11, q5, D11, hE, hS, le11, h36, hf⟩
  replace hf := hj5 _ hf
  clear hj5
  refine ra ?_
  refine sM 3 3 [8, 9] [(82, .slice A5 (List.length (y2.2)) c4), (83, .agg (List.toArray (c_T_api_Item ((T_api_Item.mk (x1) (y3) (y4))) A6 c6 A7 c7 A11 c11)))] hE hS fun a hE => ?_
  have hS := hS.p (.d 13 (.d 0 (.d 1 (.d 2 (.d 3 (.d 4 (.d 5 (.d 6 (.d 7 (.d 8 (.d 9 (.d 10 (.d 11 (.d 12 .n))))))))))))))
  obtain ⟨D13, q13, le12, hS, h47, h37⟩ := hS.lent h36
  refine at_op (op_buildSlice (K := kd_T_api_Item) (e := 42) (cs := (c_T_api_Item ((T_api_Item.mk (x1) (y3) (y4))) A6 c6 A7 c7 A11 c11) ++ []) ([(T_api_Item.mk (x1) (y3) (y4))] : List T_api_Item) rfl rfl rfl rfl hE rfl hS rfl (by kernel_rfl) rfl rfl (by exact ⟨_, _, rfl, (kd_T_api_Item_mk (D := D13) (x := (T_api_Item.mk (x1) (y3) (y4))) rfl (kd_T_api_Rec_mk (D := D13) (x := y3) rfl rfl rfl rfl rfl rfl rfl rfl rfl rfl rfl (kslice (h32.mono (le2 le11 le12))) (kslice (h33.mono (le2 le11 le12))) rfl rfl rfl) (kslice h37)), rfl⟩) (fun a A25 q14 w _ hE h38 hS => ?_)) rfl
  obtain ⟨D23, q15, le20, hS, h48, h39⟩ := hS.lent h38
  have hS := hS.p (.d 14 (.d 0 (.d 1 (.d 2 (.d 3 (.d 4 (.d 5 (.d 6 (.d 7 (.d 8 (.d 9 (.d 10 (.d 11 (.d 12 (.d 13 .n)))))))))))))))
  obtain ⟨D19, q16, le21, hS, h40, h49⟩ := hS.lent (h1.mono (le2 (le2 (le2 (le2 le4 le7) le11) le12) le20))
  obtain ⟨l2, h41, hf⟩ := bs hf
  refine at_op (g_append (K := kd_T_api_Item) (e := 42) (bytes := 256) (l := y2.2) (m := ([(T_api_Item.mk (x1) (y3) (y4))] : List T_api_Item)) rfl rfl rfl rfl hE rfl hS rfl rfl (by kernel_rfl) rfl rfl h40 (h39.mono le21) h41 (fun a A19 c19 q7 w _ hE h42 hS => ?_)) rfl
  refine sM 1 6 [] [(86, .pointer (some ⟨b8, 35, none⟩))] hE hS fun a hE => ?_
  have hS := hS.p (.d 11 (.d 0 (.d 1 (.d 2 (.d 3 (.d 4 (.d 5 (.d 6 (.d 7 (.d 8 (.d 9 (.d 10 (.d 12 (.d 13 (.d 14 .n)))))))))))))))
  refine at_op (op_store (v := .slice A19 (List.length (l2)) c19) (c_T_api_Bundle ((T_api_Bundle.mk (x12) (y1) (l2))) A1 c1 A19 c19) rfl rfl rfl rfl hE hS rfl rfl (by kernel_rfl) (by kernel_rfl) (by kernel_rfl) (by kernel_rfl) (by kernel_rfl) (fun a w _ hE hS => ?_)) rfl
  refine ae ?_
  have hS := hS.p (.d 13 (.d 0 (.d 1 (.d 2 (.d 3 (.d 4 (.d 5 (.d 6 (.d 7 (.d 8 (.d 9 (.d 10 (.d 11 (.d 12 (.d 14 .n)))))))))))))))
  refine round_normal2 (a1 := a) hq1 hS (fun w a hS hE => ?_)
  refine sN 1 4 [(14, .bool false)] hE fun a hE => ?_
  refine ae ?_
  refine wpIn_cond_false (hE.eval rfl) ?_
  refine wpIn_skip ?_
  refine ra ?_
  refine sN 2 2 [(7, .int .i64 ((IntKind.wrap .i64 (y2.1 + (1 : Int)))))] hE fun a hE => ?_
  refine ae ?_
  have hS := hS.p (.d 5 (.d 6 (.d 7 (.d 8 (.d 9 (.d 10 (.d 11 (.d 12 (.d 1 (.d 0 (.d 14 (.d 2 .n))))))))))))
  exact ⟨((IntKind.wrap .i64 (y2.1 + (1 : Int))), l2), A19, c19, q7, D19, hE.wk, hS, (le2 (le2 (le2 (le2 (le2 (le2 le3 le4) le7) le11) le12) le20) le21), h42, hf⟩
 replace hf := cf hb hf
 refine wpIn_exit ?_
 obtain rfl := si hf
 exact ⟨y2.2, A5, c4, q1, D3, hE.wk, hS, le3, h1, rfl⟩
set_option maxRecDepth 100000 in
theorem export_Some.calls {K : Nat} {g w0 : World} {D0 : Snap} {x1 : (List T_api_Rec)} {x5 : T_api_Point} {x9 : Int} {x10 : (List Int)} {A2 : Option Addr} {c3 : Nat} {A6 : Option Addr} {c7 : Nat} {A11 : Option Addr} {c12 : Nat} {r : (T_api_Bundle × Bool)} (hf : export_Some.f K x1 x5 x9 x10 = some r) (hS0 : St g w0 D0 []) (h4 : Sl kd_T_api_Rec D0 A2 c3 (x1)) (h8 : Sl kd_T_api_Sig D0 A6 c7 (x5.fSigs)) (h13 : Sl (kdInt .i64) D0 A11 c12 (x10)) (hG0 : Cell (kdArr .u32 8) D0 0 0 gl_First) (hG1 : Cell (kdArr .u32 64) D0 1 0 gl_K) :
  CallsIn (Fw none) 0 Tryd.prog 13 (List.toArray [.slice A2 (List.length (x1)) c3, .agg (List.toArray (c_T_api_Point (x5) A6 c7)), .int .u32 (x9), .slice A11 (List.length (x10)) c12]) w0 (fun e w' => ∃ v, e = .returned v ∧ ∃ (D1 : Snap) (A60 : Option Addr) (c61 : Nat) (A63 : Option Addr) (c64 : Nat), v = .tuple #[.agg (List.toArray (c_T_api_Bundle ((T_api_Bundle.mk (r.1.fWhole) ((T_api_Point.mk (r.1.fPoint.fSize) (r.1.fPoint.fRoot) (r.1.fPoint.fSigs))) (r.1.fItems))) A60 c61 A63 c64)), .bool (r.2)] ∧ Stp g w0 D0 [] w' D1 [] ∧ Sl kd_T_api_Sig D1 A60 c61 (r.1.fPoint.fSigs) ∧ Sl kd_T_api_Item D1 A63 c64 (r.1.fItems)) := by
 unfold export_Some.f at hf
 have hS := Stp.refl hS0
 clear hS0
 refine calls_body (n := 18) Tryd.func13 rfl Tryd.ntmps13 rfl fun a hE => ?_
 have hE : Env a 18 [] [(0, .slice A2 (List.length (x1)) c3), (1, .agg (List.toArray (c_T_api_Point (x5) A6 c7))), (2, .int .u32 (x9)), (3, .slice A11 (List.length (x10)) c12)] := hE
 refine sq (ra ?_)
 refine at_op (op_box rfl rfl rfl rfl hE rfl hS rfl (fun a b66 w _ hE hS => ?_)) rfl
 refine at_op (op_alloc (z := .agg (List.toArray (c_T_api_Bundle (z_T_api_Bundle) none 0 none 0))) rfl rfl rfl rfl hE rfl hS (by kernel_rfl) (fun a b68 w _ hE hS => ?_)) rfl
 refine sN 1 3 [(9, .bool false)] hE fun a hE => ?_
 refine ae ?_
 refine sq ?_
 refine region_draw (fun j => Keeps (mfOf [(8, [b68])] j)) (by kernel_rfl) ?_
 have hS := hS.drew
 first | generalize w.drew = w at hS ⊢ | generalize w0.drew = w at hS ⊢
 refine wP 0 1 9 (.slice A2 (List.length (x1)) c3) hE fun a hE => ?_
 refine wP 2 5 8 (.int .u32 (x9)) hE fun a hE => ?_
 refine wP 3 13 7 (.slice A11 (List.length (x10)) c12) hE fun a hE => ?_
 refine tL 1 15 6 1 (.agg (List.toArray (c_T_api_Point (x5) A6 c7))) hE hS fun a hE => ?_
 obtain ⟨r91, h92, hf⟩ := bs hf
 refine oC 4 31 5 rfl rfl rfl rfl hE rfl rfl rfl rfl (slices_Values_int_int.calls h92 (hS.st.fore (L := [])) h13) fun a v w hR hE => ?_
 obtain ⟨D93, b95, A97, c98, rfl, hS1, h99⟩ := hR
 refine ⟨(hS1.keeps.sub (M' := []) trivial).mono (fun _ h => h), ?_⟩
 have le1 := hS1.dle
 have hS := hS.callR hS1 rfl (.c .n)
 obtain ⟨r1, h1, hf⟩ := bs hf
 refine oC 5 63 4 rfl rfl rfl rfl hE rfl rfl rfl rfl (export_made_v4.calls h1 (hS.st.fore (L := [bx b95 47 ([.slice A97 (List.length (r91)) c98])])) (h4.mono le1) (h8.mono le1) h99 (hG0.mono le1) (hG1.mono le1)) fun a v w hR hE => ?_
 obtain ⟨D2, A1, c1, A3, c2, rfl, hS1, h2, h3⟩ := hR
 refine ⟨(hS1.keeps.sub (M' := []) ⟨.inr ((hS1.heapAt (j := 0) rfl).trans (hS.heapAt (j := 0) rfl).symm), trivial⟩).mono (fun _ h => h), ?_⟩
 have le2 := hS1.dle
 have hS := hS.callR hS1 rfl (.c .n)
 refine wP 6 127 3 (.agg (List.toArray (c_T_api_Bundle (r1.1) A1 c1 A3 c2))) hE fun a hE => ?_
 refine wP 7 255 2 (.bool (r1.2)) hE fun a hE => ?_
 have hS := hS.p (.d 1 (.d 0 (.d 2 .n)))
 refine oG 8 511 (fuel := 1) (by kernel_rfl) (op_store (v := .agg (List.toArray (c_T_api_Bundle (r1.1) A1 c1 A3 c2))) (c_T_api_Bundle (r1.1) A1 c1 A3 c2) rfl rfl rfl rfl hE hS rfl rfl (by kernel_rfl) (by kernel_rfl) (by kernel_rfl) (by kernel_rfl) (by kernel_rfl) (fun a w hkp hE hS => ⟨hkp.mono (fun _ h => h), ?_⟩))
 clear hkp
 refine wP 9 1023 0 (.bool (r1.2)) hE fun a hE => ?_
 refine doneG (by kernel_rfl) ?_
 refine wpIn_ret ?_
 obtain rfl := si hf
 refine ret_ ?_
 refine ret_gen ([.agg (List.toArray (c_T_api_Bundle (r1.1) A1 c1 A3 c2)), .bool (r1.2)]) hE (by rw [show Tryd.f13.results.toList = [.cell 8 32, .tmp 9] from rfl]; exact ⟨_, _, _, 0, _, _, rfl, rfl, hS.heapAt (j := 0) rfl, by kernel_rfl, ⟨_, _, rfl, rfl, rfl⟩⟩) ?_
 have hS := hS.p .n
 exact ⟨_, rfl, D2, A1, c1, A3, c2, rfl, hS, h2, h3⟩
set_option maxRecDepth 100000 in
theorem inspeximuslaw18_alive.calls {K : Nat} {g w0 : World} {D0 : Snap} {r : (Bool)} (hf : inspeximuslaw18_alive.f K = some r) (hS0 : St g w0 D0 []) (hG0 : Cell (kdArr .u32 8) D0 0 0 gl_First) (hG1 : Cell (kdArr .u32 64) D0 1 0 gl_K) :
  CallsIn (Fw none) 0 Tryd.prog 8 (List.toArray []) w0 (fun e w' => ∃ v, e = .returned v ∧ ∃ D1, v = .bool (r) ∧ Stp g w0 D0 [] w' D1 []) := by
 unfold inspeximuslaw18_alive.f at hf
 have hS := Stp.refl hS0
 clear hS0
 refine calls_body (n := 115) Tryd.func8 rfl Tryd.ntmps8 rfl fun a hE => ?_
 have hE : Env a 115 [] [] := hE
 refine sq (ra ?_)
 refine sN 1 1 [(0, .bool false)] hE fun a hE => ?_
 refine ae ?_
 refine sq (ra ?_)
 refine at_op (op_tk hE (tk_build (c_T_api_Step ((T_api_Step.mk ((0 : Int)) ((1 : Int))))) rfl rfl rfl rfl hE rfl rfl (by kernel_rfl) (fun a hE => ?_))) rfl
 refine at_op (op_buildSlice (K := kd_T_api_Step) (e := 44) (cs := (c_T_api_Step ((T_api_Step.mk ((0 : Int)) ((1 : Int))))) ++ []) ([(T_api_Step.mk ((0 : Int)) ((1 : Int)))] : List T_api_Step) rfl rfl rfl rfl hE rfl hS rfl (by kernel_rfl) rfl rfl (by exact ⟨_, _, rfl, (kd_T_api_Step_mk (D := D0) (x := (T_api_Step.mk ((0 : Int)) ((1 : Int)))) rfl rfl), rfl⟩) (fun a A10 q1 w _ hE h5 hS => ?_)) rfl
 refine at_op (op_buildSlice (K := (kdInt .u8)) (e := 5) (cs := [.int .u8 ((97 : Int))] ++ []) ([(97 : Int)] : List Int) rfl rfl rfl rfl hE rfl hS rfl (by kernel_rfl) rfl rfl (by exact ⟨_, _, rfl, rfl, rfl⟩) (fun a A11 q2 w _ hE h6 hS => ?_)) rfl
 refine at_op (op_lit (T := 5) (l := ([(97 : Int)] : List Int)) rfl rfl rfl rfl hE rfl hS rfl (by kernel_rfl) h6 (by kernel_rfl) (fun a D6 w _ le5 hE h3 hS => ?_)) rfl
 have h26 := OwnL.full 5 h3 rfl
 have hS := hS.nils
 have hS := hS.p (.d 1 (.d 0 .n))
 obtain ⟨D2, q3, le6, hS, h27, h7⟩ := hS.lent (h5.mono le5)
 refine at_op (op_tk hE (tk_build (c_T_api_Rec ({ z_T_api_Rec with fKind := (1 : Int), fSteps := ([(T_api_Step.mk ((0 : Int)) ((1 : Int)))] : List T_api_Step), fData := ([(97 : Int)] : List Int) }) A10 1 A11 1) rfl rfl rfl rfl hE rfl rfl (by kernel_rfl) (fun a hE => ?_))) rfl
 refine at_op (op_tk hE (tk_build (c_T_api_Rec ({ z_T_api_Rec with fKind := (2 : Int), fSeq := (1 : Int), fTry := (1 : Int) }) none 0 none 0) rfl rfl rfl rfl hE rfl rfl (by kernel_rfl) (fun a hE => ?_))) rfl
 refine at_op (op_tk hE (tk_build (c_T_api_Rec ({ z_T_api_Rec with fKind := (6 : Int), fEpoch := (1 : Int) }) none 0 none 0) rfl rfl rfl rfl hE rfl rfl (by kernel_rfl) (fun a hE => ?_))) rfl
 refine at_op (op_tk hE (tk_build (c_T_api_Rec ({ z_T_api_Rec with fKind := (4 : Int), fSeq := (2 : Int), fTry := (1 : Int) }) none 0 none 0) rfl rfl rfl rfl hE rfl rfl (by kernel_rfl) (fun a hE => ?_))) rfl
 refine at_op (op_buildSlice (K := kd_T_api_Rec) (e := 39) (cs := (c_T_api_Rec ({ z_T_api_Rec with fKind := (1 : Int), fSteps := ([(T_api_Step.mk ((0 : Int)) ((1 : Int)))] : List T_api_Step), fData := ([(97 : Int)] : List Int) }) A10 1 A11 1) ++ ((c_T_api_Rec ({ z_T_api_Rec with fKind := (2 : Int), fSeq := (1 : Int), fTry := (1 : Int) }) none 0 none 0) ++ ((c_T_api_Rec ({ z_T_api_Rec with fKind := (6 : Int), fEpoch := (1 : Int) }) none 0 none 0) ++ ((c_T_api_Rec ({ z_T_api_Rec with fKind := (4 : Int), fSeq := (2 : Int), fTry := (1 : Int) }) none 0 none 0) ++ [])))) ([{ z_T_api_Rec with fKind := (1 : Int), fSteps := ([(T_api_Step.mk ((0 : Int)) ((1 : Int)))] : List T_api_Step), fData := ([(97 : Int)] : List Int) }, { z_T_api_Rec with fKind := (2 : Int), fSeq := (1 : Int), fTry := (1 : Int) }, { z_T_api_Rec with fKind := (6 : Int), fEpoch := (1 : Int) }, { z_T_api_Rec with fKind := (4 : Int), fSeq := (2 : Int), fTry := (1 : Int) }] : List T_api_Rec) rfl rfl rfl rfl hE rfl hS rfl (by kernel_rfl) rfl rfl (by exact ⟨_, _, rfl, (kd_T_api_Rec_mk (D := D2) (x := { z_T_api_Rec with fKind := (1 : Int), fSteps := ([(T_api_Step.mk ((0 : Int)) ((1 : Int)))] : List T_api_Step), fData := ([(97 : Int)] : List Int) }) rfl rfl rfl rfl rfl rfl rfl rfl rfl rfl rfl (kslice h7) (kslice (h3.mono le6)) rfl rfl rfl), ⟨_, _, rfl, (kd_T_api_Rec_mk (D := D2) (x := { z_T_api_Rec with fKind := (2 : Int), fSeq := (1 : Int), fTry := (1 : Int) }) rfl rfl rfl rfl rfl rfl rfl rfl rfl rfl rfl (kslice (Sl.nil kd_T_api_Step D2)) (kslice (Sl.nil (kdInt .u8) D2)) rfl rfl rfl), ⟨_, _, rfl, (kd_T_api_Rec_mk (D := D2) (x := { z_T_api_Rec with fKind := (6 : Int), fEpoch := (1 : Int) }) rfl rfl rfl rfl rfl rfl rfl rfl rfl rfl rfl (kslice (Sl.nil kd_T_api_Step D2)) (kslice (Sl.nil (kdInt .u8) D2)) rfl rfl rfl), ⟨_, _, rfl, (kd_T_api_Rec_mk (D := D2) (x := { z_T_api_Rec with fKind := (4 : Int), fSeq := (2 : Int), fTry := (1 : Int) }) rfl rfl rfl rfl rfl rfl rfl rfl rfl rfl rfl (kslice (Sl.nil kd_T_api_Step D2)) (kslice (Sl.nil (kdInt .u8) D2)) rfl rfl rfl), rfl⟩⟩⟩⟩) (fun a A1 q4 w _ hE h8 hS => ?_)) rfl
 refine sN 1 10 [(1, .slice A1 (List.length (([{ z_T_api_Rec with fKind := (1 : Int), fSteps := ([(T_api_Step.mk ((0 : Int)) ((1 : Int)))] : List T_api_Step), fData := ([(97 : Int)] : List Int) }, { z_T_api_Rec with fKind := (2 : Int), fSeq := (1 : Int), fTry := (1 : Int) }, { z_T_api_Rec with fKind := (6 : Int), fEpoch := (1 : Int) }, { z_T_api_Rec with fKind := (4 : Int), fSeq := (2 : Int), fTry := (1 : Int) }] : List T_api_Rec))) 4)] hE fun a hE => ?_
 refine ae ?_
 refine sq (ra ?_)
 refine at_op (op_tk hE (tk_build (c_T_api_Point ({ z_T_api_Point with fSize := (4 : Int) }) none 0) rfl rfl rfl rfl hE rfl rfl (by kernel_rfl) (fun a hE => ?_))) rfl
 refine at_op (op_alloc (z := .agg (List.toArray (c_T_api_Point (z_T_api_Point) none 0))) rfl rfl rfl rfl hE rfl hS (by kernel_rfl) (fun a b1 w _ hE hS => ?_)) rfl
 obtain ⟨v1, hv1, hf⟩ := bs hf
 replace hv1 := Option.some.inj hv1
 refine at_op (op_store (v := .agg (List.toArray (c_T_api_Point ({ z_T_api_Point with fSize := (4 : Int) }) none 0))) (c_T_api_Point (v1) none 0) rfl rfl rfl rfl hE hS rfl rfl (by kernel_rfl) (by kernel_rfl) (by kernel_rfl) (by kernel_rfl) (by rw [← hv1]; kernel_rfl) (fun a w _ hE hS => ?_)) rfl
 have h2 : Sl kd_T_api_Sig D2 none 0 (v1.fSigs) := by rw [← hv1]; exact (Sl.nil kd_T_api_Sig D2)
 refine ae ?_
 refine sq (ra ?_)
 refine sM 2 2 [0] [(22, .slice A1 (List.length (([{ z_T_api_Rec with fKind := (1 : Int), fSteps := ([(T_api_Step.mk ((0 : Int)) ((1 : Int)))] : List T_api_Step), fData := ([(97 : Int)] : List Int) }, { z_T_api_Rec with fKind := (2 : Int), fSeq := (1 : Int), fTry := (1 : Int) }, { z_T_api_Rec with fKind := (6 : Int), fEpoch := (1 : Int) }, { z_T_api_Rec with fKind := (4 : Int), fSeq := (2 : Int), fTry := (1 : Int) }] : List T_api_Rec))) 4), (23, .agg (List.toArray (c_T_api_Point (v1) none 0)))] hE hS fun a hE => ?_
 have hS := hS.p (.d 1 (.d 0 (.d 2 (.d 3 .n))))
 obtain ⟨D7, q5, le3, hS, h28, h1⟩ := hS.lent h8
 have hS := hS.p (.d 0 (.d 1 .n))
 obtain ⟨r2, h9, hf⟩ := bs hf
 refine aC rfl rfl rfl rfl hE rfl rfl rfl rfl (export_Range.calls h9 (hS.st.fore (L := [])) h1 (h2.mono le3) (hG0.mono (le2 (le2 le5 le6) le3)) (hG1.mono (le2 (le2 le5 le6) le3))) fun a v w hR hE => ?_
 obtain ⟨D8, A5, c4, A3, c2, rfl, hS1, h29, h10⟩ := hR
 have le1 := hS1.dle
 have hS := hS.callR hS1 rfl .n
 refine sN 3 6 [(25, .agg (List.toArray (c_T_api_Bundle (r2.1) A5 c4 A3 c2))), (26, .bool (r2.2))] hE fun a hE => ?_
 refine at_op (op_alloc (z := .agg (List.toArray (c_T_api_Bundle (z_T_api_Bundle) none 0 none 0))) rfl rfl rfl rfl hE rfl hS (by kernel_rfl) (fun a b2 w _ hE hS => ?_)) rfl
 refine at_op (op_store (v := .agg (List.toArray (c_T_api_Bundle (r2.1) A5 c4 A3 c2))) (c_T_api_Bundle (r2.1) A5 c4 A3 c2) rfl rfl rfl rfl hE hS rfl rfl (by kernel_rfl) (by kernel_rfl) (by kernel_rfl) (by kernel_rfl) (by kernel_rfl) (fun a w _ hE hS => ?_)) rfl
 refine sN 1 9 [(4, .bool (r2.2))] hE fun a hE => ?_
 refine ae ?_
 refine sq (ra ?_)
 refine sM 2 2 [2] [(28, .slice A1 (List.length (([{ z_T_api_Rec with fKind := (1 : Int), fSteps := ([(T_api_Step.mk ((0 : Int)) ((1 : Int)))] : List T_api_Step), fData := ([(97 : Int)] : List Int) }, { z_T_api_Rec with fKind := (2 : Int), fSeq := (1 : Int), fTry := (1 : Int) }, { z_T_api_Rec with fKind := (6 : Int), fEpoch := (1 : Int) }, { z_T_api_Rec with fKind := (4 : Int), fSeq := (2 : Int), fTry := (1 : Int) }] : List T_api_Rec))) 4), (29, .agg (List.toArray (c_T_api_Point (v1) none 0)))] hE hS fun a hE => ?_
 obtain ⟨r3, h11, hf⟩ := bs hf
 refine aC rfl rfl rfl rfl hE rfl rfl rfl rfl (export_Whole.calls h11 (hS.st.fore (L := [])) (h1.mono le1) (h2.mono (le2 le3 le1)) (hG0.mono (le2 (le2 (le2 le5 le6) le3) le1)) (hG1.mono (le2 (le2 (le2 le5 le6) le3) le1))) fun a v w hR hE => ?_
 obtain ⟨D9, A6, c5, A4, c3, rfl, hS1, h30, h12⟩ := hR
 have le4 := hS1.dle
 have hS := hS.callR hS1 rfl .n
 refine sN 3 6 [(31, .agg (List.toArray (c_T_api_Bundle (r3.1) A6 c5 A4 c3))), (32, .bool (r3.2))] hE fun a hE => ?_
 refine at_op (op_alloc (z := .agg (List.toArray (c_T_api_Bundle (z_T_api_Bundle) none 0 none 0))) rfl rfl rfl rfl hE rfl hS (by kernel_rfl) (fun a b3 w _ hE hS => ?_)) rfl
 refine at_op (op_store (v := .agg (List.toArray (c_T_api_Bundle (r3.1) A6 c5 A4 c3))) (c_T_api_Bundle (r3.1) A6 c5 A4 c3) rfl rfl rfl rfl hE hS rfl rfl (by kernel_rfl) (by kernel_rfl) (by kernel_rfl) (by kernel_rfl) (by kernel_rfl) (fun a w _ hE hS => ?_)) rfl
 refine sN 1 9 [(6, .bool (r3.2))] hE fun a hE => ?_
 refine ae ?_
 refine sq (ra ?_)
 refine sM 2 2 [3] [(34, .slice A1 (List.length (([{ z_T_api_Rec with fKind := (1 : Int), fSteps := ([(T_api_Step.mk ((0 : Int)) ((1 : Int)))] : List T_api_Step), fData := ([(97 : Int)] : List Int) }, { z_T_api_Rec with fKind := (2 : Int), fSeq := (1 : Int), fTry := (1 : Int) }, { z_T_api_Rec with fKind := (6 : Int), fEpoch := (1 : Int) }, { z_T_api_Rec with fKind := (4 : Int), fSeq := (2 : Int), fTry := (1 : Int) }] : List T_api_Rec))) 4), (35, .agg (List.toArray (c_T_api_Point (v1) none 0)))] hE hS fun a hE => ?_
 obtain ⟨r1, h13, hf⟩ := bs hf
 refine aC rfl rfl rfl rfl hE rfl rfl rfl rfl (export_Saga.calls h13 (hS.st.fore (L := [])) (h1.mono (le2 le1 le4)) (h2.mono (le2 (le2 le3 le1) le4)) (hG0.mono (le2 (le2 (le2 (le2 le5 le6) le3) le1) le4)) (hG1.mono (le2 (le2 (le2 (le2 le5 le6) le3) le1) le4))) fun a v w hR hE => ?_
 obtain ⟨D10, A7, c6, A2, c1, rfl, hS1, h31, h4⟩ := hR
 have le8 := hS1.dle
 have hS := hS.callR hS1 rfl .n
 refine sN 3 6 [(37, .agg (List.toArray (c_T_api_Bundle (r1.1) A7 c6 A2 c1))), (38, .bool (r1.2))] hE fun a hE => ?_
 refine at_op (op_alloc (z := .agg (List.toArray (c_T_api_Bundle (z_T_api_Bundle) none 0 none 0))) rfl rfl rfl rfl hE rfl hS (by kernel_rfl) (fun a b4 w _ hE hS => ?_)) rfl
 refine at_op (op_store (v := .agg (List.toArray (c_T_api_Bundle (r1.1) A7 c6 A2 c1))) (c_T_api_Bundle (r1.1) A7 c6 A2 c1) rfl rfl rfl rfl hE hS rfl rfl (by kernel_rfl) (by kernel_rfl) (by kernel_rfl) (by kernel_rfl) (by kernel_rfl) (fun a w _ hE hS => ?_)) rfl
 refine sN 1 9 [(8, .bool (r1.2))] hE fun a hE => ?_
 refine ae ?_
 refine sq (ra ?_)
 refine sM 2 2 [4] [(40, .slice A1 (List.length (([{ z_T_api_Rec with fKind := (1 : Int), fSteps := ([(T_api_Step.mk ((0 : Int)) ((1 : Int)))] : List T_api_Step), fData := ([(97 : Int)] : List Int) }, { z_T_api_Rec with fKind := (2 : Int), fSeq := (1 : Int), fTry := (1 : Int) }, { z_T_api_Rec with fKind := (6 : Int), fEpoch := (1 : Int) }, { z_T_api_Rec with fKind := (4 : Int), fSeq := (2 : Int), fTry := (1 : Int) }] : List T_api_Rec))) 4), (41, .agg (List.toArray (c_T_api_Point (v1) none 0)))] hE hS fun a hE => ?_
 refine at_op (op_buildSlice (K := (kdInt .i64)) (e := 3) (cs := [.int .i64 ((1 : Int))] ++ ([.int .i64 ((1 : Int))] ++ [])) ([(1 : Int), (1 : Int)] : List Int) rfl rfl rfl rfl hE rfl hS rfl (by kernel_rfl) rfl rfl (by exact ⟨_, _, rfl, rfl, ⟨_, _, rfl, rfl, rfl⟩⟩) (fun a A24 q6 w _ hE h14 hS => ?_)) rfl
 obtain ⟨D11, q7, le7, hS, h32, h15⟩ := hS.lent h14
 obtain ⟨r4, h16, hf⟩ := bs hf
 refine aC rfl rfl rfl rfl hE rfl rfl rfl rfl (export_Some.calls h16 (hS.st.fore (L := [])) (h1.mono (le2 (le2 (le2 le1 le4) le8) le7)) (h2.mono (le2 (le2 (le2 (le2 le3 le1) le4) le8) le7)) h15 (hG0.mono (le2 (le2 (le2 (le2 (le2 (le2 le5 le6) le3) le1) le4) le8) le7)) (hG1.mono (le2 (le2 (le2 (le2 (le2 (le2 le5 le6) le3) le1) le4) le8) le7))) fun a v w hR hE => ?_
 obtain ⟨D3, A8, c7, A9, c8, rfl, hS1, h33, h34⟩ := hR
 have le9 := hS1.dle
 have hS := hS.callR hS1 rfl .n
 refine sN 3 7 [(44, .agg (List.toArray (c_T_api_Bundle (r4.1) A8 c7 A9 c8))), (45, .bool (r4.2))] hE fun a hE => ?_
 refine at_op (op_alloc (z := .agg (List.toArray (c_T_api_Bundle (z_T_api_Bundle) none 0 none 0))) rfl rfl rfl rfl hE rfl hS (by kernel_rfl) (fun a b5 w _ hE hS => ?_)) rfl
 refine at_op (op_store (v := .agg (List.toArray (c_T_api_Bundle (r4.1) A8 c7 A9 c8))) (c_T_api_Bundle (r4.1) A8 c7 A9 c8) rfl rfl rfl rfl hE hS rfl rfl (by kernel_rfl) (by kernel_rfl) (by kernel_rfl) (by kernel_rfl) (by kernel_rfl) (fun a w _ hE hS => ?_)) rfl
 refine sN 1 10 [(10, .bool (r4.2))] hE fun a hE => ?_
 refine ae ?_
 obtain ⟨j1, hj1, hf⟩ := jn_elim hf
 refine seq_join (fun a w => ∃ (y1 : Bool), ∃ D4, Env a 115 [] [(0, .bool (y1))] ∧ Stp g w0 D0 [] w D4 [] ∧ Snap.le D3 D4 ∧ j1 y1 = some r) ?_ ?_
 ·clear hj1
  refine ra ?_
  refine sN 2 2 [(47, .bool (r2.2))] hE fun a hE => ?_
  refine bo (r2.2) (fun hb => ?_) fun hb => ?_
  ·replace hf := cf hb hf
   have hE := hE.know (t := 47) rfl hb
   refine sN 68 70 [(0, .bool false)] hE fun a hE => ?_
   refine ae ?_
   have hS := hS.p .n
   exact ⟨false, D3, hE.wk, hS, lr, hf⟩
  replace hf := ct hb hf
  have hE := hE.know (t := 47) rfl hb
  refine sN 3 5 [(50, .bool (r3.2))] hE fun a hE => ?_
  refine bo (r3.2) (fun hb => ?_) fun hb => ?_
  ·replace hf := cf hb hf
   have hE := hE.know (t := 50) rfl hb
   refine sN 65 70 [(0, .bool false)] hE fun a hE => ?_
   refine ae ?_
   have hS := hS.p .n
   exact ⟨false, D3, hE.wk, hS, lr, hf⟩
  replace hf := ct hb hf
  have hE := hE.know (t := 50) rfl hb
  refine sN 3 8 [(53, .bool (r1.2))] hE fun a hE => ?_
  refine bo (r1.2) (fun hb => ?_) fun hb => ?_
  ·replace hf := cf hb hf
   have hE := hE.know (t := 53) rfl hb
   refine sN 62 70 [(0, .bool false)] hE fun a hE => ?_
   refine ae ?_
   have hS := hS.p .n
   exact ⟨false, D3, hE.wk, hS, lr, hf⟩
  replace hf := ct hb hf
  have hE := hE.know (t := 53) rfl hb
  refine sN 4 12 [(57, .bool ((!r4.2)))] hE fun a hE => ?_
  refine bo ((!r4.2)) (fun hb => ?_) fun hb => ?_
  ·replace hf := cf hb hf
   have hE := hE.know (t := 57) rfl hb
   refine sN 58 70 [(0, .bool false)] hE fun a hE => ?_
   refine ae ?_
   have hS := hS.p .n
   exact ⟨false, D3, hE.wk, hS, lr, hf⟩
  replace hf := ct hb hf
  have hE := hE.know (t := 57) rfl hb
  refine sM 6 18 [4] [(63, .bool ((decide (((List.length (r2.1.fItems) : Nat) : Int) = (2 : Int)))))] hE hS fun a hE => ?_
  refine bo ((decide (((List.length (r2.1.fItems) : Nat) : Int) = (2 : Int)))) (fun hb => ?_) fun hb => ?_
  ·replace hf := cf hb hf
   have hE := hE.know (t := 63) rfl hb
   refine sN 52 70 [(0, .bool false)] hE fun a hE => ?_
   refine ae ?_
   have hS := hS.p .n
   exact ⟨false, D3, hE.wk, hS, lr, hf⟩
  replace hf := ct hb hf
  have hE := hE.know (t := 63) rfl hb
  refine sM 2 20 [4] [(65, .slice A3 (List.length (r2.1.fItems)) c2)] hE hS fun a hE => ?_
  obtain ⟨x1, h17, hf⟩ := bs hf
  refine at_op (op_tk hE (g_index (K := kd_T_api_Item) (e := 42) (by_ := 256) (zl := 111) rfl rfl rfl rfl hE rfl rfl rfl (by kernel_rfl) rfl (h10.mono (le2 (le2 (le2 le4 le8) le7) le9)) h17 (fun a b6 o3 hE h18 => ?_))) rfl
  refine at_op (op_tk hE (g_fieldAddr (fo := 0) (ft := 3) (o3 + 0) rfl rfl rfl rfl hE rfl rfl (by kernel_rfl) rfl (fun a hE => ?_))) rfl
  obtain ⟨cs1, C1, T1, fr1, hr1, hb1, hc1⟩ := id h18
  obtain ⟨A13, c10, A14, c11, A15, c12, rfl, h35, h36, h37⟩ := kd_T_api_Item_el hr1
  refine at_op (op_tk hE (tk_loadX (off0 := o3) (off := 0) (c := c_T_api_Item (x1) A13 c10 A14 c11 A15 c12) (.int .i64 (x1.fAt)) rfl rfl rfl rfl hE rfl hS rfl hb1 hc1 (by kernel_rfl) (by kernel_rfl) (kD hS dn_nil) (fun a hE => ?_))) rfl
  refine sN 3 26 [(71, .bool ((decide (x1.fAt = (1 : Int)))))] hE fun a hE => ?_
  refine bo ((decide (x1.fAt = (1 : Int)))) (fun hb => ?_) fun hb => ?_
  ·replace hf := cf hb hf
   have hE := hE.know (t := 71) rfl hb
   refine sN 44 70 [(0, .bool false)] hE fun a hE => ?_
   refine ae ?_
   have hS := hS.p .n
   exact ⟨false, D3, hE.wk, hS, lr, hf⟩
  replace hf := ct hb hf
  have hE := hE.know (t := 71) rfl hb
  refine sM 6 32 [3] [(77, .bool ((decide (((List.length (r3.1.fItems) : Nat) : Int) = (4 : Int)))))] hE hS fun a hE => ?_
  refine bo ((decide (((List.length (r3.1.fItems) : Nat) : Int) = (4 : Int)))) (fun hb => ?_) fun hb => ?_
  ·replace hf := cf hb hf
   have hE := hE.know (t := 77) rfl hb
   refine sN 38 70 [(0, .bool false)] hE fun a hE => ?_
   refine ae ?_
   have hS := hS.p .n
   exact ⟨false, D3, hE.wk, hS, lr, hf⟩
  replace hf := ct hb hf
  have hE := hE.know (t := 77) rfl hb
  refine sM 2 34 [3] [(79, .slice A4 (List.length (r3.1.fItems)) c3)] hE hS fun a hE => ?_
  obtain ⟨x2, h19, hf⟩ := bs hf
  refine at_op (op_tk hE (g_index (K := kd_T_api_Item) (e := 42) (by_ := 256) (zl := 111) rfl rfl rfl rfl hE rfl rfl rfl (by kernel_rfl) rfl (h12.mono (le2 (le2 le8 le7) le9)) h19 (fun a b7 o1 hE h20 => ?_))) rfl
  refine at_op (op_tk hE (g_fieldAddr (fo := 1) (ft := 39) (o1 + 1) rfl rfl rfl rfl hE rfl rfl (by kernel_rfl) rfl (fun a hE => ?_))) rfl
  refine at_op (op_tk hE (g_fieldAddr (fo := 76) (ft := 4) (o1 + 77) rfl rfl rfl rfl hE rfl rfl (by kernel_rfl) rfl (fun a hE => ?_))) rfl
  obtain ⟨cs2, C2, T2, fr2, hr2, hb2, hc2⟩ := id h20
  obtain ⟨A16, c13, A17, c14, A18, c15, rfl, h38, h39, h40⟩ := kd_T_api_Item_el hr2
  refine at_op (op_tk hE (tk_loadX (off0 := o1) (off := 77) (c := c_T_api_Item (x2) A16 c13 A17 c14 A18 c15) (.bool (x2.fRec.fGone)) rfl rfl rfl rfl hE rfl hS rfl hb2 hc2 (by kernel_rfl) (by kernel_rfl) (kD hS dn_nil) (fun a hE => ?_))) rfl
  refine sN 2 40 [(85, .bool (x2.fRec.fGone))] hE fun a hE => ?_
  refine bo (x2.fRec.fGone) (fun hb => ?_) fun hb => ?_
  ·replace hf := cf hb hf
   have hE := hE.know (t := 85) rfl hb
   refine sN 30 70 [(0, .bool false)] hE fun a hE => ?_
   refine ae ?_
   have hS := hS.p .n
   exact ⟨false, D3, hE.wk, hS, lr, hf⟩
  replace hf := ct hb hf
  have hE := hE.know (t := 85) rfl hb
  refine sM 6 46 [2] [(91, .bool ((decide (((List.length (r1.1.fItems) : Nat) : Int) = (3 : Int)))))] hE hS fun a hE => ?_
  refine bo ((decide (((List.length (r1.1.fItems) : Nat) : Int) = (3 : Int)))) (fun hb => ?_) fun hb => ?_
  ·replace hf := cf hb hf
   have hE := hE.know (t := 91) rfl hb
   refine sN 24 70 [(0, .bool false)] hE fun a hE => ?_
   refine ae ?_
   have hS := hS.p .n
   exact ⟨false, D3, hE.wk, hS, lr, hf⟩
  replace hf := ct hb hf
  have hE := hE.know (t := 91) rfl hb
  refine sM 2 48 [2] [(93, .slice A2 (List.length (r1.1.fItems)) c1)] hE hS fun a hE => ?_
  obtain ⟨x3, h21, hf⟩ := bs hf
  refine at_op (op_tk hE (g_index (K := kd_T_api_Item) (e := 42) (by_ := 256) (zl := 111) rfl rfl rfl rfl hE rfl rfl rfl (by kernel_rfl) rfl (h4.mono (le2 le7 le9)) h21 (fun a b8 o2 hE h22 => ?_))) rfl
  refine at_op (op_tk hE (g_fieldAddr (fo := 1) (ft := 39) (o2 + 1) rfl rfl rfl rfl hE rfl rfl (by kernel_rfl) rfl (fun a hE => ?_))) rfl
  refine at_op (op_tk hE (g_fieldAddr (fo := 76) (ft := 4) (o2 + 77) rfl rfl rfl rfl hE rfl rfl (by kernel_rfl) rfl (fun a hE => ?_))) rfl
  obtain ⟨cs3, C3, T3, fr3, hr3, hb3, hc3⟩ := id h22
  obtain ⟨A19, c16, A20, c17, A21, c18, rfl, h41, h42, h43⟩ := kd_T_api_Item_el hr3
  refine at_op (op_tk hE (tk_loadX (off0 := o2) (off := 77) (c := c_T_api_Item (x3) A19 c16 A20 c17 A21 c18) (.bool (x3.fRec.fGone)) rfl rfl rfl rfl hE rfl hS rfl hb3 hc3 (by kernel_rfl) (by kernel_rfl) (kD hS dn_nil) (fun a hE => ?_))) rfl
  refine sN 3 55 [(100, .bool ((!x3.fRec.fGone)))] hE fun a hE => ?_
  refine bo ((!x3.fRec.fGone)) (fun hb => ?_) fun hb => ?_
  ·replace hf := cf hb hf
   have hE := hE.know (t := 100) rfl hb
   refine sN 15 70 [(0, .bool false)] hE fun a hE => ?_
   refine ae ?_
   have hS := hS.p .n
   exact ⟨false, D3, hE.wk, hS, lr, hf⟩
  replace hf := ct hb hf
  have hE := hE.know (t := 100) rfl hb
  refine sM 2 57 [2] [(102, .slice A2 (List.length (r1.1.fItems)) c1)] hE hS fun a hE => ?_
  obtain ⟨x4, h23, hf⟩ := bs hf
  refine at_op (op_tk hE (g_index (K := kd_T_api_Item) (e := 42) (by_ := 256) (zl := 111) rfl rfl rfl rfl hE rfl rfl rfl (by kernel_rfl) rfl (h4.mono (le2 le7 le9)) h23 (fun a b9 o4 hE h24 => ?_))) rfl
  refine at_op (op_tk hE (g_fieldAddr (fo := 110) (ft := 40) (o4 + 110) rfl rfl rfl rfl hE rfl rfl (by kernel_rfl) rfl (fun a hE => ?_))) rfl
  obtain ⟨cs4, C4, T4, fr4, hr4, hb4, hc4⟩ := id h24
  obtain ⟨A22, c19, A23, c20, A12, c9, rfl, h44, h45, h46⟩ := kd_T_api_Item_el hr4
  refine at_op (op_tk hE (tk_loadX (off0 := o4) (off := 110) (c := c_T_api_Item (x4) A22 c19 A23 c20 A12 c9) (.slice A12 (List.length (x4.fPath)) c9) rfl rfl rfl rfl hE rfl hS rfl hb4 hc4 (by kernel_rfl) (by kernel_rfl) (kD hS dn_nil) (fun a hE => ?_))) rfl
  refine sN 4 64 [(109, .bool ((decide (((List.length (x4.fPath) : Nat) : Int) = (2 : Int)))))] hE fun a hE => ?_
  refine bo ((decide (((List.length (x4.fPath) : Nat) : Int) = (2 : Int)))) (fun hb => ?_) fun hb => ?_
  ·replace hf := cf hb hf
   have hE := hE.know (t := 109) rfl hb
   refine sN 6 70 [(0, .bool false)] hE fun a hE => ?_
   refine ae ?_
   have hS := hS.p .n
   exact ⟨false, D3, hE.wk, hS, lr, hf⟩
  replace hf := ct hb hf
  have hE := hE.know (t := 109) rfl hb
  refine sN 1 65 [(110, .slice A1 (List.length (([{ z_T_api_Rec with fKind := (1 : Int), fSteps := ([(T_api_Step.mk ((0 : Int)) ((1 : Int)))] : List T_api_Step), fData := ([(97 : Int)] : List Int) }, { z_T_api_Rec with fKind := (2 : Int), fSeq := (1 : Int), fTry := (1 : Int) }, { z_T_api_Rec with fKind := (6 : Int), fEpoch := (1 : Int) }, { z_T_api_Rec with fKind := (4 : Int), fSeq := (2 : Int), fTry := (1 : Int) }] : List T_api_Rec))) 4)] hE fun a hE => ?_
  have hS := hS.p (.d 0 (.d 2 (.d 3 (.d 4 (.d 5 (.d 6 .n))))))
  obtain ⟨r5, h25, hf⟩ := bs hf
  refine aC rfl rfl rfl rfl hE rfl rfl rfl rfl (export_Hashes.calls h25 (hS.st.fore (L := [])) (h1.mono (le2 (le2 (le2 (le2 le1 le4) le8) le7) le9)) (hG0.mono (le2 (le2 (le2 (le2 (le2 (le2 (le2 le5 le6) le3) le1) le4) le8) le7) le9)) (hG1.mono (le2 (le2 (le2 (le2 (le2 (le2 (le2 le5 le6) le3) le1) le4) le8) le7) le9))) fun a v w hR hE => ?_
  obtain ⟨D5, A25, c21, rfl, hS1, h47⟩ := hR
  have le10 := hS1.dle
  have hS := hS.callR hS1 rfl .n
  refine sN 4 70 [(0, .bool ((decide (((List.length (r5) : Nat) : Int) = (4 : Int)))))] hE fun a hE => ?_
  refine ae ?_
  have hS := hS.p .n
  exact ⟨(decide (((List.length (r5) : Nat) : Int) = (4 : Int))), D5, hE.wk, hS, le10, hf⟩
 clear hE hS
 rintro a w ⟨y1, D4, hE, hS, le11, hf⟩
 replace hf := hj1 _ hf
 clear hj1
 refine wpIn_ret ?_
 obtain rfl := si hf
 refine ret_ ?_
 refine rT 0 (.bool (y1)) hE ?_
 exact ⟨_, rfl, D4, rfl, hS⟩
set_option maxRecDepth 100000 in
theorem inspeximusref04_Great.calls {K : Nat} {g w0 : World} {D0 : Snap} {x1 : T_api_Rec} {A2 : Option Addr} {c3 : Nat} {A5 : Option Addr} {c6 : Nat} {r : (Bool)} (hf : inspeximusref04_Great.f K x1 = some r) (hS0 : St g w0 D0 []) (h4 : Sl kd_T_api_Step D0 A2 c3 (x1.fSteps)) (h7 : Sl (kdInt .u8) D0 A5 c6 (x1.fData)) :
  CallsIn (Fw none) 0 Tryd.prog 60 (List.toArray [.agg (List.toArray (c_T_api_Rec (x1) A2 c3 A5 c6))]) w0 (fun e w' => ∃ v, e = .returned v ∧ ∃ D1, v = .bool (r) ∧ Stp g w0 D0 [] w' D1 []) := by
 unfold inspeximusref04_Great.f at hf
 have hS := Stp.refl hS0
 clear hS0
 refine calls_body (n := 13) Tryd.func60 rfl Tryd.ntmps60 rfl fun a hE => ?_
 have hE : Env a 13 [] [(0, .agg (List.toArray (c_T_api_Rec (x1) A2 c3 A5 c6)))] := hE
 refine sq (ra ?_)
 refine at_op (op_box rfl rfl rfl rfl hE rfl hS rfl (fun a b10 w _ hE hS => ?_)) rfl
 refine sN 1 2 [(2, .bool false)] hE fun a hE => ?_
 refine ae ?_
 refine sq (ra ?_)
 refine sM 5 5 [0] [(7, .bool ((decide ((30 : Int) < ((List.length (x1.fSteps) : Nat) : Int)))))] hE hS fun a hE => ?_
 refine bo ((decide ((30 : Int) < ((List.length (x1.fSteps) : Nat) : Int)))) (fun hb => ?_) fun hb => ?_
 ·replace hf := cf hb hf
  have hE := hE.know (t := 7) rfl hb
  refine sM 6 11 [0] [(2, .bool ((decide ((300 : Int) < ((List.length (x1.fData) : Nat) : Int)))))] hE hS fun a hE => ?_
  refine ae ?_
  refine wpIn_ret ?_
  obtain rfl := si hf
  refine ret_ ?_
  refine rT 2 (.bool ((decide ((300 : Int) < ((List.length (x1.fData) : Nat) : Int))))) hE ?_
  have hS := hS.p .n
  exact ⟨_, rfl, D0, rfl, hS⟩
 replace hf := ct hb hf
 have hE := hE.know (t := 7) rfl hb
 refine sN 6 11 [(2, .bool true)] hE fun a hE => ?_
 refine ae ?_
 refine wpIn_ret ?_
 obtain rfl := si hf
 refine ret_ ?_
 refine rT 2 (.bool true) hE ?_
 have hS := hS.p .n
 exact ⟨_, rfl, D0, rfl, hS⟩
set_option maxRecDepth 100000 in
theorem inspeximusref12_Great.calls {K : Nat} {g w0 : World} {D0 : Snap} {x1 : (List T_api_Rec)} {A2 : Option Addr} {c3 : Nat} {r : (Bool)} (hf : inspeximusref12_Great.f K x1 = some r) (hS0 : St g w0 D0 []) (h4 : Sl kd_T_api_Rec D0 A2 c3 (x1)) :
  CallsIn (Fw none) 0 Tryd.prog 27 (List.toArray [.slice A2 (List.length (x1)) c3]) w0 (fun e w' => ∃ v, e = .returned v ∧ ∃ D1, v = .bool (r) ∧ Stp g w0 D0 [] w' D1 []) := by
 unfold inspeximusref12_Great.f at hf
 have hS := Stp.refl hS0
 clear hS0
 refine calls_body (n := 18) Tryd.func27 rfl Tryd.ntmps27 rfl fun a hE => ?_
 have hE : Env a 18 [] [(0, .slice A2 (List.length (x1)) c3)] := hE
 refine sq (ra ?_)
 refine sN 1 1 [(2, .bool false)] hE fun a hE => ?_
 refine ae ?_
 refine sq (sq (ra ?_))
 refine sN 3 3 [(6, .bool ((decide ((150 : Int) < ((List.length (x1) : Nat) : Int)))))] hE fun a hE => ?_
 refine ae ?_
 refine cond_split hE (b := (decide ((150 : Int) < ((List.length (x1) : Nat) : Int)))) rfl (fun hb => ?_) (fun hb => ?_)
 ·replace hf := ct hb hf
  refine sq (ra ?_)
  refine sN 1 1 [(2, .bool true)] hE fun a hE => ?_
  refine ae ?_
  refine wpIn_ret ?_
  obtain rfl := si hf
  refine ret_ ?_
  refine rT 2 (.bool true) hE ?_
  exact ⟨_, rfl, D0, rfl, hS⟩
 replace hf := cf hb hf
 refine wpIn_skip ?_
 refine sq (sq (ra ?_))
 refine sN 1 1 [(3, .int .i64 ((0 : Int)))] hE fun a hE => ?_
 refine ae ?_
 obtain ⟨s1, hf, hs1⟩ := bs hf
 refine block_loop (fun a w => ∃ (z1 : Unit), ∃ D2, Env a 18 [] [] ∧ Stp g w0 D0 [] w D2 [] ∧ Snap.le D0 D2 ∧ (Sum.inr z1) = s1) (fun k a w => ∃ (y1 : Int), ∃ D3, Env a 18 [] [(0, .slice A2 (List.length (x1)) c3), (3, .int .i64 (y1))] ∧ Stp g w0 D0 [] w D3 [] ∧ Snap.le D0 D3 ∧ inspeximusref12_Great_l1.l K x1 k y1 = some s1) K ?_ ?_ ?_
 ·exact ⟨(0 : Int), D0, hE.wk, hS, lr, hf⟩
 ·clear hE hS hf
  rintro a w ⟨z1, D2, hE, hS, le4, rfl⟩
  have hf := hs1
  clear hs1
  refine sq (ra ?_)
  refine sN 1 1 [(2, .bool false)] hE fun a hE => ?_
  refine ae ?_
  refine wpIn_ret ?_
  obtain rfl := si hf
  refine ret_ ?_
  refine rT 2 (.bool false) hE ?_
  exact ⟨_, rfl, D2, rfl, hS⟩
 clear hE hS hf
 rintro k a w ⟨y1, D3, hE, hS, le1, hf⟩
 obtain ⟨k, rfl, hf⟩ := inspeximusref12_Great_l1.some _ hf
 refine ⟨k, rfl, ?_⟩
 unfold inspeximusref12_Great_l1.b at hf
 refine sq (sq (ra ?_))
 refine sN 4 4 [(10, .bool ((decide (y1 < ((List.length (x1) : Nat) : Int)))))] hE fun a hE => ?_
 refine ae ?_
 refine cond_split hE (b := (decide (y1 < ((List.length (x1) : Nat) : Int)))) rfl (fun hb => ?_) (fun hb => ?_)
 ·replace hf := ct hb hf
  refine wpIn_skip ?_
  refine sq ?_
  refine wpIn_block ?_
  refine sq (ra ?_)
  refine sN 2 2 [(13, .slice A2 (List.length (x1)) c3), (14, .int .i64 (y1))] hE fun a hE => ?_
  obtain ⟨x2, h1, hf⟩ := bs hf
  refine at_op (op_tk hE (g_index (K := kd_T_api_Rec) (e := 39) (by_ := 224) (zl := 109) rfl rfl rfl rfl hE rfl rfl rfl (by kernel_rfl) rfl (h4.mono le1) h1 (fun a b1 o1 hE h2 => ?_))) rfl
  obtain ⟨cs1, C1, T1, fr1, hr1, hb1, hc1⟩ := id h2
  obtain ⟨A1, c1, A3, c2, rfl, h3, h5⟩ := kd_T_api_Rec_el hr1
  refine at_op (op_tk hE (tk_loadX (off0 := o1) (off := 0) (c := c_T_api_Rec (x2) A1 c1 A3 c2) (.agg (List.toArray (c_T_api_Rec (x2) A1 c1 A3 c2))) rfl rfl rfl rfl hE rfl hS rfl hb1 hc1 (by kernel_rfl) (by kernel_rfl) (kD hS dn_nil) (fun a hE => ?_))) rfl
  obtain ⟨r1, h6, hf⟩ := bs hf
  refine aC rfl rfl rfl rfl hE rfl rfl rfl rfl (inspeximusref04_Great.calls h6 (hS.st.fore (L := [])) h3 h5) fun a v w hR hE => ?_
  obtain ⟨D4, rfl, hS1⟩ := hR
  have le3 := hS1.dle
  have hS := hS.callR hS1 rfl .n
  refine ae ?_
  refine cond_split hE (b := r1) rfl (fun hb => ?_) (fun hb => ?_)
  ·replace hf := ct hb hf
   refine sq (ra ?_)
   refine sN 1 1 [(2, .bool true)] hE fun a hE => ?_
   refine ae ?_
   refine wpIn_ret ?_
   obtain rfl := si hf
   replace hf := hs1
   obtain rfl := si hf
   refine ret_ ?_
   refine rT 2 (.bool true) hE ?_
   exact ⟨_, rfl, D4, rfl, hS⟩
  replace hf := cf hb hf
  refine wpIn_skip ?_
  refine ra ?_
  refine sN 3 3 [(3, .int .i64 ((IntKind.wrap .i64 (y1 + (1 : Int)))))] hE fun a hE => ?_
  exact ae ⟨(IntKind.wrap .i64 (y1 + (1 : Int))), D4, hE.wk, hS, (le2 le1 le3), hf⟩
 replace hf := cf hb hf
 refine wpIn_exit ?_
 obtain rfl := si hf
 exact ⟨(), D3, hE.wk, hS, le1, rfl⟩
set_option maxRecDepth 100000 in
theorem inspeximuslaw18_few.calls {K : Nat} {g w0 : World} {D0 : Snap} {x1 : (List T_api_Rec)} {x5 : T_api_Point} {A2 : Option Addr} {c3 : Nat} {A6 : Option Addr} {c7 : Nat} {r : (Bool)} (hf : inspeximuslaw18_few.f K x1 x5 = some r) (hS0 : St g w0 D0 []) (h4 : Sl kd_T_api_Rec D0 A2 c3 (x1)) (h8 : Sl kd_T_api_Sig D0 A6 c7 (x5.fSigs)) :
  CallsIn (Fw none) 0 Tryd.prog 9 (List.toArray [.slice A2 (List.length (x1)) c3, .agg (List.toArray (c_T_api_Point (x5) A6 c7))]) w0 (fun e w' => ∃ v, e = .returned v ∧ ∃ D1, v = .bool (r) ∧ Stp g w0 D0 [] w' D1 []) := by
 unfold inspeximuslaw18_few.f at hf
 have hS := Stp.refl hS0
 clear hS0
 refine calls_body (n := 19) Tryd.func9 rfl Tryd.ntmps9 rfl fun a hE => ?_
 have hE : Env a 19 [] [(0, .slice A2 (List.length (x1)) c3), (1, .agg (List.toArray (c_T_api_Point (x5) A6 c7)))] := hE
 refine sq (ra ?_)
 refine at_op (op_box rfl rfl rfl rfl hE rfl hS rfl (fun a b21 w _ hE hS => ?_)) rfl
 refine sN 1 2 [(4, .bool false)] hE fun a hE => ?_
 refine ae ?_
 refine sq (ra ?_)
 refine sN 1 1 [(5, .slice A2 (List.length (x1)) c3)] hE fun a hE => ?_
 obtain ⟨r28, h29, hf⟩ := bs hf
 refine aC rfl rfl rfl rfl hE rfl rfl rfl rfl (inspeximusref12_Great.calls h29 (hS.st.fore (L := [])) h4) fun a v w hR hE => ?_
 obtain ⟨D30, rfl, hS1⟩ := hR
 have le32 := hS1.dle
 have hS := hS.callR hS1 rfl .n
 refine sN 2 4 [(8, .bool ((!r28)))] hE fun a hE => ?_
 refine bo ((!r28)) (fun hb => ?_) fun hb => ?_
 ·replace hf := cf hb hf
  have hE := hE.know (t := 8) rfl hb
  refine sN 11 15 [(4, .bool false)] hE fun a hE => ?_
  refine ae ?_
  refine wpIn_ret ?_
  obtain rfl := si hf
  refine ret_ ?_
  refine rT 4 (.bool false) hE ?_
  have hS := hS.p .n
  exact ⟨_, rfl, D30, rfl, hS⟩
 replace hf := ct hb hf
 have hE := hE.know (t := 8) rfl hb
 refine sN 5 9 [(13, .bool ((decide (((List.length (x1) : Nat) : Int) ≤ (50 : Int)))))] hE fun a hE => ?_
 refine bo ((decide (((List.length (x1) : Nat) : Int) ≤ (50 : Int)))) (fun hb => ?_) fun hb => ?_
 ·replace hf := cf hb hf
  have hE := hE.know (t := 13) rfl hb
  refine sN 6 15 [(4, .bool false)] hE fun a hE => ?_
  refine ae ?_
  refine wpIn_ret ?_
  obtain rfl := si hf
  refine ret_ ?_
  refine rT 4 (.bool false) hE ?_
  have hS := hS.p .n
  exact ⟨_, rfl, D30, rfl, hS⟩
 replace hf := ct hb hf
 have hE := hE.know (t := 13) rfl hb
 refine sM 6 15 [0] [(4, .bool ((decide (((List.length (x5.fSigs) : Nat) : Int) ≤ (20 : Int)))))] hE hS fun a hE => ?_
 refine ae ?_
 refine wpIn_ret ?_
 obtain rfl := si hf
 refine ret_ ?_
 refine rT 4 (.bool ((decide (((List.length (x5.fSigs) : Nat) : Int) ≤ (20 : Int))))) hE ?_
 have hS := hS.p .n
 exact ⟨_, rfl, D30, rfl, hS⟩
set_option maxRecDepth 100000 in
theorem proof_taken_2.calls {K : Nat} {g w0 : World} {D0 : Snap} {x5 : Int} {x6 : (List (Vector Int 32))} {b1 : Nat} {b2 : Nat} {A7 : Option Addr} {c8 : Nat} {r : ((Vector Int 32) × Int)} (hf : proof_taken_2.f K x5 x6 = some r) (hS0 : St g w0 D0 [bx b1 3 ([.int .i64 (x5)]), bx b2 40 ([.slice A7 (List.length (x6)) c8])]) (h9 : Sl (kdArr .u8 32) D0 A7 c8 (x6)) :
  CallsIn (Fw none) 0 Tryd.prog 101 (List.toArray [.pointer (some ⟨b1, 0, none⟩), .pointer (some ⟨b2, 0, none⟩)]) w0 (fun e w' => ∃ v, e = .returned v ∧ ∃ D1, v = .agg (List.toArray (acells .u8 32 (r.1))) ∧ Stp g w0 D0 [bx b1 3 ([.int .i64 (x5)]), bx b2 40 ([.slice A7 (List.length (x6)) c8])] w' D1 [bx b1 3 ([.int .i64 (r.2)]), bx b2 40 ([.slice A7 (List.length (x6)) c8])]) := by
 unfold proof_taken_2.f at hf
 have hS := Stp.refl hS0
 clear hS0
 refine calls_body (n := 13) Tryd.func101 rfl Tryd.ntmps101 rfl fun a hE => ?_
 have hE : Env a 13 [] [(0, .pointer (some ⟨b1, 0, none⟩)), (1, .pointer (some ⟨b2, 0, none⟩))] := hE
 refine sq (ra ?_)
 refine at_op (op_alloc (z := .agg (List.toArray (acells .u8 32 ((Vector.replicate 32 (0 : Int)))))) rfl rfl rfl rfl hE rfl hS (by kernel_rfl) (fun a b31 w _ hE hS => ?_)) rfl
 refine ae ?_
 refine sq (sq (ra ?_))
 refine sM 2 2 [1] [(4, .bool ((decide (x5 = (0 : Int)))))] hE hS fun a hE => ?_
 refine ae ?_
 refine cond_split hE (b := (decide (x5 = (0 : Int)))) rfl (fun hb => ?_) (fun hb => ?_)
 ·replace hf := ct hb hf
  refine ra ?_
  refine at_op (op_tk hE (tk_build ([]) rfl rfl rfl rfl hE rfl rfl (by kernel_rfl) (fun a hE => ?_))) rfl
  cases hf
 replace hf := cf hb hf
 refine wpIn_skip ?_
 refine sq (ra ?_)
 refine sM 2 2 [1] [(8, .int .i64 ((IntKind.wrap .i64 (x5 - (1 : Int)))))] hE hS fun a hE => ?_
 have hS := hS.p (.d 1 (.d 0 (.d 2 .n)))
 refine at_op (op_store (v := .int .i64 ((IntKind.wrap .i64 (x5 - (1 : Int))))) ([.int .i64 ((IntKind.wrap .i64 (x5 - (1 : Int))))]) rfl rfl rfl rfl hE hS rfl rfl (by kernel_rfl) (by kernel_rfl) (by kernel_rfl) (by kernel_rfl) (by kernel_rfl) (fun a w _ hE hS => ?_)) rfl
 refine ae ?_
 refine sq (ra ?_)
 refine sM 2 2 [2, 0] [(9, .slice A7 (List.length (x6)) c8), (10, .int .i64 ((IntKind.wrap .i64 (x5 - (1 : Int)))))] hE hS fun a hE => ?_
 obtain ⟨x33, h34, hf⟩ := bs hf
 refine at_op (op_tk hE (g_index (K := (kdArr .u8 32)) (e := 24) (by_ := 32) (zl := 32) rfl rfl rfl rfl hE rfl rfl rfl (by kernel_rfl) rfl h9 h34 (fun a b35 o36 hE h37 => ?_))) rfl
 obtain ⟨cs45, C46, T47, fr48, hr49, hb50, hc51⟩ := id h37
 obtain rfl := hr49
 refine at_op (op_tk hE (tk_loadX (off0 := o36) (off := 0) (c := acells .u8 32 (x33)) (.agg (List.toArray (acells .u8 32 (x33)))) rfl rfl rfl rfl hE rfl hS rfl hb50 hc51 (by kernel_rfl) (by kernel_rfl) (kD hS dn_nil) (fun a hE => ?_))) rfl
 have hS := hS.p (.d 1 (.d 0 (.d 2 .n)))
 refine at_op (op_store (v := .agg (List.toArray (acells .u8 32 (x33)))) (acells .u8 32 (x33)) rfl rfl rfl rfl hE hS rfl rfl (by kernel_rfl) (by kernel_rfl) (by kernel_rfl) (by kernel_rfl) (by kernel_rfl) (fun a w _ hE hS => ?_)) rfl
 refine ae ?_
 refine wpIn_ret ?_
 obtain rfl := si hf
 refine ret_ ?_
 refine ret_gen ([.agg (List.toArray (acells .u8 32 (x33)))]) hE (by rw [show Tryd.f101.results.toList = [.cell 2 24] from rfl]; exact ⟨_, _, _, 0, _, _, rfl, rfl, hS.heapAt (j := 0) rfl, by kernel_rfl, rfl⟩) ?_
 have hS := hS.p (.d 1 (.d 2 .n))
 exact ⟨_, rfl, D0, rfl, hS⟩
set_option maxRecDepth 100000 in
theorem proof_Comes_1_1.step {K : Nat} {self : Int → Int → (Vector Int 32) → Int → (List (Vector Int 32)) → Option ((Vector Int 32) × Int)} (ih : ∀ {g w0 : World} {D0 : Snap} {x11 : Int} {x12 : Int} {x13 : (Vector Int 32)} {x14 : Int} {x15 : (List (Vector Int 32))} {b1 : Nat} {b2 : Nat} {b3 : Nat} {b4 : Nat} {b5 : Nat} {A16 : Option Addr} {c17 : Nat} {r : ((Vector Int 32) × Int)} (hf : self x11 x12 x13 x14 x15 = some r) (hS0 : St g w0 D0 [bx b1 24 (acells .u8 32 (x13)), bx b2 118 ([.func (.func 101) #[] #[.pointer (some ⟨b4, 0, none⟩), .pointer (some ⟨b5, 0, none⟩)]]), bx b3 119 ([.func (.func 84) #[] #[.pointer (some ⟨b1, 0, none⟩), .pointer (some ⟨b2, 0, none⟩), .pointer (some ⟨b3, 0, none⟩)]]), bx b4 3 ([.int .i64 (x14)]), bx b5 40 ([.slice A16 (List.length (x15)) c17])]) (h18 : Sl (kdArr .u8 32) D0 A16 c17 (x15)) (hG0 : Cell (kdArr .u32 8) D0 0 0 gl_First) (hG1 : Cell (kdArr .u32 64) D0 1 0 gl_K), CallsIn (Fw none) 0 Tryd.prog 84 (List.toArray [.int .i64 (x11), .int .i64 (x12), .pointer (some ⟨b1, 0, none⟩), .pointer (some ⟨b2, 0, none⟩), .pointer (some ⟨b3, 0, none⟩)]) w0 (fun e w' => ∃ v, e = .returned v ∧ ∃ D1, v = .agg (List.toArray (acells .u8 32 (r.1))) ∧ Stp g w0 D0 [bx b1 24 (acells .u8 32 (x13)), bx b2 118 ([.func (.func 101) #[] #[.pointer (some ⟨b4, 0, none⟩), .pointer (some ⟨b5, 0, none⟩)]]), bx b3 119 ([.func (.func 84) #[] #[.pointer (some ⟨b1, 0, none⟩), .pointer (some ⟨b2, 0, none⟩), .pointer (some ⟨b3, 0, none⟩)]]), bx b4 3 ([.int .i64 (x14)]), bx b5 40 ([.slice A16 (List.length (x15)) c17])] w' D1 [bx b1 24 (acells .u8 32 (x13)), bx b2 118 ([.func (.func 101) #[] #[.pointer (some ⟨b4, 0, none⟩), .pointer (some ⟨b5, 0, none⟩)]]), bx b3 119 ([.func (.func 84) #[] #[.pointer (some ⟨b1, 0, none⟩), .pointer (some ⟨b2, 0, none⟩), .pointer (some ⟨b3, 0, none⟩)]]), bx b4 3 ([.int .i64 (r.2)]), bx b5 40 ([.slice A16 (List.length (x15)) c17])])) {g w0 : World} {D0 : Snap} {x11 : Int} {x12 : Int} {x13 : (Vector Int 32)} {x14 : Int} {x15 : (List (Vector Int 32))} {b1 : Nat} {b2 : Nat} {b3 : Nat} {b4 : Nat} {b5 : Nat} {A16 : Option Addr} {c17 : Nat} {r : ((Vector Int 32) × Int)} (hf : proof_Comes_1_1.b K self x11 x12 x13 x14 x15 = some r) (hS0 : St g w0 D0 [bx b1 24 (acells .u8 32 (x13)), bx b2 118 ([.func (.func 101) #[] #[.pointer (some ⟨b4, 0, none⟩), .pointer (some ⟨b5, 0, none⟩)]]), bx b3 119 ([.func (.func 84) #[] #[.pointer (some ⟨b1, 0, none⟩), .pointer (some ⟨b2, 0, none⟩), .pointer (some ⟨b3, 0, none⟩)]]), bx b4 3 ([.int .i64 (x14)]), bx b5 40 ([.slice A16 (List.length (x15)) c17])]) (h18 : Sl (kdArr .u8 32) D0 A16 c17 (x15)) (hG0 : Cell (kdArr .u32 8) D0 0 0 gl_First) (hG1 : Cell (kdArr .u32 64) D0 1 0 gl_K) :
  CallsIn (Fw none) 0 Tryd.prog 84 (List.toArray [.int .i64 (x11), .int .i64 (x12), .pointer (some ⟨b1, 0, none⟩), .pointer (some ⟨b2, 0, none⟩), .pointer (some ⟨b3, 0, none⟩)]) w0 (fun e w' => ∃ v, e = .returned v ∧ ∃ D1, v = .agg (List.toArray (acells .u8 32 (r.1))) ∧ Stp g w0 D0 [bx b1 24 (acells .u8 32 (x13)), bx b2 118 ([.func (.func 101) #[] #[.pointer (some ⟨b4, 0, none⟩), .pointer (some ⟨b5, 0, none⟩)]]), bx b3 119 ([.func (.func 84) #[] #[.pointer (some ⟨b1, 0, none⟩), .pointer (some ⟨b2, 0, none⟩), .pointer (some ⟨b3, 0, none⟩)]]), bx b4 3 ([.int .i64 (x14)]), bx b5 40 ([.slice A16 (List.length (x15)) c17])] w' D1 [bx b1 24 (acells .u8 32 (x13)), bx b2 118 ([.func (.func 101) #[] #[.pointer (some ⟨b4, 0, none⟩), .pointer (some ⟨b5, 0, none⟩)]]), bx b3 119 ([.func (.func 84) #[] #[.pointer (some ⟨b1, 0, none⟩), .pointer (some ⟨b2, 0, none⟩), .pointer (some ⟨b3, 0, none⟩)]]), bx b4 3 ([.int .i64 (r.2)]), bx b5 40 ([.slice A16 (List.length (x15)) c17])]) := by
 unfold proof_Comes_1_1.b at hf
 have hS := Stp.refl hS0
 clear hS0
 refine calls_body (n := 36) Tryd.func84 rfl Tryd.ntmps84 rfl fun a hE => ?_
 have hE : Env a 36 [] [(0, .int .i64 (x11)), (1, .int .i64 (x12)), (2, .pointer (some ⟨b1, 0, none⟩)), (3, .pointer (some ⟨b2, 0, none⟩)), (4, .pointer (some ⟨b3, 0, none⟩))] := hE
 refine sq (ra ?_)
 refine at_op (op_alloc (z := .agg (List.toArray (acells .u8 32 ((Vector.replicate 32 (0 : Int)))))) rfl rfl rfl rfl hE rfl hS (by kernel_rfl) (fun a b6 w _ hE hS => ?_)) rfl
 refine ae ?_
 refine sq (sq (ra ?_))
 refine sN 2 2 [(11, .bool ((decide (x12 = (1 : Int)))))] hE fun a hE => ?_
 refine ae ?_
 refine cond_split hE (b := (decide (x12 = (1 : Int)))) rfl (fun hb => ?_) (fun hb => ?_)
 ·replace hf := ct hb hf
  refine sq (ra ?_)
  refine sM 1 1 [1] [(12, .agg (List.toArray (acells .u8 32 (x13))))] hE hS fun a hE => ?_
  refine at_op (op_store (v := .agg (List.toArray (acells .u8 32 (x13)))) (acells .u8 32 (x13)) rfl rfl rfl rfl hE hS rfl rfl (by kernel_rfl) (by kernel_rfl) (by kernel_rfl) (by kernel_rfl) (by kernel_rfl) (fun a w _ hE hS => ?_)) rfl
  refine ae ?_
  refine wpIn_ret ?_
  obtain rfl := si hf
  refine ret_ ?_
  refine ret_gen ([.agg (List.toArray (acells .u8 32 (x13)))]) hE (by rw [show Tryd.f84.results.toList = [.cell 7 24] from rfl]; exact ⟨_, _, _, 0, _, _, rfl, rfl, hS.heapAt (j := 0) rfl, by kernel_rfl, rfl⟩) ?_
  have hS := hS.p (.d 1 (.d 2 (.d 3 (.d 4 (.d 5 .n)))))
  exact ⟨_, rfl, D0, rfl, hS⟩
 replace hf := cf hb hf
 refine wpIn_skip ?_
 obtain ⟨j1, hj1, hf⟩ := jn_elim hf
 refine seq_join (fun a w => ∃ (y1 : Int × (Vector Int 32) × Int), ∃ b7, ∃ D2, Env a 36 [] [(0, .int .i64 (x11)), (1, .int .i64 (x12)), (4, .pointer (some ⟨b3, 0, none⟩)), (7, .pointer (some ⟨b6, 0, none⟩)), (8, .int .i64 (y1.1)), (9, .pointer (some ⟨b7, 0, none⟩))] ∧ Stp g w0 D0 [bx b1 24 (acells .u8 32 (x13)), bx b2 118 ([.func (.func 101) #[] #[.pointer (some ⟨b4, 0, none⟩), .pointer (some ⟨b5, 0, none⟩)]]), bx b3 119 ([.func (.func 84) #[] #[.pointer (some ⟨b1, 0, none⟩), .pointer (some ⟨b2, 0, none⟩), .pointer (some ⟨b3, 0, none⟩)]]), bx b4 3 ([.int .i64 (x14)]), bx b5 40 ([.slice A16 (List.length (x15)) c17])] w D2 [bx b7 24 (acells .u8 32 (y1.2.1)), bx b1 24 (acells .u8 32 (x13)), bx b2 118 ([.func (.func 101) #[] #[.pointer (some ⟨b4, 0, none⟩), .pointer (some ⟨b5, 0, none⟩)]]), bx b3 119 ([.func (.func 84) #[] #[.pointer (some ⟨b1, 0, none⟩), .pointer (some ⟨b2, 0, none⟩), .pointer (some ⟨b3, 0, none⟩)]]), bx b4 3 ([.int .i64 (y1.2.2)]), bx b5 40 ([.slice A16 (List.length (x15)) c17]), bx b6 24 (acells .u8 32 ((Vector.replicate 32 (0 : Int))))] ∧ Snap.le D0 D2 ∧ j1 y1 = some r) ?_ ?_
 ·clear hj1
  refine region_draw (fun j => RD D0 (plOf [] [b2] j)) (by kernel_rfl) ?_
  have hS := hS.drew
  first | generalize w.drew = w at hS ⊢ | generalize w0.drew = w at hS ⊢
  refine wP 0 1 6 (.int .i64 (x12)) hE fun a hE => ?_
  refine tD 2 5 (fuel := 5) (by kernel_rfl) hE (tk_load 2 (.func (.func 101) #[] #[.pointer (some ⟨b4, 0, none⟩), .pointer (some ⟨b5, 0, none⟩)]) rfl rfl rfl rfl hE rfl hS rfl rfl (by kernel_rfl) (fun _ h => h.1.at_ (List.Mem.head _)) (fun a hE => ?_))
  refine twoB (i := 1) (j := 4) (fuel := 4) (m1 := 7) (m2 := 21) (by kernel_rfl) (by kernel_rfl) (by kernel_rfl) ?_ ?_
  ·have hp_b2 := hS.heapAt (j := 2) rfl
   obtain ⟨r1, h1, hf⟩ := bs hf
   refine (op_call rfl rfl rfl rfl hE rfl rfl rfl rfl (by kernel_rfl) (tree_Split.calls h1 (hS.st.fore (L := [])) ) (fun a v w hR hE => ?_))
   obtain ⟨D8, rfl, hS1⟩ := hR
   have le1 := hS1.dle
   have hS := hS.callR hS1 rfl .n
   refine ⟨⟨show RP [b2] _ _ from ⟨(hS.heapAt (j := 2) rfl).trans hp_b2.symm, trivial⟩, fun _ => hS.st.sees.mono le1⟩, ?_⟩
   clear hp_b2
   refine twoB (i := 3) (j := 4) (fuel := 3) (m1 := 15) (m2 := 23) (by kernel_rfl) (by kernel_rfl) (by kernel_rfl) ?_ ?_
   ·have hp_b2 := hS.heapAt (j := 2) rfl
    have hS := hS.p (.d 4 (.d 5 (.d 0 (.d 1 (.d 2 (.d 3 .n))))))
    obtain ⟨r2, h2, hf⟩ := bs hf
    refine (op_call rfl rfl rfl rfl hE rfl rfl rfl rfl (by kernel_rfl) (proof_taken_2.calls h2 (hS.st.fore (L := [bx b4 3 ([.int .i64 (x14)]), bx b5 40 ([.slice A16 (List.length (x15)) c17])])) (h18.mono le1)) (fun a v w hR hE => ?_))
    obtain ⟨D3, rfl, hS1⟩ := hR
    have le5 := hS1.dle
    have hS := hS.callR hS1 rfl (.c (.c .n))
    refine ⟨⟨show RP [b2] _ _ from ⟨(hS.heapAt (j := 4) rfl).trans hp_b2.symm, trivial⟩, fun _ => hS.st.sees.mono (le2 le1 le5)⟩, ?_⟩
    clear hp_b2
    have hp_b2 := hS.heapAt (j := 4) rfl
    refine oG 4 31 (fuel := 2) (by kernel_rfl) (op_alloc (z := .agg (List.toArray (acells .u8 32 ((Vector.replicate 32 (0 : Int)))))) rfl rfl rfl rfl hE rfl hS (by kernel_rfl) (fun a b8 w _ hE hS => ?_))
    refine ⟨⟨show RP [b2] _ _ from ⟨(hS.heapAt (j := 5) rfl).trans hp_b2.symm, trivial⟩, fun _ => hS.st.sees.mono (le2 le1 le5)⟩, ?_⟩
    clear hp_b2
    refine wP 5 63 1 (.int .i64 (r1)) hE fun a hE => ?_
    have hp_b2 := hS.heapAt (j := 5) rfl
    refine oG 6 127 (fuel := 0) (by kernel_rfl) (op_store (v := .agg (List.toArray (acells .u8 32 (r2.1)))) (acells .u8 32 (r2.1)) rfl rfl rfl rfl hE hS rfl rfl (by kernel_rfl) (by kernel_rfl) (by kernel_rfl) (by kernel_rfl) (by kernel_rfl) (fun a w _ hE hS => ?_))
    refine ⟨⟨show RP [b2] _ _ from ⟨(hS.heapAt (j := 5) rfl).trans hp_b2.symm, trivial⟩, fun _ => hS.st.sees.mono (le2 le1 le5)⟩, ?_⟩
    clear hp_b2
    refine doneG (by kernel_rfl) ?_
    have hS := hS.p (.d 0 (.d 4 (.d 5 (.d 6 (.d 1 (.d 2 (.d 3 .n)))))))
    exact ⟨(r1, r2.1, r2.2), b8, D3, hE.wk, hS, (le2 le1 le5), hf⟩
   have hp_b2 := hS.heapAt (j := 2) rfl
   refine (op_alloc (z := .agg (List.toArray (acells .u8 32 ((Vector.replicate 32 (0 : Int)))))) rfl rfl rfl rfl hE rfl hS (by kernel_rfl) (fun a b9 w _ hE hS => ?_))
   refine ⟨⟨show RP [b2] _ _ from ⟨(hS.heapAt (j := 3) rfl).trans hp_b2.symm, trivial⟩, fun _ => hS.st.sees.mono le1⟩, ?_⟩
   clear hp_b2
   have hp_b2 := hS.heapAt (j := 3) rfl
   have hS := hS.p (.d 5 (.d 6 (.d 0 (.d 1 (.d 2 (.d 3 (.d 4 .n)))))))
   obtain ⟨r3, h3, hf⟩ := bs hf
   refine oC 3 31 2 rfl rfl rfl rfl hE rfl rfl rfl rfl (proof_taken_2.calls h3 (hS.st.fore (L := [bx b4 3 ([.int .i64 (x14)]), bx b5 40 ([.slice A16 (List.length (x15)) c17])])) (h18.mono le1)) fun a v w hR hE => ?_
   obtain ⟨D4, rfl, hS1⟩ := hR
   have le6 := hS1.dle
   have hS := hS.callR hS1 rfl (.c (.c .n))
   refine ⟨⟨show RP [b2] _ _ from ⟨(hS.heapAt (j := 5) rfl).trans hp_b2.symm, trivial⟩, fun _ => hS.st.sees.mono (le2 le1 le6)⟩, ?_⟩
   clear hp_b2
   refine wP 5 63 1 (.int .i64 (r1)) hE fun a hE => ?_
   have hp_b2 := hS.heapAt (j := 5) rfl
   have hS := hS.p (.d 2 (.d 0 (.d 1 (.d 3 (.d 4 (.d 5 (.d 6 .n)))))))
   refine oG 6 127 (fuel := 0) (by kernel_rfl) (op_store (v := .agg (List.toArray (acells .u8 32 (r3.1)))) (acells .u8 32 (r3.1)) rfl rfl rfl rfl hE hS rfl rfl (by kernel_rfl) (by kernel_rfl) (by kernel_rfl) (by kernel_rfl) (by kernel_rfl) (fun a w _ hE hS => ?_))
   refine ⟨⟨show RP [b2] _ _ from ⟨(hS.heapAt (j := 5) rfl).trans hp_b2.symm, trivial⟩, fun _ => hS.st.sees.mono (le2 le1 le6)⟩, ?_⟩
   clear hp_b2
   refine doneG (by kernel_rfl) ?_
   have hS := hS.p (.d 0 (.d 4 (.d 5 (.d 6 (.d 1 (.d 2 (.d 3 .n)))))))
   exact ⟨(r1, r3.1, r3.2), b9, D4, hE.wk, hS, (le2 le1 le6), hf⟩
  have hp_b2 := hS.heapAt (j := 2) rfl
  refine (op_alloc (z := .agg (List.toArray (acells .u8 32 ((Vector.replicate 32 (0 : Int)))))) rfl rfl rfl rfl hE rfl hS (by kernel_rfl) (fun a b10 w _ hE hS => ?_))
  refine ⟨⟨show RP [b2] _ _ from ⟨(hS.heapAt (j := 3) rfl).trans hp_b2.symm, trivial⟩, fun _ => hS.st.sees⟩, ?_⟩
  clear hp_b2
  have hp_b2 := hS.heapAt (j := 3) rfl
  obtain ⟨r7, h4, hf⟩ := bs hf
  refine oC 1 23 3 rfl rfl rfl rfl hE rfl rfl rfl rfl (tree_Split.calls h4 (hS.st.fore (L := [])) ) fun a v w hR hE => ?_
  obtain ⟨D9, rfl, hS1⟩ := hR
  have le4 := hS1.dle
  have hS := hS.callR hS1 rfl .n
  refine ⟨⟨show RP [b2] _ _ from ⟨(hS.heapAt (j := 3) rfl).trans hp_b2.symm, trivial⟩, fun _ => hS.st.sees.mono le4⟩, ?_⟩
  clear hp_b2
  have hp_b2 := hS.heapAt (j := 3) rfl
  have hS := hS.p (.d 5 (.d 6 (.d 0 (.d 1 (.d 2 (.d 3 (.d 4 .n)))))))
  obtain ⟨r4, h5, hf⟩ := bs hf
  refine oC 3 31 2 rfl rfl rfl rfl hE rfl rfl rfl rfl (proof_taken_2.calls h5 (hS.st.fore (L := [bx b4 3 ([.int .i64 (x14)]), bx b5 40 ([.slice A16 (List.length (x15)) c17])])) (h18.mono le4)) fun a v w hR hE => ?_
  obtain ⟨D5, rfl, hS1⟩ := hR
  have le7 := hS1.dle
  have hS := hS.callR hS1 rfl (.c (.c .n))
  refine ⟨⟨show RP [b2] _ _ from ⟨(hS.heapAt (j := 5) rfl).trans hp_b2.symm, trivial⟩, fun _ => hS.st.sees.mono (le2 le4 le7)⟩, ?_⟩
  clear hp_b2
  refine wP 5 63 1 (.int .i64 (r7)) hE fun a hE => ?_
  have hp_b2 := hS.heapAt (j := 5) rfl
  have hS := hS.p (.d 2 (.d 0 (.d 1 (.d 3 (.d 4 (.d 5 (.d 6 .n)))))))
  refine oG 6 127 (fuel := 0) (by kernel_rfl) (op_store (v := .agg (List.toArray (acells .u8 32 (r4.1)))) (acells .u8 32 (r4.1)) rfl rfl rfl rfl hE hS rfl rfl (by kernel_rfl) (by kernel_rfl) (by kernel_rfl) (by kernel_rfl) (by kernel_rfl) (fun a w _ hE hS => ?_))
  refine ⟨⟨show RP [b2] _ _ from ⟨(hS.heapAt (j := 5) rfl).trans hp_b2.symm, trivial⟩, fun _ => hS.st.sees.mono (le2 le4 le7)⟩, ?_⟩
  clear hp_b2
  refine doneG (by kernel_rfl) ?_
  have hS := hS.p (.d 0 (.d 4 (.d 5 (.d 6 (.d 1 (.d 2 (.d 3 .n)))))))
  exact ⟨(r7, r4.1, r4.2), b10, D5, hE.wk, hS, (le2 le4 le7), hf⟩
 clear hE hS
 rintro a w ⟨y1, b7, D2, hE, hS, le3, hf⟩
 replace hf := hj1 _ hf
 clear hj1
 refine sq (sq (ra ?_))
 refine sN 3 3 [(19, .bool ((decide (x11 < y1.1))))] hE fun a hE => ?_
 refine ae ?_
 refine cond_split hE (b := (decide (x11 < y1.1))) rfl (fun hb => ?_) (fun hb => ?_)
 ·replace hf := ct hb hf
  refine sq ?_
  refine region_draw (fun j => Keeps (mfOf [(3, [b4]), (6, [b6])] j)) (by kernel_rfl) ?_
  have hS := hS.drew
  first | generalize w.drew = w at hS ⊢ | generalize w0.drew = w at hS ⊢
  refine wP 1 2 6 (.int .i64 (x11)) hE fun a hE => ?_
  refine wP 2 6 5 (.int .i64 (y1.1)) hE fun a hE => ?_
  refine tL 0 7 4 3 (.func (.func 84) #[] #[.pointer (some ⟨b1, 0, none⟩), .pointer (some ⟨b2, 0, none⟩), .pointer (some ⟨b3, 0, none⟩)]) hE hS fun a hE => ?_
  refine tN (T := [(3, [b4]), (6, [b6])]) [3] 4 23 (fuel := 3) (by kernel_rfl) hE (tk_load 0 (.agg (List.toArray (acells .u8 32 (y1.2.1)))) rfl rfl rfl rfl hE rfl hS rfl rfl (by kernel_rfl) (kL (j := 0) hS rfl (show b7 ∉ [b4] from (nm_cons (hS.ne (i := 0) (j := 4) (by decide) rfl rfl) List.not_mem_nil))) (fun a hE => ?_))
  have hS := hS.p (.d 1 (.d 2 (.d 3 (.d 4 (.d 5 (.d 0 (.d 6 .n)))))))
  obtain ⟨r8, h6, hf⟩ := bs hf
  refine oC 3 31 2 rfl rfl rfl rfl hE rfl rfl rfl rfl (ih (g := g) h6 (hS.st.fore (L := [bx b1 24 (acells .u8 32 (x13)), bx b2 118 ([.func (.func 101) #[] #[.pointer (some ⟨b4, 0, none⟩), .pointer (some ⟨b5, 0, none⟩)]]), bx b3 119 ([.func (.func 84) #[] #[.pointer (some ⟨b1, 0, none⟩), .pointer (some ⟨b2, 0, none⟩), .pointer (some ⟨b3, 0, none⟩)]]), bx b4 3 ([.int .i64 (y1.2.2)]), bx b5 40 ([.slice A16 (List.length (x15)) c17])])) (h18.mono le3) (hG0.mono le3) (hG1.mono le3)) fun a v w hR hE => ?_
  obtain ⟨D10, rfl, hS1⟩ := hR
  refine ⟨(hS1.keeps.sub (M' := [b4]) ⟨.inr ((hS1.heapAt (j := 0) rfl).trans (hS.heapAt (j := 0) rfl).symm), .inr ((hS1.heapAt (j := 1) rfl).trans (hS.heapAt (j := 1) rfl).symm), .inr ((hS1.heapAt (j := 2) rfl).trans (hS.heapAt (j := 2) rfl).symm), .inl (List.Mem.head _), .inr ((hS1.heapAt (j := 4) rfl).trans (hS.heapAt (j := 4) rfl).symm), trivial⟩).mono (fun _ h => h), ?_⟩
  have le8 := hS1.dle
  have hS := hS.callR hS1 rfl (.c (.c (.c (.c (.c .n)))))
  obtain ⟨r5, h7, hf⟩ := bs hf
  refine oC 5 63 1 rfl rfl rfl rfl hE rfl rfl rfl rfl (tree_Node.calls h7 (hS.st.fore (L := [])) (hG0.mono (le2 le3 le8)) (hG1.mono (le2 le3 le8))) fun a v w hR hE => ?_
  obtain ⟨D6, rfl, hS1⟩ := hR
  refine ⟨(hS1.keeps.sub (M' := []) trivial).mono (fun _ h => h), ?_⟩
  have le10 := hS1.dle
  have hS := hS.callR hS1 rfl .n
  have hS := hS.p (.d 6 (.d 0 (.d 1 (.d 2 (.d 3 (.d 4 (.d 5 .n)))))))
  refine oG 6 127 (fuel := 0) (by kernel_rfl) (op_store (v := .agg (List.toArray (acells .u8 32 (r5)))) (acells .u8 32 (r5)) rfl rfl rfl rfl hE hS rfl rfl (by kernel_rfl) (by kernel_rfl) (by kernel_rfl) (by kernel_rfl) (by kernel_rfl) (fun a w hkp hE hS => ⟨hkp.mono (fun _ h => h), ?_⟩))
  clear hkp
  refine doneG (by kernel_rfl) ?_
  refine wpIn_ret ?_
  obtain rfl := si hf
  refine ret_ ?_
  refine ret_gen ([.agg (List.toArray (acells .u8 32 (r5)))]) hE (by rw [show Tryd.f84.results.toList = [.cell 7 24] from rfl]; exact ⟨_, _, _, 0, _, _, rfl, rfl, hS.heapAt (j := 0) rfl, by kernel_rfl, rfl⟩) ?_
  have hS := hS.p (.d 1 (.d 2 (.d 3 (.d 4 (.d 5 .n)))))
  exact ⟨_, rfl, D6, rfl, hS⟩
 replace hf := cf hb hf
 refine wpIn_skip ?_
 refine sq ?_
 refine region_draw (fun j => Keeps (mfOf [(8, [b4]), (10, [b6])] j)) (by kernel_rfl) ?_
 have hS := hS.drew
 first | generalize w.drew = w at hS ⊢ | generalize w0.drew = w at hS ⊢
 refine wP 2 4 10 (.int .i64 (x11)) hE fun a hE => ?_
 refine wP 3 12 9 (.int .i64 (y1.1)) hE fun a hE => ?_
 refine wP 4 28 8 (.int .i64 ((IntKind.wrap .i64 (x11 - y1.1)))) hE fun a hE => ?_
 refine wP 5 60 7 (.int .i64 (x12)) hE fun a hE => ?_
 refine wP 6 124 6 (.int .i64 (y1.1)) hE fun a hE => ?_
 refine wP 7 252 5 (.int .i64 ((IntKind.wrap .i64 (x12 - y1.1)))) hE fun a hE => ?_
 refine tN (T := [(8, [b4]), (10, [b6])]) [8] 0 253 (fuel := 4) (by kernel_rfl) hE (tk_load 0 (.agg (List.toArray (acells .u8 32 (y1.2.1)))) rfl rfl rfl rfl hE rfl hS rfl rfl (by kernel_rfl) (kL (j := 0) hS rfl (show b7 ∉ [b4] from (nm_cons (hS.ne (i := 0) (j := 4) (by decide) rfl rfl) List.not_mem_nil))) (fun a hE => ?_))
 refine tL 1 255 3 3 (.func (.func 84) #[] #[.pointer (some ⟨b1, 0, none⟩), .pointer (some ⟨b2, 0, none⟩), .pointer (some ⟨b3, 0, none⟩)]) hE hS fun a hE => ?_
 have hS := hS.p (.d 1 (.d 2 (.d 3 (.d 4 (.d 5 (.d 0 (.d 6 .n)))))))
 obtain ⟨r9, h8, hf⟩ := bs hf
 refine oC 8 511 2 rfl rfl rfl rfl hE rfl rfl rfl rfl (ih (g := g) h8 (hS.st.fore (L := [bx b1 24 (acells .u8 32 (x13)), bx b2 118 ([.func (.func 101) #[] #[.pointer (some ⟨b4, 0, none⟩), .pointer (some ⟨b5, 0, none⟩)]]), bx b3 119 ([.func (.func 84) #[] #[.pointer (some ⟨b1, 0, none⟩), .pointer (some ⟨b2, 0, none⟩), .pointer (some ⟨b3, 0, none⟩)]]), bx b4 3 ([.int .i64 (y1.2.2)]), bx b5 40 ([.slice A16 (List.length (x15)) c17])])) (h18.mono le3) (hG0.mono le3) (hG1.mono le3)) fun a v w hR hE => ?_
 obtain ⟨D11, rfl, hS1⟩ := hR
 refine ⟨(hS1.keeps.sub (M' := [b4]) ⟨.inr ((hS1.heapAt (j := 0) rfl).trans (hS.heapAt (j := 0) rfl).symm), .inr ((hS1.heapAt (j := 1) rfl).trans (hS.heapAt (j := 1) rfl).symm), .inr ((hS1.heapAt (j := 2) rfl).trans (hS.heapAt (j := 2) rfl).symm), .inl (List.Mem.head _), .inr ((hS1.heapAt (j := 4) rfl).trans (hS.heapAt (j := 4) rfl).symm), trivial⟩).mono (fun _ h => h), ?_⟩
 have le9 := hS1.dle
 have hS := hS.callR hS1 rfl (.c (.c (.c (.c (.c .n)))))
 obtain ⟨r6, h9, hf⟩ := bs hf
 refine oC 9 1023 1 rfl rfl rfl rfl hE rfl rfl rfl rfl (tree_Node.calls h9 (hS.st.fore (L := [])) (hG0.mono (le2 le3 le9)) (hG1.mono (le2 le3 le9))) fun a v w hR hE => ?_
 obtain ⟨D7, rfl, hS1⟩ := hR
 refine ⟨(hS1.keeps.sub (M' := []) trivial).mono (fun _ h => h), ?_⟩
 have le11 := hS1.dle
 have hS := hS.callR hS1 rfl .n
 have hS := hS.p (.d 6 (.d 0 (.d 1 (.d 2 (.d 3 (.d 4 (.d 5 .n)))))))
 refine oG 10 2047 (fuel := 0) (by kernel_rfl) (op_store (v := .agg (List.toArray (acells .u8 32 (r6)))) (acells .u8 32 (r6)) rfl rfl rfl rfl hE hS rfl rfl (by kernel_rfl) (by kernel_rfl) (by kernel_rfl) (by kernel_rfl) (by kernel_rfl) (fun a w hkp hE hS => ⟨hkp.mono (fun _ h => h), ?_⟩))
 clear hkp
 refine doneG (by kernel_rfl) ?_
 refine wpIn_ret ?_
 obtain rfl := si hf
 refine ret_ ?_
 refine ret_gen ([.agg (List.toArray (acells .u8 32 (r6)))]) hE (by rw [show Tryd.f84.results.toList = [.cell 7 24] from rfl]; exact ⟨_, _, _, 0, _, _, rfl, rfl, hS.heapAt (j := 0) rfl, by kernel_rfl, rfl⟩) ?_
 have hS := hS.p (.d 1 (.d 2 (.d 3 (.d 4 (.d 5 .n)))))
 exact ⟨_, rfl, D7, rfl, hS⟩
set_option maxRecDepth 100000 in
theorem proof_Comes_1_1.rcalls {K : Nat} : ∀ (k : Nat) {g w0 : World} {D0 : Snap} {x11 : Int} {x12 : Int} {x13 : (Vector Int 32)} {x14 : Int} {x15 : (List (Vector Int 32))} {b1 : Nat} {b2 : Nat} {b3 : Nat} {b4 : Nat} {b5 : Nat} {A16 : Option Addr} {c17 : Nat} {r : ((Vector Int 32) × Int)} (hf : proof_Comes_1_1.r K k x11 x12 x13 x14 x15 = some r) (hS0 : St g w0 D0 [bx b1 24 (acells .u8 32 (x13)), bx b2 118 ([.func (.func 101) #[] #[.pointer (some ⟨b4, 0, none⟩), .pointer (some ⟨b5, 0, none⟩)]]), bx b3 119 ([.func (.func 84) #[] #[.pointer (some ⟨b1, 0, none⟩), .pointer (some ⟨b2, 0, none⟩), .pointer (some ⟨b3, 0, none⟩)]]), bx b4 3 ([.int .i64 (x14)]), bx b5 40 ([.slice A16 (List.length (x15)) c17])]) (h18 : Sl (kdArr .u8 32) D0 A16 c17 (x15)) (hG0 : Cell (kdArr .u32 8) D0 0 0 gl_First) (hG1 : Cell (kdArr .u32 64) D0 1 0 gl_K),
  CallsIn (Fw none) 0 Tryd.prog 84 (List.toArray [.int .i64 (x11), .int .i64 (x12), .pointer (some ⟨b1, 0, none⟩), .pointer (some ⟨b2, 0, none⟩), .pointer (some ⟨b3, 0, none⟩)]) w0 (fun e w' => ∃ v, e = .returned v ∧ ∃ D1, v = .agg (List.toArray (acells .u8 32 (r.1))) ∧ Stp g w0 D0 [bx b1 24 (acells .u8 32 (x13)), bx b2 118 ([.func (.func 101) #[] #[.pointer (some ⟨b4, 0, none⟩), .pointer (some ⟨b5, 0, none⟩)]]), bx b3 119 ([.func (.func 84) #[] #[.pointer (some ⟨b1, 0, none⟩), .pointer (some ⟨b2, 0, none⟩), .pointer (some ⟨b3, 0, none⟩)]]), bx b4 3 ([.int .i64 (x14)]), bx b5 40 ([.slice A16 (List.length (x15)) c17])] w' D1 [bx b1 24 (acells .u8 32 (x13)), bx b2 118 ([.func (.func 101) #[] #[.pointer (some ⟨b4, 0, none⟩), .pointer (some ⟨b5, 0, none⟩)]]), bx b3 119 ([.func (.func 84) #[] #[.pointer (some ⟨b1, 0, none⟩), .pointer (some ⟨b2, 0, none⟩), .pointer (some ⟨b3, 0, none⟩)]]), bx b4 3 ([.int .i64 (r.2)]), bx b5 40 ([.slice A16 (List.length (x15)) c17])]) := by
 intro k
 induction k with
 | zero => intro g w0 D0 x11 x12 x13 x14 x15 b1 b2 b3 b4 b5 A16 c17 r hf; cases hf
 | succ k ih => intro g w0 D0 x11 x12 x13 x14 x15 b1 b2 b3 b4 b5 A16 c17 r hf hS0 h18 hG0 hG1; exact proof_Comes_1_1.step ih hf hS0 h18 hG0 hG1
theorem proof_Comes_1_1.calls {K : Nat} {g w0 : World} {D0 : Snap} {x11 : Int} {x12 : Int} {x13 : (Vector Int 32)} {x14 : Int} {x15 : (List (Vector Int 32))} {b1 : Nat} {b2 : Nat} {b3 : Nat} {b4 : Nat} {b5 : Nat} {A16 : Option Addr} {c17 : Nat} {r : ((Vector Int 32) × Int)} (hf : proof_Comes_1_1.f K x11 x12 x13 x14 x15 = some r) (hS0 : St g w0 D0 [bx b1 24 (acells .u8 32 (x13)), bx b2 118 ([.func (.func 101) #[] #[.pointer (some ⟨b4, 0, none⟩), .pointer (some ⟨b5, 0, none⟩)]]), bx b3 119 ([.func (.func 84) #[] #[.pointer (some ⟨b1, 0, none⟩), .pointer (some ⟨b2, 0, none⟩), .pointer (some ⟨b3, 0, none⟩)]]), bx b4 3 ([.int .i64 (x14)]), bx b5 40 ([.slice A16 (List.length (x15)) c17])]) (h18 : Sl (kdArr .u8 32) D0 A16 c17 (x15)) (hG0 : Cell (kdArr .u32 8) D0 0 0 gl_First) (hG1 : Cell (kdArr .u32 64) D0 1 0 gl_K) :
  CallsIn (Fw none) 0 Tryd.prog 84 (List.toArray [.int .i64 (x11), .int .i64 (x12), .pointer (some ⟨b1, 0, none⟩), .pointer (some ⟨b2, 0, none⟩), .pointer (some ⟨b3, 0, none⟩)]) w0 (fun e w' => ∃ v, e = .returned v ∧ ∃ D1, v = .agg (List.toArray (acells .u8 32 (r.1))) ∧ Stp g w0 D0 [bx b1 24 (acells .u8 32 (x13)), bx b2 118 ([.func (.func 101) #[] #[.pointer (some ⟨b4, 0, none⟩), .pointer (some ⟨b5, 0, none⟩)]]), bx b3 119 ([.func (.func 84) #[] #[.pointer (some ⟨b1, 0, none⟩), .pointer (some ⟨b2, 0, none⟩), .pointer (some ⟨b3, 0, none⟩)]]), bx b4 3 ([.int .i64 (x14)]), bx b5 40 ([.slice A16 (List.length (x15)) c17])] w' D1 [bx b1 24 (acells .u8 32 (x13)), bx b2 118 ([.func (.func 101) #[] #[.pointer (some ⟨b4, 0, none⟩), .pointer (some ⟨b5, 0, none⟩)]]), bx b3 119 ([.func (.func 84) #[] #[.pointer (some ⟨b1, 0, none⟩), .pointer (some ⟨b2, 0, none⟩), .pointer (some ⟨b3, 0, none⟩)]]), bx b4 3 ([.int .i64 (r.2)]), bx b5 40 ([.slice A16 (List.length (x15)) c17])]) := proof_Comes_1_1.rcalls K hf hS0 h18 hG0 hG1
end Go.Proofs.YtjgaokcplofimaaDoor
