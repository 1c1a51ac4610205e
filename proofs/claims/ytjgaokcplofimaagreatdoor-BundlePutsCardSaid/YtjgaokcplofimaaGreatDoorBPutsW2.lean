/-
  Proved, text by text: a call of a function of the cut comes to what its plain function computes.
  Conditions: those that each theorem names.
-/
import Derived.Test.YtjgaokcplofimaaGreatDoorProg
import Derived.Test.YtjgaokcplofimaaGreatDoorSepN
import Derived.Test.YtjgaokcplofimaaGreatDoorBPutsW1
set_option linter.unusedVariables false
set_option maxHeartbeats 4000000
namespace Go.Proofs.YtjgaokcplofimaaGreatDoor
open Go Go.Sep
set_option maxRecDepth 100000 in
theorem rec_Read.calls {K : Nat} {g w0 : World} {D0 : Snap} {x3 : T_wire_Reader} {b1 : Nat} {A4 : Option Addr} {c5 : Nat} {r : (T_api_Rec × T_wire_Reader)} (hf : rec_Read.f K x3 = some r) (hS0 : St g w0 D0 [bx b1 100 (c_T_wire_Reader (x3) A4 c5)]) (h6 : Sl (kdInt .u8) D0 A4 c5 (x3.fB)) :
  CallsIn (Fw none) 0 Tryz.prog 48 (List.toArray [.pointer (some ⟨b1, 0, none⟩)]) w0 (fun e w' => ∃ v, e = .returned v ∧ ∃ (D1 : Snap) (A9 : Option Addr) (c9 : Nat) (A10 : Option Addr) (c10 : Nat) (A11 : Option Addr) (c11 : Nat), v = .agg (List.toArray (c_T_api_Rec ((T_api_Rec.mk (r.1.fKind) (r.1.fSaga) (r.1.fSeq) (r.1.fStep) (r.1.fTry) (r.1.fBack) (r.1.fGood) (r.1.fEnd) (r.1.fPart) (r.1.fEpoch) (r.1.fTag) (r.1.fSteps) (r.1.fData) (r.1.fSalt) (r.1.fGone) (r.1.fCom))) A9 c9 A10 c10)) ∧ Stp g w0 D0 [bx b1 100 (c_T_wire_Reader (x3) A4 c5)] w' D1 [bx b1 100 (c_T_wire_Reader ((T_wire_Reader.mk (r.2.fB) (r.2.fBad))) A11 c11)] ∧ Sl kd_T_api_Step D1 A9 c9 (r.1.fSteps) ∧ Sl (kdInt .u8) D1 A10 c10 (r.1.fData) ∧ Sl (kdInt .u8) D1 A11 c11 (r.2.fB)) := by
 unfold rec_Read.f at hf
 have hS := Stp.refl hS0
 clear hS0
 refine calls_body (n := 96) Tryz.func48 rfl Tryz.ntmps48 rfl fun a hE => ?_
 have hE : Env a 96 [] [(0, .pointer (some ⟨b1, 0, none⟩))] := hE
 refine sq (ra ?_)
 refine at_op (op_alloc (z := .agg (List.toArray (c_T_api_Rec (z_T_api_Rec) none 0 none 0))) rfl rfl rfl rfl hE rfl hS (by kernel_rfl) (fun a b3 w _ hE hS => ?_)) rfl
 refine ae ?_
 refine sq (ra ?_)
 refine sN 1 1 [(4, .pointer (some ⟨b1, 0, none⟩))] hE fun a hE => ?_
 have hS := hS.p (.d 1 (.d 0 .n))
 obtain ⟨r3, h14, hf⟩ := bs hf
 refine aC rfl rfl rfl rfl hE rfl rfl rfl rfl (wire_Reader_Num.calls h14 (hS.st.fore (L := [bx b1 100 (c_T_wire_Reader (x3) A4 c5)])) h6) fun a v w hR hE => ?_
 obtain ⟨D2, A5, c4, rfl, hS1, h1⟩ := hR
 have le31 := hS1.dle
 have hS := hS.callR hS1 rfl (.c .n)
 refine at_op (op_tk hE (tk_build (c_T_api_Rec ({ z_T_api_Rec with fKind := r3.1 }) none 0 none 0) rfl rfl rfl rfl hE rfl rfl (by kernel_rfl) (fun a hE => ?_))) rfl
 refine at_op (op_alloc (z := .agg (List.toArray (c_T_api_Rec (z_T_api_Rec) none 0 none 0))) rfl rfl rfl rfl hE rfl hS (by kernel_rfl) (fun a b2 w _ hE hS => ?_)) rfl
 obtain ⟨v1, hv1, hf⟩ := bs hf
 replace hv1 := Option.some.inj hv1
 refine at_op (op_store (v := .agg (List.toArray (c_T_api_Rec ({ z_T_api_Rec with fKind := r3.1 }) none 0 none 0))) (c_T_api_Rec (v1) none 0 none 0) rfl rfl rfl rfl hE hS rfl rfl (by kernel_rfl) (by kernel_rfl) (by kernel_rfl) (by kernel_rfl) (by rw [← hv1]; kernel_rfl) (fun a w _ hE hS => ?_)) rfl
 have h2 : Sl kd_T_api_Step D2 none 0 (v1.fSteps) := by rw [← hv1]; exact (Sl.nil kd_T_api_Step D2)
 have h3 : Sl (kdInt .u8) D2 none 0 (v1.fData) := by rw [← hv1]; exact (Sl.nil (kdInt .u8) D2)
 refine ae ?_
 obtain ⟨j1, hj1, hf⟩ := jn_elim hf
 refine seq_join (fun a w => ∃ (y1 : T_wire_Reader × Int × Int × Int × Int × Int × Bool × Bool × Int × Int × Int × (Vector Int 32) × (List T_api_Step) × (List Int) × (Vector Int 32) × Bool × (Vector Int 32)), ∃ A7, ∃ c7, ∃ A1, ∃ c1, ∃ A2, ∃ c2, ∃ D3, Env a 96 [] [(0, .pointer (some ⟨b1, 0, none⟩)), (2, .pointer (some ⟨b3, 0, none⟩)), (3, .pointer (some ⟨b2, 0, none⟩))] ∧ Stp g w0 D0 [bx b1 100 (c_T_wire_Reader (x3) A4 c5)] w D3 [bx b1 100 (c_T_wire_Reader (y1.1) A7 c7), bx b3 40 (c_T_api_Rec (z_T_api_Rec) none 0 none 0), bx b2 40 (c_T_api_Rec ((T_api_Rec.mk (y1.2.1) (y1.2.2.1) (y1.2.2.2.1) (y1.2.2.2.2.1) (y1.2.2.2.2.2.1) (y1.2.2.2.2.2.2.1) (y1.2.2.2.2.2.2.2.1) (y1.2.2.2.2.2.2.2.2.1) (y1.2.2.2.2.2.2.2.2.2.1) (y1.2.2.2.2.2.2.2.2.2.2.1) (y1.2.2.2.2.2.2.2.2.2.2.2.1) (y1.2.2.2.2.2.2.2.2.2.2.2.2.1) (y1.2.2.2.2.2.2.2.2.2.2.2.2.2.1) (y1.2.2.2.2.2.2.2.2.2.2.2.2.2.2.1) (y1.2.2.2.2.2.2.2.2.2.2.2.2.2.2.2.1) (y1.2.2.2.2.2.2.2.2.2.2.2.2.2.2.2.2))) A1 c1 A2 c2)] ∧ Snap.le D2 D3 ∧ Sl (kdInt .u8) D3 A7 c7 (y1.1.fB) ∧ Sl kd_T_api_Step D3 A1 c1 (y1.2.2.2.2.2.2.2.2.2.2.2.2.1) ∧ Sl (kdInt .u8) D3 A2 c2 (y1.2.2.2.2.2.2.2.2.2.2.2.2.2.1) ∧ j1 y1 = some r) ?_ ?_
 ·clear hj1
  refine sq (ra ?_)
  refine sM 2 2 [0] [(8, .int .i64 (v1.fKind))] hE hS fun a hE => ?_
  refine ae ?_
  refine wpIn_block ?_
  refine sq (ra ?_)
  refine sN 2 2 [(11, .bool ((decide (v1.fKind = (1 : Int)))))] hE fun a hE => ?_
  refine ae ?_
  refine cond_split hE (b := (decide (v1.fKind = (1 : Int)))) rfl (fun hb => ?_) (fun hb => ?_)
  ·replace hf := ct hb hf
   refine sq (ra ?_)
   refine sN 1 1 [(13, .pointer (some ⟨b1, 0, none⟩))] hE fun a hE => ?_
   have hS := hS.p (.d 1 (.d 0 (.d 2 .n)))
   obtain ⟨r8, h15, hf⟩ := bs hf
   refine aC rfl rfl rfl rfl hE rfl rfl rfl rfl (wire_Reader_Num.calls h15 (hS.st.fore (L := [bx b1 100 (c_T_wire_Reader (r3.2) A5 c4)])) h1) fun a v w hR hE => ?_
   obtain ⟨D16, A14, c14, rfl, hS1, h16⟩ := hR
   have le11 := hS1.dle
   have hS := hS.callR hS1 rfl (.c .n)
   refine sN 1 3 [(15, .pointer (some ⟨b1, 0, none⟩))] hE fun a hE => ?_
   obtain ⟨r2, h17, hf⟩ := bs hf
   refine aC rfl rfl rfl rfl hE rfl rfl rfl rfl (rec_steps.calls h17 (hS.st.fore (L := [bx b1 100 (c_T_wire_Reader (r8.2) A14 c14)])) h16) fun a v w hR hE => ?_
   obtain ⟨D17, A3, c3, q1, A15, c15, rfl, hS1, h5, h18⟩ := hR
   have le12 := hS1.dle
   have hS := hS.callR hS1 rfl (.c (.c .n))
   refine sM 1 5 [] [(17, .pointer (some ⟨b2, 1, none⟩))] hE hS fun a hE => ?_
   have hS := hS.p (.d 2 (.d 0 (.d 1 (.d 3 .n))))
   obtain ⟨v2, hv2, hf⟩ := bs hf
   replace hv2 := Option.some.inj hv2
   refine at_op (op_store (v := .int .i64 (r8.1)) (c_T_api_Rec (v2) none 0 none 0) rfl rfl rfl rfl hE hS rfl rfl (by kernel_rfl) (by kernel_rfl) (by kernel_rfl) (by kernel_rfl) (by rw [← hv2]; kernel_rfl) (fun a w _ hE hS => ?_)) rfl
   have h92 : Sl kd_T_api_Step D2 none 0 (v2.fSteps) := by rw [← hv2]; exact h2
   have h19 : Sl (kdInt .u8) D2 none 0 (v2.fData) := by rw [← hv2]; exact h3
   refine sM 1 7 [] [(18, .pointer (some ⟨b2, 42, none⟩))] hE hS fun a hE => ?_
   refine at_op (op_store (v := .slice A3 (List.length (r2.1)) c3) (c_T_api_Rec ({ v2 with fSteps := r2.1 }) A3 c3 none 0) rfl rfl rfl rfl hE hS rfl rfl (by kernel_rfl) (by kernel_rfl) (by kernel_rfl) (by kernel_rfl) (by kernel_rfl) (fun a w _ hE hS => ?_)) rfl
   refine ae ?_
   refine sq (ra ?_)
   refine sN 1 1 [(19, .pointer (some ⟨b1, 0, none⟩))] hE fun a hE => ?_
   have hS := hS.p (.d 1 (.d 0 (.d 2 (.d 3 .n))))
   obtain ⟨r1, h20, hf⟩ := bs hf
   refine aC rfl rfl rfl rfl hE rfl rfl rfl rfl (wire_Reader_Flag.calls h20 (hS.st.fore (L := [bx b1 100 (c_T_wire_Reader (r2.2) A15 c15)])) h18) fun a v w hR hE => ?_
   obtain ⟨D18, A12, c12, rfl, hS1, h7⟩ := hR
   have le8 := hS1.dle
   have hS := hS.callR hS1 rfl (.c .n)
   refine sM 1 3 [] [(21, .pointer (some ⟨b2, 76, none⟩))] hE hS fun a hE => ?_
   have hS := hS.p (.d 1 (.d 0 (.d 2 (.d 3 .n))))
   refine at_op (op_store (v := .bool (r1.1)) (c_T_api_Rec ({ v2 with fSteps := r2.1, fGone := r1.1 }) A3 c3 none 0) rfl rfl rfl rfl hE hS rfl rfl (by kernel_rfl) (by kernel_rfl) (by kernel_rfl) (by kernel_rfl) (by kernel_rfl) (fun a w _ hE hS => ?_)) rfl
   refine ae ?_
   refine sq (ra ?_)
   refine sM 2 2 [0] [(23, .bool (r1.1))] hE hS fun a hE => ?_
   refine ae ?_
   refine cond_split hE (b := r1.1) rfl (fun hb => ?_) (fun hb => ?_)
   ·replace hf := ct hb hf
    refine ra ?_
    refine sN 1 1 [(24, .pointer (some ⟨b1, 0, none⟩))] hE fun a hE => ?_
    have hS := hS.p (.d 1 (.d 0 (.d 2 (.d 3 .n))))
    obtain ⟨r5, h21, hf⟩ := bs hf
    refine aC rfl rfl rfl rfl hE rfl rfl rfl rfl (wire_Reader_Hash.calls h21 (hS.st.fore (L := [bx b1 100 (c_T_wire_Reader (r1.2) A12 c12)])) h7) fun a v w hR hE => ?_
    obtain ⟨D19, A16, c16, rfl, hS1, h22⟩ := hR
    have le13 := hS1.dle
    have hS := hS.callR hS1 rfl (.c .n)
    refine sM 1 3 [] [(26, .pointer (some ⟨b2, 77, none⟩))] hE hS fun a hE => ?_
    have hS := hS.p (.d 1 (.d 0 (.d 2 (.d 3 .n))))
    refine at_op (op_store (v := .agg (List.toArray (acells .u8 32 (r5.1)))) (c_T_api_Rec ({ v2 with fSteps := r2.1, fGone := r1.1, fCom := r5.1 }) A3 c3 none 0) rfl rfl rfl rfl hE hS rfl rfl (by kernel_rfl) (by kernel_rfl) (by kernel_rfl) (by kernel_rfl) (by kernel_rfl) (fun a w _ hE hS => ?_)) rfl
    refine ae ?_
    have hS := hS.p (.d 2 (.d 0 (.d 1 (.d 3 .n))))
    obtain ⟨D7, q2, le14, hS, h93, h23⟩ := hS.lent (h5.mono (le2 le8 le13))
    have hS := hS.p (.d 2 (.d 3 (.d 1 .n)))
    exact ⟨(r5.2, v2.fKind, v2.fSaga, v2.fSeq, v2.fStep, v2.fTry, v2.fBack, v2.fGood, v2.fEnd, v2.fPart, v2.fEpoch, v2.fTag, r2.1, v2.fData, v2.fSalt, r1.1, r5.1), A16, c16, A3, c3, none, 0, D7, hE.wk, hS, (le2 (le2 (le2 (le2 le11 le12) le8) le13) le14), (h22.mono le14), h23, (h19.mono (le2 (le2 (le2 (le2 le11 le12) le8) le13) le14)), hf⟩
   replace hf := cf hb hf
   refine ra ?_
   refine sN 1 1 [(27, .pointer (some ⟨b1, 0, none⟩))] hE fun a hE => ?_
   have hS := hS.p (.d 1 (.d 0 (.d 2 (.d 3 .n))))
   obtain ⟨r4, h24, hf⟩ := bs hf
   refine aC rfl rfl rfl rfl hE rfl rfl rfl rfl (wire_Reader_Hash.calls h24 (hS.st.fore (L := [bx b1 100 (c_T_wire_Reader (r1.2) A12 c12)])) h7) fun a v w hR hE => ?_
   obtain ⟨D20, A17, c17, rfl, hS1, h25⟩ := hR
   have le27 := hS1.dle
   have hS := hS.callR hS1 rfl (.c .n)
   refine sN 1 3 [(29, .pointer (some ⟨b1, 0, none⟩))] hE fun a hE => ?_
   obtain ⟨r6, h26, hf⟩ := bs hf
   refine aC rfl rfl rfl rfl hE rfl rfl rfl rfl (wire_Reader_Bytes.calls h26 (hS.st.fore (L := [bx b1 100 (c_T_wire_Reader (r4.2) A17 c17)])) h25) fun a v w hR hE => ?_
   obtain ⟨D21, A8, c8, q3, A18, c18, rfl, hS1, h27, h28⟩ := hR
   have le28 := hS1.dle
   have hS := hS.callR hS1 rfl (.c (.c .n))
   refine sM 1 5 [] [(31, .pointer (some ⟨b2, 44, none⟩))] hE hS fun a hE => ?_
   have hS := hS.p (.d 2 (.d 0 (.d 1 (.d 3 (.d 4 .n)))))
   refine at_op (op_store (v := .agg (List.toArray (acells .u8 32 (r4.1)))) (c_T_api_Rec ({ v2 with fSteps := r2.1, fSalt := r4.1, fGone := r1.1 }) A3 c3 none 0) rfl rfl rfl rfl hE hS rfl rfl (by kernel_rfl) (by kernel_rfl) (by kernel_rfl) (by kernel_rfl) (by kernel_rfl) (fun a w _ hE hS => ?_)) rfl
   refine sM 1 7 [] [(32, .pointer (some ⟨b2, 43, none⟩))] hE hS fun a hE => ?_
   refine at_op (op_store (v := .slice A8 (List.length (r6.1)) c8) (c_T_api_Rec ({ v2 with fSteps := r2.1, fData := r6.1, fSalt := r4.1, fGone := r1.1 }) A3 c3 A8 c8) rfl rfl rfl rfl hE hS rfl rfl (by kernel_rfl) (by kernel_rfl) (by kernel_rfl) (by kernel_rfl) (by kernel_rfl) (fun a w _ hE hS => ?_)) rfl
   refine ae ?_
   have hS := hS.p (.d 3 (.d 0 (.d 1 (.d 2 (.d 4 .n)))))
   obtain ⟨D22, q4, le15, hS, h94, h29⟩ := hS.lent (h5.mono (le2 (le2 le8 le27) le28))
   have hS := hS.p (.d 3 (.d 0 (.d 1 (.d 2 (.d 4 .n)))))
   obtain ⟨D8, q5, le16, hS, h95, h30⟩ := hS.lent (h27.mono le15)
   have hS := hS.p (.d 3 (.d 4 (.d 2 .n)))
   exact ⟨(r6.2, v2.fKind, v2.fSaga, v2.fSeq, v2.fStep, v2.fTry, v2.fBack, v2.fGood, v2.fEnd, v2.fPart, v2.fEpoch, v2.fTag, r2.1, r6.1, r4.1, r1.1, v2.fCom), A18, c18, A3, c3, A8, c8, D8, hE.wk, hS, (le2 (le2 (le2 (le2 (le2 (le2 le11 le12) le8) le27) le28) le15) le16), (h28.mono (le2 le15 le16)), (h29.mono le16), h30, hf⟩
  replace hf := cf hb hf
  obtain ⟨j2, hj2, hf⟩ := jn_elim hf
  refine seq_join (fun a w => ∃ (y3 : Bool), ∃ D6, Env a 96 [] [(0, .pointer (some ⟨b1, 0, none⟩)), (2, .pointer (some ⟨b3, 0, none⟩)), (3, .pointer (some ⟨b2, 0, none⟩)), (8, .int .i64 (v1.fKind)), (33, .bool (y3))] ∧ Stp g w0 D0 [bx b1 100 (c_T_wire_Reader (x3) A4 c5)] w D6 [bx b1 100 (c_T_wire_Reader (r3.2) A5 c4), bx b3 40 (c_T_api_Rec (z_T_api_Rec) none 0 none 0), bx b2 40 (c_T_api_Rec (v1) none 0 none 0)] ∧ Snap.le D2 D6 ∧ j2 y3 = some r) ?_ ?_
  ·clear hj2
   refine sq (ra ?_)
   refine sN 2 2 [(33, .bool ((decide (v1.fKind = (2 : Int)))))] hE fun a hE => ?_
   refine ae ?_
   refine cond_split hE (b := (decide (v1.fKind = (2 : Int)))) rfl (fun hb => ?_) (fun hb => ?_)
   ·replace hf := ct hb hf
    refine wpIn_skip ?_
    have hS := hS.p (.d 1 (.d 2 (.d 0 .n)))
    exact ⟨(decide (v1.fKind = (2 : Int))), D2, hE.wk, hS, lr, hf⟩
   replace hf := cf hb hf
   refine sq (ra ?_)
   refine sN 2 2 [(33, .bool ((decide (v1.fKind = (4 : Int)))))] hE fun a hE => ?_
   refine ae ?_
   refine cond_split hE (b := (decide (v1.fKind = (4 : Int)))) rfl (fun hb => ?_) (fun hb => ?_)
   ·replace hf := ct hb hf
    refine wpIn_skip ?_
    have hS := hS.p (.d 1 (.d 2 (.d 0 .n)))
    exact ⟨(decide (v1.fKind = (4 : Int))), D2, hE.wk, hS, lr, hf⟩
   replace hf := cf hb hf
   refine ra ?_
   refine sN 2 2 [(33, .bool ((decide (v1.fKind = (3 : Int)))))] hE fun a hE => ?_
   refine ae ?_
   have hS := hS.p (.d 1 (.d 2 (.d 0 .n)))
   exact ⟨(decide (v1.fKind = (3 : Int))), D2, hE.wk, hS, lr, hf⟩
  clear hE hS
  rintro a w ⟨y3, D6, hE, hS, le1, hf⟩
  replace hf := hj2 _ hf
  clear hj2
  refine cond_split hE (b := y3) rfl (fun hb => ?_) (fun hb => ?_)
  ·replace hf := ct hb hf
   refine sq (ra ?_)
   refine sN 1 1 [(37, .pointer (some ⟨b1, 0, none⟩))] hE fun a hE => ?_
   obtain ⟨r9, h31, hf⟩ := bs hf
   refine aC rfl rfl rfl rfl hE rfl rfl rfl rfl (wire_Reader_Num.calls h31 (hS.st.fore (L := [bx b1 100 (c_T_wire_Reader (r3.2) A5 c4)])) (h1.mono le1)) fun a v w hR hE => ?_
   obtain ⟨D23, A19, c19, rfl, hS1, h32⟩ := hR
   have le3 := hS1.dle
   have hS := hS.callR hS1 rfl (.c .n)
   refine sN 1 3 [(39, .pointer (some ⟨b1, 0, none⟩))] hE fun a hE => ?_
   obtain ⟨r10, h33, hf⟩ := bs hf
   refine aC rfl rfl rfl rfl hE rfl rfl rfl rfl (wire_Reader_Num.calls h33 (hS.st.fore (L := [bx b1 100 (c_T_wire_Reader (r9.2) A19 c19)])) h32) fun a v w hR hE => ?_
   obtain ⟨D24, A20, c20, rfl, hS1, h34⟩ := hR
   have le4 := hS1.dle
   have hS := hS.callR hS1 rfl (.c .n)
   refine sN 1 5 [(41, .pointer (some ⟨b1, 0, none⟩))] hE fun a hE => ?_
   obtain ⟨r11, h35, hf⟩ := bs hf
   refine aC rfl rfl rfl rfl hE rfl rfl rfl rfl (wire_Reader_Num.calls h35 (hS.st.fore (L := [bx b1 100 (c_T_wire_Reader (r10.2) A20 c20)])) h34) fun a v w hR hE => ?_
   obtain ⟨D25, A21, c21, rfl, hS1, h36⟩ := hR
   have le5 := hS1.dle
   have hS := hS.callR hS1 rfl (.c .n)
   refine sN 1 7 [(43, .pointer (some ⟨b1, 0, none⟩))] hE fun a hE => ?_
   obtain ⟨r12, h37, hf⟩ := bs hf
   refine aC rfl rfl rfl rfl hE rfl rfl rfl rfl (wire_Reader_Num.calls h37 (hS.st.fore (L := [bx b1 100 (c_T_wire_Reader (r11.2) A21 c21)])) h36) fun a v w hR hE => ?_
   obtain ⟨D26, A22, c22, rfl, hS1, h38⟩ := hR
   have le6 := hS1.dle
   have hS := hS.callR hS1 rfl (.c .n)
   refine sN 1 9 [(45, .pointer (some ⟨b1, 0, none⟩))] hE fun a hE => ?_
   obtain ⟨r7, h39, hf⟩ := bs hf
   refine aC rfl rfl rfl rfl hE rfl rfl rfl rfl (wire_Reader_Flag.calls h39 (hS.st.fore (L := [bx b1 100 (c_T_wire_Reader (r12.2) A22 c22)])) h38) fun a v w hR hE => ?_
   obtain ⟨D9, A13, c13, rfl, hS1, h8⟩ := hR
   have le7 := hS1.dle
   have hS := hS.callR hS1 rfl (.c .n)
   refine sM 1 11 [] [(47, .pointer (some ⟨b2, 1, none⟩))] hE hS fun a hE => ?_
   have hS := hS.p (.d 2 (.d 0 (.d 1 .n)))
   obtain ⟨v8, hv3, hf⟩ := bs hf
   replace hv3 := Option.some.inj hv3
   refine at_op (op_store (v := .int .i64 (r9.1)) (c_T_api_Rec (v8) none 0 none 0) rfl rfl rfl rfl hE hS rfl rfl (by kernel_rfl) (by kernel_rfl) (by kernel_rfl) (by kernel_rfl) (by rw [← hv3]; kernel_rfl) (fun a w _ hE hS => ?_)) rfl
   have h40 : Sl kd_T_api_Step D2 none 0 (v8.fSteps) := by rw [← hv3]; exact h2
   have h41 : Sl (kdInt .u8) D2 none 0 (v8.fData) := by rw [← hv3]; exact h3
   refine sM 1 13 [] [(48, .pointer (some ⟨b2, 2, none⟩))] hE hS fun a hE => ?_
   obtain ⟨v9, hv4, hf⟩ := bs hf
   replace hv4 := Option.some.inj hv4
   refine at_op (op_store (v := .int .i64 (r10.1)) (c_T_api_Rec (v9) none 0 none 0) rfl rfl rfl rfl hE hS rfl rfl (by kernel_rfl) (by kernel_rfl) (by kernel_rfl) (by kernel_rfl) (by rw [← hv4]; kernel_rfl) (fun a w _ hE hS => ?_)) rfl
   have h42 : Sl kd_T_api_Step D2 none 0 (v9.fSteps) := by rw [← hv4]; exact h40
   have h43 : Sl (kdInt .u8) D2 none 0 (v9.fData) := by rw [← hv4]; exact h41
   refine sM 1 15 [] [(49, .pointer (some ⟨b2, 3, none⟩))] hE hS fun a hE => ?_
   obtain ⟨v10, hv5, hf⟩ := bs hf
   replace hv5 := Option.some.inj hv5
   refine at_op (op_store (v := .int .i64 (r11.1)) (c_T_api_Rec (v10) none 0 none 0) rfl rfl rfl rfl hE hS rfl rfl (by kernel_rfl) (by kernel_rfl) (by kernel_rfl) (by kernel_rfl) (by rw [← hv5]; kernel_rfl) (fun a w _ hE hS => ?_)) rfl
   have h44 : Sl kd_T_api_Step D2 none 0 (v10.fSteps) := by rw [← hv5]; exact h42
   have h45 : Sl (kdInt .u8) D2 none 0 (v10.fData) := by rw [← hv5]; exact h43
   refine sM 1 17 [] [(50, .pointer (some ⟨b2, 4, none⟩))] hE hS fun a hE => ?_
   obtain ⟨v11, hv6, hf⟩ := bs hf
   replace hv6 := Option.some.inj hv6
   refine at_op (op_store (v := .int .i64 (r12.1)) (c_T_api_Rec (v11) none 0 none 0) rfl rfl rfl rfl hE hS rfl rfl (by kernel_rfl) (by kernel_rfl) (by kernel_rfl) (by kernel_rfl) (by rw [← hv6]; kernel_rfl) (fun a w _ hE hS => ?_)) rfl
   have h46 : Sl kd_T_api_Step D2 none 0 (v11.fSteps) := by rw [← hv6]; exact h44
   have h47 : Sl (kdInt .u8) D2 none 0 (v11.fData) := by rw [← hv6]; exact h45
   refine sM 1 19 [] [(51, .pointer (some ⟨b2, 5, none⟩))] hE hS fun a hE => ?_
   obtain ⟨v3, hv7, hf⟩ := bs hf
   replace hv7 := Option.some.inj hv7
   refine at_op (op_store (v := .bool (r7.1)) (c_T_api_Rec (v3) none 0 none 0) rfl rfl rfl rfl hE hS rfl rfl (by kernel_rfl) (by kernel_rfl) (by kernel_rfl) (by kernel_rfl) (by rw [← hv7]; kernel_rfl) (fun a w _ hE hS => ?_)) rfl
   have h9 : Sl kd_T_api_Step D2 none 0 (v3.fSteps) := by rw [← hv7]; exact h46
   have h10 : Sl (kdInt .u8) D2 none 0 (v3.fData) := by rw [← hv7]; exact h47
   refine ae ?_
   refine sq (ra ?_)
   refine sM 3 3 [0] [(54, .bool ((decide (v3.fKind = (3 : Int)))))] hE hS fun a hE => ?_
   refine ae ?_
   refine cond_split hE (b := (decide (v3.fKind = (3 : Int)))) rfl (fun hb => ?_) (fun hb => ?_)
   ·replace hf := ct hb hf
    refine ra ?_
    refine sN 1 1 [(55, .pointer (some ⟨b1, 0, none⟩))] hE fun a hE => ?_
    have hS := hS.p (.d 1 (.d 0 (.d 2 .n)))
    obtain ⟨r13, h48, hf⟩ := bs hf
    refine aC rfl rfl rfl rfl hE rfl rfl rfl rfl (wire_Reader_Flag.calls h48 (hS.st.fore (L := [bx b1 100 (c_T_wire_Reader (r7.2) A13 c13)])) h8) fun a v w hR hE => ?_
    obtain ⟨D27, A23, c23, rfl, hS1, h49⟩ := hR
    have le17 := hS1.dle
    have hS := hS.callR hS1 rfl (.c .n)
    refine sN 1 3 [(57, .pointer (some ⟨b1, 0, none⟩))] hE fun a hE => ?_
    obtain ⟨r14, h50, hf⟩ := bs hf
    refine aC rfl rfl rfl rfl hE rfl rfl rfl rfl (wire_Reader_Num.calls h50 (hS.st.fore (L := [bx b1 100 (c_T_wire_Reader (r13.2) A23 c23)])) h49) fun a v w hR hE => ?_
    obtain ⟨D28, A24, c24, rfl, hS1, h51⟩ := hR
    have le18 := hS1.dle
    have hS := hS.callR hS1 rfl (.c .n)
    refine sN 1 5 [(59, .pointer (some ⟨b1, 0, none⟩))] hE fun a hE => ?_
    obtain ⟨r15, h52, hf⟩ := bs hf
    refine aC rfl rfl rfl rfl hE rfl rfl rfl rfl (wire_Reader_Num.calls h52 (hS.st.fore (L := [bx b1 100 (c_T_wire_Reader (r14.2) A24 c24)])) h51) fun a v w hR hE => ?_
    obtain ⟨D29, A25, c25, rfl, hS1, h53⟩ := hR
    have le19 := hS1.dle
    have hS := hS.callR hS1 rfl (.c .n)
    refine sN 1 7 [(61, .pointer (some ⟨b1, 0, none⟩))] hE fun a hE => ?_
    obtain ⟨r16, h54, hf⟩ := bs hf
    refine aC rfl rfl rfl rfl hE rfl rfl rfl rfl (wire_Reader_Hash.calls h54 (hS.st.fore (L := [bx b1 100 (c_T_wire_Reader (r15.2) A25 c25)])) h53) fun a v w hR hE => ?_
    obtain ⟨D10, A26, c26, rfl, hS1, h55⟩ := hR
    have le20 := hS1.dle
    have hS := hS.callR hS1 rfl (.c .n)
    refine sM 1 9 [] [(63, .pointer (some ⟨b2, 6, none⟩))] hE hS fun a hE => ?_
    have hS := hS.p (.d 1 (.d 0 (.d 2 .n)))
    obtain ⟨v12, hv8, hf⟩ := bs hf
    replace hv8 := Option.some.inj hv8
    refine at_op (op_store (v := .bool (r13.1)) (c_T_api_Rec (v12) none 0 none 0) rfl rfl rfl rfl hE hS rfl rfl (by kernel_rfl) (by kernel_rfl) (by kernel_rfl) (by kernel_rfl) (by rw [← hv8]; kernel_rfl) (fun a w _ hE hS => ?_)) rfl
    have h56 : Sl kd_T_api_Step D2 none 0 (v12.fSteps) := by rw [← hv8]; exact h9
    have h57 : Sl (kdInt .u8) D2 none 0 (v12.fData) := by rw [← hv8]; exact h10
    refine sM 1 11 [] [(64, .pointer (some ⟨b2, 8, none⟩))] hE hS fun a hE => ?_
    obtain ⟨v13, hv9, hf⟩ := bs hf
    replace hv9 := Option.some.inj hv9
    refine at_op (op_store (v := .int .i64 (r14.1)) (c_T_api_Rec (v13) none 0 none 0) rfl rfl rfl rfl hE hS rfl rfl (by kernel_rfl) (by kernel_rfl) (by kernel_rfl) (by kernel_rfl) (by rw [← hv9]; kernel_rfl) (fun a w _ hE hS => ?_)) rfl
    have h58 : Sl kd_T_api_Step D2 none 0 (v13.fSteps) := by rw [← hv9]; exact h56
    have h59 : Sl (kdInt .u8) D2 none 0 (v13.fData) := by rw [← hv9]; exact h57
    refine sM 1 13 [] [(65, .pointer (some ⟨b2, 9, none⟩))] hE hS fun a hE => ?_
    obtain ⟨v14, hv10, hf⟩ := bs hf
    replace hv10 := Option.some.inj hv10
    refine at_op (op_store (v := .int .i64 (r15.1)) (c_T_api_Rec (v14) none 0 none 0) rfl rfl rfl rfl hE hS rfl rfl (by kernel_rfl) (by kernel_rfl) (by kernel_rfl) (by kernel_rfl) (by rw [← hv10]; kernel_rfl) (fun a w _ hE hS => ?_)) rfl
    have h60 : Sl kd_T_api_Step D2 none 0 (v14.fSteps) := by rw [← hv10]; exact h58
    have h61 : Sl (kdInt .u8) D2 none 0 (v14.fData) := by rw [← hv10]; exact h59
    refine sM 1 15 [] [(66, .pointer (some ⟨b2, 10, none⟩))] hE hS fun a hE => ?_
    obtain ⟨v4, hv11, hf⟩ := bs hf
    replace hv11 := Option.some.inj hv11
    refine at_op (op_store (v := .agg (List.toArray (acells .u8 32 (r16.1)))) (c_T_api_Rec (v4) none 0 none 0) rfl rfl rfl rfl hE hS rfl rfl (by kernel_rfl) (by kernel_rfl) (by kernel_rfl) (by kernel_rfl) (by rw [← hv11]; kernel_rfl) (fun a w _ hE hS => ?_)) rfl
    have h62 : Sl kd_T_api_Step D2 none 0 (v4.fSteps) := by rw [← hv11]; exact h60
    have h63 : Sl (kdInt .u8) D2 none 0 (v4.fData) := by rw [← hv11]; exact h61
    refine ae ?_
    have hS := hS.p (.d 1 (.d 2 (.d 0 .n)))
    exact ⟨(r16.2, v4.fKind, v4.fSaga, v4.fSeq, v4.fStep, v4.fTry, v4.fBack, v4.fGood, v4.fEnd, v4.fPart, v4.fEpoch, v4.fTag, v4.fSteps, v4.fData, v4.fSalt, v4.fGone, v4.fCom), A26, c26, none, 0, none, 0, D10, hE.wk, hS, (le2 (le2 (le2 (le2 (le2 (le2 (le2 (le2 (le2 le1 le3) le4) le5) le6) le7) le17) le18) le19) le20), h55, (h62.mono (le2 (le2 (le2 (le2 (le2 (le2 (le2 (le2 (le2 le1 le3) le4) le5) le6) le7) le17) le18) le19) le20)), (h63.mono (le2 (le2 (le2 (le2 (le2 (le2 (le2 (le2 (le2 le1 le3) le4) le5) le6) le7) le17) le18) le19) le20)), hf⟩
   replace hf := cf hb hf
   refine wpIn_skip ?_
   have hS := hS.p (.d 1 (.d 2 (.d 0 .n)))
   exact ⟨(r7.2, v3.fKind, v3.fSaga, v3.fSeq, v3.fStep, v3.fTry, v3.fBack, v3.fGood, v3.fEnd, v3.fPart, v3.fEpoch, v3.fTag, v3.fSteps, v3.fData, v3.fSalt, v3.fGone, v3.fCom), A13, c13, none, 0, none, 0, D9, hE.wk, hS, (le2 (le2 (le2 (le2 (le2 le1 le3) le4) le5) le6) le7), h8, (h9.mono (le2 (le2 (le2 (le2 (le2 le1 le3) le4) le5) le6) le7)), (h10.mono (le2 (le2 (le2 (le2 (le2 le1 le3) le4) le5) le6) le7)), hf⟩
  replace hf := cf hb hf
  refine sq (ra ?_)
  refine sN 2 2 [(67, .bool ((decide (v1.fKind = (5 : Int)))))] hE fun a hE => ?_
  refine ae ?_
  refine cond_split hE (b := (decide (v1.fKind = (5 : Int)))) rfl (fun hb => ?_) (fun hb => ?_)
  ·replace hf := ct hb hf
   refine ra ?_
   refine sN 1 1 [(69, .pointer (some ⟨b1, 0, none⟩))] hE fun a hE => ?_
   obtain ⟨r17, h64, hf⟩ := bs hf
   refine aC rfl rfl rfl rfl hE rfl rfl rfl rfl (wire_Reader_Num.calls h64 (hS.st.fore (L := [bx b1 100 (c_T_wire_Reader (r3.2) A5 c4)])) (h1.mono le1)) fun a v w hR hE => ?_
   obtain ⟨D30, A27, c27, rfl, hS1, h65⟩ := hR
   have le21 := hS1.dle
   have hS := hS.callR hS1 rfl (.c .n)
   refine sN 1 3 [(71, .pointer (some ⟨b1, 0, none⟩))] hE fun a hE => ?_
   obtain ⟨r18, h66, hf⟩ := bs hf
   refine aC rfl rfl rfl rfl hE rfl rfl rfl rfl (wire_Reader_Num.calls h66 (hS.st.fore (L := [bx b1 100 (c_T_wire_Reader (r17.2) A27 c27)])) h65) fun a v w hR hE => ?_
   obtain ⟨D31, A28, c28, rfl, hS1, h67⟩ := hR
   have le22 := hS1.dle
   have hS := hS.callR hS1 rfl (.c .n)
   refine sN 1 5 [(73, .pointer (some ⟨b1, 0, none⟩))] hE fun a hE => ?_
   obtain ⟨r19, h68, hf⟩ := bs hf
   refine aC rfl rfl rfl rfl hE rfl rfl rfl rfl (wire_Reader_Num.calls h68 (hS.st.fore (L := [bx b1 100 (c_T_wire_Reader (r18.2) A28 c28)])) h67) fun a v w hR hE => ?_
   obtain ⟨D11, A29, c29, rfl, hS1, h69⟩ := hR
   have le23 := hS1.dle
   have hS := hS.callR hS1 rfl (.c .n)
   refine sM 1 7 [] [(75, .pointer (some ⟨b2, 1, none⟩))] hE hS fun a hE => ?_
   have hS := hS.p (.d 2 (.d 0 (.d 1 .n)))
   obtain ⟨v15, hv12, hf⟩ := bs hf
   replace hv12 := Option.some.inj hv12
   refine at_op (op_store (v := .int .i64 (r17.1)) (c_T_api_Rec (v15) none 0 none 0) rfl rfl rfl rfl hE hS rfl rfl (by kernel_rfl) (by kernel_rfl) (by kernel_rfl) (by kernel_rfl) (by rw [← hv12]; kernel_rfl) (fun a w _ hE hS => ?_)) rfl
   have h70 : Sl kd_T_api_Step D2 none 0 (v15.fSteps) := by rw [← hv12]; exact h2
   have h71 : Sl (kdInt .u8) D2 none 0 (v15.fData) := by rw [← hv12]; exact h3
   refine sM 1 9 [] [(76, .pointer (some ⟨b2, 2, none⟩))] hE hS fun a hE => ?_
   obtain ⟨v16, hv13, hf⟩ := bs hf
   replace hv13 := Option.some.inj hv13
   refine at_op (op_store (v := .int .i64 (r18.1)) (c_T_api_Rec (v16) none 0 none 0) rfl rfl rfl rfl hE hS rfl rfl (by kernel_rfl) (by kernel_rfl) (by kernel_rfl) (by kernel_rfl) (by rw [← hv13]; kernel_rfl) (fun a w _ hE hS => ?_)) rfl
   have h72 : Sl kd_T_api_Step D2 none 0 (v16.fSteps) := by rw [← hv13]; exact h70
   have h73 : Sl (kdInt .u8) D2 none 0 (v16.fData) := by rw [← hv13]; exact h71
   refine sM 1 11 [] [(77, .pointer (some ⟨b2, 7, none⟩))] hE hS fun a hE => ?_
   obtain ⟨v5, hv14, hf⟩ := bs hf
   replace hv14 := Option.some.inj hv14
   refine at_op (op_store (v := .int .i64 (r19.1)) (c_T_api_Rec (v5) none 0 none 0) rfl rfl rfl rfl hE hS rfl rfl (by kernel_rfl) (by kernel_rfl) (by kernel_rfl) (by kernel_rfl) (by rw [← hv14]; kernel_rfl) (fun a w _ hE hS => ?_)) rfl
   have h74 : Sl kd_T_api_Step D2 none 0 (v5.fSteps) := by rw [← hv14]; exact h72
   have h75 : Sl (kdInt .u8) D2 none 0 (v5.fData) := by rw [← hv14]; exact h73
   refine ae ?_
   have hS := hS.p (.d 1 (.d 2 (.d 0 .n)))
   exact ⟨(r19.2, v5.fKind, v5.fSaga, v5.fSeq, v5.fStep, v5.fTry, v5.fBack, v5.fGood, v5.fEnd, v5.fPart, v5.fEpoch, v5.fTag, v5.fSteps, v5.fData, v5.fSalt, v5.fGone, v5.fCom), A29, c29, none, 0, none, 0, D11, hE.wk, hS, (le2 (le2 (le2 le1 le21) le22) le23), h69, (h74.mono (le2 (le2 (le2 le1 le21) le22) le23)), (h75.mono (le2 (le2 (le2 le1 le21) le22) le23)), hf⟩
  replace hf := cf hb hf
  refine sq (ra ?_)
  refine sN 2 2 [(78, .bool ((decide (v1.fKind = (6 : Int)))))] hE fun a hE => ?_
  refine ae ?_
  refine cond_split hE (b := (decide (v1.fKind = (6 : Int)))) rfl (fun hb => ?_) (fun hb => ?_)
  ·replace hf := ct hb hf
   refine ra ?_
   refine sN 1 1 [(80, .pointer (some ⟨b1, 0, none⟩))] hE fun a hE => ?_
   obtain ⟨r20, h76, hf⟩ := bs hf
   refine aC rfl rfl rfl rfl hE rfl rfl rfl rfl (wire_Reader_Num.calls h76 (hS.st.fore (L := [bx b1 100 (c_T_wire_Reader (r3.2) A5 c4)])) (h1.mono le1)) fun a v w hR hE => ?_
   obtain ⟨D32, A30, c30, rfl, hS1, h77⟩ := hR
   have le24 := hS1.dle
   have hS := hS.callR hS1 rfl (.c .n)
   refine sN 1 3 [(82, .pointer (some ⟨b1, 0, none⟩))] hE fun a hE => ?_
   obtain ⟨r21, h78, hf⟩ := bs hf
   refine aC rfl rfl rfl rfl hE rfl rfl rfl rfl (wire_Reader_Num.calls h78 (hS.st.fore (L := [bx b1 100 (c_T_wire_Reader (r20.2) A30 c30)])) h77) fun a v w hR hE => ?_
   obtain ⟨D12, A31, c31, rfl, hS1, h79⟩ := hR
   have le25 := hS1.dle
   have hS := hS.callR hS1 rfl (.c .n)
   refine sM 1 5 [] [(84, .pointer (some ⟨b2, 8, none⟩))] hE hS fun a hE => ?_
   have hS := hS.p (.d 2 (.d 0 (.d 1 .n)))
   obtain ⟨v17, hv15, hf⟩ := bs hf
   replace hv15 := Option.some.inj hv15
   refine at_op (op_store (v := .int .i64 (r20.1)) (c_T_api_Rec (v17) none 0 none 0) rfl rfl rfl rfl hE hS rfl rfl (by kernel_rfl) (by kernel_rfl) (by kernel_rfl) (by kernel_rfl) (by rw [← hv15]; kernel_rfl) (fun a w _ hE hS => ?_)) rfl
   have h80 : Sl kd_T_api_Step D2 none 0 (v17.fSteps) := by rw [← hv15]; exact h2
   have h81 : Sl (kdInt .u8) D2 none 0 (v17.fData) := by rw [← hv15]; exact h3
   refine sM 1 7 [] [(85, .pointer (some ⟨b2, 9, none⟩))] hE hS fun a hE => ?_
   obtain ⟨v6, hv16, hf⟩ := bs hf
   replace hv16 := Option.some.inj hv16
   refine at_op (op_store (v := .int .i64 (r21.1)) (c_T_api_Rec (v6) none 0 none 0) rfl rfl rfl rfl hE hS rfl rfl (by kernel_rfl) (by kernel_rfl) (by kernel_rfl) (by kernel_rfl) (by rw [← hv16]; kernel_rfl) (fun a w _ hE hS => ?_)) rfl
   have h82 : Sl kd_T_api_Step D2 none 0 (v6.fSteps) := by rw [← hv16]; exact h80
   have h83 : Sl (kdInt .u8) D2 none 0 (v6.fData) := by rw [← hv16]; exact h81
   refine ae ?_
   have hS := hS.p (.d 1 (.d 2 (.d 0 .n)))
   exact ⟨(r21.2, v6.fKind, v6.fSaga, v6.fSeq, v6.fStep, v6.fTry, v6.fBack, v6.fGood, v6.fEnd, v6.fPart, v6.fEpoch, v6.fTag, v6.fSteps, v6.fData, v6.fSalt, v6.fGone, v6.fCom), A31, c31, none, 0, none, 0, D12, hE.wk, hS, (le2 (le2 le1 le24) le25), h79, (h82.mono (le2 (le2 le1 le24) le25)), (h83.mono (le2 (le2 le1 le24) le25)), hf⟩
  replace hf := cf hb hf
  refine ra ?_
  refine sN 1 1 [(9, .pointer (some ⟨b1, 0, none⟩))] hE fun a hE => ?_
  obtain ⟨r24, h84, hf⟩ := bs hf
  refine aC rfl rfl rfl rfl hE rfl rfl rfl rfl (wire_Reader_Fail.calls h84 (hS.st.fore (L := [bx b1 100 (c_T_wire_Reader (r3.2) A5 c4)])) (h1.mono le1)) fun a v w hR hE => ?_
  obtain ⟨D13, A32, c32, rfl, hS1, h85⟩ := hR
  have le26 := hS1.dle
  have hS := hS.callR hS1 rfl (.c .n)
  exact ae ⟨(r24, v1.fKind, v1.fSaga, v1.fSeq, v1.fStep, v1.fTry, v1.fBack, v1.fGood, v1.fEnd, v1.fPart, v1.fEpoch, v1.fTag, v1.fSteps, v1.fData, v1.fSalt, v1.fGone, v1.fCom), A32, c32, none, 0, none, 0, D13, hE.wk, hS, (le2 le1 le26), h85, (h2.mono (le2 le1 le26)), (h3.mono (le2 le1 le26)), hf⟩
 clear hE hS
 rintro a w ⟨y1, A7, c7, A1, c1, A2, c2, D3, hE, hS, le32, h11, h12, h13, hf⟩
 replace hf := hj1 _ hf
 clear hj1
 obtain ⟨j3, hj3, hf⟩ := jn_elim hf
 refine seq_join (fun a w => ∃ (y2 : T_wire_Reader), ∃ A6, ∃ c6, ∃ D4, Env a 96 [] [(0, .pointer (some ⟨b1, 0, none⟩)), (2, .pointer (some ⟨b3, 0, none⟩)), (3, .pointer (some ⟨b2, 0, none⟩))] ∧ Stp g w0 D0 [bx b1 100 (c_T_wire_Reader (x3) A4 c5)] w D4 [bx b1 100 (c_T_wire_Reader (y2) A6 c6), bx b3 40 (c_T_api_Rec (z_T_api_Rec) none 0 none 0), bx b2 40 (c_T_api_Rec ((T_api_Rec.mk (y1.2.1) (y1.2.2.1) (y1.2.2.2.1) (y1.2.2.2.2.1) (y1.2.2.2.2.2.1) (y1.2.2.2.2.2.2.1) (y1.2.2.2.2.2.2.2.1) (y1.2.2.2.2.2.2.2.2.1) (y1.2.2.2.2.2.2.2.2.2.1) (y1.2.2.2.2.2.2.2.2.2.2.1) (y1.2.2.2.2.2.2.2.2.2.2.2.1) (y1.2.2.2.2.2.2.2.2.2.2.2.2.1) (y1.2.2.2.2.2.2.2.2.2.2.2.2.2.1) (y1.2.2.2.2.2.2.2.2.2.2.2.2.2.2.1) (y1.2.2.2.2.2.2.2.2.2.2.2.2.2.2.2.1) (y1.2.2.2.2.2.2.2.2.2.2.2.2.2.2.2.2))) A1 c1 A2 c2)] ∧ Snap.le D3 D4 ∧ Sl (kdInt .u8) D4 A6 c6 (y2.fB) ∧ j3 y2 = some r) ?_ ?_
 ·clear hj3
  refine sq (ra ?_)
  refine sM 1 1 [2] [(86, .agg (List.toArray (c_T_api_Rec ((T_api_Rec.mk (y1.2.1) (y1.2.2.1) (y1.2.2.2.1) (y1.2.2.2.2.1) (y1.2.2.2.2.2.1) (y1.2.2.2.2.2.2.1) (y1.2.2.2.2.2.2.2.1) (y1.2.2.2.2.2.2.2.2.1) (y1.2.2.2.2.2.2.2.2.2.1) (y1.2.2.2.2.2.2.2.2.2.2.1) (y1.2.2.2.2.2.2.2.2.2.2.2.1) (y1.2.2.2.2.2.2.2.2.2.2.2.2.1) (y1.2.2.2.2.2.2.2.2.2.2.2.2.2.1) (y1.2.2.2.2.2.2.2.2.2.2.2.2.2.2.1) (y1.2.2.2.2.2.2.2.2.2.2.2.2.2.2.2.1) (y1.2.2.2.2.2.2.2.2.2.2.2.2.2.2.2.2))) A1 c1 A2 c2)))] hE hS fun a hE => ?_
  obtain ⟨r22, h86, hf⟩ := bs hf
  refine aC rfl rfl rfl rfl hE rfl rfl rfl rfl (rec_Right.calls h86 (hS.st.fore (L := [])) h12 h13) fun a v w hR hE => ?_
  obtain ⟨D14, rfl, hS1⟩ := hR
  have le9 := hS1.dle
  have hS := hS.callR hS1 rfl .n
  refine sN 1 3 [(88, .bool ((!r22)))] hE fun a hE => ?_
  refine ae ?_
  refine cond_split hE (b := (!r22)) rfl (fun hb => ?_) (fun hb => ?_)
  ·replace hf := ct hb hf
   refine ra ?_
   refine sN 1 1 [(89, .pointer (some ⟨b1, 0, none⟩))] hE fun a hE => ?_
   obtain ⟨r25, h87, hf⟩ := bs hf
   refine aC rfl rfl rfl rfl hE rfl rfl rfl rfl (wire_Reader_Fail.calls h87 (hS.st.fore (L := [bx b1 100 (c_T_wire_Reader (y1.1) A7 c7)])) (h11.mono le9)) fun a v w hR hE => ?_
   obtain ⟨D15, A33, c33, rfl, hS1, h88⟩ := hR
   have le30 := hS1.dle
   have hS := hS.callR hS1 rfl (.c .n)
   exact ae ⟨r25, A33, c33, D15, hE.wk, hS, (le2 le9 le30), h88, hf⟩
  replace hf := cf hb hf
  refine wpIn_skip ?_
  exact ⟨y1.1, A7, c7, D14, hE.wk, hS, le9, (h11.mono le9), hf⟩
 clear hE hS
 rintro a w ⟨y2, A6, c6, D4, hE, hS, le29, h4, hf⟩
 replace hf := hj3 _ hf
 clear hj3
 refine sq (sq (ra ?_))
 refine sN 1 1 [(91, .pointer (some ⟨b1, 0, none⟩))] hE fun a hE => ?_
 obtain ⟨r23, h89, hf⟩ := bs hf
 refine aC rfl rfl rfl rfl hE rfl rfl rfl rfl (wire_Reader_Bad.calls h89 (hS.st.fore (L := [bx b1 100 (c_T_wire_Reader (y2) A6 c6)])) h4) fun a v w hR hE => ?_
 obtain ⟨D5, rfl, hS1⟩ := hR
 have le10 := hS1.dle
 have hS := hS.callR hS1 rfl (.c .n)
 refine sN 1 3 [(93, .bool ((!decide (r23 = (0 : Int)))))] hE fun a hE => ?_
 refine ae ?_
 refine cond_split hE (b := (!decide (r23 = (0 : Int)))) rfl (fun hb => ?_) (fun hb => ?_)
 ·replace hf := ct hb hf
  refine sq (ra ?_)
  refine at_op (op_tk hE (tk_build (c_T_api_Rec (z_T_api_Rec) none 0 none 0) rfl rfl rfl rfl hE rfl rfl (by kernel_rfl) (fun a hE => ?_))) rfl
  have hS := hS.p (.d 1 (.d 0 (.d 2 .n)))
  refine at_op (op_store (v := .agg (List.toArray (c_T_api_Rec (z_T_api_Rec) none 0 none 0))) (c_T_api_Rec (z_T_api_Rec) none 0 none 0) rfl rfl rfl rfl hE hS rfl rfl (by kernel_rfl) (by kernel_rfl) (by kernel_rfl) (by kernel_rfl) (by kernel_rfl) (fun a w _ hE hS => ?_)) rfl
  refine ae ?_
  refine wpIn_ret ?_
  obtain rfl := si hf
  refine ret_ ?_
  refine ret_gen ([.agg (List.toArray (c_T_api_Rec (z_T_api_Rec) none 0 none 0))]) hE (by rw [show Tryz.f48.results.toList = [.cell 2 40] from rfl]; exact ⟨_, _, _, 0, _, _, rfl, rfl, hS.heapAt (j := 0) rfl, by kernel_rfl, rfl⟩) ?_
  have hS := hS.p (.d 1 .n)
  exact ⟨_, rfl, D5, none, 0, none, 0, A6, c6, rfl, hS, (Sl.nil kd_T_api_Step D5), (Sl.nil (kdInt .u8) D5), (h4.mono le10)⟩
 replace hf := cf hb hf
 refine wpIn_skip ?_
 refine sq (ra ?_)
 refine sM 1 1 [2] [(95, .agg (List.toArray (c_T_api_Rec ((T_api_Rec.mk (y1.2.1) (y1.2.2.1) (y1.2.2.2.1) (y1.2.2.2.2.1) (y1.2.2.2.2.2.1) (y1.2.2.2.2.2.2.1) (y1.2.2.2.2.2.2.2.1) (y1.2.2.2.2.2.2.2.2.1) (y1.2.2.2.2.2.2.2.2.2.1) (y1.2.2.2.2.2.2.2.2.2.2.1) (y1.2.2.2.2.2.2.2.2.2.2.2.1) (y1.2.2.2.2.2.2.2.2.2.2.2.2.1) (y1.2.2.2.2.2.2.2.2.2.2.2.2.2.1) (y1.2.2.2.2.2.2.2.2.2.2.2.2.2.2.1) (y1.2.2.2.2.2.2.2.2.2.2.2.2.2.2.2.1) (y1.2.2.2.2.2.2.2.2.2.2.2.2.2.2.2.2))) A1 c1 A2 c2)))] hE hS fun a hE => ?_
 have hS := hS.p (.d 1 (.d 0 (.d 2 .n)))
 obtain ⟨v7, hv17, hf⟩ := bs hf
 replace hv17 := Option.some.inj hv17
 refine at_op (op_store (v := .agg (List.toArray (c_T_api_Rec ((T_api_Rec.mk (y1.2.1) (y1.2.2.1) (y1.2.2.2.1) (y1.2.2.2.2.1) (y1.2.2.2.2.2.1) (y1.2.2.2.2.2.2.1) (y1.2.2.2.2.2.2.2.1) (y1.2.2.2.2.2.2.2.2.1) (y1.2.2.2.2.2.2.2.2.2.1) (y1.2.2.2.2.2.2.2.2.2.2.1) (y1.2.2.2.2.2.2.2.2.2.2.2.1) (y1.2.2.2.2.2.2.2.2.2.2.2.2.1) (y1.2.2.2.2.2.2.2.2.2.2.2.2.2.1) (y1.2.2.2.2.2.2.2.2.2.2.2.2.2.2.1) (y1.2.2.2.2.2.2.2.2.2.2.2.2.2.2.2.1) (y1.2.2.2.2.2.2.2.2.2.2.2.2.2.2.2.2))) A1 c1 A2 c2))) (c_T_api_Rec (v7) A1 c1 A2 c2) rfl rfl rfl rfl hE hS rfl rfl (by kernel_rfl) (by kernel_rfl) (by kernel_rfl) (by kernel_rfl) (by rw [← hv17]; kernel_rfl) (fun a w _ hE hS => ?_)) rfl
 have h90 : Sl kd_T_api_Step D3 A1 c1 (v7.fSteps) := by rw [← hv17]; exact h12
 have h91 : Sl (kdInt .u8) D3 A2 c2 (v7.fData) := by rw [← hv17]; exact h13
 refine ae ?_
 refine wpIn_ret ?_
 obtain rfl := si hf
 refine ret_ ?_
 refine ret_gen ([.agg (List.toArray (c_T_api_Rec (v7) A1 c1 A2 c2))]) hE (by rw [show Tryz.f48.results.toList = [.cell 2 40] from rfl]; exact ⟨_, _, _, 0, _, _, rfl, rfl, hS.heapAt (j := 0) rfl, by kernel_rfl, rfl⟩) ?_
 have hS := hS.p (.d 1 .n)
 exact ⟨_, rfl, D5, A1, c1, A2, c2, A6, c6, rfl, hS, (h90.mono (le2 le29 le10)), (h91.mono (le2 le29 le10)), (h4.mono le10)⟩
set_option maxRecDepth 100000 in
theorem bundle_Get_2.calls {K : Nat} {g w0 : World} {D0 : Snap} {x5 : Int} {x6 : T_wire_Reader} {b1 : Nat} {b2 : Nat} {A7 : Option Addr} {c8 : Nat} {r : (T_api_Item × T_wire_Reader)} (hf : bundle_Get_2.f K x5 x6 = some r) (hS0 : St g w0 D0 [bx b1 68 ([.pointer (some ⟨b2, 0, none⟩)]), bx b2 100 (c_T_wire_Reader (x6) A7 c8)]) (h9 : Sl (kdInt .u8) D0 A7 c8 (x6.fB)) :
  CallsIn (Fw none) 0 Tryz.prog 47 (List.toArray [.int .i64 (x5), .pointer (some ⟨b1, 0, none⟩)]) w0 (fun e w' => ∃ v, e = .returned v ∧ ∃ (D1 : Snap) (A31 : Option Addr) (c32 : Nat) (A34 : Option Addr) (c35 : Nat) (A37 : Option Addr) (c38 : Nat) (A40 : Option Addr) (c41 : Nat), v = .agg (List.toArray (c_T_api_Item ((T_api_Item.mk (r.1.fAt) ((T_api_Rec.mk (r.1.fRec.fKind) (r.1.fRec.fSaga) (r.1.fRec.fSeq) (r.1.fRec.fStep) (r.1.fRec.fTry) (r.1.fRec.fBack) (r.1.fRec.fGood) (r.1.fRec.fEnd) (r.1.fRec.fPart) (r.1.fRec.fEpoch) (r.1.fRec.fTag) (r.1.fRec.fSteps) (r.1.fRec.fData) (r.1.fRec.fSalt) (r.1.fRec.fGone) (r.1.fRec.fCom))) (r.1.fPath))) A31 c32 A34 c35 A37 c38)) ∧ Stp g w0 D0 [bx b1 68 ([.pointer (some ⟨b2, 0, none⟩)]), bx b2 100 (c_T_wire_Reader (x6) A7 c8)] w' D1 [bx b1 68 ([.pointer (some ⟨b2, 0, none⟩)]), bx b2 100 (c_T_wire_Reader ((T_wire_Reader.mk (r.2.fB) (r.2.fBad))) A40 c41)] ∧ Sl kd_T_api_Step D1 A31 c32 (r.1.fRec.fSteps) ∧ Sl (kdInt .u8) D1 A34 c35 (r.1.fRec.fData) ∧ Sl (kdArr .u8 32) D1 A37 c38 (r.1.fPath) ∧ Sl (kdInt .u8) D1 A40 c41 (r.2.fB)) := by
 unfold bundle_Get_2.f at hf
 have hS := Stp.refl hS0
 clear hS0
 refine calls_body (n := 8) Tryz.func47 rfl Tryz.ntmps47 rfl fun a hE => ?_
 have hE : Env a 8 [] [(0, .int .i64 (x5)), (1, .pointer (some ⟨b1, 0, none⟩))] := hE
 refine sq (ra ?_)
 refine at_op (op_alloc (z := .agg (List.toArray (c_T_api_Item (z_T_api_Item) none 0 none 0 none 0))) rfl rfl rfl rfl hE rfl hS (by kernel_rfl) (fun a b43 w _ hE hS => ?_)) rfl
 refine ae ?_
 refine sq (ra ?_)
 refine sM 2 2 [1] [(4, .int .i64 (x5)), (5, .pointer (some ⟨b2, 0, none⟩))] hE hS fun a hE => ?_
 have hS := hS.p (.d 2 (.d 0 (.d 1 .n)))
 obtain ⟨r45, h46, hf⟩ := bs hf
 refine aC rfl rfl rfl rfl hE rfl rfl rfl rfl (rec_Read.calls h46 (hS.st.fore (L := [bx b2 100 (c_T_wire_Reader (x6) A7 c8)])) h9) fun a v w hR hE => ?_
 obtain ⟨D47, A49, c50, A52, c53, A55, c56, rfl, hS1, h51, h54, h57⟩ := hR
 have le58 := hS1.dle
 have hS := hS.callR hS1 rfl (.c .n)
 refine at_op (op_tk hE (tk_build (c_T_api_Item ((T_api_Item.mk (x5) (r45.1) (([] : List (Vector Int 32))))) A49 c50 A52 c53 none 0) rfl rfl rfl rfl hE rfl rfl (by kernel_rfl) (fun a hE => ?_))) rfl
 have hS := hS.p (.d 1 (.d 0 (.d 2 .n)))
 obtain ⟨v59, hv60, hf⟩ := bs hf
 replace hv60 := Option.some.inj hv60
 refine at_op (op_store (v := .agg (List.toArray (c_T_api_Item ((T_api_Item.mk (x5) (r45.1) (([] : List (Vector Int 32))))) A49 c50 A52 c53 none 0))) (c_T_api_Item (v59) A49 c50 A52 c53 none 0) rfl rfl rfl rfl hE hS rfl rfl (by kernel_rfl) (by kernel_rfl) (by kernel_rfl) (by kernel_rfl) (by rw [← hv60]; kernel_rfl) (fun a w _ hE hS => ?_)) rfl
 have h61 : Sl kd_T_api_Step D47 A49 c50 (v59.fRec.fSteps) := by rw [← hv60]; exact h51
 have h62 : Sl (kdInt .u8) D47 A52 c53 (v59.fRec.fData) := by rw [← hv60]; exact h54
 have h63 : Sl (kdArr .u8 32) D47 none 0 (v59.fPath) := by rw [← hv60]; exact (Sl.nil (kdArr .u8 32) D47)
 refine ae ?_
 refine wpIn_ret ?_
 obtain rfl := si hf
 refine ret_ ?_
 refine ret_gen ([.agg (List.toArray (c_T_api_Item (v59) A49 c50 A52 c53 none 0))]) hE (by rw [show Tryz.f47.results.toList = [.cell 3 43] from rfl]; exact ⟨_, _, _, 0, _, _, rfl, rfl, hS.heapAt (j := 0) rfl, by kernel_rfl, rfl⟩) ?_
 have hS := hS.p (.d 2 (.d 1 .n))
 exact ⟨_, rfl, D47, A49, c50, A52, c53, none, 0, A55, c56, rfl, hS, h61, h62, h63, h57⟩
set_option maxRecDepth 100000 in
theorem bundle_read_api_Item.calls {K : Nat} {g w0 : World} {D0 : Snap} {x5 : Int} {x6 : Int} {x7 : T_wire_Reader} {b1 : Nat} {b2 : Nat} {A8 : Option Addr} {c9 : Nat} {r : ((List T_api_Item) × T_wire_Reader)} (hf : bundle_read_api_Item.f K x5 x6 x7 = some r) (hS0 : St g w0 D0 [bx b1 100 (c_T_wire_Reader (x7) A8 c9), bx b2 68 ([.pointer (some ⟨b1, 0, none⟩)])]) (h10 : Sl (kdInt .u8) D0 A8 c9 (x7.fB)) :
  CallsIn (Fw none) 0 Tryz.prog 46 (List.toArray [.pointer (some ⟨b1, 0, none⟩), .int .i64 (x5), .int .i64 (x6), .func (.func 47) #[] #[.pointer (some ⟨b2, 0, none⟩)]]) w0 (fun e w' => ∃ v, e = .returned v ∧ ∃ (D1 : Snap) (A6 : Option Addr) (c6 : Nat) (q3 : Blk) (A7 : Option Addr) (c7 : Nat), v = .slice A6 (List.length (r.1)) c6 ∧ Stp g w0 D0 [bx b1 100 (c_T_wire_Reader (x7) A8 c9), bx b2 68 ([.pointer (some ⟨b1, 0, none⟩)])] w' D1 [bx b1 100 (c_T_wire_Reader ((T_wire_Reader.mk (r.2.fB) (r.2.fBad))) A7 c7), bx b2 68 ([.pointer (some ⟨b1, 0, none⟩)]), q3] ∧ OwnD kd_T_api_Item 43 D1 A6 c6 (r.1) q3 ∧ Sl (kdInt .u8) D1 A7 c7 (r.2.fB)) := by
 unfold bundle_read_api_Item.f at hf
 have hS := Stp.refl hS0
 clear hS0
 refine calls_body (n := 31) Tryz.func46 rfl Tryz.ntmps46 rfl fun a hE => ?_
 have hE : Env a 31 [] [(0, .pointer (some ⟨b1, 0, none⟩)), (1, .int .i64 (x5)), (2, .int .i64 (x6)), (3, .func (.func 47) #[] #[.pointer (some ⟨b2, 0, none⟩)])] := hE
 refine sq (ra ?_)
 refine sN 1 1 [(8, .slice none 0 0)] hE fun a hE => ?_
 refine ae ?_
 obtain ⟨j1, hj1, hf⟩ := jn_elim hf
 refine seq_join (fun a w => ∃ (y2 : T_wire_Reader), ∃ A4, ∃ c4, ∃ D2, Env a 31 [] [(0, .pointer (some ⟨b1, 0, none⟩)), (1, .int .i64 (x5)), (3, .func (.func 47) #[] #[.pointer (some ⟨b2, 0, none⟩)])] ∧ Stp g w0 D0 [bx b1 100 (c_T_wire_Reader (x7) A8 c9), bx b2 68 ([.pointer (some ⟨b1, 0, none⟩)])] w D2 [bx b1 100 (c_T_wire_Reader (y2) A4 c4), bx b2 68 ([.pointer (some ⟨b1, 0, none⟩)])] ∧ Snap.le D0 D2 ∧ Sl (kdInt .u8) D2 A4 c4 (y2.fB) ∧ j1 y2 = some r) ?_ ?_
 ·clear hj1
  refine sq (ra ?_)
  refine sN 3 3 [(13, .bool ((decide (x6 < x5))))] hE fun a hE => ?_
  refine ae ?_
  refine cond_split hE (b := (decide (x6 < x5))) rfl (fun hb => ?_) (fun hb => ?_)
  ·replace hf := ct hb hf
   refine ra ?_
   refine sN 1 1 [(14, .pointer (some ⟨b1, 0, none⟩))] hE fun a hE => ?_
   obtain ⟨r3, h3, hf⟩ := bs hf
   refine aC rfl rfl rfl rfl hE rfl rfl rfl rfl (wire_Reader_Fail.calls h3 (hS.st.fore (L := [bx b1 100 (c_T_wire_Reader (x7) A8 c9)])) h10) fun a v w hR hE => ?_
   obtain ⟨D6, A10, c10, rfl, hS1, h4⟩ := hR
   have le6 := hS1.dle
   have hS := hS.callR hS1 rfl (.c .n)
   exact ae ⟨r3, A10, c10, D6, hE.wk, hS, le6, h4, hf⟩
  replace hf := cf hb hf
  refine wpIn_skip ?_
  exact ⟨x7, A8, c9, D0, hE.wk, hS, lr, h10, hf⟩
 clear hE hS
 rintro a w ⟨y2, A4, c4, D2, hE, hS, le7, h5, hf⟩
 replace hf := hj1 _ hf
 clear hj1
 refine sq (ra ?_)
 refine sN 1 1 [(9, .slice none 0 0)] hE fun a hE => ?_
 refine ae ?_
 refine sq (sq (ra ?_))
 refine sN 2 2 [(16, .int .i64 (x5)), (17, .int .i64 ((0 : Int)))] hE fun a hE => ?_
 refine ae ?_
 obtain ⟨s1, hf, hs1⟩ := bs hf
 have hS := hS.nils
 have hS := hS.p (.d 1 (.d 2 (.d 0 .n)))
 refine block_loop (fun a w => ∃ (z1 : (List T_api_Item) × T_wire_Reader), ∃ A2, ∃ c2, ∃ q2, ∃ A5, ∃ c5, ∃ D3, Env a 31 [] [(9, .slice A2 (List.length (z1.1)) c2)] ∧ Stp g w0 D0 [bx b1 100 (c_T_wire_Reader (x7) A8 c9), bx b2 68 ([.pointer (some ⟨b1, 0, none⟩)])] w D3 [bx b1 100 (c_T_wire_Reader (z1.2) A5 c5), bx b2 68 ([.pointer (some ⟨b1, 0, none⟩)]), q2] ∧ Snap.le D2 D3 ∧ OwnD kd_T_api_Item 43 D3 A2 c2 (z1.1) q2 ∧ Sl (kdInt .u8) D3 A5 c5 (z1.2.fB) ∧ z1 = s1) (fun k a w => ∃ (y1 : (List T_api_Item) × Int × T_wire_Reader), ∃ A3, ∃ c3, ∃ q1, ∃ A1, ∃ c1, ∃ D4, Env a 31 [] [(0, .pointer (some ⟨b1, 0, none⟩)), (3, .func (.func 47) #[] #[.pointer (some ⟨b2, 0, none⟩)]), (9, .slice A3 (List.length (y1.1)) c3), (16, .int .i64 (x5)), (17, .int .i64 (y1.2.1))] ∧ Stp g w0 D0 [bx b1 100 (c_T_wire_Reader (x7) A8 c9), bx b2 68 ([.pointer (some ⟨b1, 0, none⟩)])] w D4 [bx b1 100 (c_T_wire_Reader (y1.2.2) A1 c1), bx b2 68 ([.pointer (some ⟨b1, 0, none⟩)]), q1] ∧ Snap.le D2 D4 ∧ OwnD kd_T_api_Item 43 D4 A3 c3 (y1.1) q1 ∧ Sl (kdInt .u8) D4 A1 c1 (y1.2.2.fB) ∧ bundle_read_api_Item_l1.l K x5 k y1 = some s1) K ?_ ?_ ?_
 ·exact ⟨(([] : List T_api_Item), (0 : Int), y2), none, 0, none, A4, c4, D2, hE.wk, hS, lr, (OwnD.nil kd_T_api_Item 43 D2), h5, hf⟩
 ·clear hE hS hf
  rintro a w ⟨z1, A2, c2, q2, A5, c5, D3, hE, hS, le8, h6, h7, rfl⟩
  have hf := hs1
  clear hs1
  refine sq (ra ?_)
  refine sN 2 2 [(8, .slice A2 (List.length (z1.1)) c2)] hE fun a hE => ?_
  refine ae ?_
  refine wpIn_ret ?_
  obtain rfl := si hf
  refine ret_ ?_
  refine rT 8 (.slice A2 (List.length (z1.1)) c2) hE ?_
  exact ⟨_, rfl, D3, A2, c2, q2, A5, c5, rfl, hS, h6, h7⟩
 clear hE hS hf
 rintro k a w ⟨y1, A3, c3, q1, A1, c1, D4, hE, hS, le3, h2, h1, hf⟩
 obtain ⟨k, rfl, hf⟩ := bundle_read_api_Item_l1.some _ hf
 refine ⟨k, rfl, ?_⟩
 unfold bundle_read_api_Item_l1.b at hf
 refine sq (ra ?_)
 refine sN 1 1 [(18, .bool ((decide (y1.2.1 < x5))))] hE fun a hE => ?_
 refine ae ?_
 refine sq ?_
 refine cond_split hE (b := (decide (y1.2.1 < x5))) rfl (fun hb => ?_) (fun hb => ?_)
 ·replace hf := ct hb hf
  refine wpIn_skip ?_
  refine sq ?_
  refine wpIn_block ?_
  refine sq (ra ?_)
  refine sN 2 2 [(10, .int .i64 (y1.2.1))] hE fun a hE => ?_
  refine ae ?_
  refine sq (sq (ra ?_))
  refine sN 1 1 [(20, .pointer (some ⟨b1, 0, none⟩))] hE fun a hE => ?_
  obtain ⟨r2, h8, hf⟩ := bs hf
  refine aC rfl rfl rfl rfl hE rfl rfl rfl rfl (wire_Reader_Bad.calls h8 (hS.st.fore (L := [bx b1 100 (c_T_wire_Reader (y1.2.2) A1 c1)])) h1) fun a v w hR hE => ?_
  obtain ⟨D7, rfl, hS1⟩ := hR
  have le1 := hS1.dle
  have hS := hS.callR hS1 rfl (.c .n)
  refine sN 1 3 [(22, .bool ((!decide (r2 = (0 : Int)))))] hE fun a hE => ?_
  refine ae ?_
  refine cond_split hE (b := (!decide (r2 = (0 : Int)))) rfl (fun hb => ?_) (fun hb => ?_)
  ·replace hf := ct hb hf
   refine wpIn_exit ?_
   obtain rfl := si hf
   exact ⟨(y1.1, y1.2.2), A3, c3, q1, A1, c1, D7, hE.wk, hS, (le2 le3 le1), (h2.mono le1), (h1.mono le1), rfl⟩
  replace hf := cf hb hf
  refine wpIn_skip ?_
  refine ra ?_
  refine sN 3 3 [(23, .slice A3 (List.length (y1.1)) c3), (24, .func (.func 47) #[] #[.pointer (some ⟨b2, 0, none⟩)]), (25, .int .i64 (y1.2.1))] hE fun a hE => ?_
  have hS := hS.p (.d 1 (.d 0 (.d 2 .n)))
  obtain ⟨r1, h9, hf⟩ := bs hf
  refine aC rfl rfl rfl rfl hE rfl rfl rfl rfl (bundle_Get_2.calls h9 (hS.st.fore (L := [bx b2 68 ([.pointer (some ⟨b1, 0, none⟩)]), bx b1 100 (c_T_wire_Reader (y1.2.2) A1 c1)])) (h1.mono le1)) fun a v w hR hE => ?_
  obtain ⟨D5, A11, c11, A12, c12, A13, c13, A14, c14, rfl, hS1, h11, h12, h13, h14⟩ := hR
  have le5 := hS1.dle
  have hS := hS.callR hS1 rfl (.c (.c .n))
  refine at_op (op_buildSlice (K := kd_T_api_Item) (e := 43) (cs := (c_T_api_Item (r1.1) A11 c11 A12 c12 A13 c13) ++ []) ([r1.1] : List T_api_Item) rfl rfl rfl rfl hE rfl hS rfl (by kernel_rfl) rfl rfl (by exact ⟨_, _, rfl, (kd_T_api_Item_mk (D := D5) (x := r1.1) rfl (kd_T_api_Rec_mk (D := D5) (x := r1.1.fRec) rfl rfl rfl rfl rfl rfl rfl rfl rfl rfl rfl (kslice h11) (kslice h12) rfl rfl rfl) (kslice h13)), rfl⟩) (fun a A15 q5 w _ hE h15 hS => ?_)) rfl
  obtain ⟨D8, q6, le4, hS, h19, h16⟩ := hS.lent h15
  have hS := hS.p (.d 3 (.d 0 (.d 1 (.d 2 .n))))
  obtain ⟨l1, h17, hf⟩ := bs hf
  refine at_op (g_append (K := kd_T_api_Item) (e := 43) (bytes := 256) (l := y1.1) (m := ([r1.1] : List T_api_Item)) rfl rfl rfl rfl hE rfl hS rfl rfl (by kernel_rfl) rfl rfl (h2.mono (le2 (le2 le1 le5) le4)) h16 h17 (fun a A9 c8 q4 w _ hE h18 hS => ?_)) rfl
  refine sN 1 7 [(9, .slice A9 (List.length (l1)) c8)] hE fun a hE => ?_
  refine ae ?_
  refine ra ?_
  refine sN 2 2 [(17, .int .i64 ((IntKind.wrap .i64 (y1.2.1 + (1 : Int)))))] hE fun a hE => ?_
  refine ae ?_
  have hS := hS.p (.d 3 (.d 2 (.d 0 .n)))
  exact ⟨(l1, (IntKind.wrap .i64 (y1.2.1 + (1 : Int))), r1.2), A9, c8, q4, A14, c14, D8, hE.wk, hS, (le2 (le2 (le2 le3 le1) le5) le4), h18, (h14.mono le4), hf⟩
 replace hf := cf hb hf
 refine wpIn_exit ?_
 obtain rfl := si hf
 exact ⟨(y1.1, y1.2.2), A3, c3, q1, A1, c1, D4, hE.wk, hS, le3, h2, h1, rfl⟩
set_option maxRecDepth 100000 in
theorem bundle_Get_3_1.calls {K : Nat} {g w0 : World} {D0 : Snap} {x5 : Int} {x6 : T_wire_Reader} {b1 : Nat} {b2 : Nat} {A7 : Option Addr} {c8 : Nat} {r : ((Vector Int 32) × T_wire_Reader)} (hf : bundle_Get_3_1.f K x5 x6 = some r) (hS0 : St g w0 D0 [bx b1 68 ([.pointer (some ⟨b2, 0, none⟩)]), bx b2 100 (c_T_wire_Reader (x6) A7 c8)]) (h9 : Sl (kdInt .u8) D0 A7 c8 (x6.fB)) :
  CallsIn (Fw none) 0 Tryz.prog 51 (List.toArray [.int .i64 (x5), .pointer (some ⟨b1, 0, none⟩)]) w0 (fun e w' => ∃ v, e = .returned v ∧ ∃ (D1 : Snap) (A20 : Option Addr) (c21 : Nat), v = .agg (List.toArray (acells .u8 32 (r.1))) ∧ Stp g w0 D0 [bx b1 68 ([.pointer (some ⟨b2, 0, none⟩)]), bx b2 100 (c_T_wire_Reader (x6) A7 c8)] w' D1 [bx b1 68 ([.pointer (some ⟨b2, 0, none⟩)]), bx b2 100 (c_T_wire_Reader ((T_wire_Reader.mk (r.2.fB) (r.2.fBad))) A20 c21)] ∧ Sl (kdInt .u8) D1 A20 c21 (r.2.fB)) := by
 unfold bundle_Get_3_1.f at hf
 have hS := Stp.refl hS0
 clear hS0
 refine calls_body (n := 6) Tryz.func51 rfl Tryz.ntmps51 rfl fun a hE => ?_
 have hE : Env a 6 [] [(0, .int .i64 (x5)), (1, .pointer (some ⟨b1, 0, none⟩))] := hE
 refine sq (ra ?_)
 refine at_op (op_alloc (z := .agg (List.toArray (acells .u8 32 ((Vector.replicate 32 (0 : Int)))))) rfl rfl rfl rfl hE rfl hS (by kernel_rfl) (fun a b23 w _ hE hS => ?_)) rfl
 refine ae ?_
 refine sq (ra ?_)
 refine sM 1 1 [1] [(4, .pointer (some ⟨b2, 0, none⟩))] hE hS fun a hE => ?_
 have hS := hS.p (.d 2 (.d 0 (.d 1 .n)))
 obtain ⟨r25, h26, hf⟩ := bs hf
 refine aC rfl rfl rfl rfl hE rfl rfl rfl rfl (wire_Reader_Hash.calls h26 (hS.st.fore (L := [bx b2 100 (c_T_wire_Reader (x6) A7 c8)])) h9) fun a v w hR hE => ?_
 obtain ⟨D27, A29, c30, rfl, hS1, h31⟩ := hR
 have le32 := hS1.dle
 have hS := hS.callR hS1 rfl (.c .n)
 have hS := hS.p (.d 1 (.d 0 (.d 2 .n)))
 refine at_op (op_store (v := .agg (List.toArray (acells .u8 32 (r25.1)))) (acells .u8 32 (r25.1)) rfl rfl rfl rfl hE hS rfl rfl (by kernel_rfl) (by kernel_rfl) (by kernel_rfl) (by kernel_rfl) (by kernel_rfl) (fun a w _ hE hS => ?_)) rfl
 refine ae ?_
 refine wpIn_ret ?_
 obtain rfl := si hf
 refine ret_ ?_
 refine ret_gen ([.agg (List.toArray (acells .u8 32 (r25.1)))]) hE (by rw [show Tryz.f51.results.toList = [.cell 3 23] from rfl]; exact ⟨_, _, _, 0, _, _, rfl, rfl, hS.heapAt (j := 0) rfl, by kernel_rfl, rfl⟩) ?_
 have hS := hS.p (.d 2 (.d 1 .n))
 exact ⟨_, rfl, D27, A29, c30, rfl, hS, h31⟩
set_option maxRecDepth 100000 in
theorem bundle_read_api_Hash.calls {K : Nat} {g w0 : World} {D0 : Snap} {x5 : Int} {x6 : Int} {x7 : T_wire_Reader} {b1 : Nat} {b2 : Nat} {A8 : Option Addr} {c9 : Nat} {r : ((List (Vector Int 32)) × T_wire_Reader)} (hf : bundle_read_api_Hash.f K x5 x6 x7 = some r) (hS0 : St g w0 D0 [bx b1 100 (c_T_wire_Reader (x7) A8 c9), bx b2 68 ([.pointer (some ⟨b1, 0, none⟩)])]) (h10 : Sl (kdInt .u8) D0 A8 c9 (x7.fB)) :
  CallsIn (Fw none) 0 Tryz.prog 50 (List.toArray [.pointer (some ⟨b1, 0, none⟩), .int .i64 (x5), .int .i64 (x6), .func (.func 51) #[] #[.pointer (some ⟨b2, 0, none⟩)]]) w0 (fun e w' => ∃ v, e = .returned v ∧ ∃ (D1 : Snap) (A6 : Option Addr) (c6 : Nat) (q3 : Blk) (A7 : Option Addr) (c7 : Nat), v = .slice A6 (List.length (r.1)) c6 ∧ Stp g w0 D0 [bx b1 100 (c_T_wire_Reader (x7) A8 c9), bx b2 68 ([.pointer (some ⟨b1, 0, none⟩)])] w' D1 [bx b1 100 (c_T_wire_Reader ((T_wire_Reader.mk (r.2.fB) (r.2.fBad))) A7 c7), bx b2 68 ([.pointer (some ⟨b1, 0, none⟩)]), q3] ∧ OwnD (kdArr .u8 32) 23 D1 A6 c6 (r.1) q3 ∧ Sl (kdInt .u8) D1 A7 c7 (r.2.fB)) := by
 unfold bundle_read_api_Hash.f at hf
 have hS := Stp.refl hS0
 clear hS0
 refine calls_body (n := 31) Tryz.func50 rfl Tryz.ntmps50 rfl fun a hE => ?_
 have hE : Env a 31 [] [(0, .pointer (some ⟨b1, 0, none⟩)), (1, .int .i64 (x5)), (2, .int .i64 (x6)), (3, .func (.func 51) #[] #[.pointer (some ⟨b2, 0, none⟩)])] := hE
 refine sq (ra ?_)
 refine sN 1 1 [(8, .slice none 0 0)] hE fun a hE => ?_
 refine ae ?_
 obtain ⟨j1, hj1, hf⟩ := jn_elim hf
 refine seq_join (fun a w => ∃ (y2 : T_wire_Reader), ∃ A4, ∃ c4, ∃ D2, Env a 31 [] [(0, .pointer (some ⟨b1, 0, none⟩)), (1, .int .i64 (x5)), (3, .func (.func 51) #[] #[.pointer (some ⟨b2, 0, none⟩)])] ∧ Stp g w0 D0 [bx b1 100 (c_T_wire_Reader (x7) A8 c9), bx b2 68 ([.pointer (some ⟨b1, 0, none⟩)])] w D2 [bx b1 100 (c_T_wire_Reader (y2) A4 c4), bx b2 68 ([.pointer (some ⟨b1, 0, none⟩)])] ∧ Snap.le D0 D2 ∧ Sl (kdInt .u8) D2 A4 c4 (y2.fB) ∧ j1 y2 = some r) ?_ ?_
 ·clear hj1
  refine sq (ra ?_)
  refine sN 3 3 [(13, .bool ((decide (x6 < x5))))] hE fun a hE => ?_
  refine ae ?_
  refine cond_split hE (b := (decide (x6 < x5))) rfl (fun hb => ?_) (fun hb => ?_)
  ·replace hf := ct hb hf
   refine ra ?_
   refine sN 1 1 [(14, .pointer (some ⟨b1, 0, none⟩))] hE fun a hE => ?_
   obtain ⟨r3, h3, hf⟩ := bs hf
   refine aC rfl rfl rfl rfl hE rfl rfl rfl rfl (wire_Reader_Fail.calls h3 (hS.st.fore (L := [bx b1 100 (c_T_wire_Reader (x7) A8 c9)])) h10) fun a v w hR hE => ?_
   obtain ⟨D5, A10, c10, rfl, hS1, h4⟩ := hR
   have le6 := hS1.dle
   have hS := hS.callR hS1 rfl (.c .n)
   exact ae ⟨r3, A10, c10, D5, hE.wk, hS, le6, h4, hf⟩
  replace hf := cf hb hf
  refine wpIn_skip ?_
  exact ⟨x7, A8, c9, D0, hE.wk, hS, lr, h10, hf⟩
 clear hE hS
 rintro a w ⟨y2, A4, c4, D2, hE, hS, le7, h5, hf⟩
 replace hf := hj1 _ hf
 clear hj1
 refine sq (ra ?_)
 refine sN 1 1 [(9, .slice none 0 0)] hE fun a hE => ?_
 refine ae ?_
 refine sq (sq (ra ?_))
 refine sN 2 2 [(16, .int .i64 (x5)), (17, .int .i64 ((0 : Int)))] hE fun a hE => ?_
 refine ae ?_
 obtain ⟨s1, hf, hs1⟩ := bs hf
 have hS := hS.nils
 have hS := hS.p (.d 1 (.d 2 (.d 0 .n)))
 refine block_loop (fun a w => ∃ (z1 : (List (Vector Int 32)) × T_wire_Reader), ∃ A2, ∃ c2, ∃ q2, ∃ A5, ∃ c5, ∃ D3, Env a 31 [] [(9, .slice A2 (List.length (z1.1)) c2)] ∧ Stp g w0 D0 [bx b1 100 (c_T_wire_Reader (x7) A8 c9), bx b2 68 ([.pointer (some ⟨b1, 0, none⟩)])] w D3 [bx b1 100 (c_T_wire_Reader (z1.2) A5 c5), bx b2 68 ([.pointer (some ⟨b1, 0, none⟩)]), q2] ∧ Snap.le D2 D3 ∧ OwnD (kdArr .u8 32) 23 D3 A2 c2 (z1.1) q2 ∧ Sl (kdInt .u8) D3 A5 c5 (z1.2.fB) ∧ z1 = s1) (fun k a w => ∃ (y1 : (List (Vector Int 32)) × Int × T_wire_Reader), ∃ A3, ∃ c3, ∃ q1, ∃ A1, ∃ c1, ∃ D4, Env a 31 [] [(0, .pointer (some ⟨b1, 0, none⟩)), (3, .func (.func 51) #[] #[.pointer (some ⟨b2, 0, none⟩)]), (9, .slice A3 (List.length (y1.1)) c3), (16, .int .i64 (x5)), (17, .int .i64 (y1.2.1))] ∧ Stp g w0 D0 [bx b1 100 (c_T_wire_Reader (x7) A8 c9), bx b2 68 ([.pointer (some ⟨b1, 0, none⟩)])] w D4 [bx b1 100 (c_T_wire_Reader (y1.2.2) A1 c1), bx b2 68 ([.pointer (some ⟨b1, 0, none⟩)]), q1] ∧ Snap.le D2 D4 ∧ OwnD (kdArr .u8 32) 23 D4 A3 c3 (y1.1) q1 ∧ Sl (kdInt .u8) D4 A1 c1 (y1.2.2.fB) ∧ bundle_read_api_Hash_l1.l K x5 k y1 = some s1) K ?_ ?_ ?_
 ·exact ⟨(([] : List (Vector Int 32)), (0 : Int), y2), none, 0, none, A4, c4, D2, hE.wk, hS, lr, (OwnD.nil (kdArr .u8 32) 23 D2), h5, hf⟩
 ·clear hE hS hf
  rintro a w ⟨z1, A2, c2, q2, A5, c5, D3, hE, hS, le8, h6, h7, rfl⟩
  have hf := hs1
  clear hs1
  refine sq (ra ?_)
  refine sN 2 2 [(8, .slice A2 (List.length (z1.1)) c2)] hE fun a hE => ?_
  refine ae ?_
  refine wpIn_ret ?_
  obtain rfl := si hf
  refine ret_ ?_
  refine rT 8 (.slice A2 (List.length (z1.1)) c2) hE ?_
  exact ⟨_, rfl, D3, A2, c2, q2, A5, c5, rfl, hS, h6, h7⟩
 clear hE hS hf
 rintro k a w ⟨y1, A3, c3, q1, A1, c1, D4, hE, hS, le3, h2, h1, hf⟩
 obtain ⟨k, rfl, hf⟩ := bundle_read_api_Hash_l1.some _ hf
 refine ⟨k, rfl, ?_⟩
 unfold bundle_read_api_Hash_l1.b at hf
 refine sq (ra ?_)
 refine sN 1 1 [(18, .bool ((decide (y1.2.1 < x5))))] hE fun a hE => ?_
 refine ae ?_
 refine sq ?_
 refine cond_split hE (b := (decide (y1.2.1 < x5))) rfl (fun hb => ?_) (fun hb => ?_)
 ·replace hf := ct hb hf
  refine wpIn_skip ?_
  refine sq ?_
  refine wpIn_block ?_
  refine sq (ra ?_)
  refine sN 2 2 [(10, .int .i64 (y1.2.1))] hE fun a hE => ?_
  refine ae ?_
  refine sq (sq (ra ?_))
  refine sN 1 1 [(20, .pointer (some ⟨b1, 0, none⟩))] hE fun a hE => ?_
  obtain ⟨r2, h8, hf⟩ := bs hf
  refine aC rfl rfl rfl rfl hE rfl rfl rfl rfl (wire_Reader_Bad.calls h8 (hS.st.fore (L := [bx b1 100 (c_T_wire_Reader (y1.2.2) A1 c1)])) h1) fun a v w hR hE => ?_
  obtain ⟨D6, rfl, hS1⟩ := hR
  have le1 := hS1.dle
  have hS := hS.callR hS1 rfl (.c .n)
  refine sN 1 3 [(22, .bool ((!decide (r2 = (0 : Int)))))] hE fun a hE => ?_
  refine ae ?_
  refine cond_split hE (b := (!decide (r2 = (0 : Int)))) rfl (fun hb => ?_) (fun hb => ?_)
  ·replace hf := ct hb hf
   refine wpIn_exit ?_
   obtain rfl := si hf
   exact ⟨(y1.1, y1.2.2), A3, c3, q1, A1, c1, D6, hE.wk, hS, (le2 le3 le1), (h2.mono le1), (h1.mono le1), rfl⟩
  replace hf := cf hb hf
  refine wpIn_skip ?_
  refine ra ?_
  refine sN 3 3 [(23, .slice A3 (List.length (y1.1)) c3), (24, .func (.func 51) #[] #[.pointer (some ⟨b2, 0, none⟩)]), (25, .int .i64 (y1.2.1))] hE fun a hE => ?_
  have hS := hS.p (.d 1 (.d 0 (.d 2 .n)))
  obtain ⟨r1, h9, hf⟩ := bs hf
  refine aC rfl rfl rfl rfl hE rfl rfl rfl rfl (bundle_Get_3_1.calls h9 (hS.st.fore (L := [bx b2 68 ([.pointer (some ⟨b1, 0, none⟩)]), bx b1 100 (c_T_wire_Reader (y1.2.2) A1 c1)])) (h1.mono le1)) fun a v w hR hE => ?_
  obtain ⟨D8, A11, c11, rfl, hS1, h11⟩ := hR
  have le5 := hS1.dle
  have hS := hS.callR hS1 rfl (.c (.c .n))
  refine at_op (op_buildSlice (K := (kdArr .u8 32)) (e := 23) (cs := acells .u8 32 (r1.1) ++ []) ([r1.1] : List (Vector Int 32)) rfl rfl rfl rfl hE rfl hS rfl (by kernel_rfl) rfl rfl (by exact ⟨_, _, rfl, rfl, rfl⟩) (fun a A12 q5 w _ hE h12 hS => ?_)) rfl
  obtain ⟨D7, q6, le4, hS, h16, h13⟩ := hS.lent h12
  have hS := hS.p (.d 3 (.d 0 (.d 1 (.d 2 .n))))
  obtain ⟨l1, h14, hf⟩ := bs hf
  refine at_op (g_append (K := (kdArr .u8 32)) (e := 23) (bytes := 32) (l := y1.1) (m := ([r1.1] : List (Vector Int 32))) rfl rfl rfl rfl hE rfl hS rfl rfl (by kernel_rfl) rfl rfl (h2.mono (le2 (le2 le1 le5) le4)) h13 h14 (fun a A9 c8 q4 w _ hE h15 hS => ?_)) rfl
  refine sN 1 7 [(9, .slice A9 (List.length (l1)) c8)] hE fun a hE => ?_
  refine ae ?_
  refine ra ?_
  refine sN 2 2 [(17, .int .i64 ((IntKind.wrap .i64 (y1.2.1 + (1 : Int)))))] hE fun a hE => ?_
  refine ae ?_
  have hS := hS.p (.d 3 (.d 2 (.d 0 .n)))
  exact ⟨(l1, (IntKind.wrap .i64 (y1.2.1 + (1 : Int))), r1.2), A9, c8, q4, A11, c11, D7, hE.wk, hS, (le2 (le2 (le2 le3 le1) le5) le4), h15, (h11.mono le4), hf⟩
 replace hf := cf hb hf
 refine wpIn_exit ?_
 obtain rfl := si hf
 exact ⟨(y1.1, y1.2.2), A3, c3, q1, A1, c1, D4, hE.wk, hS, le3, h2, h1, rfl⟩
set_option maxRecDepth 100000 in
theorem bundle_Get_3.calls {K : Nat} {g w0 : World} {D0 : Snap} {x5 : Int} {x6 : T_wire_Reader} {b1 : Nat} {b2 : Nat} {A7 : Option Addr} {c8 : Nat} {r : (T_api_Item × T_wire_Reader)} (hf : bundle_Get_3.f K x5 x6 = some r) (hS0 : St g w0 D0 [bx b1 68 ([.pointer (some ⟨b2, 0, none⟩)]), bx b2 100 (c_T_wire_Reader (x6) A7 c8)]) (h9 : Sl (kdInt .u8) D0 A7 c8 (x6.fB)) :
  CallsIn (Fw none) 0 Tryz.prog 49 (List.toArray [.int .i64 (x5), .pointer (some ⟨b1, 0, none⟩)]) w0 (fun e w' => ∃ v, e = .returned v ∧ ∃ (D1 : Snap) (A13 : Option Addr) (c13 : Nat) (A14 : Option Addr) (c14 : Nat) (A15 : Option Addr) (c15 : Nat) (A16 : Option Addr) (c16 : Nat), v = .agg (List.toArray (c_T_api_Item ((T_api_Item.mk (r.1.fAt) ((T_api_Rec.mk (r.1.fRec.fKind) (r.1.fRec.fSaga) (r.1.fRec.fSeq) (r.1.fRec.fStep) (r.1.fRec.fTry) (r.1.fRec.fBack) (r.1.fRec.fGood) (r.1.fRec.fEnd) (r.1.fRec.fPart) (r.1.fRec.fEpoch) (r.1.fRec.fTag) (r.1.fRec.fSteps) (r.1.fRec.fData) (r.1.fRec.fSalt) (r.1.fRec.fGone) (r.1.fRec.fCom))) (r.1.fPath))) A13 c13 A14 c14 A15 c15)) ∧ Stp g w0 D0 [bx b1 68 ([.pointer (some ⟨b2, 0, none⟩)]), bx b2 100 (c_T_wire_Reader (x6) A7 c8)] w' D1 [bx b1 68 ([.pointer (some ⟨b2, 0, none⟩)]), bx b2 100 (c_T_wire_Reader ((T_wire_Reader.mk (r.2.fB) (r.2.fBad))) A16 c16)] ∧ Sl kd_T_api_Step D1 A13 c13 (r.1.fRec.fSteps) ∧ Sl (kdInt .u8) D1 A14 c14 (r.1.fRec.fData) ∧ Sl (kdArr .u8 32) D1 A15 c15 (r.1.fPath) ∧ Sl (kdInt .u8) D1 A16 c16 (r.2.fB)) := by
 unfold bundle_Get_3.f at hf
 have hS := Stp.refl hS0
 clear hS0
 refine calls_body (n := 17) Tryz.func49 rfl Tryz.ntmps49 rfl fun a hE => ?_
 have hE : Env a 17 [] [(0, .int .i64 (x5)), (1, .pointer (some ⟨b1, 0, none⟩))] := hE
 refine sq (ra ?_)
 refine at_op (op_alloc (z := .agg (List.toArray (c_T_api_Item (z_T_api_Item) none 0 none 0 none 0))) rfl rfl rfl rfl hE rfl hS (by kernel_rfl) (fun a b4 w _ hE hS => ?_)) rfl
 refine ae ?_
 obtain ⟨j1, hj1, hf⟩ := jn_elim hf
 refine seq_join (fun a w => ∃ (y1 : T_api_Item × T_wire_Reader), ∃ A1, ∃ c1, ∃ A2, ∃ c2, ∃ A12, ∃ c12, ∃ A11, ∃ c11, ∃ b3, ∃ D2, Env a 17 [] [(1, .pointer (some ⟨b1, 0, none⟩)), (3, .pointer (some ⟨b4, 0, none⟩)), (4, .pointer (some ⟨b3, 0, none⟩))] ∧ Stp g w0 D0 [bx b1 68 ([.pointer (some ⟨b2, 0, none⟩)]), bx b2 100 (c_T_wire_Reader (x6) A7 c8)] w D2 [bx b3 43 (c_T_api_Item (y1.1) A1 c1 A2 c2 A12 c12), bx b1 68 ([.pointer (some ⟨b2, 0, none⟩)]), bx b2 100 (c_T_wire_Reader (y1.2) A11 c11), bx b4 43 (c_T_api_Item (z_T_api_Item) none 0 none 0 none 0)] ∧ Snap.le D0 D2 ∧ Sl kd_T_api_Step D2 A1 c1 (y1.1.fRec.fSteps) ∧ Sl (kdInt .u8) D2 A2 c2 (y1.1.fRec.fData) ∧ Sl (kdArr .u8 32) D2 A12 c12 (y1.1.fPath) ∧ Sl (kdInt .u8) D2 A11 c11 (y1.2.fB) ∧ j1 y1 = some r) ?_ ?_
 ·clear hj1
  refine region_draw (fun j => RD D0 (plOf [] [b1] j)) (by kernel_rfl) ?_
  have hS := hS.drew
  first | generalize w.drew = w at hS ⊢ | generalize w0.drew = w at hS ⊢
  refine tD 0 1 (fuel := 6) (by kernel_rfl) hE (tk_load 1 (.pointer (some ⟨b2, 0, none⟩)) rfl rfl rfl rfl hE rfl hS rfl rfl (by kernel_rfl) (fun _ h => h.1.at_ (List.Mem.head _)) (fun a hE => ?_))
  refine tD 2 5 (fuel := 5) (by kernel_rfl) hE (tk_load 1 (.pointer (some ⟨b2, 0, none⟩)) rfl rfl rfl rfl hE rfl hS rfl rfl (by kernel_rfl) (fun _ h => h.1.at_ (List.Mem.head _)) (fun a hE => ?_))
  refine twoB (i := 1) (j := 5) (fuel := 4) (m1 := 7) (m2 := 37) (by kernel_rfl) (by kernel_rfl) (by kernel_rfl) ?_ ?_
  ·have hp_b1 := hS.heapAt (j := 1) rfl
   have hS := hS.p (.d 2 (.d 0 (.d 1 .n)))
   obtain ⟨r1, h2, hf⟩ := bs hf
   refine (op_call rfl rfl rfl rfl hE rfl rfl rfl rfl (by kernel_rfl) (wire_Reader_Num.calls h2 (hS.st.fore (L := [bx b2 100 (c_T_wire_Reader (x6) A7 c8)])) h9) (fun a v w hR hE => ?_))
   obtain ⟨D7, A17, c17, rfl, hS1, h1⟩ := hR
   have le1 := hS1.dle
   have hS := hS.callR hS1 rfl (.c .n)
   refine ⟨⟨show RP [b1] _ _ from ⟨(hS.heapAt (j := 2) rfl).trans hp_b1.symm, trivial⟩, fun _ => hS.st.sees.mono le1⟩, ?_⟩
   clear hp_b1
   refine twoB (i := 3) (j := 5) (fuel := 3) (m1 := 15) (m2 := 39) (by kernel_rfl) (by kernel_rfl) (by kernel_rfl) ?_ ?_
   ·have hp_b1 := hS.heapAt (j := 2) rfl
    obtain ⟨r3, h3, hf⟩ := bs hf
    refine (op_call rfl rfl rfl rfl hE rfl rfl rfl rfl (by kernel_rfl) (rec_Read.calls h3 (hS.st.fore (L := [bx b2 100 (c_T_wire_Reader (r1.2) A17 c17)])) h1) (fun a v w hR hE => ?_))
    obtain ⟨D3, A4, c4, A5, c5, A18, c18, rfl, hS1, h4, h5, h6⟩ := hR
    have le3 := hS1.dle
    have hS := hS.callR hS1 rfl (.c .n)
    refine ⟨⟨show RP [b1] _ _ from ⟨(hS.heapAt (j := 2) rfl).trans hp_b1.symm, trivial⟩, fun _ => hS.st.sees.mono (le2 le1 le3)⟩, ?_⟩
    clear hp_b1
    refine tW 4 31 (fuel := 2) (by kernel_rfl) hE (fun M => tk_build (c_T_api_Item ((T_api_Item.mk (r1.1) (r3.1) (([] : List (Vector Int 32))))) A4 c4 A5 c5 none 0) rfl rfl rfl rfl hE rfl rfl (by kernel_rfl) (fun a hE => ?_))
    have hp_b1 := hS.heapAt (j := 2) rfl
    refine oG 5 63 (fuel := 1) (by kernel_rfl) (op_alloc (z := .agg (List.toArray (c_T_api_Item (z_T_api_Item) none 0 none 0 none 0))) rfl rfl rfl rfl hE rfl hS (by kernel_rfl) (fun a b5 w _ hE hS => ?_))
    refine ⟨⟨show RP [b1] _ _ from ⟨(hS.heapAt (j := 3) rfl).trans hp_b1.symm, trivial⟩, fun _ => hS.st.sees.mono (le2 le1 le3)⟩, ?_⟩
    clear hp_b1
    have hp_b1 := hS.heapAt (j := 3) rfl
    obtain ⟨v1, hv1, hf⟩ := bs hf
    replace hv1 := Option.some.inj hv1
    refine oG 6 127 (fuel := 0) (by kernel_rfl) (op_store (v := .agg (List.toArray (c_T_api_Item ((T_api_Item.mk (r1.1) (r3.1) (([] : List (Vector Int 32))))) A4 c4 A5 c5 none 0))) (c_T_api_Item (v1) A4 c4 A5 c5 none 0) rfl rfl rfl rfl hE hS rfl rfl (by kernel_rfl) (by kernel_rfl) (by kernel_rfl) (by kernel_rfl) (by rw [← hv1]; kernel_rfl) (fun a w _ hE hS => ?_))
    have h7 : Sl kd_T_api_Step D3 A4 c4 (v1.fRec.fSteps) := by rw [← hv1]; exact h4
    have h8 : Sl (kdInt .u8) D3 A5 c5 (v1.fRec.fData) := by rw [← hv1]; exact h5
    have h10 : Sl (kdArr .u8 32) D3 none 0 (v1.fPath) := by rw [← hv1]; exact (Sl.nil (kdArr .u8 32) D3)
    refine ⟨⟨show RP [b1] _ _ from ⟨(hS.heapAt (j := 3) rfl).trans hp_b1.symm, trivial⟩, fun _ => hS.st.sees.mono (le2 le1 le3)⟩, ?_⟩
    clear hp_b1
    refine doneG (by kernel_rfl) ?_
    have hS := hS.p (.d 0 (.d 3 (.d 1 (.d 2 .n))))
    exact ⟨(v1, r3.2), A4, c4, A5, c5, none, 0, A18, c18, b5, D3, hE.wk, hS, (le2 le1 le3), h7, h8, h10, h6, hf⟩
   have hp_b1 := hS.heapAt (j := 2) rfl
   refine (op_alloc (z := .agg (List.toArray (c_T_api_Item (z_T_api_Item) none 0 none 0 none 0))) rfl rfl rfl rfl hE rfl hS (by kernel_rfl) (fun a b6 w _ hE hS => ?_))
   refine ⟨⟨show RP [b1] _ _ from ⟨(hS.heapAt (j := 3) rfl).trans hp_b1.symm, trivial⟩, fun _ => hS.st.sees.mono le1⟩, ?_⟩
   clear hp_b1
   have hp_b1 := hS.heapAt (j := 3) rfl
   have hS := hS.p (.d 1 (.d 0 (.d 2 (.d 3 .n))))
   obtain ⟨r4, h11, hf⟩ := bs hf
   refine oC 3 47 2 rfl rfl rfl rfl hE rfl rfl rfl rfl (rec_Read.calls h11 (hS.st.fore (L := [bx b2 100 (c_T_wire_Reader (r1.2) A17 c17)])) h1) fun a v w hR hE => ?_
   obtain ⟨D4, A6, c6, A8, c7, A19, c19, rfl, hS1, h12, h13, h14⟩ := hR
   have le5 := hS1.dle
   have hS := hS.callR hS1 rfl (.c .n)
   refine ⟨⟨show RP [b1] _ _ from ⟨(hS.heapAt (j := 3) rfl).trans hp_b1.symm, trivial⟩, fun _ => hS.st.sees.mono (le2 le1 le5)⟩, ?_⟩
   clear hp_b1
   refine tW 4 63 (fuel := 1) (by kernel_rfl) hE (fun M => tk_build (c_T_api_Item ((T_api_Item.mk (r1.1) (r4.1) (([] : List (Vector Int 32))))) A6 c6 A8 c7 none 0) rfl rfl rfl rfl hE rfl rfl (by kernel_rfl) (fun a hE => ?_))
   have hp_b1 := hS.heapAt (j := 3) rfl
   have hS := hS.p (.d 1 (.d 0 (.d 2 (.d 3 .n))))
   obtain ⟨v2, hv2, hf⟩ := bs hf
   replace hv2 := Option.some.inj hv2
   refine oG 6 127 (fuel := 0) (by kernel_rfl) (op_store (v := .agg (List.toArray (c_T_api_Item ((T_api_Item.mk (r1.1) (r4.1) (([] : List (Vector Int 32))))) A6 c6 A8 c7 none 0))) (c_T_api_Item (v2) A6 c6 A8 c7 none 0) rfl rfl rfl rfl hE hS rfl rfl (by kernel_rfl) (by kernel_rfl) (by kernel_rfl) (by kernel_rfl) (by rw [← hv2]; kernel_rfl) (fun a w _ hE hS => ?_))
   have h15 : Sl kd_T_api_Step D4 A6 c6 (v2.fRec.fSteps) := by rw [← hv2]; exact h12
   have h16 : Sl (kdInt .u8) D4 A8 c7 (v2.fRec.fData) := by rw [← hv2]; exact h13
   have h17 : Sl (kdArr .u8 32) D4 none 0 (v2.fPath) := by rw [← hv2]; exact (Sl.nil (kdArr .u8 32) D4)
   refine ⟨⟨show RP [b1] _ _ from ⟨(hS.heapAt (j := 3) rfl).trans hp_b1.symm, trivial⟩, fun _ => hS.st.sees.mono (le2 le1 le5)⟩, ?_⟩
   clear hp_b1
   refine doneG (by kernel_rfl) ?_
   have hS := hS.p (.d 0 (.d 3 (.d 1 (.d 2 .n))))
   exact ⟨(v2, r4.2), A6, c6, A8, c7, none, 0, A19, c19, b6, D4, hE.wk, hS, (le2 le1 le5), h15, h16, h17, h14, hf⟩
  have hp_b1 := hS.heapAt (j := 1) rfl
  refine (op_alloc (z := .agg (List.toArray (c_T_api_Item (z_T_api_Item) none 0 none 0 none 0))) rfl rfl rfl rfl hE rfl hS (by kernel_rfl) (fun a b7 w _ hE hS => ?_))
  refine ⟨⟨show RP [b1] _ _ from ⟨(hS.heapAt (j := 2) rfl).trans hp_b1.symm, trivial⟩, fun _ => hS.st.sees⟩, ?_⟩
  clear hp_b1
  have hp_b1 := hS.heapAt (j := 2) rfl
  have hS := hS.p (.d 3 (.d 0 (.d 1 (.d 2 .n))))
  obtain ⟨r5, h18, hf⟩ := bs hf
  refine oC 1 39 3 rfl rfl rfl rfl hE rfl rfl rfl rfl (wire_Reader_Num.calls h18 (hS.st.fore (L := [bx b2 100 (c_T_wire_Reader (x6) A7 c8)])) h9) fun a v w hR hE => ?_
  obtain ⟨D8, A20, c20, rfl, hS1, h19⟩ := hR
  have le4 := hS1.dle
  have hS := hS.callR hS1 rfl (.c .n)
  refine ⟨⟨show RP [b1] _ _ from ⟨(hS.heapAt (j := 3) rfl).trans hp_b1.symm, trivial⟩, fun _ => hS.st.sees.mono le4⟩, ?_⟩
  clear hp_b1
  have hp_b1 := hS.heapAt (j := 3) rfl
  obtain ⟨r6, h20, hf⟩ := bs hf
  refine oC 3 47 2 rfl rfl rfl rfl hE rfl rfl rfl rfl (rec_Read.calls h20 (hS.st.fore (L := [bx b2 100 (c_T_wire_Reader (r5.2) A20 c20)])) h19) fun a v w hR hE => ?_
  obtain ⟨D5, A9, c9, A10, c10, A21, c21, rfl, hS1, h21, h22, h23⟩ := hR
  have le6 := hS1.dle
  have hS := hS.callR hS1 rfl (.c .n)
  refine ⟨⟨show RP [b1] _ _ from ⟨(hS.heapAt (j := 3) rfl).trans hp_b1.symm, trivial⟩, fun _ => hS.st.sees.mono (le2 le4 le6)⟩, ?_⟩
  clear hp_b1
  refine tW 4 63 (fuel := 1) (by kernel_rfl) hE (fun M => tk_build (c_T_api_Item ((T_api_Item.mk (r5.1) (r6.1) (([] : List (Vector Int 32))))) A9 c9 A10 c10 none 0) rfl rfl rfl rfl hE rfl rfl (by kernel_rfl) (fun a hE => ?_))
  have hp_b1 := hS.heapAt (j := 3) rfl
  have hS := hS.p (.d 1 (.d 0 (.d 2 (.d 3 .n))))
  obtain ⟨v3, hv3, hf⟩ := bs hf
  replace hv3 := Option.some.inj hv3
  refine oG 6 127 (fuel := 0) (by kernel_rfl) (op_store (v := .agg (List.toArray (c_T_api_Item ((T_api_Item.mk (r5.1) (r6.1) (([] : List (Vector Int 32))))) A9 c9 A10 c10 none 0))) (c_T_api_Item (v3) A9 c9 A10 c10 none 0) rfl rfl rfl rfl hE hS rfl rfl (by kernel_rfl) (by kernel_rfl) (by kernel_rfl) (by kernel_rfl) (by rw [← hv3]; kernel_rfl) (fun a w _ hE hS => ?_))
  have h24 : Sl kd_T_api_Step D5 A9 c9 (v3.fRec.fSteps) := by rw [← hv3]; exact h21
  have h25 : Sl (kdInt .u8) D5 A10 c10 (v3.fRec.fData) := by rw [← hv3]; exact h22
  have h26 : Sl (kdArr .u8 32) D5 none 0 (v3.fPath) := by rw [← hv3]; exact (Sl.nil (kdArr .u8 32) D5)
  refine ⟨⟨show RP [b1] _ _ from ⟨(hS.heapAt (j := 3) rfl).trans hp_b1.symm, trivial⟩, fun _ => hS.st.sees.mono (le2 le4 le6)⟩, ?_⟩
  clear hp_b1
  refine doneG (by kernel_rfl) ?_
  have hS := hS.p (.d 0 (.d 3 (.d 1 (.d 2 .n))))
  exact ⟨(v3, r6.2), A9, c9, A10, c10, none, 0, A21, c21, b7, D5, hE.wk, hS, (le2 le4 le6), h24, h25, h26, h23, hf⟩
 clear hE hS
 rintro a w ⟨y1, A1, c1, A2, c2, A12, c12, A11, c11, b3, D2, hE, hS, le10, h27, h28, h36, h29, hf⟩
 replace hf := hj1 _ hf
 clear hj1
 refine sq ?_
 refine region_draw (fun j => Keeps (mfOf [(2, [b2]), (4, [b2]), (6, [b3])] j)) (by kernel_rfl) ?_
 have hS := hS.drew
 first | generalize w.drew = w at hS ⊢ | generalize w0.drew = w at hS ⊢
 refine wP 3 8 6 (.func (.func 51) #[] #[.pointer (some ⟨b1, 0, none⟩)]) hE fun a hE => ?_
 refine tN (T := [(2, [b2]), (4, [b2]), (6, [b3])]) [2] 0 9 (fuel := 5) (by kernel_rfl) hE (tk_load 1 (.pointer (some ⟨b2, 0, none⟩)) rfl rfl rfl rfl hE rfl hS rfl rfl (by kernel_rfl) (kL (j := 1) hS rfl (show b1 ∉ [b2] from (nm_cons (hS.ne (i := 1) (j := 2) (by decide) rfl rfl) List.not_mem_nil))) (fun a hE => ?_))
 refine tS (T := [(2, [b2]), (4, [b2]), (6, [b3])]) [] [1, 2, 4, 5, 6] 1 11 (fuel := 4) (by kernel_rfl) hE (tk_load 1 (.pointer (some ⟨b2, 0, none⟩)) rfl rfl rfl rfl hE rfl hS rfl rfl (by kernel_rfl) (kL (j := 1) hS rfl List.not_mem_nil) (fun a hE => ?_))
 have hS := hS.p (.d 2 (.d 0 (.d 1 (.d 3 .n))))
 obtain ⟨r7, h30, hf⟩ := bs hf
 refine oC 2 15 3 rfl rfl rfl rfl hE rfl rfl rfl rfl (wire_Reader_Num.calls h30 (hS.st.fore (L := [bx b2 100 (c_T_wire_Reader (y1.2) A11 c11)])) h29) fun a v w hR hE => ?_
 obtain ⟨D9, A22, c22, rfl, hS1, h31⟩ := hR
 refine ⟨(hS1.keeps.sub (M' := [b2]) ⟨.inl (List.Mem.head _), trivial⟩).mono (fun _ h => h), ?_⟩
 have le8 := hS1.dle
 have hS := hS.callR hS1 rfl (.c .n)
 have hS := hS.p (.d 0 (.d 2 (.d 1 (.d 3 .n))))
 obtain ⟨r2, h32, hf⟩ := bs hf
 refine oC 4 31 2 rfl rfl rfl rfl hE rfl rfl rfl rfl (bundle_read_api_Hash.calls h32 (hS.st.fore (L := [bx b2 100 (c_T_wire_Reader (r7.2) A22 c22), bx b1 68 ([.pointer (some ⟨b2, 0, none⟩)])])) h31) fun a v w hR hE => ?_
 obtain ⟨D10, A3, c3, q1, A23, c23, rfl, hS1, h33, h34⟩ := hR
 refine ⟨(hS1.keeps.sub (M' := [b2]) ⟨.inl (List.Mem.head _), .inr ((hS1.heapAt (j := 1) rfl).trans (hS.heapAt (j := 1) rfl).symm), trivial⟩).mono (fun _ h => h), ?_⟩
 have le9 := hS1.dle
 have hS := hS.callR hS1 rfl (.c (.c (.c .n)))
 refine wF 5 63 1 110 41 110 hE fun a hE => ?_
 have hS := hS.p (.d 3 (.d 0 (.d 1 (.d 2 (.d 4 .n)))))
 refine oG 6 127 (fuel := 0) (by kernel_rfl) (op_store (v := .slice A3 (List.length (r2.1)) c3) (c_T_api_Item ({ y1.1 with fPath := r2.1 }) A1 c1 A2 c2 A3 c3) rfl rfl rfl rfl hE hS rfl rfl (by kernel_rfl) (by kernel_rfl) (by kernel_rfl) (by kernel_rfl) (by kernel_rfl) (fun a w hkp hE hS => ⟨hkp.mono (fun _ h => h), ?_⟩))
 clear hkp
 refine doneG (by kernel_rfl) ?_
 refine sq (ra ?_)
 refine sM 1 1 [0] [(16, .agg (List.toArray (c_T_api_Item ({ y1.1 with fPath := r2.1 }) A1 c1 A2 c2 A3 c3)))] hE hS fun a hE => ?_
 have hS := hS.p (.d 4 (.d 0 (.d 1 (.d 2 (.d 3 .n)))))
 refine at_op (op_store (v := .agg (List.toArray (c_T_api_Item ({ y1.1 with fPath := r2.1 }) A1 c1 A2 c2 A3 c3))) (c_T_api_Item ({ y1.1 with fPath := r2.1 }) A1 c1 A2 c2 A3 c3) rfl rfl rfl rfl hE hS rfl rfl (by kernel_rfl) (by kernel_rfl) (by kernel_rfl) (by kernel_rfl) (by kernel_rfl) (fun a w _ hE hS => ?_)) rfl
 refine ae ?_
 refine wpIn_ret ?_
 have hS := hS.p (.d 4 (.d 0 (.d 1 (.d 2 (.d 3 .n)))))
 obtain ⟨D6, q2, le7, hS, h37, h35⟩ := hS.lent h33
 obtain rfl := si hf
 refine ret_ ?_
 refine ret_gen ([.agg (List.toArray (c_T_api_Item ({ y1.1 with fPath := r2.1 }) A1 c1 A2 c2 A3 c3))]) hE (by rw [show Tryz.f49.results.toList = [.cell 3 43] from rfl]; exact ⟨_, _, _, 0, _, _, rfl, rfl, hS.heapAt (j := 1) rfl, by kernel_rfl, rfl⟩) ?_
 have hS := hS.p (.d 4 (.d 3 .n))
 exact ⟨_, rfl, D6, A1, c1, A2, c2, A3, c3, A23, c23, rfl, hS, (h27.mono (le2 (le2 le8 le9) le7)), (h28.mono (le2 (le2 le8 le9) le7)), h35, (h34.mono le7)⟩
set_option maxRecDepth 100000 in
theorem bundle_read_api_Item_v2.calls {K : Nat} {g w0 : World} {D0 : Snap} {x5 : Int} {x6 : Int} {x7 : T_wire_Reader} {b1 : Nat} {b2 : Nat} {A8 : Option Addr} {c9 : Nat} {r : ((List T_api_Item) × T_wire_Reader)} (hf : bundle_read_api_Item_v2.f K x5 x6 x7 = some r) (hS0 : St g w0 D0 [bx b1 100 (c_T_wire_Reader (x7) A8 c9), bx b2 68 ([.pointer (some ⟨b1, 0, none⟩)])]) (h10 : Sl (kdInt .u8) D0 A8 c9 (x7.fB)) :
  CallsIn (Fw none) 0 Tryz.prog 46 (List.toArray [.pointer (some ⟨b1, 0, none⟩), .int .i64 (x5), .int .i64 (x6), .func (.func 49) #[] #[.pointer (some ⟨b2, 0, none⟩)]]) w0 (fun e w' => ∃ v, e = .returned v ∧ ∃ (D1 : Snap) (A6 : Option Addr) (c6 : Nat) (q3 : Blk) (A7 : Option Addr) (c7 : Nat), v = .slice A6 (List.length (r.1)) c6 ∧ Stp g w0 D0 [bx b1 100 (c_T_wire_Reader (x7) A8 c9), bx b2 68 ([.pointer (some ⟨b1, 0, none⟩)])] w' D1 [bx b1 100 (c_T_wire_Reader ((T_wire_Reader.mk (r.2.fB) (r.2.fBad))) A7 c7), bx b2 68 ([.pointer (some ⟨b1, 0, none⟩)]), q3] ∧ OwnD kd_T_api_Item 43 D1 A6 c6 (r.1) q3 ∧ Sl (kdInt .u8) D1 A7 c7 (r.2.fB)) := by
 unfold bundle_read_api_Item_v2.f at hf
 have hS := Stp.refl hS0
 clear hS0
 refine calls_body (n := 31) Tryz.func46 rfl Tryz.ntmps46 rfl fun a hE => ?_
 have hE : Env a 31 [] [(0, .pointer (some ⟨b1, 0, none⟩)), (1, .int .i64 (x5)), (2, .int .i64 (x6)), (3, .func (.func 49) #[] #[.pointer (some ⟨b2, 0, none⟩)])] := hE
 refine sq (ra ?_)
 refine sN 1 1 [(8, .slice none 0 0)] hE fun a hE => ?_
 refine ae ?_
 obtain ⟨j1, hj1, hf⟩ := jn_elim hf
 refine seq_join (fun a w => ∃ (y2 : T_wire_Reader), ∃ A4, ∃ c4, ∃ D2, Env a 31 [] [(0, .pointer (some ⟨b1, 0, none⟩)), (1, .int .i64 (x5)), (3, .func (.func 49) #[] #[.pointer (some ⟨b2, 0, none⟩)])] ∧ Stp g w0 D0 [bx b1 100 (c_T_wire_Reader (x7) A8 c9), bx b2 68 ([.pointer (some ⟨b1, 0, none⟩)])] w D2 [bx b1 100 (c_T_wire_Reader (y2) A4 c4), bx b2 68 ([.pointer (some ⟨b1, 0, none⟩)])] ∧ Snap.le D0 D2 ∧ Sl (kdInt .u8) D2 A4 c4 (y2.fB) ∧ j1 y2 = some r) ?_ ?_
 ·clear hj1
  refine sq (ra ?_)
  refine sN 3 3 [(13, .bool ((decide (x6 < x5))))] hE fun a hE => ?_
  refine ae ?_
  refine cond_split hE (b := (decide (x6 < x5))) rfl (fun hb => ?_) (fun hb => ?_)
  ·replace hf := ct hb hf
   refine ra ?_
   refine sN 1 1 [(14, .pointer (some ⟨b1, 0, none⟩))] hE fun a hE => ?_
   obtain ⟨r3, h3, hf⟩ := bs hf
   refine aC rfl rfl rfl rfl hE rfl rfl rfl rfl (wire_Reader_Fail.calls h3 (hS.st.fore (L := [bx b1 100 (c_T_wire_Reader (x7) A8 c9)])) h10) fun a v w hR hE => ?_
   obtain ⟨D6, A10, c10, rfl, hS1, h4⟩ := hR
   have le6 := hS1.dle
   have hS := hS.callR hS1 rfl (.c .n)
   exact ae ⟨r3, A10, c10, D6, hE.wk, hS, le6, h4, hf⟩
  replace hf := cf hb hf
  refine wpIn_skip ?_
  exact ⟨x7, A8, c9, D0, hE.wk, hS, lr, h10, hf⟩
 clear hE hS
 rintro a w ⟨y2, A4, c4, D2, hE, hS, le7, h5, hf⟩
 replace hf := hj1 _ hf
 clear hj1
 refine sq (ra ?_)
 refine sN 1 1 [(9, .slice none 0 0)] hE fun a hE => ?_
 refine ae ?_
 refine sq (sq (ra ?_))
 refine sN 2 2 [(16, .int .i64 (x5)), (17, .int .i64 ((0 : Int)))] hE fun a hE => ?_
 refine ae ?_
 obtain ⟨s1, hf, hs1⟩ := bs hf
 have hS := hS.nils
 have hS := hS.p (.d 1 (.d 2 (.d 0 .n)))
 refine block_loop (fun a w => ∃ (z1 : (List T_api_Item) × T_wire_Reader), ∃ A2, ∃ c2, ∃ q2, ∃ A5, ∃ c5, ∃ D3, Env a 31 [] [(9, .slice A2 (List.length (z1.1)) c2)] ∧ Stp g w0 D0 [bx b1 100 (c_T_wire_Reader (x7) A8 c9), bx b2 68 ([.pointer (some ⟨b1, 0, none⟩)])] w D3 [bx b1 100 (c_T_wire_Reader (z1.2) A5 c5), bx b2 68 ([.pointer (some ⟨b1, 0, none⟩)]), q2] ∧ Snap.le D2 D3 ∧ OwnD kd_T_api_Item 43 D3 A2 c2 (z1.1) q2 ∧ Sl (kdInt .u8) D3 A5 c5 (z1.2.fB) ∧ z1 = s1) (fun k a w => ∃ (y1 : (List T_api_Item) × Int × T_wire_Reader), ∃ A3, ∃ c3, ∃ q1, ∃ A1, ∃ c1, ∃ D4, Env a 31 [] [(0, .pointer (some ⟨b1, 0, none⟩)), (3, .func (.func 49) #[] #[.pointer (some ⟨b2, 0, none⟩)]), (9, .slice A3 (List.length (y1.1)) c3), (16, .int .i64 (x5)), (17, .int .i64 (y1.2.1))] ∧ Stp g w0 D0 [bx b1 100 (c_T_wire_Reader (x7) A8 c9), bx b2 68 ([.pointer (some ⟨b1, 0, none⟩)])] w D4 [bx b1 100 (c_T_wire_Reader (y1.2.2) A1 c1), bx b2 68 ([.pointer (some ⟨b1, 0, none⟩)]), q1] ∧ Snap.le D2 D4 ∧ OwnD kd_T_api_Item 43 D4 A3 c3 (y1.1) q1 ∧ Sl (kdInt .u8) D4 A1 c1 (y1.2.2.fB) ∧ bundle_read_api_Item_v2_l1.l K x5 k y1 = some s1) K ?_ ?_ ?_
 ·exact ⟨(([] : List T_api_Item), (0 : Int), y2), none, 0, none, A4, c4, D2, hE.wk, hS, lr, (OwnD.nil kd_T_api_Item 43 D2), h5, hf⟩
 ·clear hE hS hf
  rintro a w ⟨z1, A2, c2, q2, A5, c5, D3, hE, hS, le8, h6, h7, rfl⟩
  have hf := hs1
  clear hs1
  refine sq (ra ?_)
  refine sN 2 2 [(8, .slice A2 (List.length (z1.1)) c2)] hE fun a hE => ?_
  refine ae ?_
  refine wpIn_ret ?_
  obtain rfl := si hf
  refine ret_ ?_
  refine rT 8 (.slice A2 (List.length (z1.1)) c2) hE ?_
  exact ⟨_, rfl, D3, A2, c2, q2, A5, c5, rfl, hS, h6, h7⟩
 clear hE hS hf
 rintro k a w ⟨y1, A3, c3, q1, A1, c1, D4, hE, hS, le3, h2, h1, hf⟩
 obtain ⟨k, rfl, hf⟩ := bundle_read_api_Item_v2_l1.some _ hf
 refine ⟨k, rfl, ?_⟩
 unfold bundle_read_api_Item_v2_l1.b at hf
 refine sq (ra ?_)
 refine sN 1 1 [(18, .bool ((decide (y1.2.1 < x5))))] hE fun a hE => ?_
 refine ae ?_
 refine sq ?_
 refine cond_split hE (b := (decide (y1.2.1 < x5))) rfl (fun hb => ?_) (fun hb => ?_)
 ·replace hf := ct hb hf
  refine wpIn_skip ?_
  refine sq ?_
  refine wpIn_block ?_
  refine sq (ra ?_)
  refine sN 2 2 [(10, .int .i64 (y1.2.1))] hE fun a hE => ?_
  refine ae ?_
  refine sq (sq (ra ?_))
  refine sN 1 1 [(20, .pointer (some ⟨b1, 0, none⟩))] hE fun a hE => ?_
  obtain ⟨r2, h8, hf⟩ := bs hf
  refine aC rfl rfl rfl rfl hE rfl rfl rfl rfl (wire_Reader_Bad.calls h8 (hS.st.fore (L := [bx b1 100 (c_T_wire_Reader (y1.2.2) A1 c1)])) h1) fun a v w hR hE => ?_
  obtain ⟨D7, rfl, hS1⟩ := hR
  have le1 := hS1.dle
  have hS := hS.callR hS1 rfl (.c .n)
  refine sN 1 3 [(22, .bool ((!decide (r2 = (0 : Int)))))] hE fun a hE => ?_
  refine ae ?_
  refine cond_split hE (b := (!decide (r2 = (0 : Int)))) rfl (fun hb => ?_) (fun hb => ?_)
  ·replace hf := ct hb hf
   refine wpIn_exit ?_
   obtain rfl := si hf
   exact ⟨(y1.1, y1.2.2), A3, c3, q1, A1, c1, D7, hE.wk, hS, (le2 le3 le1), (h2.mono le1), (h1.mono le1), rfl⟩
  replace hf := cf hb hf
  refine wpIn_skip ?_
  refine ra ?_
  refine sN 3 3 [(23, .slice A3 (List.length (y1.1)) c3), (24, .func (.func 49) #[] #[.pointer (some ⟨b2, 0, none⟩)]), (25, .int .i64 (y1.2.1))] hE fun a hE => ?_
  have hS := hS.p (.d 1 (.d 0 (.d 2 .n)))
  obtain ⟨r1, h9, hf⟩ := bs hf
  refine aC rfl rfl rfl rfl hE rfl rfl rfl rfl (bundle_Get_3.calls h9 (hS.st.fore (L := [bx b2 68 ([.pointer (some ⟨b1, 0, none⟩)]), bx b1 100 (c_T_wire_Reader (y1.2.2) A1 c1)])) (h1.mono le1)) fun a v w hR hE => ?_
  obtain ⟨D5, A11, c11, A12, c12, A13, c13, A14, c14, rfl, hS1, h11, h12, h13, h14⟩ := hR
  have le5 := hS1.dle
  have hS := hS.callR hS1 rfl (.c (.c .n))
  refine at_op (op_buildSlice (K := kd_T_api_Item) (e := 43) (cs := (c_T_api_Item (r1.1) A11 c11 A12 c12 A13 c13) ++ []) ([r1.1] : List T_api_Item) rfl rfl rfl rfl hE rfl hS rfl (by kernel_rfl) rfl rfl (by exact ⟨_, _, rfl, (kd_T_api_Item_mk (D := D5) (x := r1.1) rfl (kd_T_api_Rec_mk (D := D5) (x := r1.1.fRec) rfl rfl rfl rfl rfl rfl rfl rfl rfl rfl rfl (kslice h11) (kslice h12) rfl rfl rfl) (kslice h13)), rfl⟩) (fun a A15 q5 w _ hE h15 hS => ?_)) rfl
  obtain ⟨D8, q6, le4, hS, h19, h16⟩ := hS.lent h15
  have hS := hS.p (.d 3 (.d 0 (.d 1 (.d 2 .n))))
  obtain ⟨l1, h17, hf⟩ := bs hf
  refine at_op (g_append (K := kd_T_api_Item) (e := 43) (bytes := 256) (l := y1.1) (m := ([r1.1] : List T_api_Item)) rfl rfl rfl rfl hE rfl hS rfl rfl (by kernel_rfl) rfl rfl (h2.mono (le2 (le2 le1 le5) le4)) h16 h17 (fun a A9 c8 q4 w _ hE h18 hS => ?_)) rfl
  refine sN 1 7 [(9, .slice A9 (List.length (l1)) c8)] hE fun a hE => ?_
  refine ae ?_
  refine ra ?_
  refine sN 2 2 [(17, .int .i64 ((IntKind.wrap .i64 (y1.2.1 + (1 : Int)))))] hE fun a hE => ?_
  refine ae ?_
  have hS := hS.p (.d 3 (.d 2 (.d 0 .n)))
  exact ⟨(l1, (IntKind.wrap .i64 (y1.2.1 + (1 : Int))), r1.2), A9, c8, q4, A14, c14, D8, hE.wk, hS, (le2 (le2 (le2 le3 le1) le5) le4), h18, (h14.mono le4), hf⟩
 replace hf := cf hb hf
 refine wpIn_exit ?_
 obtain rfl := si hf
 exact ⟨(y1.1, y1.2.2), A3, c3, q1, A1, c1, D4, hE.wk, hS, le3, h2, h1, rfl⟩
set_option maxRecDepth 100000 in
theorem wire_Reader_Done.calls {K : Nat} {g w0 : World} {D0 : Snap} {x3 : T_wire_Reader} {b1 : Nat} {A4 : Option Addr} {c5 : Nat} {r : (Int)} (hf : wire_Reader_Done.f K x3 = some r) (hS0 : St g w0 D0 [bx b1 100 (c_T_wire_Reader (x3) A4 c5)]) (h6 : Sl (kdInt .u8) D0 A4 c5 (x3.fB)) :
  CallsIn (Fw none) 0 Tryz.prog 52 (List.toArray [.pointer (some ⟨b1, 0, none⟩)]) w0 (fun e w' => ∃ v, e = .returned v ∧ ∃ D1, v = .int .i64 (r) ∧ Stp g w0 D0 [bx b1 100 (c_T_wire_Reader (x3) A4 c5)] w' D1 [bx b1 100 (c_T_wire_Reader (x3) A4 c5)]) := by
 unfold wire_Reader_Done.f at hf
 have hS := Stp.refl hS0
 clear hS0
 refine calls_body (n := 15) Tryz.func52 rfl Tryz.ntmps52 rfl fun a hE => ?_
 have hE : Env a 15 [] [(0, .pointer (some ⟨b1, 0, none⟩))] := hE
 refine sq (ra ?_)
 refine sN 1 1 [(2, .int .i64 ((0 : Int)))] hE fun a hE => ?_
 refine ae ?_
 refine sq (sq (ra ?_))
 refine sN 1 1 [(4, .pointer (some ⟨b1, 0, none⟩))] hE fun a hE => ?_
 obtain ⟨r22, h23, hf⟩ := bs hf
 refine aC rfl rfl rfl rfl hE rfl rfl rfl rfl (wire_Reader_Bad.calls h23 (hS.st.fore (L := [bx b1 100 (c_T_wire_Reader (x3) A4 c5)])) h6) fun a v w hR hE => ?_
 obtain ⟨D24, rfl, hS1⟩ := hR
 have le26 := hS1.dle
 have hS := hS.callR hS1 rfl (.c .n)
 refine sN 1 3 [(3, .int .i64 (r22))] hE fun a hE => ?_
 refine ae ?_
 refine sq (ra ?_)
 refine sN 2 2 [(7, .bool ((!decide (r22 = (0 : Int)))))] hE fun a hE => ?_
 refine ae ?_
 refine cond_split hE (b := (!decide (r22 = (0 : Int)))) rfl (fun hb => ?_) (fun hb => ?_)
 ·replace hf := ct hb hf
  refine sq (ra ?_)
  refine sN 2 2 [(2, .int .i64 (r22))] hE fun a hE => ?_
  refine ae ?_
  refine wpIn_ret ?_
  obtain rfl := si hf
  refine ret_ ?_
  refine rT 2 (.int .i64 (r22)) hE ?_
  exact ⟨_, rfl, D24, rfl, hS⟩
 replace hf := cf hb hf
 refine wpIn_skip ?_
 refine sq (sq (ra ?_))
 refine sM 6 6 [0] [(14, .bool ((decide ((0 : Int) < ((List.length (x3.fB) : Nat) : Int)))))] hE hS fun a hE => ?_
 refine ae ?_
 refine cond_split hE (b := (decide ((0 : Int) < ((List.length (x3.fB) : Nat) : Int)))) rfl (fun hb => ?_) (fun hb => ?_)
 ·replace hf := ct hb hf
  refine sq (ra ?_)
  refine sN 1 1 [(2, .int .i64 ((2 : Int)))] hE fun a hE => ?_
  refine ae ?_
  refine wpIn_ret ?_
  obtain rfl := si hf
  refine ret_ ?_
  refine rT 2 (.int .i64 ((2 : Int))) hE ?_
  exact ⟨_, rfl, D24, rfl, hS⟩
 replace hf := cf hb hf
 refine wpIn_skip ?_
 refine sq (ra ?_)
 refine sN 1 1 [(2, .int .i64 ((0 : Int)))] hE fun a hE => ?_
 refine ae ?_
 refine wpIn_ret ?_
 obtain rfl := si hf
 refine ret_ ?_
 refine rT 2 (.int .i64 ((0 : Int))) hE ?_
 exact ⟨_, rfl, D24, rfl, hS⟩
set_option maxRecDepth 100000 in
theorem bundle_Get.calls {K : Nat} {g w0 : World} {D0 : Snap} {x1 : (List Int)} {A2 : Option Addr} {c3 : Nat} {r : (T_api_Bundle × Int)} (hf : bundle_Get.f K x1 = some r) (hS0 : St g w0 D0 []) (h4 : Sl (kdInt .u8) D0 A2 c3 (x1)) :
  CallsIn (Fw none) 0 Tryz.prog 13 (List.toArray [.slice A2 (List.length (x1)) c3]) w0 (fun e w' => ∃ v, e = .returned v ∧ ∃ (D1 : Snap) (A8 : Option Addr) (c8 : Nat) (A9 : Option Addr) (c9 : Nat), v = .tuple #[.agg (List.toArray (c_T_api_Bundle ((T_api_Bundle.mk (r.1.fWhole) ((T_api_Point.mk (r.1.fPoint.fSize) (r.1.fPoint.fRoot) (r.1.fPoint.fSigs))) (r.1.fItems))) A8 c8 A9 c9)), .int .i64 (r.2)] ∧ Stp g w0 D0 [] w' D1 [] ∧ Sl kd_T_api_Sig D1 A8 c8 (r.1.fPoint.fSigs) ∧ Sl kd_T_api_Item D1 A9 c9 (r.1.fItems)) := by
 unfold bundle_Get.f at hf
 have hS := Stp.refl hS0
 clear hS0
 refine calls_body (n := 74) Tryz.func13 rfl Tryz.ntmps13 rfl fun a hE => ?_
 have hE : Env a 74 [] [(0, .slice A2 (List.length (x1)) c3)] := hE
 refine sq (ra ?_)
 refine at_op (op_alloc (z := .agg (List.toArray (c_T_api_Bundle (z_T_api_Bundle) none 0 none 0))) rfl rfl rfl rfl hE rfl hS (by kernel_rfl) (fun a b4 w _ hE hS => ?_)) rfl
 refine sN 1 2 [(3, .int .i64 ((0 : Int)))] hE fun a hE => ?_
 refine ae ?_
 refine sq (ra ?_)
 refine sN 1 1 [(10, .slice A2 (List.length (x1)) c3)] hE fun a hE => ?_
 refine at_op (op_buildSlice (K := (kdInt .u8)) (e := 5) (cs := [.int .u8 ((105 : Int))] ++ ([.int .u8 ((110 : Int))] ++ ([.int .u8 ((115 : Int))] ++ ([.int .u8 ((112 : Int))] ++ [])))) ([(105 : Int), (110 : Int), (115 : Int), (112 : Int)] : List Int) rfl rfl rfl rfl hE rfl hS rfl (by kernel_rfl) rfl rfl (by exact ⟨_, _, rfl, rfl, ⟨_, _, rfl, rfl, ⟨_, _, rfl, rfl, ⟨_, _, rfl, rfl, rfl⟩⟩⟩⟩) (fun a A21 q5 w _ hE h7 hS => ?_)) rfl
 refine at_op (op_lit (T := 5) (l := ([(105 : Int), (110 : Int), (115 : Int), (112 : Int)] : List Int)) rfl rfl rfl rfl hE rfl hS rfl (by kernel_rfl) h7 (by kernel_rfl) (fun a D13 w _ le5 hE h1 hS => ?_)) rfl
 have h40 := OwnL.full 5 h1 rfl
 have hS := hS.nils
 obtain ⟨r3, h8, hf⟩ := bs hf
 refine aC rfl rfl rfl rfl hE rfl rfl rfl rfl (bytes_CutPrefix.calls h8 (hS.st.fore (L := [])) (h4.mono le5) h1) fun a v w hR hE => ?_
 obtain ⟨D6, A10, c10, rfl, hS1, h9⟩ := hR
 have le12 := hS1.dle
 have hS := hS.callR hS1 rfl .n
 refine sN 5 9 [(4, .slice A10 (List.length (r3.1)) c10), (5, .bool (r3.2))] hE fun a hE => ?_
 refine ae ?_
 refine sq (sq (ra ?_))
 refine sN 2 2 [(17, .bool ((!r3.2)))] hE fun a hE => ?_
 refine ae ?_
 refine cond_split hE (b := (!r3.2)) rfl (fun hb => ?_) (fun hb => ?_)
 ·replace hf := ct hb hf
  refine sq (ra ?_)
  refine at_op (op_tk hE (tk_build (c_T_api_Bundle (z_T_api_Bundle) none 0 none 0) rfl rfl rfl rfl hE rfl rfl (by kernel_rfl) (fun a hE => ?_))) rfl
  have hS := hS.p (.d 1 (.d 0 .n))
  refine at_op (op_store (v := .agg (List.toArray (c_T_api_Bundle (z_T_api_Bundle) none 0 none 0))) (c_T_api_Bundle (z_T_api_Bundle) none 0 none 0) rfl rfl rfl rfl hE hS rfl rfl (by kernel_rfl) (by kernel_rfl) (by kernel_rfl) (by kernel_rfl) (by kernel_rfl) (fun a w _ hE hS => ?_)) rfl
  refine sN 1 3 [(3, .int .i64 ((2 : Int)))] hE fun a hE => ?_
  refine ae ?_
  refine wpIn_ret ?_
  obtain rfl := si hf
  refine ret_ ?_
  refine ret_gen ([.agg (List.toArray (c_T_api_Bundle (z_T_api_Bundle) none 0 none 0)), .int .i64 ((2 : Int))]) hE (by rw [show Tryz.f13.results.toList = [.cell 2 29, .tmp 3] from rfl]; exact ⟨_, _, _, 0, _, _, rfl, rfl, hS.heapAt (j := 0) rfl, by kernel_rfl, ⟨_, _, rfl, rfl, rfl⟩⟩) ?_
  have hS := hS.p .n
  exact ⟨_, rfl, D6, none, 0, none, 0, rfl, hS, (Sl.nil kd_T_api_Sig D6), (Sl.nil kd_T_api_Item D6)⟩
 replace hf := cf hb hf
 refine wpIn_skip ?_
 refine sq (ra ?_)
 refine sN 1 1 [(19, .slice A10 (List.length (r3.1)) c10)] hE fun a hE => ?_
 have hS := hS.p (.d 1 .n)
 obtain ⟨r10, h10, hf⟩ := bs hf
 refine aC rfl rfl rfl rfl hE rfl rfl rfl rfl (wire_Read.calls h10 (hS.st.fore (L := [])) h9) fun a v w hR hE => ?_
 obtain ⟨D14, b1, A13, c13, rfl, hS1, h11⟩ := hR
 have le13 := hS1.dle
 have hS := hS.callR hS1 rfl (.c .n)
 refine at_op (op_alloc (z := .pointer none) rfl rfl rfl rfl hE rfl hS (by kernel_rfl) (fun a b3 w _ hE hS => ?_)) rfl
 refine at_op (op_store (v := .pointer (some ⟨b1, 0, none⟩)) ([.pointer (some ⟨b1, 0, none⟩)]) rfl rfl rfl rfl hE hS rfl rfl (by kernel_rfl) (by kernel_rfl) (by kernel_rfl) (by kernel_rfl) (by kernel_rfl) (fun a w _ hE hS => ?_)) rfl
 refine ae ?_
 refine sq (ra ?_)
 refine sM 1 1 [0] [(21, .pointer (some ⟨b1, 0, none⟩))] hE hS fun a hE => ?_
 have hS := hS.p (.d 1 (.d 0 (.d 2 .n)))
 obtain ⟨r6, h12, hf⟩ := bs hf
 refine aC rfl rfl rfl rfl hE rfl rfl rfl rfl (wire_Reader_Flag.calls h12 (hS.st.fore (L := [bx b1 100 (c_T_wire_Reader (r10) A13 c13)])) h11) fun a v w hR hE => ?_
 obtain ⟨D2, A14, c14, rfl, hS1, h13⟩ := hR
 have le14 := hS1.dle
 have hS := hS.callR hS1 rfl (.c .n)
 refine at_op (op_tk hE (tk_build (c_T_api_Bundle ({ z_T_api_Bundle with fWhole := r6.1 }) none 0 none 0) rfl rfl rfl rfl hE rfl rfl (by kernel_rfl) (fun a hE => ?_))) rfl
 refine at_op (op_alloc (z := .agg (List.toArray (c_T_api_Bundle (z_T_api_Bundle) none 0 none 0))) rfl rfl rfl rfl hE rfl hS (by kernel_rfl) (fun a b2 w _ hE hS => ?_)) rfl
 obtain ⟨v3, hv1, hf⟩ := bs hf
 replace hv1 := Option.some.inj hv1
 refine at_op (op_store (v := .agg (List.toArray (c_T_api_Bundle ({ z_T_api_Bundle with fWhole := r6.1 }) none 0 none 0))) (c_T_api_Bundle (v3) none 0 none 0) rfl rfl rfl rfl hE hS rfl rfl (by kernel_rfl) (by kernel_rfl) (by kernel_rfl) (by kernel_rfl) (by rw [← hv1]; kernel_rfl) (fun a w _ hE hS => ?_)) rfl
 have h14 : Sl kd_T_api_Sig D2 none 0 (v3.fPoint.fSigs) := by rw [← hv1]; exact (Sl.nil kd_T_api_Sig D2)
 have h15 : Sl kd_T_api_Item D2 none 0 (v3.fItems) := by rw [← hv1]; exact (Sl.nil kd_T_api_Item D2)
 refine ae ?_
 refine sq (ra ?_)
 refine sM 1 1 [2] [(24, .pointer (some ⟨b1, 0, none⟩))] hE hS fun a hE => ?_
 have hS := hS.p (.d 1 (.d 0 (.d 2 (.d 3 .n))))
 obtain ⟨r7, h16, hf⟩ := bs hf
 refine aC rfl rfl rfl rfl hE rfl rfl rfl rfl (wire_Reader_Num.calls h16 (hS.st.fore (L := [bx b1 100 (c_T_wire_Reader (r6.2) A14 c14)])) h13) fun a v w hR hE => ?_
 obtain ⟨D8, A11, c11, rfl, hS1, h2⟩ := hR
 have le15 := hS1.dle
 have hS := hS.callR hS1 rfl (.c .n)
 refine sM 2 4 [] [(27, .pointer (some ⟨b2, 1, none⟩))] hE hS fun a hE => ?_
 have hS := hS.p (.d 1 (.d 0 (.d 2 (.d 3 .n))))
 obtain ⟨v2, hv2, hf⟩ := bs hf
 replace hv2 := Option.some.inj hv2
 refine at_op (op_store (v := .int .i64 (r7.1)) (c_T_api_Bundle (v2) none 0 none 0) rfl rfl rfl rfl hE hS rfl rfl (by kernel_rfl) (by kernel_rfl) (by kernel_rfl) (by kernel_rfl) (by rw [← hv2]; kernel_rfl) (fun a w _ hE hS => ?_)) rfl
 have h17 : Sl kd_T_api_Sig D2 none 0 (v2.fPoint.fSigs) := by rw [← hv2]; exact h14
 have h18 : Sl kd_T_api_Item D2 none 0 (v2.fItems) := by rw [← hv2]; exact h15
 refine ae ?_
 obtain ⟨j1, hj1, hf⟩ := jn_elim hf
 refine seq_join (fun a w => ∃ (y2 : T_wire_Reader), ∃ A4, ∃ c4, ∃ D4, Env a 74 [] [(2, .pointer (some ⟨b4, 0, none⟩)), (6, .pointer (some ⟨b3, 0, none⟩)), (7, .pointer (some ⟨b2, 0, none⟩))] ∧ Stp g w0 D0 [] w D4 [bx b4 29 (c_T_api_Bundle (z_T_api_Bundle) none 0 none 0), bx b3 68 ([.pointer (some ⟨b1, 0, none⟩)]), bx b2 29 (c_T_api_Bundle (v2) none 0 none 0), bx b1 100 (c_T_wire_Reader (y2) A4 c4)] ∧ Snap.le D8 D4 ∧ Sl (kdInt .u8) D4 A4 c4 (y2.fB) ∧ j1 y2 = some r) ?_ ?_
 ·clear hj1
  refine sq (ra ?_)
  refine sM 4 4 [0] [(31, .bool ((decide ((400 : Int) < v2.fPoint.fSize))))] hE hS fun a hE => ?_
  refine ae ?_
  refine cond_split hE (b := (decide ((400 : Int) < v2.fPoint.fSize))) rfl (fun hb => ?_) (fun hb => ?_)
  ·replace hf := ct hb hf
   refine ra ?_
   refine sM 1 1 [2] [(32, .pointer (some ⟨b1, 0, none⟩))] hE hS fun a hE => ?_
   have hS := hS.p (.d 1 (.d 0 (.d 2 (.d 3 .n))))
   obtain ⟨r11, h19, hf⟩ := bs hf
   refine aC rfl rfl rfl rfl hE rfl rfl rfl rfl (wire_Reader_Fail.calls h19 (hS.st.fore (L := [bx b1 100 (c_T_wire_Reader (r7.2) A11 c11)])) h2) fun a v w hR hE => ?_
   obtain ⟨D9, A15, c15, rfl, hS1, h20⟩ := hR
   have le6 := hS1.dle
   have hS := hS.callR hS1 rfl (.c .n)
   refine ae ?_
   have hS := hS.p (.d 3 (.d 2 (.d 1 (.d 0 .n))))
   exact ⟨r11, A15, c15, D9, hE.wk, hS, le6, h20, hf⟩
  replace hf := cf hb hf
  refine wpIn_skip ?_
  have hS := hS.p (.d 3 (.d 2 (.d 0 (.d 1 .n))))
  exact ⟨r7.2, A11, c11, D8, hE.wk, hS, lr, h2, hf⟩
 clear hE hS
 rintro a w ⟨y2, A4, c4, D4, hE, hS, le16, h21, hf⟩
 replace hf := hj1 _ hf
 clear hj1
 refine sq (ra ?_)
 refine sM 1 1 [1] [(34, .pointer (some ⟨b1, 0, none⟩))] hE hS fun a hE => ?_
 have hS := hS.p (.d 3 (.d 0 (.d 1 (.d 2 .n))))
 obtain ⟨r8, h22, hf⟩ := bs hf
 refine aC rfl rfl rfl rfl hE rfl rfl rfl rfl (wire_Reader_Hash.calls h22 (hS.st.fore (L := [bx b1 100 (c_T_wire_Reader (y2) A4 c4)])) h21) fun a v w hR hE => ?_
 obtain ⟨D15, A16, c16, rfl, hS1, h23⟩ := hR
 have le17 := hS1.dle
 have hS := hS.callR hS1 rfl (.c .n)
 refine sM 2 4 [] [(37, .pointer (some ⟨b2, 2, none⟩))] hE hS fun a hE => ?_
 have hS := hS.p (.d 3 (.d 0 (.d 1 (.d 2 .n))))
 obtain ⟨v1, hv3, hf⟩ := bs hf
 replace hv3 := Option.some.inj hv3
 refine at_op (op_store (v := .agg (List.toArray (acells .u8 32 (r8.1)))) (c_T_api_Bundle (v1) none 0 none 0) rfl rfl rfl rfl hE hS rfl rfl (by kernel_rfl) (by kernel_rfl) (by kernel_rfl) (by kernel_rfl) (by rw [← hv3]; kernel_rfl) (fun a w _ hE hS => ?_)) rfl
 have h41 : Sl kd_T_api_Sig D2 none 0 (v1.fPoint.fSigs) := by rw [← hv3]; exact h17
 have h42 : Sl kd_T_api_Item D2 none 0 (v1.fItems) := by rw [← hv3]; exact h18
 refine ae ?_
 refine sq ?_
 refine region_draw (fun j => Keeps (mfOf [(2, [b1]), (4, [b1]), (7, [b2])] j)) (by kernel_rfl) ?_
 have hS := hS.drew
 first | generalize w.drew = w at hS ⊢ | generalize w0.drew = w at hS ⊢
 refine wP 3 8 7 (.func (.func 45) #[] #[.pointer (some ⟨b3, 0, none⟩)]) hE fun a hE => ?_
 refine tN (T := [(2, [b1]), (4, [b1]), (7, [b2])]) [2] 0 9 (fuel := 6) (by kernel_rfl) hE (tk_load 3 (.pointer (some ⟨b1, 0, none⟩)) rfl rfl rfl rfl hE rfl hS rfl rfl (by kernel_rfl) (kL (j := 3) hS rfl (show b3 ∉ [b1] from (nm_cons (hS.ne (i := 3) (j := 1) (by decide) rfl rfl) List.not_mem_nil))) (fun a hE => ?_))
 refine tS (T := [(2, [b1]), (4, [b1]), (7, [b2])]) [] [1, 2, 4, 5, 6, 7] 1 11 (fuel := 5) (by kernel_rfl) hE (tk_load 3 (.pointer (some ⟨b1, 0, none⟩)) rfl rfl rfl rfl hE rfl hS rfl rfl (by kernel_rfl) (kL (j := 3) hS rfl List.not_mem_nil) (fun a hE => ?_))
 have hS := hS.p (.d 1 (.d 0 (.d 2 (.d 3 .n))))
 obtain ⟨r12, h24, hf⟩ := bs hf
 refine oC 2 15 4 rfl rfl rfl rfl hE rfl rfl rfl rfl (wire_Reader_Num.calls h24 (hS.st.fore (L := [bx b1 100 (c_T_wire_Reader (r8.2) A16 c16)])) h23) fun a v w hR hE => ?_
 obtain ⟨D16, A17, c17, rfl, hS1, h25⟩ := hR
 refine ⟨(hS1.keeps.sub (M' := [b1]) ⟨.inl (List.Mem.head _), trivial⟩).mono (fun _ h => h), ?_⟩
 have le18 := hS1.dle
 have hS := hS.callR hS1 rfl (.c .n)
 have hS := hS.p (.d 0 (.d 3 (.d 1 (.d 2 .n))))
 obtain ⟨r1, h26, hf⟩ := bs hf
 refine oC 4 31 3 rfl rfl rfl rfl hE rfl rfl rfl rfl (bundle_read_api_Sig.calls h26 (hS.st.fore (L := [bx b1 100 (c_T_wire_Reader (r12.2) A17 c17), bx b3 68 ([.pointer (some ⟨b1, 0, none⟩)])])) h25) fun a v w hR hE => ?_
 obtain ⟨D10, A1, c1, q2, A12, c12, rfl, hS1, h27, h3⟩ := hR
 refine ⟨(hS1.keeps.sub (M' := [b1]) ⟨.inl (List.Mem.head _), .inr ((hS1.heapAt (j := 1) rfl).trans (hS.heapAt (j := 1) rfl).symm), trivial⟩).mono (fun _ h => h), ?_⟩
 have le19 := hS1.dle
 have hS := hS.callR hS1 rfl (.c (.c (.c .n)))
 refine wF 5 63 2 1 26 1 hE fun a hE => ?_
 refine wF 6 127 1 33 24 34 hE fun a hE => ?_
 have hS := hS.p (.d 3 (.d 0 (.d 1 (.d 2 (.d 4 .n)))))
 refine oG 7 255 (fuel := 0) (by kernel_rfl) (op_store (v := .slice A1 (List.length (r1.1)) c1) (c_T_api_Bundle ({ v1 with fPoint := { v1.fPoint with fSigs := r1.1 } }) A1 c1 none 0) rfl rfl rfl rfl hE hS rfl rfl (by kernel_rfl) (by kernel_rfl) (by kernel_rfl) (by kernel_rfl) (by kernel_rfl) (fun a w hkp hE hS => ⟨hkp.mono (fun _ h => h), ?_⟩))
 clear hkp
 refine doneG (by kernel_rfl) ?_
 obtain ⟨j2, hj2, hf⟩ := jn_elim hf
 refine seq_join (fun a w => ∃ (y1 : (List T_api_Item) × T_wire_Reader), ∃ A3, ∃ c2, ∃ q1, ∃ A5, ∃ c5, ∃ D3, Env a 74 [] [(2, .pointer (some ⟨b4, 0, none⟩)), (6, .pointer (some ⟨b3, 0, none⟩)), (7, .pointer (some ⟨b2, 0, none⟩))] ∧ Stp g w0 D0 [] w D3 [bx b4 29 (c_T_api_Bundle (z_T_api_Bundle) none 0 none 0), bx b3 68 ([.pointer (some ⟨b1, 0, none⟩)]), bx b2 29 (c_T_api_Bundle ((T_api_Bundle.mk (v1.fWhole) ({ v1.fPoint with fSigs := r1.1 }) (y1.1))) A1 c1 A3 c2), bx b1 100 (c_T_wire_Reader (y1.2) A5 c5), q2, q1] ∧ Snap.le D10 D3 ∧ OwnD kd_T_api_Item 43 D3 A3 c2 (y1.1) q1 ∧ Sl (kdInt .u8) D3 A5 c5 (y1.2.fB) ∧ j2 y1 = some r) ?_ ?_
 ·clear hj2
  refine sq (ra ?_)
  refine sM 2 2 [0] [(46, .bool (v1.fWhole))] hE hS fun a hE => ?_
  refine ae ?_
  refine cond_split hE (b := v1.fWhole) rfl (fun hb => ?_) (fun hb => ?_)
  ·replace hf := ct hb hf
   refine ra ?_
   refine sM 5 5 [2, 0] [(47, .pointer (some ⟨b1, 0, none⟩)), (50, .int .i64 (v1.fPoint.fSize)), (51, .func (.func 47) #[] #[.pointer (some ⟨b3, 0, none⟩)])] hE hS fun a hE => ?_
   have hS := hS.p (.d 1 (.d 2 (.d 0 (.d 3 (.d 4 .n)))))
   obtain ⟨r4, h28, hf⟩ := bs hf
   refine aC rfl rfl rfl rfl hE rfl rfl rfl rfl (bundle_read_api_Item.calls h28 (hS.st.fore (L := [bx b1 100 (c_T_wire_Reader (r1.2) A12 c12), bx b3 68 ([.pointer (some ⟨b1, 0, none⟩)])])) h3) fun a v w hR hE => ?_
   obtain ⟨D11, A6, c6, q3, A18, c18, rfl, hS1, h29, h30⟩ := hR
   have le7 := hS1.dle
   have hS := hS.callR hS1 rfl (.c (.c (.c .n)))
   refine sM 1 7 [] [(53, .pointer (some ⟨b2, 35, none⟩))] hE hS fun a hE => ?_
   have hS := hS.p (.d 3 (.d 0 (.d 1 (.d 2 (.d 4 (.d 5 .n))))))
   refine at_op (op_store (v := .slice A6 (List.length (r4.1)) c6) (c_T_api_Bundle ((T_api_Bundle.mk (v1.fWhole) ({ v1.fPoint with fSigs := r1.1 }) (r4.1))) A1 c1 A6 c6) rfl rfl rfl rfl hE hS rfl rfl (by kernel_rfl) (by kernel_rfl) (by kernel_rfl) (by kernel_rfl) (by kernel_rfl) (fun a w _ hE hS => ?_)) rfl
   refine ae ?_
   have hS := hS.p (.d 5 (.d 2 (.d 0 (.d 1 (.d 4 (.d 3 .n))))))
   exact ⟨(r4.1, r4.2), A6, c6, q3, A18, c18, D11, hE.wk, hS, le7, h29, h30, hf⟩
  replace hf := cf hb hf
  refine region_draw (fun j => Keeps (mfOf [(2, [b1]), (7, [b1]), (9, [b2])] j)) (by kernel_rfl) ?_
  have hS := hS.drew
  first | generalize w.drew = w at hS ⊢ | generalize w0.drew = w at hS ⊢
  refine wP 6 64 9 (.func (.func 49) #[] #[.pointer (some ⟨b3, 0, none⟩)]) hE fun a hE => ?_
  refine tN (T := [(2, [b1]), (7, [b1]), (9, [b2])]) [2] 0 65 (fuel := 8) (by kernel_rfl) hE (tk_load 2 (.pointer (some ⟨b1, 0, none⟩)) rfl rfl rfl rfl hE rfl hS rfl rfl (by kernel_rfl) (kL (j := 2) hS rfl (show b3 ∉ [b1] from (nm_cons (hS.ne (i := 2) (j := 1) (by decide) rfl rfl) List.not_mem_nil))) (fun a hE => ?_))
  refine tS (T := [(2, [b1]), (7, [b1]), (9, [b2])]) [] [1, 2, 7, 8, 9] 1 67 (fuel := 7) (by kernel_rfl) hE (tk_load 2 (.pointer (some ⟨b1, 0, none⟩)) rfl rfl rfl rfl hE rfl hS rfl rfl (by kernel_rfl) (kL (j := 2) hS rfl List.not_mem_nil) (fun a hE => ?_))
  refine wF 3 75 6 1 26 1 hE fun a hE => ?_
  refine wF 4 91 5 0 3 1 hE fun a hE => ?_
  refine tN (T := [(2, [b1]), (7, [b1]), (9, [b2])]) [2] 5 123 (fuel := 4) (by kernel_rfl) hE (tk_load 0 (.int .i64 (v1.fPoint.fSize)) rfl rfl rfl rfl hE rfl hS rfl rfl (by kernel_rfl) (kL (j := 0) hS rfl (show b2 ∉ [b1] from (nm_cons (hS.ne (i := 0) (j := 1) (by decide) rfl rfl) List.not_mem_nil))) (fun a hE => ?_))
  have hS := hS.p (.d 1 (.d 0 (.d 2 (.d 3 (.d 4 .n)))))
  obtain ⟨r13, h31, hf⟩ := bs hf
  refine oC 2 127 3 rfl rfl rfl rfl hE rfl rfl rfl rfl (wire_Reader_Num.calls h31 (hS.st.fore (L := [bx b1 100 (c_T_wire_Reader (r1.2) A12 c12)])) h3) fun a v w hR hE => ?_
  obtain ⟨D17, A19, c19, rfl, hS1, h32⟩ := hR
  refine ⟨(hS1.keeps.sub (M' := [b1]) ⟨.inl (List.Mem.head _), trivial⟩).mono (fun _ h => h), ?_⟩
  have le8 := hS1.dle
  have hS := hS.callR hS1 rfl (.c .n)
  have hS := hS.p (.d 0 (.d 2 (.d 1 (.d 3 (.d 4 .n)))))
  obtain ⟨r5, h33, hf⟩ := bs hf
  refine oC 7 255 2 rfl rfl rfl rfl hE rfl rfl rfl rfl (bundle_read_api_Item_v2.calls h33 (hS.st.fore (L := [bx b1 100 (c_T_wire_Reader (r13.2) A19 c19), bx b3 68 ([.pointer (some ⟨b1, 0, none⟩)])])) h32) fun a v w hR hE => ?_
  obtain ⟨D12, A7, c7, q4, A20, c20, rfl, hS1, h34, h35⟩ := hR
  refine ⟨(hS1.keeps.sub (M' := [b1]) ⟨.inl (List.Mem.head _), .inr ((hS1.heapAt (j := 1) rfl).trans (hS.heapAt (j := 1) rfl).symm), trivial⟩).mono (fun _ h => h), ?_⟩
  have le9 := hS1.dle
  have hS := hS.callR hS1 rfl (.c (.c (.c .n)))
  refine wF 8 511 1 35 27 35 hE fun a hE => ?_
  have hS := hS.p (.d 3 (.d 0 (.d 1 (.d 2 (.d 4 (.d 5 .n))))))
  refine oG 9 1023 (fuel := 0) (by kernel_rfl) (op_store (v := .slice A7 (List.length (r5.1)) c7) (c_T_api_Bundle ((T_api_Bundle.mk (v1.fWhole) ({ v1.fPoint with fSigs := r1.1 }) (r5.1))) A1 c1 A7 c7) rfl rfl rfl rfl hE hS rfl rfl (by kernel_rfl) (by kernel_rfl) (by kernel_rfl) (by kernel_rfl) (by kernel_rfl) (fun a w hkp hE hS => ⟨hkp.mono (fun _ h => h), ?_⟩))
  clear hkp
  refine doneG (by kernel_rfl) ?_
  have hS := hS.p (.d 5 (.d 2 (.d 0 (.d 1 (.d 4 (.d 3 .n))))))
  exact ⟨(r5.1, r5.2), A7, c7, q4, A20, c20, D12, hE.wk, hS, (le2 le8 le9), h34, h35, hf⟩
 clear hE hS
 rintro a w ⟨y1, A3, c2, q1, A5, c5, D3, hE, hS, le10, h36, h37, hf⟩
 replace hf := hj2 _ hf
 clear hj2
 refine sq (sq (ra ?_))
 refine sM 1 1 [1] [(63, .pointer (some ⟨b1, 0, none⟩))] hE hS fun a hE => ?_
 have hS := hS.p (.d 3 (.d 0 (.d 1 (.d 2 (.d 4 (.d 5 .n))))))
 obtain ⟨r2, h38, hf⟩ := bs hf
 refine aC rfl rfl rfl rfl hE rfl rfl rfl rfl (wire_Reader_Done.calls h38 (hS.st.fore (L := [bx b1 100 (c_T_wire_Reader (y1.2) A5 c5)])) h37) fun a v w hR hE => ?_
 obtain ⟨D7, rfl, hS1⟩ := hR
 have le1 := hS1.dle
 have hS := hS.callR hS1 rfl (.c .n)
 refine sN 1 3 [(8, .int .i64 (r2))] hE fun a hE => ?_
 refine ae ?_
 refine sq (ra ?_)
 refine sN 2 2 [(66, .bool ((!decide (r2 = (0 : Int)))))] hE fun a hE => ?_
 refine ae ?_
 refine cond_split hE (b := (!decide (r2 = (0 : Int)))) rfl (fun hb => ?_) (fun hb => ?_)
 ·replace hf := ct hb hf
  refine sq (ra ?_)
  refine at_op (op_tk hE (tk_build (c_T_api_Bundle (z_T_api_Bundle) none 0 none 0) rfl rfl rfl rfl hE rfl rfl (by kernel_rfl) (fun a hE => ?_))) rfl
  refine sN 1 2 [(68, .int .i64 (r2))] hE fun a hE => ?_
  have hS := hS.p (.d 1 (.d 0 (.d 2 (.d 3 (.d 4 (.d 5 .n))))))
  refine at_op (op_store (v := .agg (List.toArray (c_T_api_Bundle (z_T_api_Bundle) none 0 none 0))) (c_T_api_Bundle (z_T_api_Bundle) none 0 none 0) rfl rfl rfl rfl hE hS rfl rfl (by kernel_rfl) (by kernel_rfl) (by kernel_rfl) (by kernel_rfl) (by kernel_rfl) (fun a w _ hE hS => ?_)) rfl
  refine sN 1 4 [(3, .int .i64 (r2))] hE fun a hE => ?_
  refine ae ?_
  refine wpIn_ret ?_
  obtain rfl := si hf
  refine ret_ ?_
  refine ret_gen ([.agg (List.toArray (c_T_api_Bundle (z_T_api_Bundle) none 0 none 0)), .int .i64 (r2)]) hE (by rw [show Tryz.f13.results.toList = [.cell 2 29, .tmp 3] from rfl]; exact ⟨_, _, _, 0, _, _, rfl, rfl, hS.heapAt (j := 0) rfl, by kernel_rfl, ⟨_, _, rfl, rfl, rfl⟩⟩) ?_
  have hS := hS.p .n
  exact ⟨_, rfl, D7, none, 0, none, 0, rfl, hS, (Sl.nil kd_T_api_Sig D7), (Sl.nil kd_T_api_Item D7)⟩
 replace hf := cf hb hf
 refine wpIn_skip ?_
 refine sq (sq (ra ?_))
 refine sM 1 1 [3] [(69, .agg (List.toArray (c_T_api_Bundle ((T_api_Bundle.mk (v1.fWhole) ({ v1.fPoint with fSigs := r1.1 }) (y1.1))) A1 c1 A3 c2)))] hE hS fun a hE => ?_
 have hS := hS.p (.d 4 (.d 0 (.d 1 (.d 2 (.d 3 (.d 5 .n))))))
 obtain ⟨D18, q6, le11, hS, h43, h5⟩ := hS.lent (h27.mono (le2 le10 le1))
 have hS := hS.p (.d 5 (.d 0 (.d 1 (.d 2 (.d 3 (.d 4 .n))))))
 obtain ⟨D19, q7, le3, hS, h44, h6⟩ := hS.lent (h36.mono (le2 le1 le11))
 obtain ⟨r9, h39, hf⟩ := bs hf
 refine aC rfl rfl rfl rfl hE rfl rfl rfl rfl (bundle_Right.calls h39 (hS.st.fore (L := [])) (h5.mono le3) h6) fun a v w hR hE => ?_
 obtain ⟨D5, rfl, hS1⟩ := hR
 have le4 := hS1.dle
 have hS := hS.callR hS1 rfl .n
 refine sN 1 3 [(71, .bool ((!r9)))] hE fun a hE => ?_
 refine ae ?_
 refine cond_split hE (b := (!r9)) rfl (fun hb => ?_) (fun hb => ?_)
 ·replace hf := ct hb hf
  refine sq (ra ?_)
  refine at_op (op_tk hE (tk_build (c_T_api_Bundle (z_T_api_Bundle) none 0 none 0) rfl rfl rfl rfl hE rfl rfl (by kernel_rfl) (fun a hE => ?_))) rfl
  have hS := hS.p (.d 3 (.d 0 (.d 1 (.d 2 (.d 4 (.d 5 .n))))))
  refine at_op (op_store (v := .agg (List.toArray (c_T_api_Bundle (z_T_api_Bundle) none 0 none 0))) (c_T_api_Bundle (z_T_api_Bundle) none 0 none 0) rfl rfl rfl rfl hE hS rfl rfl (by kernel_rfl) (by kernel_rfl) (by kernel_rfl) (by kernel_rfl) (by kernel_rfl) (fun a w _ hE hS => ?_)) rfl
  refine sN 1 3 [(3, .int .i64 ((2 : Int)))] hE fun a hE => ?_
  refine ae ?_
  refine wpIn_ret ?_
  obtain rfl := si hf
  refine ret_ ?_
  refine ret_gen ([.agg (List.toArray (c_T_api_Bundle (z_T_api_Bundle) none 0 none 0)), .int .i64 ((2 : Int))]) hE (by rw [show Tryz.f13.results.toList = [.cell 2 29, .tmp 3] from rfl]; exact ⟨_, _, _, 0, _, _, rfl, rfl, hS.heapAt (j := 0) rfl, by kernel_rfl, ⟨_, _, rfl, rfl, rfl⟩⟩) ?_
  have hS := hS.p .n
  exact ⟨_, rfl, D5, none, 0, none, 0, rfl, hS, (Sl.nil kd_T_api_Sig D5), (Sl.nil kd_T_api_Item D5)⟩
 replace hf := cf hb hf
 refine wpIn_skip ?_
 refine sq (ra ?_)
 refine sM 1 1 [5] [(73, .agg (List.toArray (c_T_api_Bundle ((T_api_Bundle.mk (v1.fWhole) ({ v1.fPoint with fSigs := r1.1 }) (y1.1))) A1 c1 A3 c2)))] hE hS fun a hE => ?_
 have hS := hS.p (.d 3 (.d 0 (.d 1 (.d 2 (.d 4 (.d 5 .n))))))
 refine at_op (op_store (v := .agg (List.toArray (c_T_api_Bundle ((T_api_Bundle.mk (v1.fWhole) ({ v1.fPoint with fSigs := r1.1 }) (y1.1))) A1 c1 A3 c2))) (c_T_api_Bundle ((T_api_Bundle.mk (v1.fWhole) ({ v1.fPoint with fSigs := r1.1 }) (y1.1))) A1 c1 A3 c2) rfl rfl rfl rfl hE hS rfl rfl (by kernel_rfl) (by kernel_rfl) (by kernel_rfl) (by kernel_rfl) (by kernel_rfl) (fun a w _ hE hS => ?_)) rfl
 refine sN 1 3 [(3, .int .i64 ((0 : Int)))] hE fun a hE => ?_
 refine ae ?_
 refine wpIn_ret ?_
 obtain rfl := si hf
 refine ret_ ?_
 refine ret_gen ([.agg (List.toArray (c_T_api_Bundle ((T_api_Bundle.mk (v1.fWhole) ({ v1.fPoint with fSigs := r1.1 }) (y1.1))) A1 c1 A3 c2)), .int .i64 ((0 : Int))]) hE (by rw [show Tryz.f13.results.toList = [.cell 2 29, .tmp 3] from rfl]; exact ⟨_, _, _, 0, _, _, rfl, rfl, hS.heapAt (j := 0) rfl, by kernel_rfl, ⟨_, _, rfl, rfl, rfl⟩⟩) ?_
 have hS := hS.p .n
 exact ⟨_, rfl, D5, A1, c1, A3, c2, rfl, hS, (h5.mono (le2 le3 le4)), (h6.mono le4)⟩
set_option maxRecDepth 100000 in
theorem slices_Equal_api_Sig_api_Sig.calls {K : Nat} {g w0 : World} {D0 : Snap} {x1 : (List T_api_Sig)} {x5 : (List T_api_Sig)} {A2 : Option Addr} {c3 : Nat} {A6 : Option Addr} {c7 : Nat} {r : (Bool)} (hf : slices_Equal_api_Sig_api_Sig.f K x1 x5 = some r) (hS0 : St g w0 D0 []) (h4 : Sl kd_T_api_Sig D0 A2 c3 (x1)) (h8 : Sl kd_T_api_Sig D0 A6 c7 (x5)) :
  CallsIn (Fw none) 0 Tryz.prog 30 (List.toArray [.slice A2 (List.length (x1)) c3, .slice A6 (List.length (x5)) c7]) w0 (fun e w' => ∃ v, e = .returned v ∧ ∃ D1, v = .bool (r) ∧ Stp g w0 D0 [] w' D1 []) := by
 unfold slices_Equal_api_Sig_api_Sig.f at hf
 have hS := Stp.refl hS0
 clear hS0
 refine calls_body (n := 26) Tryz.func30 rfl Tryz.ntmps30 rfl fun a hE => ?_
 have hE : Env a 26 [] [(0, .slice A2 (List.length (x1)) c3), (1, .slice A6 (List.length (x5)) c7)] := hE
 refine sq (ra ?_)
 refine sN 1 1 [(4, .bool false)] hE fun a hE => ?_
 refine ae ?_
 refine sq (sq (ra ?_))
 refine sN 5 5 [(10, .bool ((!decide (((List.length (x1) : Nat) : Int) = ((List.length (x5) : Nat) : Int)))))] hE fun a hE => ?_
 refine ae ?_
 refine cond_split hE (b := (!decide (((List.length (x1) : Nat) : Int) = ((List.length (x5) : Nat) : Int)))) rfl (fun hb => ?_) (fun hb => ?_)
 ·replace hf := ct hb hf
  refine sq (ra ?_)
  refine sN 1 1 [(4, .bool false)] hE fun a hE => ?_
  refine ae ?_
  refine wpIn_ret ?_
  obtain rfl := si hf
  refine ret_ ?_
  refine rT 4 (.bool false) hE ?_
  exact ⟨_, rfl, D0, rfl, hS⟩
 replace hf := cf hb hf
 refine wpIn_skip ?_
 refine sq (sq (ra ?_))
 refine sN 3 3 [(12, .int .i64 (((List.length (x1) : Nat) : Int))), (13, .int .i64 ((0 : Int)))] hE fun a hE => ?_
 refine ae ?_
 obtain ⟨s1, hf, hs1⟩ := bs hf
 refine block_loop (fun a w => ∃ (z1 : Unit), ∃ D3, Env a 26 [] [] ∧ Stp g w0 D0 [] w D3 [] ∧ Snap.le D0 D3 ∧ (Sum.inr z1) = s1) (fun k a w => ∃ (y1 : Int), ∃ D2, Env a 26 [] [(0, .slice A2 (List.length (x1)) c3), (1, .slice A6 (List.length (x5)) c7), (12, .int .i64 (((List.length (x1) : Nat) : Int))), (13, .int .i64 (y1))] ∧ Stp g w0 D0 [] w D2 [] ∧ Snap.le D0 D2 ∧ slices_Equal_api_Sig_api_Sig_l1.l K x1 x5 k y1 = some s1) K ?_ ?_ ?_
 ·exact ⟨(0 : Int), D0, hE.wk, hS, lr, hf⟩
 ·clear hE hS hf
  rintro a w ⟨z1, D3, hE, hS, le2, rfl⟩
  have hf := hs1
  clear hs1
  refine sq (ra ?_)
  refine sN 1 1 [(4, .bool true)] hE fun a hE => ?_
  refine ae ?_
  refine wpIn_ret ?_
  obtain rfl := si hf
  refine ret_ ?_
  refine rT 4 (.bool true) hE ?_
  exact ⟨_, rfl, D3, rfl, hS⟩
 clear hE hS hf
 rintro k a w ⟨y1, D2, hE, hS, le1, hf⟩
 obtain ⟨k, rfl, hf⟩ := slices_Equal_api_Sig_api_Sig_l1.some _ _ hf
 refine ⟨k, rfl, ?_⟩
 unfold slices_Equal_api_Sig_api_Sig_l1.b at hf
 refine sq (ra ?_)
 refine sN 1 1 [(14, .bool ((decide (y1 < ((List.length (x1) : Nat) : Int)))))] hE fun a hE => ?_
 refine ae ?_
 refine sq ?_
 refine cond_split hE (b := (decide (y1 < ((List.length (x1) : Nat) : Int)))) rfl (fun hb => ?_) (fun hb => ?_)
 ·replace hf := ct hb hf
  refine wpIn_skip ?_
  refine sq ?_
  refine wpIn_block ?_
  refine sq (ra ?_)
  refine sN 2 2 [(5, .int .i64 (y1))] hE fun a hE => ?_
  refine ae ?_
  refine sq ?_
  refine region_draw (fun j => Keeps (mfOf [] j)) (by kernel_rfl) ?_
  have hS := hS.drew
  first | generalize w.drew = w at hS ⊢ | generalize w0.drew = w at hS ⊢
  refine wP 0 1 8 (.slice A2 (List.length (x1)) c3) hE fun a hE => ?_
  refine wP 1 3 7 (.int .i64 (y1)) hE fun a hE => ?_
  refine wP 4 19 6 (.slice A6 (List.length (x5)) c7) hE fun a hE => ?_
  refine wP 5 51 5 (.int .i64 (y1)) hE fun a hE => ?_
  obtain ⟨x2, h1, hf⟩ := bs hf
  refine tW 2 55 (fuel := 4) (by kernel_rfl) hE (fun M => g_index (K := kd_T_api_Sig) (e := 37) (by_ := 40) (zl := 33) rfl rfl rfl rfl hE rfl rfl rfl (by kernel_rfl) rfl (h4.mono le1) h1 (fun a b1 o1 hE h2 => ?_))
  obtain ⟨cs1, C1, T1, fr1, hr1, hb1, hc1⟩ := id h2
  obtain ⟨rfl⟩ := kd_T_api_Sig_el hr1
  refine tT 3 63 (fuel := 3) (by kernel_rfl) hE (tk_loadX (off0 := o1) (off := 0) (c := c_T_api_Sig (x2)) (.agg (List.toArray (c_T_api_Sig (x2)))) rfl rfl rfl rfl hE rfl hS rfl hb1 hc1 (by kernel_rfl) (by kernel_rfl) (kD hS dn_nil) (fun a hE => ?_))
  obtain ⟨x3, h3, hf⟩ := bs hf
  refine tW 6 127 (fuel := 2) (by kernel_rfl) hE (fun M => g_index (K := kd_T_api_Sig) (e := 37) (by_ := 40) (zl := 33) rfl rfl rfl rfl hE rfl rfl rfl (by kernel_rfl) rfl (h8.mono le1) h3 (fun a b2 o2 hE h5 => ?_))
  obtain ⟨cs2, C2, T2, fr2, hr2, hb2, hc2⟩ := id h5
  obtain ⟨rfl⟩ := kd_T_api_Sig_el hr2
  refine tT 7 255 (fuel := 1) (by kernel_rfl) hE (tk_loadX (off0 := o2) (off := 0) (c := c_T_api_Sig (x3)) (.agg (List.toArray (c_T_api_Sig (x3)))) rfl rfl rfl rfl hE rfl hS rfl hb2 hc2 (by kernel_rfl) (by kernel_rfl) (kD hS dn_nil) (fun a hE => ?_))
  refine tW 8 511 (fuel := 0) (by kernel_rfl) hE (fun M => tk_bin (r := .bool ((!((decide (x2.fWit = x3.fWit)) && ((decide (x2.fTag = x3.fTag)) && true))))) rfl rfl rfl rfl hE rfl rfl rfl (neagg_run (by kernel_rfl) (EqR_struct (fs := structFs Tryz.prog 37) (by kernel_rfl) ⟨.int .i64 (x2.fWit), .int .i64 (x3.fWit), (decide (x2.fWit = x3.fWit)), _, by kernel_rfl, by kernel_rfl, by kernel_rfl, (EqR_int (by kernel_rfl)), ⟨.agg (List.toArray (acells .u8 32 (x2.fTag))), .agg (List.toArray (acells .u8 32 (x3.fTag))), (decide (x2.fTag = x3.fTag)), _, by kernel_rfl, by kernel_rfl, by kernel_rfl, (EqR_arr (k := .u8) (N := 32) (by kernel_rfl)), rfl, rfl⟩, rfl⟩)) (fun a hE => ?_))
  refine doneG (by kernel_rfl) ?_
  refine cond_split hE (b := (!((decide (x2.fWit = x3.fWit)) && ((decide (x2.fTag = x3.fTag)) && true)))) rfl (fun hb => ?_) (fun hb => ?_)
  ·replace hf := ct hb hf
   refine sq (ra ?_)
   refine sN 1 1 [(4, .bool false)] hE fun a hE => ?_
   refine ae ?_
   refine wpIn_ret ?_
   obtain rfl := si hf
   replace hf := hs1
   obtain rfl := si hf
   refine ret_ ?_
   refine rT 4 (.bool false) hE ?_
   exact ⟨_, rfl, D2, rfl, hS⟩
  replace hf := cf hb hf
  refine wpIn_skip ?_
  refine ra ?_
  refine sN 2 2 [(13, .int .i64 ((IntKind.wrap .i64 (y1 + (1 : Int)))))] hE fun a hE => ?_
  exact ae ⟨(IntKind.wrap .i64 (y1 + (1 : Int))), D2, hE.wk, hS, le1, hf⟩
 replace hf := cf hb hf
 refine wpIn_exit ?_
 obtain rfl := si hf
 exact ⟨(), D2, hE.wk, hS, le1, rfl⟩
set_option maxRecDepth 100000 in
theorem slices_Equal_api_Hash_api_Hash.calls {K : Nat} {g w0 : World} {D0 : Snap} {x1 : (List (Vector Int 32))} {x5 : (List (Vector Int 32))} {A2 : Option Addr} {c3 : Nat} {A6 : Option Addr} {c7 : Nat} {r : (Bool)} (hf : slices_Equal_api_Hash_api_Hash.f K x1 x5 = some r) (hS0 : St g w0 D0 []) (h4 : Sl (kdArr .u8 32) D0 A2 c3 (x1)) (h8 : Sl (kdArr .u8 32) D0 A6 c7 (x5)) :
  CallsIn (Fw none) 0 Tryz.prog 34 (List.toArray [.slice A2 (List.length (x1)) c3, .slice A6 (List.length (x5)) c7]) w0 (fun e w' => ∃ v, e = .returned v ∧ ∃ D1, v = .bool (r) ∧ Stp g w0 D0 [] w' D1 []) := by
 unfold slices_Equal_api_Hash_api_Hash.f at hf
 have hS := Stp.refl hS0
 clear hS0
 refine calls_body (n := 26) Tryz.func34 rfl Tryz.ntmps34 rfl fun a hE => ?_
 have hE : Env a 26 [] [(0, .slice A2 (List.length (x1)) c3), (1, .slice A6 (List.length (x5)) c7)] := hE
 refine sq (ra ?_)
 refine sN 1 1 [(4, .bool false)] hE fun a hE => ?_
 refine ae ?_
 refine sq (sq (ra ?_))
 refine sN 5 5 [(10, .bool ((!decide (((List.length (x1) : Nat) : Int) = ((List.length (x5) : Nat) : Int)))))] hE fun a hE => ?_
 refine ae ?_
 refine cond_split hE (b := (!decide (((List.length (x1) : Nat) : Int) = ((List.length (x5) : Nat) : Int)))) rfl (fun hb => ?_) (fun hb => ?_)
 ·replace hf := ct hb hf
  refine sq (ra ?_)
  refine sN 1 1 [(4, .bool false)] hE fun a hE => ?_
  refine ae ?_
  refine wpIn_ret ?_
  obtain rfl := si hf
  refine ret_ ?_
  refine rT 4 (.bool false) hE ?_
  exact ⟨_, rfl, D0, rfl, hS⟩
 replace hf := cf hb hf
 refine wpIn_skip ?_
 refine sq (sq (ra ?_))
 refine sN 3 3 [(12, .int .i64 (((List.length (x1) : Nat) : Int))), (13, .int .i64 ((0 : Int)))] hE fun a hE => ?_
 refine ae ?_
 obtain ⟨s1, hf, hs1⟩ := bs hf
 refine block_loop (fun a w => ∃ (z1 : Unit), ∃ D3, Env a 26 [] [] ∧ Stp g w0 D0 [] w D3 [] ∧ Snap.le D0 D3 ∧ (Sum.inr z1) = s1) (fun k a w => ∃ (y1 : Int), ∃ D2, Env a 26 [] [(0, .slice A2 (List.length (x1)) c3), (1, .slice A6 (List.length (x5)) c7), (12, .int .i64 (((List.length (x1) : Nat) : Int))), (13, .int .i64 (y1))] ∧ Stp g w0 D0 [] w D2 [] ∧ Snap.le D0 D2 ∧ slices_Equal_api_Hash_api_Hash_l1.l K x1 x5 k y1 = some s1) K ?_ ?_ ?_
 ·exact ⟨(0 : Int), D0, hE.wk, hS, lr, hf⟩
 ·clear hE hS hf
  rintro a w ⟨z1, D3, hE, hS, le2, rfl⟩
  have hf := hs1
  clear hs1
  refine sq (ra ?_)
  refine sN 1 1 [(4, .bool true)] hE fun a hE => ?_
  refine ae ?_
  refine wpIn_ret ?_
  obtain rfl := si hf
  refine ret_ ?_
  refine rT 4 (.bool true) hE ?_
  exact ⟨_, rfl, D3, rfl, hS⟩
 clear hE hS hf
 rintro k a w ⟨y1, D2, hE, hS, le1, hf⟩
 obtain ⟨k, rfl, hf⟩ := slices_Equal_api_Hash_api_Hash_l1.some _ _ hf
 refine ⟨k, rfl, ?_⟩
 unfold slices_Equal_api_Hash_api_Hash_l1.b at hf
 refine sq (ra ?_)
 refine sN 1 1 [(14, .bool ((decide (y1 < ((List.length (x1) : Nat) : Int)))))] hE fun a hE => ?_
 refine ae ?_
 refine sq ?_
 refine cond_split hE (b := (decide (y1 < ((List.length (x1) : Nat) : Int)))) rfl (fun hb => ?_) (fun hb => ?_)
 ·replace hf := ct hb hf
  refine wpIn_skip ?_
  refine sq ?_
  refine wpIn_block ?_
  refine sq (ra ?_)
  refine sN 2 2 [(5, .int .i64 (y1))] hE fun a hE => ?_
  refine ae ?_
  refine sq ?_
  refine region_draw (fun j => Keeps (mfOf [] j)) (by kernel_rfl) ?_
  have hS := hS.drew
  first | generalize w.drew = w at hS ⊢ | generalize w0.drew = w at hS ⊢
  refine wP 0 1 8 (.slice A2 (List.length (x1)) c3) hE fun a hE => ?_
  refine wP 1 3 7 (.int .i64 (y1)) hE fun a hE => ?_
  refine wP 4 19 6 (.slice A6 (List.length (x5)) c7) hE fun a hE => ?_
  refine wP 5 51 5 (.int .i64 (y1)) hE fun a hE => ?_
  obtain ⟨x2, h1, hf⟩ := bs hf
  refine tW 2 55 (fuel := 4) (by kernel_rfl) hE (fun M => g_index (K := (kdArr .u8 32)) (e := 23) (by_ := 32) (zl := 32) rfl rfl rfl rfl hE rfl rfl rfl (by kernel_rfl) rfl (h4.mono le1) h1 (fun a b1 o1 hE h2 => ?_))
  obtain ⟨cs1, C1, T1, fr1, hr1, hb1, hc1⟩ := id h2
  obtain rfl := hr1
  refine tT 3 63 (fuel := 3) (by kernel_rfl) hE (tk_loadX (off0 := o1) (off := 0) (c := acells .u8 32 (x2)) (.agg (List.toArray (acells .u8 32 (x2)))) rfl rfl rfl rfl hE rfl hS rfl hb1 hc1 (by kernel_rfl) (by kernel_rfl) (kD hS dn_nil) (fun a hE => ?_))
  obtain ⟨x3, h3, hf⟩ := bs hf
  refine tW 6 127 (fuel := 2) (by kernel_rfl) hE (fun M => g_index (K := (kdArr .u8 32)) (e := 23) (by_ := 32) (zl := 32) rfl rfl rfl rfl hE rfl rfl rfl (by kernel_rfl) rfl (h8.mono le1) h3 (fun a b2 o2 hE h5 => ?_))
  obtain ⟨cs2, C2, T2, fr2, hr2, hb2, hc2⟩ := id h5
  obtain rfl := hr2
  refine tT 7 255 (fuel := 1) (by kernel_rfl) hE (tk_loadX (off0 := o2) (off := 0) (c := acells .u8 32 (x3)) (.agg (List.toArray (acells .u8 32 (x3)))) rfl rfl rfl rfl hE rfl hS rfl hb2 hc2 (by kernel_rfl) (by kernel_rfl) (kD hS dn_nil) (fun a hE => ?_))
  refine tW 8 511 (fuel := 0) (by kernel_rfl) hE (fun M => tk_bin (r := .bool ((!(decide (x2 = x3))))) rfl rfl rfl rfl hE rfl rfl rfl (neagg_run (by kernel_rfl) (EqR_arr (k := .u8) (N := 32) (by kernel_rfl))) (fun a hE => ?_))
  refine doneG (by kernel_rfl) ?_
  refine cond_split hE (b := (!(decide (x2 = x3)))) rfl (fun hb => ?_) (fun hb => ?_)
  ·replace hf := ct hb hf
   refine sq (ra ?_)
   refine sN 1 1 [(4, .bool false)] hE fun a hE => ?_
   refine ae ?_
   refine wpIn_ret ?_
   obtain rfl := si hf
   replace hf := hs1
   obtain rfl := si hf
   refine ret_ ?_
   refine rT 4 (.bool false) hE ?_
   exact ⟨_, rfl, D2, rfl, hS⟩
  replace hf := cf hb hf
  refine wpIn_skip ?_
  refine ra ?_
  refine sN 2 2 [(13, .int .i64 ((IntKind.wrap .i64 (y1 + (1 : Int)))))] hE fun a hE => ?_
  exact ae ⟨(IntKind.wrap .i64 (y1 + (1 : Int))), D2, hE.wk, hS, le1, hf⟩
 replace hf := cf hb hf
 refine wpIn_exit ?_
 obtain rfl := si hf
 exact ⟨(), D2, hE.wk, hS, le1, rfl⟩
set_option maxRecDepth 100000 in
theorem bundle_Same_1.calls {K : Nat} {g w0 : World} {D0 : Snap} {x1 : T_api_Item} {x11 : T_api_Item} {A2 : Option Addr} {c3 : Nat} {A5 : Option Addr} {c6 : Nat} {A8 : Option Addr} {c9 : Nat} {A12 : Option Addr} {c13 : Nat} {A15 : Option Addr} {c16 : Nat} {A18 : Option Addr} {c19 : Nat} {r : (Bool)} (hf : bundle_Same_1.f K x1 x11 = some r) (hS0 : St g w0 D0 []) (h4 : Sl kd_T_api_Step D0 A2 c3 (x1.fRec.fSteps)) (h7 : Sl (kdInt .u8) D0 A5 c6 (x1.fRec.fData)) (h10 : Sl (kdArr .u8 32) D0 A8 c9 (x1.fPath)) (h14 : Sl kd_T_api_Step D0 A12 c13 (x11.fRec.fSteps)) (h17 : Sl (kdInt .u8) D0 A15 c16 (x11.fRec.fData)) (h20 : Sl (kdArr .u8 32) D0 A18 c19 (x11.fPath)) :
  CallsIn (Fw none) 0 Tryz.prog 32 (List.toArray [.agg (List.toArray (c_T_api_Item (x1) A2 c3 A5 c6 A8 c9)), .agg (List.toArray (c_T_api_Item (x11) A12 c13 A15 c16 A18 c19))]) w0 (fun e w' => ∃ v, e = .returned v ∧ ∃ D1, v = .bool (r) ∧ Stp g w0 D0 [] w' D1 []) := by
 unfold bundle_Same_1.f at hf
 have hS := Stp.refl hS0
 clear hS0
 refine calls_body (n := 24) Tryz.func32 rfl Tryz.ntmps32 rfl fun a hE => ?_
 have hE : Env a 24 [] [(0, .agg (List.toArray (c_T_api_Item (x1) A2 c3 A5 c6 A8 c9))), (1, .agg (List.toArray (c_T_api_Item (x11) A12 c13 A15 c16 A18 c19)))] := hE
 refine sq (ra ?_)
 refine at_op (op_box rfl rfl rfl rfl hE rfl hS rfl (fun a b45 w _ hE hS => ?_)) rfl
 refine at_op (op_box rfl rfl rfl rfl hE rfl hS rfl (fun a b47 w _ hE hS => ?_)) rfl
 refine sN 1 3 [(4, .bool false)] hE fun a hE => ?_
 refine ae ?_
 refine sq (ra ?_)
 refine sM 6 6 [1, 0] [(10, .bool ((decide (x1.fAt = x11.fAt))))] hE hS fun a hE => ?_
 refine bo ((decide (x1.fAt = x11.fAt))) (fun hb => ?_) fun hb => ?_
 ·replace hf := cf hb hf
  have hE := hE.know (t := 10) rfl hb
  refine sN 14 20 [(4, .bool false)] hE fun a hE => ?_
  refine ae ?_
  refine wpIn_ret ?_
  obtain rfl := si hf
  refine ret_ ?_
  refine rT 4 (.bool false) hE ?_
  have hS := hS.p .n
  exact ⟨_, rfl, D0, rfl, hS⟩
 replace hf := ct hb hf
 have hE := hE.know (t := 10) rfl hb
 refine sM 4 10 [1, 0] [(12, .agg (List.toArray (c_T_api_Rec (x1.fRec) A2 c3 A5 c6))), (14, .agg (List.toArray (c_T_api_Rec (x11.fRec) A12 c13 A15 c16)))] hE hS fun a hE => ?_
 obtain ⟨r59, h60, hf⟩ := bs hf
 refine aC rfl rfl rfl rfl hE rfl rfl rfl rfl (rec_Same.calls h60 (hS.st.fore (L := [])) h4 h7 h14 h17) fun a v w hR hE => ?_
 obtain ⟨D61, rfl, hS1⟩ := hR
 have le63 := hS1.dle
 have hS := hS.callR hS1 rfl .n
 refine sN 2 13 [(17, .bool (r59))] hE fun a hE => ?_
 refine bo (r59) (fun hb => ?_) fun hb => ?_
 ·replace hf := cf hb hf
  have hE := hE.know (t := 17) rfl hb
  refine sN 7 20 [(4, .bool false)] hE fun a hE => ?_
  refine ae ?_
  refine wpIn_ret ?_
  obtain rfl := si hf
  refine ret_ ?_
  refine rT 4 (.bool false) hE ?_
  have hS := hS.p .n
  exact ⟨_, rfl, D61, rfl, hS⟩
 replace hf := ct hb hf
 have hE := hE.know (t := 17) rfl hb
 refine sM 4 17 [1, 0] [(19, .slice A8 (List.length (x1.fPath)) c9), (21, .slice A18 (List.length (x11.fPath)) c19)] hE hS fun a hE => ?_
 obtain ⟨r64, h65, hf⟩ := bs hf
 refine aC rfl rfl rfl rfl hE rfl rfl rfl rfl (slices_Equal_api_Hash_api_Hash.calls h65 (hS.st.fore (L := [])) (h10.mono le63) (h20.mono le63)) fun a v w hR hE => ?_
 obtain ⟨D66, rfl, hS1⟩ := hR
 have le68 := hS1.dle
 have hS := hS.callR hS1 rfl .n
 refine sN 2 20 [(4, .bool (r64))] hE fun a hE => ?_
 refine ae ?_
 refine wpIn_ret ?_
 obtain rfl := si hf
 refine ret_ ?_
 refine rT 4 (.bool (r64)) hE ?_
 have hS := hS.p .n
 exact ⟨_, rfl, D66, rfl, hS⟩
set_option maxRecDepth 100000 in
theorem slices_EqualFunc_api_Item_api_Item_api_Item_api_Item.calls {K : Nat} {g w0 : World} {D0 : Snap} {x1 : (List T_api_Item)} {x5 : (List T_api_Item)} {A2 : Option Addr} {c3 : Nat} {A6 : Option Addr} {c7 : Nat} {r : (Bool)} (hf : slices_EqualFunc_api_Item_api_Item_api_Item_api_Item.f K x1 x5 = some r) (hS0 : St g w0 D0 []) (h4 : Sl kd_T_api_Item D0 A2 c3 (x1)) (h8 : Sl kd_T_api_Item D0 A6 c7 (x5)) :
  CallsIn (Fw none) 0 Tryz.prog 31 (List.toArray [.slice A2 (List.length (x1)) c3, .slice A6 (List.length (x5)) c7, .func (.func 32) #[] #[]]) w0 (fun e w' => ∃ v, e = .returned v ∧ ∃ D1, v = .bool (r) ∧ Stp g w0 D0 [] w' D1 []) := by
 unfold slices_EqualFunc_api_Item_api_Item_api_Item_api_Item.f at hf
 have hS := Stp.refl hS0
 clear hS0
 refine calls_body (n := 32) Tryz.func31 rfl Tryz.ntmps31 rfl fun a hE => ?_
 have hE : Env a 32 [] [(0, .slice A2 (List.length (x1)) c3), (1, .slice A6 (List.length (x5)) c7), (2, .func (.func 32) #[] #[])] := hE
 refine sq (ra ?_)
 refine sN 1 1 [(6, .bool false)] hE fun a hE => ?_
 refine ae ?_
 refine sq (sq (ra ?_))
 refine sN 5 5 [(14, .bool ((!decide (((List.length (x1) : Nat) : Int) = ((List.length (x5) : Nat) : Int)))))] hE fun a hE => ?_
 refine ae ?_
 refine cond_split hE (b := (!decide (((List.length (x1) : Nat) : Int) = ((List.length (x5) : Nat) : Int)))) rfl (fun hb => ?_) (fun hb => ?_)
 ·replace hf := ct hb hf
  refine sq (ra ?_)
  refine sN 1 1 [(6, .bool false)] hE fun a hE => ?_
  refine ae ?_
  refine wpIn_ret ?_
  obtain rfl := si hf
  refine ret_ ?_
  refine rT 6 (.bool false) hE ?_
  exact ⟨_, rfl, D0, rfl, hS⟩
 replace hf := cf hb hf
 refine wpIn_skip ?_
 refine sq (sq (ra ?_))
 refine sN 3 3 [(15, .slice A2 (List.length (x1)) c3), (16, .int .i64 (((List.length (x1) : Nat) : Int))), (17, .int .i64 ((0 : Int)))] hE fun a hE => ?_
 refine ae ?_
 obtain ⟨s1, hf, hs1⟩ := bs hf
 refine block_loop (fun a w => ∃ (z1 : Unit), ∃ D2, Env a 32 [] [] ∧ Stp g w0 D0 [] w D2 [] ∧ Snap.le D0 D2 ∧ (Sum.inr z1) = s1) (fun k a w => ∃ (y1 : Int), ∃ D3, Env a 32 [] [(1, .slice A6 (List.length (x5)) c7), (2, .func (.func 32) #[] #[]), (15, .slice A2 (List.length (x1)) c3), (16, .int .i64 (((List.length (x1) : Nat) : Int))), (17, .int .i64 (y1))] ∧ Stp g w0 D0 [] w D3 [] ∧ Snap.le D0 D3 ∧ slices_EqualFunc_api_Item_api_Item_api_Item_api_Item_l1.l K x1 x5 k y1 = some s1) K ?_ ?_ ?_
 ·exact ⟨(0 : Int), D0, hE.wk, hS, lr, hf⟩
 ·clear hE hS hf
  rintro a w ⟨z1, D2, hE, hS, le4, rfl⟩
  have hf := hs1
  clear hs1
  refine sq (ra ?_)
  refine sN 1 1 [(6, .bool true)] hE fun a hE => ?_
  refine ae ?_
  refine wpIn_ret ?_
  obtain rfl := si hf
  refine ret_ ?_
  refine rT 6 (.bool true) hE ?_
  exact ⟨_, rfl, D2, rfl, hS⟩
 clear hE hS hf
 rintro k a w ⟨y1, D3, hE, hS, le1, hf⟩
 obtain ⟨k, rfl, hf⟩ := slices_EqualFunc_api_Item_api_Item_api_Item_api_Item_l1.some _ _ hf
 refine ⟨k, rfl, ?_⟩
 unfold slices_EqualFunc_api_Item_api_Item_api_Item_api_Item_l1.b at hf
 refine sq (ra ?_)
 refine sN 1 1 [(18, .bool ((decide (y1 < ((List.length (x1) : Nat) : Int)))))] hE fun a hE => ?_
 refine ae ?_
 refine sq ?_
 refine cond_split hE (b := (decide (y1 < ((List.length (x1) : Nat) : Int)))) rfl (fun hb => ?_) (fun hb => ?_)
 ·replace hf := ct hb hf
  refine wpIn_skip ?_
  refine sq ?_
  refine wpIn_block ?_
  refine sq (ra ?_)
  refine sN 1 1 [(19, .int .i64 (y1))] hE fun a hE => ?_
  obtain ⟨x2, h1, hf⟩ := bs hf
  refine at_op (op_tk hE (g_index (K := kd_T_api_Item) (e := 43) (by_ := 256) (zl := 111) rfl rfl rfl rfl hE rfl rfl rfl (by kernel_rfl) rfl (h4.mono le1) h1 (fun a b1 o1 hE h2 => ?_))) rfl
  obtain ⟨cs1, C1, T1, fr1, hr1, hb1, hc1⟩ := id h2
  obtain ⟨A1, c1, A3, c2, A4, c4, rfl, h3, h5, h6⟩ := kd_T_api_Item_el hr1
  refine at_op (op_tk hE (tk_loadX (off0 := o1) (off := 0) (c := c_T_api_Item (x2) A1 c1 A3 c2 A4 c4) (.agg (List.toArray (c_T_api_Item (x2) A1 c1 A3 c2 A4 c4))) rfl rfl rfl rfl hE rfl hS rfl hb1 hc1 (by kernel_rfl) (by kernel_rfl) (kD hS dn_nil) (fun a hE => ?_))) rfl
  refine at_op (op_alloc (z := .agg (List.toArray (c_T_api_Item (z_T_api_Item) none 0 none 0 none 0))) rfl rfl rfl rfl hE rfl hS (by kernel_rfl) (fun a b2 w _ hE hS => ?_)) rfl
  refine sN 1 5 [(7, .int .i64 (y1))] hE fun a hE => ?_
  refine at_op (op_store (v := .agg (List.toArray (c_T_api_Item (x2) A1 c1 A3 c2 A4 c4))) (c_T_api_Item (x2) A1 c1 A3 c2 A4 c4) rfl rfl rfl rfl hE hS rfl rfl (by kernel_rfl) (by kernel_rfl) (by kernel_rfl) (by kernel_rfl) (by kernel_rfl) (fun a w _ hE hS => ?_)) rfl
  refine ae ?_
  refine sq (ra ?_)
  refine sN 2 2 [(22, .slice A6 (List.length (x5)) c7), (23, .int .i64 (y1))] hE fun a hE => ?_
  obtain ⟨x3, h7, hf⟩ := bs hf
  refine at_op (op_tk hE (g_index (K := kd_T_api_Item) (e := 43) (by_ := 256) (zl := 111) rfl rfl rfl rfl hE rfl rfl rfl (by kernel_rfl) rfl (h8.mono le1) h7 (fun a b3 o2 hE h9 => ?_))) rfl
  obtain ⟨cs2, C2, T2, fr2, hr2, hb2, hc2⟩ := id h9
  obtain ⟨A5, c5, A7, c6, A8, c8, rfl, h10, h11, h12⟩ := kd_T_api_Item_el hr2
  refine at_op (op_tk hE (tk_loadX (off0 := o2) (off := 0) (c := c_T_api_Item (x3) A5 c5 A7 c6 A8 c8) (.agg (List.toArray (c_T_api_Item (x3) A5 c5 A7 c6 A8 c8))) rfl rfl rfl rfl hE rfl hS rfl hb2 hc2 (by kernel_rfl) (by kernel_rfl) (kD hS dn_nil) (fun a hE => ?_))) rfl
  refine at_op (op_alloc (z := .agg (List.toArray (c_T_api_Item (z_T_api_Item) none 0 none 0 none 0))) rfl rfl rfl rfl hE rfl hS (by kernel_rfl) (fun a b4 w _ hE hS => ?_)) rfl
  refine at_op (op_store (v := .agg (List.toArray (c_T_api_Item (x3) A5 c5 A7 c6 A8 c8))) (c_T_api_Item (x3) A5 c5 A7 c6 A8 c8) rfl rfl rfl rfl hE hS rfl rfl (by kernel_rfl) (by kernel_rfl) (by kernel_rfl) (by kernel_rfl) (by kernel_rfl) (fun a w _ hE hS => ?_)) rfl
  refine ae ?_
  refine sq (ra ?_)
  refine sM 3 3 [1, 0] [(26, .func (.func 32) #[] #[]), (27, .agg (List.toArray (c_T_api_Item (x2) A1 c1 A3 c2 A4 c4))), (28, .agg (List.toArray (c_T_api_Item (x3) A5 c5 A7 c6 A8 c8)))] hE hS fun a hE => ?_
  obtain ⟨r1, h13, hf⟩ := bs hf
  refine aC rfl rfl rfl rfl hE rfl rfl rfl rfl (bundle_Same_1.calls h13 (hS.st.fore (L := [])) h3 h5 h6 h10 h11 h12) fun a v w hR hE => ?_
  obtain ⟨D4, rfl, hS1⟩ := hR
  have le3 := hS1.dle
  have hS := hS.callR hS1 rfl .n
  refine sN 1 5 [(30, .bool ((!r1)))] hE fun a hE => ?_
  refine ae ?_
  refine cond_split hE (b := (!r1)) rfl (fun hb => ?_) (fun hb => ?_)
  ·replace hf := ct hb hf
   refine sq (ra ?_)
   refine sN 1 1 [(6, .bool false)] hE fun a hE => ?_
   refine ae ?_
   refine wpIn_ret ?_
   obtain rfl := si hf
   replace hf := hs1
   obtain rfl := si hf
   refine ret_ ?_
   refine rT 6 (.bool false) hE ?_
   have hS := hS.p .n
   exact ⟨_, rfl, D4, rfl, hS⟩
  replace hf := cf hb hf
  refine wpIn_skip ?_
  refine ra ?_
  refine sN 2 2 [(17, .int .i64 ((IntKind.wrap .i64 (y1 + (1 : Int)))))] hE fun a hE => ?_
  refine ae ?_
  have hS := hS.p .n
  exact ⟨(IntKind.wrap .i64 (y1 + (1 : Int))), D4, hE.wk, hS, (le2 le1 le3), hf⟩
 replace hf := cf hb hf
 refine wpIn_exit ?_
 obtain rfl := si hf
 exact ⟨(), D3, hE.wk, hS, le1, rfl⟩
set_option maxRecDepth 100000 in
theorem bundle_Same.calls {K : Nat} {g w0 : World} {D0 : Snap} {x1 : T_api_Bundle} {x8 : T_api_Bundle} {A2 : Option Addr} {c3 : Nat} {A5 : Option Addr} {c6 : Nat} {A9 : Option Addr} {c10 : Nat} {A12 : Option Addr} {c13 : Nat} {r : (Bool)} (hf : bundle_Same.f K x1 x8 = some r) (hS0 : St g w0 D0 []) (h4 : Sl kd_T_api_Sig D0 A2 c3 (x1.fPoint.fSigs)) (h7 : Sl kd_T_api_Item D0 A5 c6 (x1.fItems)) (h11 : Sl kd_T_api_Sig D0 A9 c10 (x8.fPoint.fSigs)) (h14 : Sl kd_T_api_Item D0 A12 c13 (x8.fItems)) :
  CallsIn (Fw none) 0 Tryz.prog 11 (List.toArray [.agg (List.toArray (c_T_api_Bundle (x1) A2 c3 A5 c6)), .agg (List.toArray (c_T_api_Bundle (x8) A9 c10 A12 c13))]) w0 (fun e w' => ∃ v, e = .returned v ∧ ∃ D1, v = .bool (r) ∧ Stp g w0 D0 [] w' D1 []) := by
 unfold bundle_Same.f at hf
 have hS := Stp.refl hS0
 clear hS0
 refine calls_body (n := 44) Tryz.func11 rfl Tryz.ntmps11 rfl fun a hE => ?_
 have hE : Env a 44 [] [(0, .agg (List.toArray (c_T_api_Bundle (x1) A2 c3 A5 c6))), (1, .agg (List.toArray (c_T_api_Bundle (x8) A9 c10 A12 c13)))] := hE
 refine sq (ra ?_)
 refine at_op (op_box rfl rfl rfl rfl hE rfl hS rfl (fun a b44 w _ hE hS => ?_)) rfl
 refine at_op (op_box rfl rfl rfl rfl hE rfl hS rfl (fun a b46 w _ hE hS => ?_)) rfl
 refine sN 1 3 [(4, .bool false)] hE fun a hE => ?_
 refine ae ?_
 obtain ⟨j61, hj62, hf⟩ := jn_elim hf
 refine seq_join (fun a w => ∃ (y58 : Bool), ∃ D59, Env a 44 [] [(4, .bool (y58))] ∧ Stp g w0 D0 [] w D59 [] ∧ Snap.le D0 D59 ∧ j61 y58 = some r) ?_ ?_
 ·clear hj62
  refine ra ?_
  refine sM 4 4 [1, 0] [(6, .bool (x1.fWhole)), (8, .bool (x8.fWhole))] hE hS fun a hE => ?_
  refine at_op (op_tk hE (tk_bin (r := .bool ((x1.fWhole == x8.fWhole))) rfl rfl rfl rfl hE rfl rfl rfl (eqb_run (by kernel_rfl) _ _) (fun a hE => ?_))) rfl
  refine sN 1 6 [(10, .bool ((x1.fWhole == x8.fWhole)))] hE fun a hE => ?_
  refine bo ((x1.fWhole == x8.fWhole)) (fun hb => ?_) fun hb => ?_
  ·replace hf := cf hb hf
   have hE := hE.know (t := 10) rfl hb
   refine sN 34 40 [(4, .bool false)] hE fun a hE => ?_
   refine ae ?_
   have hS := hS.p .n
   exact ⟨false, D0, hE.wk, hS, lr, hf⟩
  replace hf := ct hb hf
  have hE := hE.know (t := 10) rfl hb
  refine sM 9 15 [1, 0] [(19, .bool ((decide (x1.fPoint.fSize = x8.fPoint.fSize))))] hE hS fun a hE => ?_
  refine bo ((decide (x1.fPoint.fSize = x8.fPoint.fSize))) (fun hb => ?_) fun hb => ?_
  ·replace hf := cf hb hf
   have hE := hE.know (t := 19) rfl hb
   refine sN 25 40 [(4, .bool false)] hE fun a hE => ?_
   refine ae ?_
   have hS := hS.p .n
   exact ⟨false, D0, hE.wk, hS, lr, hf⟩
  replace hf := ct hb hf
  have hE := hE.know (t := 19) rfl hb
  refine sM 6 21 [1, 0] [(22, .agg (List.toArray (acells .u8 32 (x1.fPoint.fRoot)))), (25, .agg (List.toArray (acells .u8 32 (x8.fPoint.fRoot))))] hE hS fun a hE => ?_
  refine at_op (op_tk hE (tk_bin (r := .bool ((decide (x1.fPoint.fRoot = x8.fPoint.fRoot)))) rfl rfl rfl rfl hE rfl rfl rfl (eqagg_run (by kernel_rfl) (EqR_arr (k := .u8) (N := 32) (by kernel_rfl))) (fun a hE => ?_))) rfl
  refine sN 2 24 [(28, .bool ((decide (x1.fPoint.fRoot = x8.fPoint.fRoot))))] hE fun a hE => ?_
  refine bo ((decide (x1.fPoint.fRoot = x8.fPoint.fRoot))) (fun hb => ?_) fun hb => ?_
  ·replace hf := cf hb hf
   have hE := hE.know (t := 28) rfl hb
   refine sN 16 40 [(4, .bool false)] hE fun a hE => ?_
   refine ae ?_
   have hS := hS.p .n
   exact ⟨false, D0, hE.wk, hS, lr, hf⟩
  replace hf := ct hb hf
  have hE := hE.know (t := 28) rfl hb
  refine sM 6 30 [1, 0] [(31, .slice A2 (List.length (x1.fPoint.fSigs)) c3), (34, .slice A9 (List.length (x8.fPoint.fSigs)) c10)] hE hS fun a hE => ?_
  obtain ⟨r63, h64, hf⟩ := bs hf
  refine aC rfl rfl rfl rfl hE rfl rfl rfl rfl (slices_Equal_api_Sig_api_Sig.calls h64 (hS.st.fore (L := [])) h4 h11) fun a v w hR hE => ?_
  obtain ⟨D65, rfl, hS1⟩ := hR
  have le67 := hS1.dle
  have hS := hS.callR hS1 rfl .n
  refine sN 2 33 [(37, .bool (r63))] hE fun a hE => ?_
  refine bo (r63) (fun hb => ?_) fun hb => ?_
  ·replace hf := cf hb hf
   have hE := hE.know (t := 37) rfl hb
   refine sN 7 40 [(4, .bool false)] hE fun a hE => ?_
   refine ae ?_
   have hS := hS.p .n
   exact ⟨false, D65, hE.wk, hS, le67, hf⟩
  replace hf := ct hb hf
  have hE := hE.know (t := 37) rfl hb
  refine sM 4 37 [1, 0] [(39, .slice A5 (List.length (x1.fItems)) c6), (41, .slice A12 (List.length (x8.fItems)) c13)] hE hS fun a hE => ?_
  obtain ⟨r68, h69, hf⟩ := bs hf
  refine aC rfl rfl rfl rfl hE rfl rfl rfl rfl (slices_EqualFunc_api_Item_api_Item_api_Item_api_Item.calls h69 (hS.st.fore (L := [])) (h7.mono le67) (h14.mono le67)) fun a v w hR hE => ?_
  obtain ⟨D70, rfl, hS1⟩ := hR
  have le72 := hS1.dle
  have hS := hS.callR hS1 rfl .n
  refine sN 2 40 [(4, .bool (r68))] hE fun a hE => ?_
  refine ae ?_
  have hS := hS.p .n
  exact ⟨r68, D70, hE.wk, hS, (le2 le67 le72), hf⟩
 clear hE hS
 rintro a w ⟨y58, D59, hE, hS, le60, hf⟩
 replace hf := hj62 _ hf
 clear hj62
 refine wpIn_ret ?_
 obtain rfl := si hf
 refine ret_ ?_
 refine rT 4 (.bool (y58)) hE ?_
 exact ⟨_, rfl, D59, rfl, hS⟩
set_option maxRecDepth 100000 in
theorem inspeximuslaw17_alive.calls {K : Nat} {g w0 : World} {D0 : Snap} {r : (Bool)} (hf : inspeximuslaw17_alive.f K = some r) (hS0 : St g w0 D0 []) :
  CallsIn (Fw none) 0 Tryz.prog 4 (List.toArray []) w0 (fun e w' => ∃ v, e = .returned v ∧ ∃ D1, v = .bool (r) ∧ Stp g w0 D0 [] w' D1 []) := by
 unfold inspeximuslaw17_alive.f at hf
 have hS := Stp.refl hS0
 clear hS0
 refine calls_body (n := 64) Tryz.func4 rfl Tryz.ntmps4 rfl fun a hE => ?_
 have hE : Env a 64 [] [] := hE
 refine sq (ra ?_)
 refine sN 1 1 [(0, .bool false)] hE fun a hE => ?_
 refine ae ?_
 refine sq (ra ?_)
 refine at_op (op_tk hE (tk_build (c_T_api_Bundle ({ z_T_api_Bundle with fWhole := true }) none 0 none 0) rfl rfl rfl rfl hE rfl rfl (by kernel_rfl) (fun a hE => ?_))) rfl
 obtain ⟨r4, h3, hf⟩ := bs hf
 refine aC rfl rfl rfl rfl hE rfl rfl rfl rfl (bundle_Put.calls h3 (hS.st.fore (L := [])) (Sl.nil kd_T_api_Sig D0) (Sl.nil kd_T_api_Item D0)) fun a v w hR hE => ?_
 obtain ⟨D8, A9, c6, q1, rfl, hS1, h26⟩ := hR
 have le13 := hS1.dle
 have hS := hS.callR hS1 rfl (.c .n)
 refine sN 1 3 [(1, .slice A9 (List.length (r4)) c6)] hE fun a hE => ?_
 refine ae ?_
 refine sq (ra ?_)
 refine at_op (op_tk hE (tk_build (c_T_api_Sig ((T_api_Sig.mk ((1 : Int)) ((Vector.replicate 32 (0 : Int)))))) rfl rfl rfl rfl hE rfl rfl (by kernel_rfl) (fun a hE => ?_))) rfl
 refine at_op (op_buildSlice (K := kd_T_api_Sig) (e := 37) (cs := (c_T_api_Sig ((T_api_Sig.mk ((1 : Int)) ((Vector.replicate 32 (0 : Int)))))) ++ []) ([(T_api_Sig.mk ((1 : Int)) ((Vector.replicate 32 (0 : Int))))] : List T_api_Sig) rfl rfl rfl rfl hE rfl hS rfl (by kernel_rfl) rfl rfl (by exact ⟨_, _, rfl, (kd_T_api_Sig_mk (D := D8) (x := (T_api_Sig.mk ((1 : Int)) ((Vector.replicate 32 (0 : Int))))) rfl rfl), rfl⟩) (fun a A1 q2 w _ hE h4 hS => ?_)) rfl
 obtain ⟨D4, q3, le14, hS, h27, h5⟩ := hS.lent h4
 refine at_op (op_tk hE (tk_build (c_T_api_Point ((T_api_Point.mk ((5 : Int)) ((Vector.replicate 32 (0 : Int))) (([(T_api_Sig.mk ((1 : Int)) ((Vector.replicate 32 (0 : Int))))] : List T_api_Sig)))) A1 1) rfl rfl rfl rfl hE rfl rfl (by kernel_rfl) (fun a hE => ?_))) rfl
 refine at_op (op_tk hE (tk_build (c_T_api_Rec ({ z_T_api_Rec with fKind := (6 : Int), fEpoch := (1 : Int) }) none 0 none 0) rfl rfl rfl rfl hE rfl rfl (by kernel_rfl) (fun a hE => ?_))) rfl
 refine at_op (op_tk hE (tk_build (acells .u8 32 ((vofL 32 [(1 : Int), (0 : Int), (0 : Int), (0 : Int), (0 : Int), (0 : Int), (0 : Int), (0 : Int), (0 : Int), (0 : Int), (0 : Int), (0 : Int), (0 : Int), (0 : Int), (0 : Int), (0 : Int), (0 : Int), (0 : Int), (0 : Int), (0 : Int), (0 : Int), (0 : Int), (0 : Int), (0 : Int), (0 : Int), (0 : Int), (0 : Int), (0 : Int), (0 : Int), (0 : Int), (0 : Int), (0 : Int)]))) rfl rfl rfl rfl hE rfl rfl (by kernel_rfl) (fun a hE => ?_))) rfl
 refine at_op (op_buildSlice (K := (kdArr .u8 32)) (e := 23) (cs := acells .u8 32 ((vofL 32 [(1 : Int), (0 : Int), (0 : Int), (0 : Int), (0 : Int), (0 : Int), (0 : Int), (0 : Int), (0 : Int), (0 : Int), (0 : Int), (0 : Int), (0 : Int), (0 : Int), (0 : Int), (0 : Int), (0 : Int), (0 : Int), (0 : Int), (0 : Int), (0 : Int), (0 : Int), (0 : Int), (0 : Int), (0 : Int), (0 : Int), (0 : Int), (0 : Int), (0 : Int), (0 : Int), (0 : Int), (0 : Int)])) ++ []) ([(vofL 32 [(1 : Int), (0 : Int), (0 : Int), (0 : Int), (0 : Int), (0 : Int), (0 : Int), (0 : Int), (0 : Int), (0 : Int), (0 : Int), (0 : Int), (0 : Int), (0 : Int), (0 : Int), (0 : Int), (0 : Int), (0 : Int), (0 : Int), (0 : Int), (0 : Int), (0 : Int), (0 : Int), (0 : Int), (0 : Int), (0 : Int), (0 : Int), (0 : Int), (0 : Int), (0 : Int), (0 : Int), (0 : Int)])] : List (Vector Int 32)) rfl rfl rfl rfl hE rfl hS rfl (by kernel_rfl) rfl rfl (by exact ⟨_, _, rfl, rfl, rfl⟩) (fun a A8 q4 w _ hE h6 hS => ?_)) rfl
 obtain ⟨D6, q5, le6, hS, h28, h7⟩ := hS.lent h6
 refine at_op (op_tk hE (tk_build (c_T_api_Item ((T_api_Item.mk ((3 : Int)) ({ z_T_api_Rec with fKind := (6 : Int), fEpoch := (1 : Int) }) (([(vofL 32 [(1 : Int), (0 : Int), (0 : Int), (0 : Int), (0 : Int), (0 : Int), (0 : Int), (0 : Int), (0 : Int), (0 : Int), (0 : Int), (0 : Int), (0 : Int), (0 : Int), (0 : Int), (0 : Int), (0 : Int), (0 : Int), (0 : Int), (0 : Int), (0 : Int), (0 : Int), (0 : Int), (0 : Int), (0 : Int), (0 : Int), (0 : Int), (0 : Int), (0 : Int), (0 : Int), (0 : Int), (0 : Int)])] : List (Vector Int 32))))) none 0 none 0 A8 1) rfl rfl rfl rfl hE rfl rfl (by kernel_rfl) (fun a hE => ?_))) rfl
 refine at_op (op_buildSlice (K := kd_T_api_Item) (e := 43) (cs := (c_T_api_Item ((T_api_Item.mk ((3 : Int)) ({ z_T_api_Rec with fKind := (6 : Int), fEpoch := (1 : Int) }) (([(vofL 32 [(1 : Int), (0 : Int), (0 : Int), (0 : Int), (0 : Int), (0 : Int), (0 : Int), (0 : Int), (0 : Int), (0 : Int), (0 : Int), (0 : Int), (0 : Int), (0 : Int), (0 : Int), (0 : Int), (0 : Int), (0 : Int), (0 : Int), (0 : Int), (0 : Int), (0 : Int), (0 : Int), (0 : Int), (0 : Int), (0 : Int), (0 : Int), (0 : Int), (0 : Int), (0 : Int), (0 : Int), (0 : Int)])] : List (Vector Int 32))))) none 0 none 0 A8 1) ++ []) ([(T_api_Item.mk ((3 : Int)) ({ z_T_api_Rec with fKind := (6 : Int), fEpoch := (1 : Int) }) (([(vofL 32 [(1 : Int), (0 : Int), (0 : Int), (0 : Int), (0 : Int), (0 : Int), (0 : Int), (0 : Int), (0 : Int), (0 : Int), (0 : Int), (0 : Int), (0 : Int), (0 : Int), (0 : Int), (0 : Int), (0 : Int), (0 : Int), (0 : Int), (0 : Int), (0 : Int), (0 : Int), (0 : Int), (0 : Int), (0 : Int), (0 : Int), (0 : Int), (0 : Int), (0 : Int), (0 : Int), (0 : Int), (0 : Int)])] : List (Vector Int 32))))] : List T_api_Item) rfl rfl rfl rfl hE rfl hS rfl (by kernel_rfl) rfl rfl (by exact ⟨_, _, rfl, (kd_T_api_Item_mk (D := D6) (x := (T_api_Item.mk ((3 : Int)) ({ z_T_api_Rec with fKind := (6 : Int), fEpoch := (1 : Int) }) (([(vofL 32 [(1 : Int), (0 : Int), (0 : Int), (0 : Int), (0 : Int), (0 : Int), (0 : Int), (0 : Int), (0 : Int), (0 : Int), (0 : Int), (0 : Int), (0 : Int), (0 : Int), (0 : Int), (0 : Int), (0 : Int), (0 : Int), (0 : Int), (0 : Int), (0 : Int), (0 : Int), (0 : Int), (0 : Int), (0 : Int), (0 : Int), (0 : Int), (0 : Int), (0 : Int), (0 : Int), (0 : Int), (0 : Int)])] : List (Vector Int 32))))) rfl (kd_T_api_Rec_mk (D := D6) (x := { z_T_api_Rec with fKind := (6 : Int), fEpoch := (1 : Int) }) rfl rfl rfl rfl rfl rfl rfl rfl rfl rfl rfl (kslice ((Sl.nil kd_T_api_Step D4).mono le6)) (kslice ((Sl.nil (kdInt .u8) D4).mono le6)) rfl rfl rfl) (kslice h7)), rfl⟩) (fun a A2 q6 w _ hE h8 hS => ?_)) rfl
 obtain ⟨D9, q7, le10, hS, h29, h9⟩ := hS.lent h8
 refine at_op (op_tk hE (tk_build (c_T_api_Bundle ((T_api_Bundle.mk (false) ((T_api_Point.mk ((5 : Int)) ((Vector.replicate 32 (0 : Int))) (([(T_api_Sig.mk ((1 : Int)) ((Vector.replicate 32 (0 : Int))))] : List T_api_Sig)))) (([(T_api_Item.mk ((3 : Int)) ({ z_T_api_Rec with fKind := (6 : Int), fEpoch := (1 : Int) }) (([(vofL 32 [(1 : Int), (0 : Int), (0 : Int), (0 : Int), (0 : Int), (0 : Int), (0 : Int), (0 : Int), (0 : Int), (0 : Int), (0 : Int), (0 : Int), (0 : Int), (0 : Int), (0 : Int), (0 : Int), (0 : Int), (0 : Int), (0 : Int), (0 : Int), (0 : Int), (0 : Int), (0 : Int), (0 : Int), (0 : Int), (0 : Int), (0 : Int), (0 : Int), (0 : Int), (0 : Int), (0 : Int), (0 : Int)])] : List (Vector Int 32))))] : List T_api_Item)))) A1 1 A2 1) rfl rfl rfl rfl hE rfl rfl (by kernel_rfl) (fun a hE => ?_))) rfl
 refine at_op (op_alloc (z := .agg (List.toArray (c_T_api_Bundle (z_T_api_Bundle) none 0 none 0))) rfl rfl rfl rfl hE rfl hS (by kernel_rfl) (fun a b1 w _ hE hS => ?_)) rfl
 obtain ⟨v1, hv1, hf⟩ := bs hf
 replace hv1 := Option.some.inj hv1
 refine at_op (op_store (v := .agg (List.toArray (c_T_api_Bundle ((T_api_Bundle.mk (false) ((T_api_Point.mk ((5 : Int)) ((Vector.replicate 32 (0 : Int))) (([(T_api_Sig.mk ((1 : Int)) ((Vector.replicate 32 (0 : Int))))] : List T_api_Sig)))) (([(T_api_Item.mk ((3 : Int)) ({ z_T_api_Rec with fKind := (6 : Int), fEpoch := (1 : Int) }) (([(vofL 32 [(1 : Int), (0 : Int), (0 : Int), (0 : Int), (0 : Int), (0 : Int), (0 : Int), (0 : Int), (0 : Int), (0 : Int), (0 : Int), (0 : Int), (0 : Int), (0 : Int), (0 : Int), (0 : Int), (0 : Int), (0 : Int), (0 : Int), (0 : Int), (0 : Int), (0 : Int), (0 : Int), (0 : Int), (0 : Int), (0 : Int), (0 : Int), (0 : Int), (0 : Int), (0 : Int), (0 : Int), (0 : Int)])] : List (Vector Int 32))))] : List T_api_Item)))) A1 1 A2 1))) (c_T_api_Bundle (v1) A1 1 A2 1) rfl rfl rfl rfl hE hS rfl rfl (by kernel_rfl) (by kernel_rfl) (by kernel_rfl) (by kernel_rfl) (by rw [← hv1]; kernel_rfl) (fun a w _ hE hS => ?_)) rfl
 have h1 : Sl kd_T_api_Sig D4 A1 1 (v1.fPoint.fSigs) := by rw [← hv1]; exact h5
 have h2 : Sl kd_T_api_Item D9 A2 1 (v1.fItems) := by rw [← hv1]; exact h9
 refine ae ?_
 refine sq (ra ?_)
 refine sM 1 1 [0] [(19, .agg (List.toArray (c_T_api_Bundle (v1) A1 1 A2 1)))] hE hS fun a hE => ?_
 have hS := hS.p (.d 0 (.d 4 .n))
 obtain ⟨r3, h10, hf⟩ := bs hf
 refine aC rfl rfl rfl rfl hE rfl rfl rfl rfl (bundle_Put.calls h10 (hS.st.fore (L := [])) (h1.mono (le2 le6 le10)) h2) fun a v w hR hE => ?_
 obtain ⟨D11, A5, c3, q8, rfl, hS1, h11⟩ := hR
 have le8 := hS1.dle
 have hS := hS.callR hS1 rfl (.c .n)
 refine sN 1 3 [(3, .slice A5 (List.length (r3)) c3)] hE fun a hE => ?_
 refine ae ?_
 refine sq (ra ?_)
 refine sN 1 1 [(22, .slice A5 (List.length (r3)) c3)] hE fun a hE => ?_
 obtain ⟨D12, q9, le9, hS, h12, h13⟩ := hS.lent h11
 obtain ⟨r1, h14, hf⟩ := bs hf
 refine aC rfl rfl rfl rfl hE rfl rfl rfl rfl (bundle_Get.calls h14 (hS.st.fore (L := [])) h13) fun a v w hR hE => ?_
 obtain ⟨D13, A3, c1, A4, c2, rfl, hS1, h15, h16⟩ := hR
 have le7 := hS1.dle
 have hS := hS.callR hS1 rfl .n
 refine sN 3 5 [(24, .agg (List.toArray (c_T_api_Bundle (r1.1) A3 c1 A4 c2))), (25, .int .i64 (r1.2))] hE fun a hE => ?_
 refine at_op (op_alloc (z := .agg (List.toArray (c_T_api_Bundle (z_T_api_Bundle) none 0 none 0))) rfl rfl rfl rfl hE rfl hS (by kernel_rfl) (fun a b2 w _ hE hS => ?_)) rfl
 refine at_op (op_store (v := .agg (List.toArray (c_T_api_Bundle (r1.1) A3 c1 A4 c2))) (c_T_api_Bundle (r1.1) A3 c1 A4 c2) rfl rfl rfl rfl hE hS rfl rfl (by kernel_rfl) (by kernel_rfl) (by kernel_rfl) (by kernel_rfl) (by kernel_rfl) (fun a w _ hE hS => ?_)) rfl
 refine sN 1 8 [(5, .int .i64 (r1.2))] hE fun a hE => ?_
 refine ae ?_
 refine sq (ra ?_)
 refine sN 1 1 [(27, .slice A5 (List.length (r3)) c3)] hE fun a hE => ?_
 refine at_op (op_buildSlice (K := (kdInt .u8)) (e := 5) (cs := [.int .u8 ((0 : Int))] ++ []) ([(0 : Int)] : List Int) rfl rfl rfl rfl hE rfl hS rfl (by kernel_rfl) rfl rfl (by exact ⟨_, _, rfl, rfl, rfl⟩) (fun a A10 q10 w _ hE h17 hS => ?_)) rfl
 obtain ⟨D14, q11, le1, hS, h30, h18⟩ := hS.lent h17
 have hS := hS.p (.d 2 (.d 0 (.d 1 (.d 3 (.d 4 .n)))))
 obtain ⟨l1, h19, hf⟩ := bs hf
 refine at_op (g_append (K := (kdInt .u8)) (e := 5) (bytes := 1) (l := r3) (m := ([(0 : Int)] : List Int)) rfl rfl rfl rfl hE rfl hS rfl rfl (by kernel_rfl) rfl rfl (h12.mono (le2 le7 le1)) h18 h19 (fun a A11 c7 q12 w _ hE h20 hS => ?_)) rfl
 obtain ⟨D15, q13, le3, hS, h31, h21⟩ := hS.lent h20
 obtain ⟨r2, h22, hf⟩ := bs hf
 refine aC rfl rfl rfl rfl hE rfl rfl rfl rfl (bundle_Get.calls h22 (hS.st.fore (L := [])) h21) fun a v w hR hE => ?_
 obtain ⟨D2, A6, c4, A7, c5, rfl, hS1, h32, h33⟩ := hR
 have le4 := hS1.dle
 have hS := hS.callR hS1 rfl .n
 refine sN 3 7 [(31, .agg (List.toArray (c_T_api_Bundle (r2.1) A6 c4 A7 c5))), (32, .int .i64 (r2.2))] hE fun a hE => ?_
 refine at_op (op_alloc (z := .agg (List.toArray (c_T_api_Bundle (z_T_api_Bundle) none 0 none 0))) rfl rfl rfl rfl hE rfl hS (by kernel_rfl) (fun a b3 w _ hE hS => ?_)) rfl
 refine at_op (op_store (v := .agg (List.toArray (c_T_api_Bundle (r2.1) A6 c4 A7 c5))) (c_T_api_Bundle (r2.1) A6 c4 A7 c5) rfl rfl rfl rfl hE hS rfl rfl (by kernel_rfl) (by kernel_rfl) (by kernel_rfl) (by kernel_rfl) (by kernel_rfl) (fun a w _ hE hS => ?_)) rfl
 refine sN 1 10 [(7, .int .i64 (r2.2))] hE fun a hE => ?_
 refine ae ?_
 obtain ⟨j1, hj1, hf⟩ := jn_elim hf
 refine seq_join (fun a w => ∃ (y1 : Bool), ∃ D3, Env a 64 [] [(0, .bool (y1))] ∧ Stp g w0 D0 [] w D3 [] ∧ Snap.le D2 D3 ∧ j1 y1 = some r) ?_ ?_
 ·clear hj1
  refine ra ?_
  refine sN 4 4 [(36, .bool ((decide (((List.length (r4) : Nat) : Int) = (39 : Int)))))] hE fun a hE => ?_
  refine bo ((decide (((List.length (r4) : Nat) : Int) = (39 : Int)))) (fun hb => ?_) fun hb => ?_
  ·replace hf := cf hb hf
   have hE := hE.know (t := 36) rfl hb
   refine sN 28 32 [(0, .bool false)] hE fun a hE => ?_
   refine ae ?_
   have hS := hS.p .n
   exact ⟨false, D2, hE.wk, hS, lr, hf⟩
  replace hf := ct hb hf
  have hE := hE.know (t := 36) rfl hb
  refine sN 4 8 [(40, .bool ((decide (r1.2 = (0 : Int)))))] hE fun a hE => ?_
  refine bo ((decide (r1.2 = (0 : Int)))) (fun hb => ?_) fun hb => ?_
  ·replace hf := cf hb hf
   have hE := hE.know (t := 40) rfl hb
   refine sN 24 32 [(0, .bool false)] hE fun a hE => ?_
   refine ae ?_
   have hS := hS.p .n
   exact ⟨false, D2, hE.wk, hS, lr, hf⟩
  replace hf := ct hb hf
  have hE := hE.know (t := 40) rfl hb
  refine sN 4 12 [(44, .bool ((decide (r2.2 = (2 : Int)))))] hE fun a hE => ?_
  refine bo ((decide (r2.2 = (2 : Int)))) (fun hb => ?_) fun hb => ?_
  ·replace hf := cf hb hf
   have hE := hE.know (t := 44) rfl hb
   refine sN 20 32 [(0, .bool false)] hE fun a hE => ?_
   refine ae ?_
   have hS := hS.p .n
   exact ⟨false, D2, hE.wk, hS, lr, hf⟩
  replace hf := ct hb hf
  have hE := hE.know (t := 44) rfl hb
  refine sM 2 14 [4, 3] [(45, .agg (List.toArray (c_T_api_Bundle (v1) A1 1 A2 1))), (46, .agg (List.toArray (c_T_api_Bundle (r1.1) A3 c1 A4 c2)))] hE hS fun a hE => ?_
  have hS := hS.p (.d 0 (.d 3 (.d 4 (.d 5 .n))))
  obtain ⟨r5, h23, hf⟩ := bs hf
  refine aC rfl rfl rfl rfl hE rfl rfl rfl rfl (bundle_Same.calls h23 (hS.st.fore (L := [])) (h1.mono (le2 (le2 (le2 (le2 (le2 (le2 (le2 le6 le10) le8) le9) le7) le1) le3) le4)) (h2.mono (le2 (le2 (le2 (le2 (le2 le8 le9) le7) le1) le3) le4)) (h15.mono (le2 (le2 le1 le3) le4)) (h16.mono (le2 (le2 le1 le3) le4))) fun a v w hR hE => ?_
  obtain ⟨D10, rfl, hS1⟩ := hR
  have le5 := hS1.dle
  have hS := hS.callR hS1 rfl .n
  refine sN 2 17 [(49, .bool (r5))] hE fun a hE => ?_
  refine bo (r5) (fun hb => ?_) fun hb => ?_
  ·replace hf := cf hb hf
   have hE := hE.know (t := 49) rfl hb
   refine sN 15 32 [(0, .bool false)] hE fun a hE => ?_
   refine ae ?_
   have hS := hS.p .n
   exact ⟨false, D10, hE.wk, hS, le5, hf⟩
  replace hf := ct hb hf
  have hE := hE.know (t := 49) rfl hb
  refine sM 1 18 [2] [(50, .agg (List.toArray (c_T_api_Bundle (v1) A1 1 A2 1)))] hE hS fun a hE => ?_
  obtain ⟨r6, h24, hf⟩ := bs hf
  refine aC rfl rfl rfl rfl hE rfl rfl rfl rfl (bundle_Right.calls h24 (hS.st.fore (L := [])) (h1.mono (le2 (le2 (le2 (le2 (le2 (le2 (le2 (le2 le6 le10) le8) le9) le7) le1) le3) le4) le5)) (h2.mono (le2 (le2 (le2 (le2 (le2 (le2 le8 le9) le7) le1) le3) le4) le5))) fun a v w hR hE => ?_
  obtain ⟨D5, rfl, hS1⟩ := hR
  have le11 := hS1.dle
  have hS := hS.callR hS1 rfl .n
  refine sN 2 21 [(53, .bool (r6))] hE fun a hE => ?_
  refine bo (r6) (fun hb => ?_) fun hb => ?_
  ·replace hf := cf hb hf
   have hE := hE.know (t := 53) rfl hb
   refine sN 11 32 [(0, .bool false)] hE fun a hE => ?_
   refine ae ?_
   have hS := hS.p .n
   exact ⟨false, D5, hE.wk, hS, (le2 le5 le11), hf⟩
  replace hf := ct hb hf
  have hE := hE.know (t := 53) rfl hb
  refine at_op (op_tk hE (tk_build (c_T_api_Point ({ z_T_api_Point with fSize := (1 : Int) }) none 0) rfl rfl rfl rfl hE rfl rfl (by kernel_rfl) (fun a hE => ?_))) rfl
  refine at_op (op_tk hE (tk_build (c_T_api_Bundle ((T_api_Bundle.mk (true) ({ z_T_api_Point with fSize := (1 : Int) }) (([] : List T_api_Item)))) none 0 none 0) rfl rfl rfl rfl hE rfl rfl (by kernel_rfl) (fun a hE => ?_))) rfl
  obtain ⟨r7, h25, hf⟩ := bs hf
  refine aC rfl rfl rfl rfl hE rfl rfl rfl rfl (bundle_Right.calls h25 (hS.st.fore (L := [])) (Sl.nil kd_T_api_Sig D5) (Sl.nil kd_T_api_Item D5)) fun a v w hR hE => ?_
  obtain ⟨D7, rfl, hS1⟩ := hR
  have le12 := hS1.dle
  have hS := hS.callR hS1 rfl .n
  refine sN 3 27 [(59, .bool ((!r7)))] hE fun a hE => ?_
  refine bo ((!r7)) (fun hb => ?_) fun hb => ?_
  ·replace hf := cf hb hf
   have hE := hE.know (t := 59) rfl hb
   refine sN 5 32 [(0, .bool false)] hE fun a hE => ?_
   refine ae ?_
   have hS := hS.p .n
   exact ⟨false, D7, hE.wk, hS, (le2 (le2 le5 le11) le12), hf⟩
  replace hf := ct hb hf
  have hE := hE.know (t := 59) rfl hb
  refine sN 5 32 [(0, .bool ((decide (((List.length (r3) : Nat) : Int) = (110 : Int)))))] hE fun a hE => ?_
  refine ae ?_
  have hS := hS.p .n
  exact ⟨(decide (((List.length (r3) : Nat) : Int) = (110 : Int))), D7, hE.wk, hS, (le2 (le2 le5 le11) le12), hf⟩
 clear hE hS
 rintro a w ⟨y1, D3, hE, hS, le15, hf⟩
 replace hf := hj1 _ hf
 clear hj1
 refine wpIn_ret ?_
 obtain rfl := si hf
 refine ret_ ?_
 refine rT 0 (.bool (y1)) hE ?_
 exact ⟨_, rfl, D3, rfl, hS⟩
set_option maxRecDepth 100000 in
theorem inspeximusref04_Great.calls {K : Nat} {g w0 : World} {D0 : Snap} {x1 : T_api_Rec} {A2 : Option Addr} {c3 : Nat} {A5 : Option Addr} {c6 : Nat} {r : (Bool)} (hf : inspeximusref04_Great.f K x1 = some r) (hS0 : St g w0 D0 []) (h4 : Sl kd_T_api_Step D0 A2 c3 (x1.fSteps)) (h7 : Sl (kdInt .u8) D0 A5 c6 (x1.fData)) :
  CallsIn (Fw none) 0 Tryz.prog 14 (List.toArray [.agg (List.toArray (c_T_api_Rec (x1) A2 c3 A5 c6))]) w0 (fun e w' => ∃ v, e = .returned v ∧ ∃ D1, v = .bool (r) ∧ Stp g w0 D0 [] w' D1 []) := by
 unfold inspeximusref04_Great.f at hf
 have hS := Stp.refl hS0
 clear hS0
 refine calls_body (n := 13) Tryz.func14 rfl Tryz.ntmps14 rfl fun a hE => ?_
 have hE : Env a 13 [] [(0, .agg (List.toArray (c_T_api_Rec (x1) A2 c3 A5 c6)))] := hE
 refine sq (ra ?_)
 refine at_op (op_box rfl rfl rfl rfl hE rfl hS rfl (fun a b10 w _ hE hS => ?_)) rfl
 refine sN 1 2 [(2, .bool false)] hE fun a hE => ?_
 refine ae ?_
 refine sq (ra ?_)
 refine sM 5 5 [0] [(7, .bool ((decide ((30 : Int) < ((List.length (x1.fSteps) : Nat) : Int)))))] hE hS fun a hE => ?_
 refine bo ((decide ((30 : Int) < ((List.length (x1.fSteps) : Nat) : Int)))) (fun hb => ?_) fun hb => ?_
 ·replace hf := cf hb hf
  have hE := hE.know (t := 7) rfl hb
  refine sM 6 11 [0] [(2, .bool ((decide ((300 : Int) < ((List.length (x1.fData) : Nat) : Int)))))] hE hS fun a hE => ?_
  refine ae ?_
  refine wpIn_ret ?_
  obtain rfl := si hf
  refine ret_ ?_
  refine rT 2 (.bool ((decide ((300 : Int) < ((List.length (x1.fData) : Nat) : Int))))) hE ?_
  have hS := hS.p .n
  exact ⟨_, rfl, D0, rfl, hS⟩
 replace hf := ct hb hf
 have hE := hE.know (t := 7) rfl hb
 refine sN 6 11 [(2, .bool true)] hE fun a hE => ?_
 refine ae ?_
 refine wpIn_ret ?_
 obtain rfl := si hf
 refine ret_ ?_
 refine rT 2 (.bool true) hE ?_
 have hS := hS.p .n
 exact ⟨_, rfl, D0, rfl, hS⟩
set_option maxRecDepth 100000 in
theorem inspeximusref17_Great.calls {K : Nat} {g w0 : World} {D0 : Snap} {x1 : T_api_Bundle} {A2 : Option Addr} {c3 : Nat} {A5 : Option Addr} {c6 : Nat} {r : (Bool)} (hf : inspeximusref17_Great.f K x1 = some r) (hS0 : St g w0 D0 []) (h4 : Sl kd_T_api_Sig D0 A2 c3 (x1.fPoint.fSigs)) (h7 : Sl kd_T_api_Item D0 A5 c6 (x1.fItems)) :
  CallsIn (Fw none) 0 Tryz.prog 5 (List.toArray [.agg (List.toArray (c_T_api_Bundle (x1) A2 c3 A5 c6))]) w0 (fun e w' => ∃ v, e = .returned v ∧ ∃ D1, v = .bool (r) ∧ Stp g w0 D0 [] w' D1 []) := by
 unfold inspeximusref17_Great.f at hf
 have hS := Stp.refl hS0
 clear hS0
 refine calls_body (n := 39) Tryz.func5 rfl Tryz.ntmps5 rfl fun a hE => ?_
 have hE : Env a 39 [] [(0, .agg (List.toArray (c_T_api_Bundle (x1) A2 c3 A5 c6)))] := hE
 refine sq (ra ?_)
 refine at_op (op_box rfl rfl rfl rfl hE rfl hS rfl (fun a b1 w _ hE hS => ?_)) rfl
 refine sN 1 2 [(2, .bool false)] hE fun a hE => ?_
 refine ae ?_
 refine sq ?_
 obtain ⟨j1, hj1, hf⟩ := jn_elim hf
 refine seq_join (fun a w => ∃ (y2 : Bool), ∃ D2, Env a 39 [] [(1, .pointer (some ⟨b1, 0, none⟩)), (14, .bool (y2))] ∧ Stp g w0 D0 [] w D2 [bx b1 29 (c_T_api_Bundle (x1) A2 c3 A5 c6)] ∧ Snap.le D0 D2 ∧ j1 y2 = some r) ?_ ?_
 ·clear hj1
  refine ra ?_
  refine sM 5 5 [0] [(8, .bool ((decide ((60 : Int) < ((List.length (x1.fItems) : Nat) : Int)))))] hE hS fun a hE => ?_
  refine bo ((decide ((60 : Int) < ((List.length (x1.fItems) : Nat) : Int)))) (fun hb => ?_) fun hb => ?_
  ·replace hf := cf hb hf
   have hE := hE.know (t := 8) rfl hb
   refine sM 6 11 [0] [(14, .bool ((decide ((20 : Int) < ((List.length (x1.fPoint.fSigs) : Nat) : Int)))))] hE hS fun a hE => ?_
   exact ae ⟨(decide ((20 : Int) < ((List.length (x1.fPoint.fSigs) : Nat) : Int))), D0, hE.wk, hS, lr, hf⟩
  replace hf := ct hb hf
  have hE := hE.know (t := 8) rfl hb
  refine sN 6 11 [(14, .bool true)] hE fun a hE => ?_
  exact ae ⟨true, D0, hE.wk, hS, lr, hf⟩
 clear hE hS
 rintro a w ⟨y2, D2, hE, hS, le4, hf⟩
 replace hf := hj1 _ hf
 clear hj1
 refine cond_split hE (b := y2) rfl (fun hb => ?_) (fun hb => ?_)
 ·replace hf := ct hb hf
  refine sq (ra ?_)
  refine sN 1 1 [(2, .bool true)] hE fun a hE => ?_
  refine ae ?_
  refine wpIn_ret ?_
  obtain rfl := si hf
  refine ret_ ?_
  refine rT 2 (.bool true) hE ?_
  have hS := hS.p .n
  exact ⟨_, rfl, D2, rfl, hS⟩
 replace hf := cf hb hf
 refine wpIn_skip ?_
 refine sq (sq (ra ?_))
 refine sN 1 1 [(3, .int .i64 ((0 : Int)))] hE fun a hE => ?_
 refine ae ?_
 obtain ⟨s1, hf, hs1⟩ := bs hf
 refine block_loop (fun a w => ∃ (z1 : Unit), ∃ D5, Env a 39 [] [] ∧ Stp g w0 D0 [] w D5 [] ∧ Snap.le D2 D5 ∧ (Sum.inr z1) = s1) (fun k a w => ∃ (y1 : Int), ∃ D3, Env a 39 [] [(1, .pointer (some ⟨b1, 0, none⟩)), (3, .int .i64 (y1))] ∧ Stp g w0 D0 [] w D3 [bx b1 29 (c_T_api_Bundle (x1) A2 c3 A5 c6)] ∧ Snap.le D2 D3 ∧ inspeximusref17_Great_l1.l K x1 k y1 = some s1) K ?_ ?_ ?_
 ·exact ⟨(0 : Int), D2, hE.wk, hS, lr, hf⟩
 ·clear hE hS hf
  rintro a w ⟨z1, D5, hE, hS, le6, rfl⟩
  have hf := hs1
  clear hs1
  refine sq (ra ?_)
  refine sN 1 1 [(2, .bool false)] hE fun a hE => ?_
  refine ae ?_
  refine wpIn_ret ?_
  obtain rfl := si hf
  refine ret_ ?_
  refine rT 2 (.bool false) hE ?_
  exact ⟨_, rfl, D5, rfl, hS⟩
 clear hE hS hf
 rintro k a w ⟨y1, D3, hE, hS, le1, hf⟩
 obtain ⟨k, rfl, hf⟩ := inspeximusref17_Great_l1.some _ hf
 refine ⟨k, rfl, ?_⟩
 unfold inspeximusref17_Great_l1.b at hf
 refine sq (sq (ra ?_))
 refine sM 5 5 [0] [(19, .bool ((decide (y1 < ((List.length (x1.fItems) : Nat) : Int)))))] hE hS fun a hE => ?_
 refine ae ?_
 refine cond_split hE (b := (decide (y1 < ((List.length (x1.fItems) : Nat) : Int)))) rfl (fun hb => ?_) (fun hb => ?_)
 ·replace hf := ct hb hf
  refine wpIn_skip ?_
  refine sq ?_
  refine wpIn_block ?_
  obtain ⟨j2, hj2, hf⟩ := jn_elim hf
  refine seq_join (fun a w => ∃ (y3 : Bool), ∃ D4, Env a 39 [] [(1, .pointer (some ⟨b1, 0, none⟩)), (3, .int .i64 (y1)), (38, .bool (y3))] ∧ Stp g w0 D0 [] w D4 [bx b1 29 (c_T_api_Bundle (x1) A2 c3 A5 c6)] ∧ Snap.le D3 D4 ∧ j2 y3 = some s1) ?_ ?_
  ·clear hj2
   refine ra ?_
   refine sM 3 3 [0] [(23, .slice A5 (List.length (x1.fItems)) c6), (24, .int .i64 (y1))] hE hS fun a hE => ?_
   obtain ⟨x3, h1, hf⟩ := bs hf
   refine at_op (op_tk hE (g_index (K := kd_T_api_Item) (e := 43) (by_ := 256) (zl := 111) rfl rfl rfl rfl hE rfl rfl rfl (by kernel_rfl) rfl (h7.mono (le2 le4 le1)) h1 (fun a b2 o1 hE h2 => ?_))) rfl
   refine at_op (op_tk hE (g_fieldAddr (fo := 1) (ft := 40) (o1 + 1) rfl rfl rfl rfl hE rfl rfl (by kernel_rfl) rfl (fun a hE => ?_))) rfl
   obtain ⟨cs1, C1, T1, fr1, hr1, hb1, hc1⟩ := id h2
   obtain ⟨A1, c1, A3, c2, A6, c5, rfl, h3, h5, h10⟩ := kd_T_api_Item_el hr1
   refine at_op (op_tk hE (tk_loadX (off0 := o1) (off := 1) (c := c_T_api_Item (x3) A1 c1 A3 c2 A6 c5) (.agg (List.toArray (c_T_api_Rec (x3.fRec) A1 c1 A3 c2))) rfl rfl rfl rfl hE rfl hS rfl hb1 hc1 (by kernel_rfl) (by kernel_rfl) (kD hS dn_nil) (fun a hE => ?_))) rfl
   obtain ⟨r1, h6, hf⟩ := bs hf
   refine aC rfl rfl rfl rfl hE rfl rfl rfl rfl (inspeximusref04_Great.calls h6 (hS.st.fore (L := [])) h3 h5) fun a v w hR hE => ?_
   obtain ⟨D6, rfl, hS1⟩ := hR
   have le3 := hS1.dle
   have hS := hS.callR hS1 rfl .n
   refine sN 1 8 [(29, .bool (r1))] hE fun a hE => ?_
   refine bo (r1) (fun hb => ?_) fun hb => ?_
   ·replace hf := cf hb hf
    have hE := hE.know (t := 29) rfl hb
    refine sM 3 11 [0] [(31, .slice A5 (List.length (x1.fItems)) c6), (32, .int .i64 (y1))] hE hS fun a hE => ?_
    obtain ⟨x2, h8, hf⟩ := bs hf
    refine at_op (op_tk hE (g_index (K := kd_T_api_Item) (e := 43) (by_ := 256) (zl := 111) rfl rfl rfl rfl hE rfl rfl rfl (by kernel_rfl) rfl (h7.mono (le2 (le2 le4 le1) le3)) h8 (fun a b3 o2 hE h9 => ?_))) rfl
    refine at_op (op_tk hE (g_fieldAddr (fo := 110) (ft := 41) (o2 + 110) rfl rfl rfl rfl hE rfl rfl (by kernel_rfl) rfl (fun a hE => ?_))) rfl
    obtain ⟨cs2, C2, T2, fr2, hr2, hb2, hc2⟩ := id h9
    obtain ⟨A7, c7, A8, c8, A4, c4, rfl, h11, h12, h13⟩ := kd_T_api_Item_el hr2
    refine at_op (op_tk hE (tk_loadX (off0 := o2) (off := 110) (c := c_T_api_Item (x2) A7 c7 A8 c8 A4 c4) (.slice A4 (List.length (x2.fPath)) c4) rfl rfl rfl rfl hE rfl hS rfl hb2 hc2 (by kernel_rfl) (by kernel_rfl) (kD hS dn_nil) (fun a hE => ?_))) rfl
    refine sN 3 17 [(38, .bool ((decide ((40 : Int) < ((List.length (x2.fPath) : Nat) : Int)))))] hE fun a hE => ?_
    exact ae ⟨(decide ((40 : Int) < ((List.length (x2.fPath) : Nat) : Int))), D6, hE.wk, hS, le3, hf⟩
   replace hf := ct hb hf
   have hE := hE.know (t := 29) rfl hb
   refine sN 9 17 [(38, .bool true)] hE fun a hE => ?_
   exact ae ⟨true, D6, hE.wk, hS, le3, hf⟩
  clear hE hS
  rintro a w ⟨y3, D4, hE, hS, le5, hf⟩
  replace hf := hj2 _ hf
  clear hj2
  refine cond_split hE (b := y3) rfl (fun hb => ?_) (fun hb => ?_)
  ·replace hf := ct hb hf
   refine sq (ra ?_)
   refine sN 1 1 [(2, .bool true)] hE fun a hE => ?_
   refine ae ?_
   refine wpIn_ret ?_
   obtain rfl := si hf
   replace hf := hs1
   obtain rfl := si hf
   refine ret_ ?_
   refine rT 2 (.bool true) hE ?_
   have hS := hS.p .n
   exact ⟨_, rfl, D4, rfl, hS⟩
  replace hf := cf hb hf
  refine wpIn_skip ?_
  refine ra ?_
  refine sN 3 3 [(3, .int .i64 ((IntKind.wrap .i64 (y1 + (1 : Int)))))] hE fun a hE => ?_
  exact ae ⟨(IntKind.wrap .i64 (y1 + (1 : Int))), D4, hE.wk, hS, (le2 le1 le5), hf⟩
 replace hf := cf hb hf
 refine wpIn_exit ?_
 obtain rfl := si hf
 have hS := hS.p .n
 exact ⟨(), D3, hE.wk, hS, le1, rfl⟩
set_option maxRecDepth 100000 in
theorem inspeximusref04_in.calls {K : Nat} {g w0 : World} {D0 : Snap} {x1 : Int} {x2 : Int} {x3 : Int} {r : (Bool)} (hf : inspeximusref04_in.f K x1 x2 x3 = some r) (hS0 : St g w0 D0 []) :
  CallsIn (Fw none) 0 Tryz.prog 57 (List.toArray [.int .i64 (x1), .int .i64 (x2), .int .i64 (x3)]) w0 (fun e w' => ∃ v, e = .returned v ∧ ∃ D1, v = .bool (r) ∧ Stp g w0 D0 [] w' D1 []) := by
 unfold inspeximusref04_in.f at hf
 have hS := Stp.refl hS0
 clear hS0
 refine calls_body (n := 15) Tryz.func57 rfl Tryz.ntmps57 rfl fun a hE => ?_
 have hE : Env a 15 [] [(0, .int .i64 (x1)), (1, .int .i64 (x2)), (2, .int .i64 (x3))] := hE
 refine sq (ra ?_)
 refine sN 1 1 [(6, .bool false)] hE fun a hE => ?_
 refine ae ?_
 refine sq (ra ?_)
 refine sN 4 4 [(10, .bool ((decide (x2 ≤ x1))))] hE fun a hE => ?_
 refine bo ((decide (x2 ≤ x1))) (fun hb => ?_) fun hb => ?_
 ·replace hf := cf hb hf
  have hE := hE.know (t := 10) rfl hb
  refine sN 5 9 [(6, .bool false)] hE fun a hE => ?_
  refine ae ?_
  refine wpIn_ret ?_
  obtain rfl := si hf
  refine ret_ ?_
  refine rT 6 (.bool false) hE ?_
  exact ⟨_, rfl, D0, rfl, hS⟩
 replace hf := ct hb hf
 have hE := hE.know (t := 10) rfl hb
 refine sN 5 9 [(6, .bool ((decide (x1 ≤ x3))))] hE fun a hE => ?_
 refine ae ?_
 refine wpIn_ret ?_
 obtain rfl := si hf
 refine ret_ ?_
 refine rT 6 (.bool ((decide (x1 ≤ x3)))) hE ?_
 exact ⟨_, rfl, D0, rfl, hS⟩
end Go.Proofs.YtjgaokcplofimaaGreatDoor
