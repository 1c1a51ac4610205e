/-
  Data and plain functions, printed by a program: what the functions of the cut compute (fuel K; none: a panic, or the fuel is spent).
  Conditions: none; nothing is claimed here.
-/
import Derived.Test.YtnnhkfmknlfpbaaSepM
set_option linter.unusedVariables false
namespace Go.Proofs.Ytnnhkfmknlfpbaa
open Go Go.Sep

structure T_api_Sig where
  fWit : Int
  fTag : (Vector Int 32)
  deriving DecidableEq

@[reducible] def z_T_api_Sig : T_api_Sig := ⟨(0 : Int), (Vector.replicate 32 (0 : Int))⟩

@[reducible] def c_T_api_Sig (x : T_api_Sig) : List Value :=
  [.int .i64 (x.fWit)] ++ (acells .u8 32 (x.fTag))

@[reducible] def kd_T_api_Sig : Kd T_api_Sig := kdMap (fun x => (x.fWit, x.fTag)) (kdPair (kdInt .i64) (kdArr .u8 32))

theorem kd_T_api_Sig_mk {D : Snap} {x : T_api_Sig} {ce0 ce1 : List Value} (he0 : (kdInt .i64).r D x.fWit ce0) (he1 : (kdArr .u8 32).r D x.fTag ce1) : kd_T_api_Sig.r D x (ce0 ++ (ce1)) := ⟨_, _, rfl, he0, he1⟩

theorem kd_T_api_Sig_el {D : Snap} {x : T_api_Sig} {cs : List Value} (h : kd_T_api_Sig.r D x cs) : cs = c_T_api_Sig ((T_api_Sig.mk (x.fWit) (x.fTag))) := by
  obtain ⟨c0, d0, rfl, he0, he1⟩ := h
  obtain rfl := he0
  obtain rfl := he1
  rfl

structure T_api_Step where
  fPart : Int
  fKind : Int
  deriving DecidableEq

@[reducible] def z_T_api_Step : T_api_Step := ⟨(0 : Int), (0 : Int)⟩

@[reducible] def c_T_api_Step (x : T_api_Step) : List Value :=
  [.int .i64 (x.fPart)] ++ ([.int .i64 (x.fKind)])

@[reducible] def kd_T_api_Step : Kd T_api_Step := kdMap (fun x => (x.fPart, x.fKind)) (kdPair (kdInt .i64) (kdInt .i64))

theorem kd_T_api_Step_mk {D : Snap} {x : T_api_Step} {ce0 ce1 : List Value} (he0 : (kdInt .i64).r D x.fPart ce0) (he1 : (kdInt .i64).r D x.fKind ce1) : kd_T_api_Step.r D x (ce0 ++ (ce1)) := ⟨_, _, rfl, he0, he1⟩

theorem kd_T_api_Step_el {D : Snap} {x : T_api_Step} {cs : List Value} (h : kd_T_api_Step.r D x cs) : cs = c_T_api_Step ((T_api_Step.mk (x.fPart) (x.fKind))) := by
  obtain ⟨c0, d0, rfl, he0, he1⟩ := h
  obtain rfl := he0
  obtain rfl := he1
  rfl

structure T_api_Rec where
  fKind : Int
  fSaga : Int
  fSeq : Int
  fStep : Int
  fTry : Int
  fBack : Bool
  fGood : Bool
  fEnd : Int
  fPart : Int
  fEpoch : Int
  fTag : (Vector Int 32)
  fSteps : (List T_api_Step)
  fData : (List Int)
  fSalt : (Vector Int 32)
  fGone : Bool
  fCom : (Vector Int 32)
  deriving DecidableEq

@[reducible] def z_T_api_Rec : T_api_Rec := ⟨(0 : Int), (0 : Int), (0 : Int), (0 : Int), (0 : Int), false, false, (0 : Int), (0 : Int), (0 : Int), (Vector.replicate 32 (0 : Int)), ([] : List T_api_Step), ([] : List Int), (Vector.replicate 32 (0 : Int)), false, (Vector.replicate 32 (0 : Int))⟩

@[reducible] def c_T_api_Rec (x : T_api_Rec) (A1 : Option Addr) (c2 : Nat) (A4 : Option Addr) (c5 : Nat) : List Value :=
  [.int .i64 (x.fKind)] ++ ([.int .i64 (x.fSaga)] ++ ([.int .i64 (x.fSeq)] ++ ([.int .i64 (x.fStep)] ++ ([.int .i64 (x.fTry)] ++ ([.bool (x.fBack)] ++ ([.bool (x.fGood)] ++ ([.int .i64 (x.fEnd)] ++ ([.int .i64 (x.fPart)] ++ ([.int .i64 (x.fEpoch)] ++ (acells .u8 32 (x.fTag) ++ ([.slice A1 (List.length (x.fSteps)) c2] ++ ([.slice A4 (List.length (x.fData)) c5] ++ (acells .u8 32 (x.fSalt) ++ ([.bool (x.fGone)] ++ (acells .u8 32 (x.fCom))))))))))))))))

@[reducible] def kd_T_api_Rec : Kd T_api_Rec := kdMap (fun x => (x.fKind, x.fSaga, x.fSeq, x.fStep, x.fTry, x.fBack, x.fGood, x.fEnd, x.fPart, x.fEpoch, x.fTag, x.fSteps, x.fData, x.fSalt, x.fGone, x.fCom)) (kdPair (kdInt .i64) (kdPair (kdInt .i64) (kdPair (kdInt .i64) (kdPair (kdInt .i64) (kdPair (kdInt .i64) (kdPair kdBool (kdPair kdBool (kdPair (kdInt .i64) (kdPair (kdInt .i64) (kdPair (kdInt .i64) (kdPair (kdArr .u8 32) (kdPair (kdSlice kd_T_api_Step) (kdPair (kdSlice (kdInt .u8)) (kdPair (kdArr .u8 32) (kdPair kdBool (kdArr .u8 32))))))))))))))))

theorem kd_T_api_Rec_mk {D : Snap} {x : T_api_Rec} {ce0 ce1 ce2 ce3 ce4 ce5 ce6 ce7 ce8 ce9 ce10 ce11 ce12 ce13 ce14 ce15 : List Value} (he0 : (kdInt .i64).r D x.fKind ce0) (he1 : (kdInt .i64).r D x.fSaga ce1) (he2 : (kdInt .i64).r D x.fSeq ce2) (he3 : (kdInt .i64).r D x.fStep ce3) (he4 : (kdInt .i64).r D x.fTry ce4) (he5 : kdBool.r D x.fBack ce5) (he6 : kdBool.r D x.fGood ce6) (he7 : (kdInt .i64).r D x.fEnd ce7) (he8 : (kdInt .i64).r D x.fPart ce8) (he9 : (kdInt .i64).r D x.fEpoch ce9) (he10 : (kdArr .u8 32).r D x.fTag ce10) (he11 : (kdSlice kd_T_api_Step).r D x.fSteps ce11) (he12 : (kdSlice (kdInt .u8)).r D x.fData ce12) (he13 : (kdArr .u8 32).r D x.fSalt ce13) (he14 : kdBool.r D x.fGone ce14) (he15 : (kdArr .u8 32).r D x.fCom ce15) : kd_T_api_Rec.r D x (ce0 ++ (ce1 ++ (ce2 ++ (ce3 ++ (ce4 ++ (ce5 ++ (ce6 ++ (ce7 ++ (ce8 ++ (ce9 ++ (ce10 ++ (ce11 ++ (ce12 ++ (ce13 ++ (ce14 ++ (ce15)))))))))))))))) := ⟨_, _, rfl, he0, ⟨_, _, rfl, he1, ⟨_, _, rfl, he2, ⟨_, _, rfl, he3, ⟨_, _, rfl, he4, ⟨_, _, rfl, he5, ⟨_, _, rfl, he6, ⟨_, _, rfl, he7, ⟨_, _, rfl, he8, ⟨_, _, rfl, he9, ⟨_, _, rfl, he10, ⟨_, _, rfl, he11, ⟨_, _, rfl, he12, ⟨_, _, rfl, he13, ⟨_, _, rfl, he14, he15⟩⟩⟩⟩⟩⟩⟩⟩⟩⟩⟩⟩⟩⟩⟩

theorem kd_T_api_Rec_el {D : Snap} {x : T_api_Rec} {cs : List Value} (h : kd_T_api_Rec.r D x cs) : ∃ (A7 : Option Addr), ∃ (c8 : Nat), ∃ (A10 : Option Addr), ∃ (c11 : Nat), cs = c_T_api_Rec ((T_api_Rec.mk (x.fKind) (x.fSaga) (x.fSeq) (x.fStep) (x.fTry) (x.fBack) (x.fGood) (x.fEnd) (x.fPart) (x.fEpoch) (x.fTag) (x.fSteps) (x.fData) (x.fSalt) (x.fGone) (x.fCom))) A7 c8 A10 c11 ∧ Sl kd_T_api_Step D A7 c8 (x.fSteps) ∧ Sl (kdInt .u8) D A10 c11 (x.fData) := by
  obtain ⟨c0, d0, rfl, he0, ⟨c1, d1, rfl, he1, ⟨c2, d2, rfl, he2, ⟨c3, d3, rfl, he3, ⟨c4, d4, rfl, he4, ⟨c5, d5, rfl, he5, ⟨c6, d6, rfl, he6, ⟨c7, d7, rfl, he7, ⟨c8, d8, rfl, he8, ⟨c9, d9, rfl, he9, ⟨c10, d10, rfl, he10, ⟨c11, d11, rfl, he11, ⟨c12, d12, rfl, he12, ⟨c13, d13, rfl, he13, ⟨c14, d14, rfl, he14, he15⟩⟩⟩⟩⟩⟩⟩⟩⟩⟩⟩⟩⟩⟩⟩ := h
  obtain rfl := he0
  obtain rfl := he1
  obtain rfl := he2
  obtain rfl := he3
  obtain rfl := he4
  obtain rfl := he5
  obtain rfl := he6
  obtain rfl := he7
  obtain rfl := he8
  obtain rfl := he9
  obtain rfl := he10
  obtain ⟨A7, c8, rfl, h9⟩ := he11
  obtain ⟨A10, c11, rfl, h12⟩ := he12
  obtain rfl := he13
  obtain rfl := he14
  obtain rfl := he15
  exact ⟨A7, c8, A10, c11, rfl, h9, h12⟩

structure T_api_Item where
  fAt : Int
  fRec : T_api_Rec
  fPath : (List (Vector Int 32))
  deriving DecidableEq

@[reducible] def z_T_api_Item : T_api_Item := ⟨(0 : Int), z_T_api_Rec, ([] : List (Vector Int 32))⟩

@[reducible] def c_T_api_Item (x : T_api_Item) (A13 : Option Addr) (c14 : Nat) (A16 : Option Addr) (c17 : Nat) (A19 : Option Addr) (c20 : Nat) : List Value :=
  [.int .i64 (x.fAt)] ++ ((c_T_api_Rec ((T_api_Rec.mk (x.fRec.fKind) (x.fRec.fSaga) (x.fRec.fSeq) (x.fRec.fStep) (x.fRec.fTry) (x.fRec.fBack) (x.fRec.fGood) (x.fRec.fEnd) (x.fRec.fPart) (x.fRec.fEpoch) (x.fRec.fTag) (x.fRec.fSteps) (x.fRec.fData) (x.fRec.fSalt) (x.fRec.fGone) (x.fRec.fCom))) A13 c14 A16 c17) ++ ([.slice A19 (List.length (x.fPath)) c20]))

@[reducible] def kd_T_api_Item : Kd T_api_Item := kdMap (fun x => (x.fAt, x.fRec, x.fPath)) (kdPair (kdInt .i64) (kdPair kd_T_api_Rec (kdSlice (kdArr .u8 32))))

theorem kd_T_api_Item_mk {D : Snap} {x : T_api_Item} {ce0 ce1 ce2 : List Value} (he0 : (kdInt .i64).r D x.fAt ce0) (he1 : kd_T_api_Rec.r D x.fRec ce1) (he2 : (kdSlice (kdArr .u8 32)).r D x.fPath ce2) : kd_T_api_Item.r D x (ce0 ++ (ce1 ++ (ce2))) := ⟨_, _, rfl, he0, ⟨_, _, rfl, he1, he2⟩⟩

theorem kd_T_api_Item_el {D : Snap} {x : T_api_Item} {cs : List Value} (h : kd_T_api_Item.r D x cs) : ∃ (A22 : Option Addr), ∃ (c23 : Nat), ∃ (A25 : Option Addr), ∃ (c26 : Nat), ∃ (A28 : Option Addr), ∃ (c29 : Nat), cs = c_T_api_Item ((T_api_Item.mk (x.fAt) ((T_api_Rec.mk (x.fRec.fKind) (x.fRec.fSaga) (x.fRec.fSeq) (x.fRec.fStep) (x.fRec.fTry) (x.fRec.fBack) (x.fRec.fGood) (x.fRec.fEnd) (x.fRec.fPart) (x.fRec.fEpoch) (x.fRec.fTag) (x.fRec.fSteps) (x.fRec.fData) (x.fRec.fSalt) (x.fRec.fGone) (x.fRec.fCom))) (x.fPath))) A22 c23 A25 c26 A28 c29 ∧ Sl kd_T_api_Step D A22 c23 (x.fRec.fSteps) ∧ Sl (kdInt .u8) D A25 c26 (x.fRec.fData) ∧ Sl (kdArr .u8 32) D A28 c29 (x.fPath) := by
  obtain ⟨c0, d0, rfl, he0, ⟨c1, d1, rfl, he1, he2⟩⟩ := h
  obtain rfl := he0
  obtain ⟨A22, c23, A25, c26, rfl, h24, h27⟩ := kd_T_api_Rec_el he1
  obtain ⟨A28, c29, rfl, h30⟩ := he2
  exact ⟨A22, c23, A25, c26, A28, c29, rfl, h24, h27, h30⟩

structure T_api_Point where
  fSize : Int
  fRoot : (Vector Int 32)
  fSigs : (List T_api_Sig)
  deriving DecidableEq

@[reducible] def z_T_api_Point : T_api_Point := ⟨(0 : Int), (Vector.replicate 32 (0 : Int)), ([] : List T_api_Sig)⟩

@[reducible] def c_T_api_Point (x : T_api_Point) (A37 : Option Addr) (c38 : Nat) : List Value :=
  [.int .i64 (x.fSize)] ++ (acells .u8 32 (x.fRoot) ++ ([.slice A37 (List.length (x.fSigs)) c38]))

@[reducible] def kd_T_api_Point : Kd T_api_Point := kdMap (fun x => (x.fSize, x.fRoot, x.fSigs)) (kdPair (kdInt .i64) (kdPair (kdArr .u8 32) (kdSlice kd_T_api_Sig)))

theorem kd_T_api_Point_mk {D : Snap} {x : T_api_Point} {ce0 ce1 ce2 : List Value} (he0 : (kdInt .i64).r D x.fSize ce0) (he1 : (kdArr .u8 32).r D x.fRoot ce1) (he2 : (kdSlice kd_T_api_Sig).r D x.fSigs ce2) : kd_T_api_Point.r D x (ce0 ++ (ce1 ++ (ce2))) := ⟨_, _, rfl, he0, ⟨_, _, rfl, he1, he2⟩⟩

theorem kd_T_api_Point_el {D : Snap} {x : T_api_Point} {cs : List Value} (h : kd_T_api_Point.r D x cs) : ∃ (A40 : Option Addr), ∃ (c41 : Nat), cs = c_T_api_Point ((T_api_Point.mk (x.fSize) (x.fRoot) (x.fSigs))) A40 c41 ∧ Sl kd_T_api_Sig D A40 c41 (x.fSigs) := by
  obtain ⟨c0, d0, rfl, he0, ⟨c1, d1, rfl, he1, he2⟩⟩ := h
  obtain rfl := he0
  obtain rfl := he1
  obtain ⟨A40, c41, rfl, h42⟩ := he2
  exact ⟨A40, c41, rfl, h42⟩

structure T_api_Bundle where
  fWhole : Bool
  fPoint : T_api_Point
  fItems : (List T_api_Item)
  deriving DecidableEq

@[reducible] def z_T_api_Bundle : T_api_Bundle := ⟨false, z_T_api_Point, ([] : List T_api_Item)⟩

@[reducible] def c_T_api_Bundle (x : T_api_Bundle) (A43 : Option Addr) (c44 : Nat) (A46 : Option Addr) (c47 : Nat) : List Value :=
  [.bool (x.fWhole)] ++ ((c_T_api_Point ((T_api_Point.mk (x.fPoint.fSize) (x.fPoint.fRoot) (x.fPoint.fSigs))) A43 c44) ++ ([.slice A46 (List.length (x.fItems)) c47]))

@[reducible] def kd_T_api_Bundle : Kd T_api_Bundle := kdMap (fun x => (x.fWhole, x.fPoint, x.fItems)) (kdPair kdBool (kdPair kd_T_api_Point (kdSlice kd_T_api_Item)))

theorem kd_T_api_Bundle_mk {D : Snap} {x : T_api_Bundle} {ce0 ce1 ce2 : List Value} (he0 : kdBool.r D x.fWhole ce0) (he1 : kd_T_api_Point.r D x.fPoint ce1) (he2 : (kdSlice kd_T_api_Item).r D x.fItems ce2) : kd_T_api_Bundle.r D x (ce0 ++ (ce1 ++ (ce2))) := ⟨_, _, rfl, he0, ⟨_, _, rfl, he1, he2⟩⟩

theorem kd_T_api_Bundle_el {D : Snap} {x : T_api_Bundle} {cs : List Value} (h : kd_T_api_Bundle.r D x cs) : ∃ (A49 : Option Addr), ∃ (c50 : Nat), ∃ (A52 : Option Addr), ∃ (c53 : Nat), cs = c_T_api_Bundle ((T_api_Bundle.mk (x.fWhole) ((T_api_Point.mk (x.fPoint.fSize) (x.fPoint.fRoot) (x.fPoint.fSigs))) (x.fItems))) A49 c50 A52 c53 ∧ Sl kd_T_api_Sig D A49 c50 (x.fPoint.fSigs) ∧ Sl kd_T_api_Item D A52 c53 (x.fItems) := by
  obtain ⟨c0, d0, rfl, he0, ⟨c1, d1, rfl, he1, he2⟩⟩ := h
  obtain rfl := he0
  obtain ⟨A49, c50, rfl, h51⟩ := kd_T_api_Point_el he1
  obtain ⟨A52, c53, rfl, h54⟩ := he2
  exact ⟨A49, c50, A52, c53, rfl, h51, h54⟩

structure T_rec_plain where
  fKind : Int
  fSaga : Int
  fSeq : Int
  fStep : Int
  fTry : Int
  fBack : Bool
  fGood : Bool
  fGone : Bool
  fEnd : Int
  fPart : Int
  fEpoch : Int
  deriving DecidableEq

@[reducible] def z_T_rec_plain : T_rec_plain := ⟨(0 : Int), (0 : Int), (0 : Int), (0 : Int), (0 : Int), false, false, false, (0 : Int), (0 : Int), (0 : Int)⟩

@[reducible] def c_T_rec_plain (x : T_rec_plain) : List Value :=
  [.int .i64 (x.fKind)] ++ ([.int .i64 (x.fSaga)] ++ ([.int .i64 (x.fSeq)] ++ ([.int .i64 (x.fStep)] ++ ([.int .i64 (x.fTry)] ++ ([.bool (x.fBack)] ++ ([.bool (x.fGood)] ++ ([.bool (x.fGone)] ++ ([.int .i64 (x.fEnd)] ++ ([.int .i64 (x.fPart)] ++ ([.int .i64 (x.fEpoch)]))))))))))

@[reducible] def kd_T_rec_plain : Kd T_rec_plain := kdMap (fun x => (x.fKind, x.fSaga, x.fSeq, x.fStep, x.fTry, x.fBack, x.fGood, x.fGone, x.fEnd, x.fPart, x.fEpoch)) (kdPair (kdInt .i64) (kdPair (kdInt .i64) (kdPair (kdInt .i64) (kdPair (kdInt .i64) (kdPair (kdInt .i64) (kdPair kdBool (kdPair kdBool (kdPair kdBool (kdPair (kdInt .i64) (kdPair (kdInt .i64) (kdInt .i64)))))))))))

theorem kd_T_rec_plain_mk {D : Snap} {x : T_rec_plain} {ce0 ce1 ce2 ce3 ce4 ce5 ce6 ce7 ce8 ce9 ce10 : List Value} (he0 : (kdInt .i64).r D x.fKind ce0) (he1 : (kdInt .i64).r D x.fSaga ce1) (he2 : (kdInt .i64).r D x.fSeq ce2) (he3 : (kdInt .i64).r D x.fStep ce3) (he4 : (kdInt .i64).r D x.fTry ce4) (he5 : kdBool.r D x.fBack ce5) (he6 : kdBool.r D x.fGood ce6) (he7 : kdBool.r D x.fGone ce7) (he8 : (kdInt .i64).r D x.fEnd ce8) (he9 : (kdInt .i64).r D x.fPart ce9) (he10 : (kdInt .i64).r D x.fEpoch ce10) : kd_T_rec_plain.r D x (ce0 ++ (ce1 ++ (ce2 ++ (ce3 ++ (ce4 ++ (ce5 ++ (ce6 ++ (ce7 ++ (ce8 ++ (ce9 ++ (ce10))))))))))) := ⟨_, _, rfl, he0, ⟨_, _, rfl, he1, ⟨_, _, rfl, he2, ⟨_, _, rfl, he3, ⟨_, _, rfl, he4, ⟨_, _, rfl, he5, ⟨_, _, rfl, he6, ⟨_, _, rfl, he7, ⟨_, _, rfl, he8, ⟨_, _, rfl, he9, he10⟩⟩⟩⟩⟩⟩⟩⟩⟩⟩

theorem kd_T_rec_plain_el {D : Snap} {x : T_rec_plain} {cs : List Value} (h : kd_T_rec_plain.r D x cs) : cs = c_T_rec_plain ((T_rec_plain.mk (x.fKind) (x.fSaga) (x.fSeq) (x.fStep) (x.fTry) (x.fBack) (x.fGood) (x.fGone) (x.fEnd) (x.fPart) (x.fEpoch))) := by
  obtain ⟨c0, d0, rfl, he0, ⟨c1, d1, rfl, he1, ⟨c2, d2, rfl, he2, ⟨c3, d3, rfl, he3, ⟨c4, d4, rfl, he4, ⟨c5, d5, rfl, he5, ⟨c6, d6, rfl, he6, ⟨c7, d7, rfl, he7, ⟨c8, d8, rfl, he8, ⟨c9, d9, rfl, he9, he10⟩⟩⟩⟩⟩⟩⟩⟩⟩⟩ := h
  obtain rfl := he0
  obtain rfl := he1
  obtain rfl := he2
  obtain rfl := he3
  obtain rfl := he4
  obtain rfl := he5
  obtain rfl := he6
  obtain rfl := he7
  obtain rfl := he8
  obtain rfl := he9
  obtain rfl := he10
  rfl

structure T_wire_Reader where
  fB : (List Int)
  fBad : Int
  deriving DecidableEq

@[reducible] def z_T_wire_Reader : T_wire_Reader := ⟨([] : List Int), (0 : Int)⟩

@[reducible] def c_T_wire_Reader (x : T_wire_Reader) (A58 : Option Addr) (c59 : Nat) : List Value :=
  [.slice A58 (List.length (x.fB)) c59] ++ ([.int .i64 (x.fBad)])

@[reducible] def kd_T_wire_Reader : Kd T_wire_Reader := kdMap (fun x => (x.fB, x.fBad)) (kdPair (kdSlice (kdInt .u8)) (kdInt .i64))

theorem kd_T_wire_Reader_mk {D : Snap} {x : T_wire_Reader} {ce0 ce1 : List Value} (he0 : (kdSlice (kdInt .u8)).r D x.fB ce0) (he1 : (kdInt .i64).r D x.fBad ce1) : kd_T_wire_Reader.r D x (ce0 ++ (ce1)) := ⟨_, _, rfl, he0, he1⟩

theorem kd_T_wire_Reader_el {D : Snap} {x : T_wire_Reader} {cs : List Value} (h : kd_T_wire_Reader.r D x cs) : ∃ (A61 : Option Addr), ∃ (c62 : Nat), cs = c_T_wire_Reader ((T_wire_Reader.mk (x.fB) (x.fBad))) A61 c62 ∧ Sl (kdInt .u8) D A61 c62 (x.fB) := by
  obtain ⟨c0, d0, rfl, he0, he1⟩ := h
  obtain ⟨A61, c62, rfl, h63⟩ := he0
  obtain rfl := he1
  exact ⟨A61, c62, rfl, h63⟩

def bundle_within.f (K : Nat) (x1 : Int) (x2 : Int) (x3 : Int) : Option (Bool) :=
  (bif (decide (x2 ≤ x1)) then (some (decide (x1 ≤ x3))) else (some false))

def bundle_point_1.f (K : Nat) (x1 : T_api_Sig) : Option (Bool) :=
  ((bundle_within.f K (x1.fWit) ((0 : Int)) ((3 : Int))).bind fun (r11 : (Bool)) => (some (!r11)))

def slices_IndexFunc_api_Sig_api_Sig_l1.b (K : Nat) (x1 : (List T_api_Sig)) (rec : Int → Option (Sum ((Int)) (Unit))) (y423 : Int) : Option (Sum ((Int)) (Unit)) :=
  (bif (decide (y423 < ((List.length (x1) : Nat) : Int))) then ((getI (x1) y423).bind fun (x485 : T_api_Sig) => ((bundle_point_1.f K (x485)).bind fun (r497 : (Bool)) => (bif r497 then (some (Sum.inl y423)) else (rec (IntKind.wrap .i64 (y423 + (1 : Int))))))) else (some (Sum.inr ())))

def slices_IndexFunc_api_Sig_api_Sig_l1.l (K : Nat) (x1 : (List T_api_Sig)) : Nat → (Int) → Option (Sum ((Int)) (Unit))
  | 0, _ => none
  | k + 1, y => slices_IndexFunc_api_Sig_api_Sig_l1.b K x1 (slices_IndexFunc_api_Sig_api_Sig_l1.l K x1 k) y

theorem slices_IndexFunc_api_Sig_api_Sig_l1.some {K : Nat} (x1 : (List T_api_Sig)) {k : Nat} {y : Int} {s : (Sum ((Int)) (Unit))} (h : slices_IndexFunc_api_Sig_api_Sig_l1.l K x1 k y = some s) : ∃ k', k = k' + 1 ∧ slices_IndexFunc_api_Sig_api_Sig_l1.b K x1 (slices_IndexFunc_api_Sig_api_Sig_l1.l K x1 k') y = some s := by
  cases k with
  | zero => cases h
  | succ k => exact ⟨k, rfl, h⟩

def slices_IndexFunc_api_Sig_api_Sig.f (K : Nat) (x1 : (List T_api_Sig)) : Option (Int) :=
  ((slices_IndexFunc_api_Sig_api_Sig_l1.l K x1 K (0 : Int)).bind fun s502 => (match s502 with | .inl u503 => some u503 | .inr u504 => (fun (z463 : Unit) => (some (-1 : Int))) u504))

def slices_ContainsFunc_api_Sig_api_Sig.f (K : Nat) (x1 : (List T_api_Sig)) : Option (Bool) :=
  ((slices_IndexFunc_api_Sig_api_Sig.f K (x1)).bind fun (r10 : (Int)) => (some (decide ((0 : Int) ≤ r10))))

def bundle_point.f (K : Nat) (x1 : T_api_Point) : Option (Bool) :=
  ((bundle_within.f K (x1.fSize) ((0 : Int)) ((400 : Int))).bind fun (r39 : (Bool)) => (bif r39 then (bif (decide (((List.length (x1.fSigs) : Nat) : Int) ≤ (4 : Int))) then ((slices_ContainsFunc_api_Sig_api_Sig.f K (x1.fSigs)).bind fun (r44 : (Bool)) => (some (!r44))) else (some false)) else (some false)))

def rec_within.f (K : Nat) (x1 : Int) (x2 : Int) (x3 : Int) : Option (Bool) :=
  (bif (decide (x2 ≤ x1)) then (some (decide (x1 ≤ x3))) else (some false))

def rec_ranges_1.f (K : Nat) (x1 : T_api_Step) : Option (Bool) :=
  ((rec_within.f K (x1.fPart) ((0 : Int)) ((3 : Int))).bind fun (r36 : (Bool)) => (bif (!r36) then (some true) else ((rec_within.f K (x1.fKind) ((1 : Int)) ((3 : Int))).bind fun (r41 : (Bool)) => (some (!r41)))))

def slices_IndexFunc_api_Step_api_Step_l1.b (K : Nat) (x1 : (List T_api_Step)) (rec : Int → Option (Sum ((Int)) (Unit))) (y423 : Int) : Option (Sum ((Int)) (Unit)) :=
  (bif (decide (y423 < ((List.length (x1) : Nat) : Int))) then ((getI (x1) y423).bind fun (x485 : T_api_Step) => ((rec_ranges_1.f K (x485)).bind fun (r497 : (Bool)) => (bif r497 then (some (Sum.inl y423)) else (rec (IntKind.wrap .i64 (y423 + (1 : Int))))))) else (some (Sum.inr ())))

def slices_IndexFunc_api_Step_api_Step_l1.l (K : Nat) (x1 : (List T_api_Step)) : Nat → (Int) → Option (Sum ((Int)) (Unit))
  | 0, _ => none
  | k + 1, y => slices_IndexFunc_api_Step_api_Step_l1.b K x1 (slices_IndexFunc_api_Step_api_Step_l1.l K x1 k) y

theorem slices_IndexFunc_api_Step_api_Step_l1.some {K : Nat} (x1 : (List T_api_Step)) {k : Nat} {y : Int} {s : (Sum ((Int)) (Unit))} (h : slices_IndexFunc_api_Step_api_Step_l1.l K x1 k y = some s) : ∃ k', k = k' + 1 ∧ slices_IndexFunc_api_Step_api_Step_l1.b K x1 (slices_IndexFunc_api_Step_api_Step_l1.l K x1 k') y = some s := by
  cases k with
  | zero => cases h
  | succ k => exact ⟨k, rfl, h⟩

def slices_IndexFunc_api_Step_api_Step.f (K : Nat) (x1 : (List T_api_Step)) : Option (Int) :=
  ((slices_IndexFunc_api_Step_api_Step_l1.l K x1 K (0 : Int)).bind fun s502 => (match s502 with | .inl u503 => some u503 | .inr u504 => (fun (z463 : Unit) => (some (-1 : Int))) u504))

def slices_ContainsFunc_api_Step_api_Step.f (K : Nat) (x1 : (List T_api_Step)) : Option (Bool) :=
  ((slices_IndexFunc_api_Step_api_Step.f K (x1)).bind fun (r10 : (Int)) => (some (decide ((0 : Int) ≤ r10))))

def rec_ranges.f (K : Nat) (x1 : T_api_Rec) : Option (Bool) :=
  (jn (fun (y282 : Bool) => (bif y282 then (some false) else (bif (decide (x1.fKind = (1 : Int))) then ((rec_within.f K (((List.length (x1.fSteps) : Nat) : Int)) ((1 : Int)) ((6 : Int))).bind fun (r370 : (Bool)) => (bif r370 then ((slices_ContainsFunc_api_Step_api_Step.f K (x1.fSteps)).bind fun (r375 : (Bool)) => (bif (!r375) then (some (decide (((List.length (x1.fData) : Nat) : Int) ≤ (60 : Int)))) else (some false))) else (some false))) else (jn (fun (y380 : Bool) => (bif y380 then ((rec_within.f K (x1.fSeq) ((1 : Int)) ((400 : Int))).bind fun (r398 : (Bool)) => (bif r398 then ((rec_within.f K (x1.fStep) ((0 : Int)) ((5 : Int))).bind fun (r403 : (Bool)) => (bif r403 then ((rec_within.f K (x1.fTry) ((1 : Int)) ((9 : Int))).bind fun (r408 : (Bool)) => (some r408)) else (some false))) else (some false))) else (bif (decide (x1.fKind = (5 : Int))) then ((rec_within.f K (x1.fSeq) ((1 : Int)) ((400 : Int))).bind fun (r423 : (Bool)) => (bif r423 then ((rec_within.f K (x1.fEnd) ((2 : Int)) ((4 : Int))).bind fun (r428 : (Bool)) => (some r428)) else (some false))) else (bif (decide (x1.fKind = (6 : Int))) then (some (decide ((1 : Int) ≤ x1.fEpoch))) else (some false))))) (fun j433 => (bif (decide (x1.fKind = (2 : Int))) then (j433 (decide (x1.fKind = (2 : Int)))) else (bif (decide (x1.fKind = (4 : Int))) then (j433 (decide (x1.fKind = (4 : Int)))) else (j433 (decide (x1.fKind = (3 : Int))))))))))) (fun j435 => ((rec_within.f K (x1.fSaga) ((0 : Int)) ((11 : Int))).bind fun (r437 : (Bool)) => (bif (!r437) then (j435 true) else ((rec_within.f K (x1.fPart) ((0 : Int)) ((3 : Int))).bind fun (r442 : (Bool)) => (bif (!r442) then (j435 true) else ((rec_within.f K (x1.fEpoch) ((0 : Int)) ((400 : Int))).bind fun (r447 : (Bool)) => (j435 (!r447)))))))))

def rec_kept.f (K : Nat) (x1 : T_api_Rec) : Option (T_api_Rec) :=
  ((some { z_T_api_Rec with fKind := x1.fKind }).bind fun (v5185 : T_api_Rec) => (jn (fun (y7761 : T_api_Rec) => (some y7761)) (fun j7770 => (jn (fun (y9965 : T_api_Rec) => ((some { y9965 with fSaga := x1.fSaga }).bind fun (v9994 : T_api_Rec) => ((some { v9994 with fSeq := x1.fSeq }).bind fun (v9998 : T_api_Rec) => ((some { v9998 with fStep := x1.fStep }).bind fun (v10002 : T_api_Rec) => ((some { v10002 with fTry := x1.fTry }).bind fun (v10006 : T_api_Rec) => ((some { v10006 with fBack := x1.fBack }).bind fun (v10010 : T_api_Rec) => (j7770 v10010))))))) (fun j10014 => (bif (decide (x1.fKind = (1 : Int))) then ((some { v5185 with fSaga := x1.fSaga }).bind fun (v10230 : T_api_Rec) => ((some { v10230 with fSteps := x1.fSteps }).bind fun (v10234 : T_api_Rec) => ((some { v10234 with fGone := x1.fGone }).bind fun (v10238 : T_api_Rec) => (bif x1.fGone then ((some { v10238 with fCom := x1.fCom }).bind fun (v10242 : T_api_Rec) => (j7770 v10242)) else ((some { v10238 with fData := x1.fData }).bind fun (v10254 : T_api_Rec) => ((some { v10254 with fSalt := x1.fSalt }).bind fun (v10258 : T_api_Rec) => (j7770 v10258))))))) else (bif (decide (x1.fKind = (3 : Int))) then ((some { v5185 with fGood := x1.fGood }).bind fun (v10278 : T_api_Rec) => ((some { v10278 with fPart := x1.fPart }).bind fun (v10282 : T_api_Rec) => ((some { v10282 with fEpoch := x1.fEpoch }).bind fun (v10286 : T_api_Rec) => ((some { v10286 with fTag := x1.fTag }).bind fun (v10290 : T_api_Rec) => (j10014 v10290))))) else (jn (fun (y10299 : Bool) => (bif y10299 then (j10014 v5185) else (bif (decide (x1.fKind = (5 : Int))) then ((some { v5185 with fSaga := x1.fSaga }).bind fun (v10314 : T_api_Rec) => ((some { v10314 with fSeq := x1.fSeq }).bind fun (v10318 : T_api_Rec) => ((some { v10318 with fEnd := x1.fEnd }).bind fun (v10322 : T_api_Rec) => (j7770 v10322)))) else (bif (decide (x1.fKind = (6 : Int))) then ((some { v5185 with fPart := x1.fPart }).bind fun (v10334 : T_api_Rec) => ((some { v10334 with fEpoch := x1.fEpoch }).bind fun (v10338 : T_api_Rec) => (j7770 v10338))) else (j7770 v5185))))) (fun j10342 => (bif (decide (x1.fKind = (2 : Int))) then (j10342 (decide (x1.fKind = (2 : Int)))) else (j10342 (decide (x1.fKind = (4 : Int))))))))))))))

def slices_Equal_api_Step_api_Step_l1.b (K : Nat) (x1 : (List T_api_Step)) (x5 : (List T_api_Step)) (rec : Int → Option (Sum ((Bool)) (Unit))) (y1047 : Int) : Option (Sum ((Bool)) (Unit)) :=
  (bif (decide (y1047 < ((List.length (x1) : Nat) : Int))) then ((getI (x1) y1047).bind fun (x1226 : T_api_Step) => ((getI (x5) y1047).bind fun (x1238 : T_api_Step) => (bif (!((decide (x1226.fPart = x1238.fPart)) && ((decide (x1226.fKind = x1238.fKind)) && true))) then (some (Sum.inl false)) else (rec (IntKind.wrap .i64 (y1047 + (1 : Int))))))) else (some (Sum.inr ())))

def slices_Equal_api_Step_api_Step_l1.l (K : Nat) (x1 : (List T_api_Step)) (x5 : (List T_api_Step)) : Nat → (Int) → Option (Sum ((Bool)) (Unit))
  | 0, _ => none
  | k + 1, y => slices_Equal_api_Step_api_Step_l1.b K x1 x5 (slices_Equal_api_Step_api_Step_l1.l K x1 x5 k) y

theorem slices_Equal_api_Step_api_Step_l1.some {K : Nat} (x1 : (List T_api_Step)) (x5 : (List T_api_Step)) {k : Nat} {y : Int} {s : (Sum ((Bool)) (Unit))} (h : slices_Equal_api_Step_api_Step_l1.l K x1 x5 k y = some s) : ∃ k', k = k' + 1 ∧ slices_Equal_api_Step_api_Step_l1.b K x1 x5 (slices_Equal_api_Step_api_Step_l1.l K x1 x5 k') y = some s := by
  cases k with
  | zero => cases h
  | succ k => exact ⟨k, rfl, h⟩

def slices_Equal_api_Step_api_Step.f (K : Nat) (x1 : (List T_api_Step)) (x5 : (List T_api_Step)) : Option (Bool) :=
  (bif (!decide (((List.length (x1) : Nat) : Int) = ((List.length (x5) : Nat) : Int))) then (some false) else ((slices_Equal_api_Step_api_Step_l1.l K x1 x5 K (0 : Int)).bind fun s1250 => (match s1250 with | .inl u1251 => some u1251 | .inr u1252 => (fun (z1149 : Unit) => (some true)) u1252)))

def bytes_Equal.f (K : Nat) (x1 : (List Int)) (x5 : (List Int)) : Option (Bool) :=
  (some (ByteArray.toList (bofL (x1)) == ByteArray.toList (bofL (x5))))

def rec_head.f (K : Nat) (x1 : T_api_Rec) : Option (T_rec_plain) :=
  ((some (T_rec_plain.mk (x1.fKind) (x1.fSaga) (x1.fSeq) (x1.fStep) (x1.fTry) (x1.fBack) (x1.fGood) (x1.fGone) (x1.fEnd) (x1.fPart) (x1.fEpoch))).bind fun (v18 : T_rec_plain) => (some v18))

def rec_Same.f (K : Nat) (x1 : T_api_Rec) (x8 : T_api_Rec) : Option (Bool) :=
  (jn (fun (y153 : Bool) => (bif y153 then (some false) else (jn (fun (y176 : Bool) => (some y176)) (fun j179 => ((rec_head.f K (x1)).bind fun (r191 : (T_rec_plain)) => ((rec_head.f K (x8)).bind fun (r196 : (T_rec_plain)) => (bif ((decide (r191.fKind = r196.fKind)) && ((decide (r191.fSaga = r196.fSaga)) && ((decide (r191.fSeq = r196.fSeq)) && ((decide (r191.fStep = r196.fStep)) && ((decide (r191.fTry = r196.fTry)) && ((r191.fBack == r196.fBack) && ((r191.fGood == r196.fGood) && ((r191.fGone == r196.fGone) && ((decide (r191.fEnd = r196.fEnd)) && ((decide (r191.fPart = r196.fPart)) && ((decide (r191.fEpoch = r196.fEpoch)) && true))))))))))) then (bif (decide (x1.fTag = x8.fTag)) then (bif (decide (x1.fSalt = x8.fSalt)) then (j179 (decide (x1.fCom = x8.fCom))) else (j179 false)) else (j179 false)) else (j179 false)))))))) (fun j201 => ((slices_Equal_api_Step_api_Step.f K (x1.fSteps) (x8.fSteps)).bind fun (r203 : (Bool)) => (bif (!r203) then (j201 true) else ((bytes_Equal.f K (x1.fData) (x8.fData)).bind fun (r208 : (Bool)) => (j201 (!r208)))))))

def rec_Right.f (K : Nat) (x1 : T_api_Rec) : Option (Bool) :=
  ((rec_ranges.f K (x1)).bind fun (r159 : (Bool)) => (bif r159 then ((rec_kept.f K (x1)).bind fun (r164 : (T_api_Rec)) => ((rec_Same.f K (x1) (r164)).bind fun (r175 : (Bool)) => (some r175))) else (some false)))

def bundle_Right_l1.b (K : Nat) (x1 : T_api_Bundle) (rec : (Int × Int) → Option (Sum ((Bool)) (Unit))) (y1603 : Int × Int) : Option (Sum ((Bool)) (Unit)) :=
  (bif (decide (y1603.2 < ((List.length (x1.fItems) : Nat) : Int))) then ((getI (x1.fItems) y1603.2).bind fun (x1833 : T_api_Item) => (jn (fun (y1891 : Bool) => (bif y1891 then (some (Sum.inl false)) else (rec (x1833.fAt, (IntKind.wrap .i64 (y1603.2 + (1 : Int))))))) (fun j1894 => ((rec_Right.f K (x1833.fRec)).bind fun (r1896 : (Bool)) => (bif (!r1896) then (j1894 true) else ((bundle_within.f K (x1833.fAt) ((IntKind.wrap .i64 (y1603.1 + (1 : Int)))) ((IntKind.wrap .i64 (x1.fPoint.fSize - (1 : Int))))).bind fun (r1901 : (Bool)) => (bif (!r1901) then (j1894 true) else (bif (decide ((20 : Int) < ((List.length (x1833.fPath) : Nat) : Int))) then (j1894 true) else (bif x1.fWhole then (bif (!decide (x1833.fAt = y1603.2)) then (j1894 true) else (j1894 (decide ((0 : Int) < ((List.length (x1833.fPath) : Nat) : Int))))) else (j1894 false)))))))))) else (some (Sum.inr ())))

def bundle_Right_l1.l (K : Nat) (x1 : T_api_Bundle) : Nat → (Int × Int) → Option (Sum ((Bool)) (Unit))
  | 0, _ => none
  | k + 1, y => bundle_Right_l1.b K x1 (bundle_Right_l1.l K x1 k) y

theorem bundle_Right_l1.some {K : Nat} (x1 : T_api_Bundle) {k : Nat} {y : Int × Int} {s : (Sum ((Bool)) (Unit))} (h : bundle_Right_l1.l K x1 k y = some s) : ∃ k', k = k' + 1 ∧ bundle_Right_l1.b K x1 (bundle_Right_l1.l K x1 k') y = some s := by
  cases k with
  | zero => cases h
  | succ k => exact ⟨k, rfl, h⟩

def bundle_Right.f (K : Nat) (x1 : T_api_Bundle) : Option (Bool) :=
  (jn (fun (y984 : Bool) => (bif y984 then (some false) else ((bundle_Right_l1.l K x1 K ((-1 : Int), (0 : Int))).bind fun s1906 => (match s1906 with | .inl u1907 => some u1907 | .inr u1908 => (fun (z1755 : Unit) => (some true)) u1908)))) (fun j1909 => ((bundle_point.f K (x1.fPoint)).bind fun (r1911 : (Bool)) => (bif (!r1911) then (j1909 true) else (bif (decide (x1.fPoint.fSize < ((List.length (x1.fItems) : Nat) : Int))) then (j1909 true) else (bif x1.fWhole then (j1909 (!decide (((List.length (x1.fItems) : Nat) : Int) = x1.fPoint.fSize))) else (j1909 false)))))))

def wire_Flag.f (K : Nat) (x1 : Bool) : Option ((List Int)) :=
  (bif x1 then (some ([(1 : Int)] : List Int)) else (some ([(0 : Int)] : List Int)))

def slices_Reverse_byte_byte_l1.b (K : Nat) (rec : ((List Int) × Int × Int) → Option ((List Int))) (y586 : (List Int) × Int × Int) : Option ((List Int)) :=
  (bif (decide (y586.2.1 < y586.2.2)) then ((getI (y586.1) y586.2.2).bind fun (x836 : Int) => ((getI (y586.1) y586.2.1).bind fun (x845 : Int) => ((getI (y586.1) y586.2.1).bind fun (x854 : Int) => ((getI ((List.set (y586.1) (Int.toNat (y586.2.1)) (x836))) y586.2.2).bind fun (x861 : Int) => (rec ((List.set ((List.set (y586.1) (Int.toNat (y586.2.1)) (x836))) (Int.toNat (y586.2.2)) (x845)), (IntKind.wrap .i64 (y586.2.1 + (1 : Int))), (IntKind.wrap .i64 (y586.2.2 - (1 : Int))))))))) else (some y586.1))

def slices_Reverse_byte_byte_l1.l (K : Nat) : Nat → ((List Int) × Int × Int) → Option ((List Int))
  | 0, _ => none
  | k + 1, y => slices_Reverse_byte_byte_l1.b K (slices_Reverse_byte_byte_l1.l K k) y

theorem slices_Reverse_byte_byte_l1.some {K : Nat} {k : Nat} {y : (List Int) × Int × Int} {s : ((List Int))} (h : slices_Reverse_byte_byte_l1.l K k y = some s) : ∃ k', k = k' + 1 ∧ slices_Reverse_byte_byte_l1.b K (slices_Reverse_byte_byte_l1.l K k') y = some s := by
  cases k with
  | zero => cases h
  | succ k => exact ⟨k, rfl, h⟩

def slices_Reverse_byte_byte.f (K : Nat) (x1 : (List Int)) : Option ((List Int)) :=
  ((slices_Reverse_byte_byte_l1.l K K (x1, (0 : Int), (IntKind.wrap .i64 (((List.length (x1) : Nat) : Int) - (1 : Int))))).bind fun (z730 : (List Int)) => (some z730))

theorem slices_Reverse_byte_byte.len {K : Nat} {x r : List Int} (h : slices_Reverse_byte_byte.f K x = some r) : r.length = x.length := by
  have key : ∀ k y z, slices_Reverse_byte_byte_l1.l K k y = some z → z.length = y.1.length := by
    intro k
    induction k with
    | zero => intro y z h; cases h
    | succ k ih =>
      intro y z h
      have h : slices_Reverse_byte_byte_l1.b K (slices_Reverse_byte_byte_l1.l K k) y = some z := h
      unfold slices_Reverse_byte_byte_l1.b at h
      cases hc : decide (y.2.1 < y.2.2) with
      | false => rw [hc] at h; cases h; rfl
      | true =>
        rw [hc] at h
        replace h := cond_t rfl h
        obtain ⟨_, _, h⟩ := bind_some h
        obtain ⟨_, _, h⟩ := bind_some h
        obtain ⟨_, _, h⟩ := bind_some h
        obtain ⟨_, _, h⟩ := bind_some h
        have := ih _ _ h
        simpa using this
  unfold slices_Reverse_byte_byte.f at h
  obtain ⟨z, hz, h⟩ := bind_some h
  cases h
  exact key _ _ _ hz

def wire_Num_l1.b (K : Nat) (rec : (Int × (List Int)) → Option ((List Int))) (y516 : Int × (List Int)) : Option ((List Int)) :=
  (bif (decide ((0 : Int) < y516.1)) then ((catI 1 (y516.2) (([(bor .u8 (IntKind.wrap .u8 (Int.tmod y516.1 128)) (128 : Int))] : List Int))).bind fun (l599 : (List Int)) => (rec ((Int.fdiv y516.1 (2 ^ 7)), l599))) else (some y516.2))

def wire_Num_l1.l (K : Nat) : Nat → (Int × (List Int)) → Option ((List Int))
  | 0, _ => none
  | k + 1, y => wire_Num_l1.b K (wire_Num_l1.l K k) y

theorem wire_Num_l1.some {K : Nat} {k : Nat} {y : Int × (List Int)} {s : ((List Int))} (h : wire_Num_l1.l K k y = some s) : ∃ k', k = k' + 1 ∧ wire_Num_l1.b K (wire_Num_l1.l K k') y = some s := by
  cases k with
  | zero => cases h
  | succ k => exact ⟨k, rfl, h⟩

def wire_Num.f (K : Nat) (x1 : Int) : Option ((List Int)) :=
  (jn (fun (y316 : Bool) => (bif y316 then (some ([] : List Int)) else ((wire_Num_l1.l K K ((Int.fdiv x1 (2 ^ 7)), ([(IntKind.wrap .u8 (Int.tmod x1 128))] : List Int))).bind fun (z564 : (List Int)) => ((slices_Reverse_byte_byte.f K (z564)).bind fun (r606 : ((List Int))) => (some r606))))) (fun j614 => (bif (decide (x1 < (0 : Int))) then (j614 true) else (j614 (decide ((2147483647 : Int) < x1))))))

def slices_Clone_byte_byte.f (K : Nat) (x1 : (List Int)) : Option ((List Int)) :=
  ((catI 1 (([] : List Int)) (x1)).bind fun (l26 : (List Int)) => (some l26))

def wire_Hash.f (K : Nat) (x1 : (Vector Int 32)) : Option ((List Int)) :=
  ((subI (vlist (x1)) 0 ((32 : Nat) : Int)).bind fun (l32 : List Int) => ((slices_Clone_byte_byte.f K (l32)).bind fun (r37 : ((List Int))) => (some r37)))

def slices_Grow_byte_byte.f (K : Nat) (x1 : Int) : Option ((List Int)) :=
  (bif (decide (x1 < (0 : Int))) then none else (bif (decide ((0 : Int) < (IntKind.wrap .i64 (x1 - (IntKind.wrap .i64 (((0 : Nat) : Int) - ((0 : Nat) : Int))))))) then ((zerosI 1 ((0 : Int)) (IntKind.wrap .i64 (x1 - (IntKind.wrap .i64 (((0 : Nat) : Int) - ((0 : Nat) : Int)))))).bind fun (l37 : (List Int)) => ((subI (l37) 0 ((0 : Nat) : Int)).bind fun (l44 : (List Int)) => (some l44))) else (some ([] : List Int))))

def slices_Concat_byte_byte_l1.b (K : Nat) (x1 : (List (List Int))) (rec : (Int × Int) → Option (Int)) (y743 : Int × Int) : Option (Int) :=
  (bif (decide (y743.2 < ((List.length (x1) : Nat) : Int))) then ((getI (x1) y743.2).bind fun (x799 : (List Int)) => (bif (decide ((IntKind.wrap .i64 (y743.1 + ((List.length (x799) : Nat) : Int))) < (0 : Int))) then none else (rec ((IntKind.wrap .i64 (y743.1 + ((List.length (x799) : Nat) : Int))), (IntKind.wrap .i64 (y743.2 + (1 : Int))))))) else (some y743.1))

def slices_Concat_byte_byte_l1.l (K : Nat) (x1 : (List (List Int))) : Nat → (Int × Int) → Option (Int)
  | 0, _ => none
  | k + 1, y => slices_Concat_byte_byte_l1.b K x1 (slices_Concat_byte_byte_l1.l K x1 k) y

theorem slices_Concat_byte_byte_l1.some {K : Nat} (x1 : (List (List Int))) {k : Nat} {y : Int × Int} {s : (Int)} (h : slices_Concat_byte_byte_l1.l K x1 k y = some s) : ∃ k', k = k' + 1 ∧ slices_Concat_byte_byte_l1.b K x1 (slices_Concat_byte_byte_l1.l K x1 k') y = some s := by
  cases k with
  | zero => cases h
  | succ k => exact ⟨k, rfl, h⟩

def slices_Concat_byte_byte_l2.b (K : Nat) (x1 : (List (List Int))) (rec : ((List Int) × Int) → Option ((List Int))) (y1064 : (List Int) × Int) : Option ((List Int)) :=
  (bif (decide (y1064.2 < ((List.length (x1) : Nat) : Int))) then ((getI (x1) y1064.2).bind fun (x1156 : (List Int)) => ((catI 1 (y1064.1) (x1156)).bind fun (l1171 : (List Int)) => (rec (l1171, (IntKind.wrap .i64 (y1064.2 + (1 : Int))))))) else (some y1064.1))

def slices_Concat_byte_byte_l2.l (K : Nat) (x1 : (List (List Int))) : Nat → ((List Int) × Int) → Option ((List Int))
  | 0, _ => none
  | k + 1, y => slices_Concat_byte_byte_l2.b K x1 (slices_Concat_byte_byte_l2.l K x1 k) y

theorem slices_Concat_byte_byte_l2.some {K : Nat} (x1 : (List (List Int))) {k : Nat} {y : (List Int) × Int} {s : ((List Int))} (h : slices_Concat_byte_byte_l2.l K x1 k y = some s) : ∃ k', k = k' + 1 ∧ slices_Concat_byte_byte_l2.b K x1 (slices_Concat_byte_byte_l2.l K x1 k') y = some s := by
  cases k with
  | zero => cases h
  | succ k => exact ⟨k, rfl, h⟩

def slices_Concat_byte_byte.f (K : Nat) (x1 : (List (List Int))) : Option ((List Int)) :=
  ((slices_Concat_byte_byte_l1.l K x1 K ((0 : Int), (0 : Int))).bind fun (z779 : Int) => ((slices_Grow_byte_byte.f K (z779)).bind fun (r814 : ((List Int))) => ((slices_Concat_byte_byte_l2.l K x1 K (r814, (0 : Int))).bind fun (z1124 : (List Int)) => (some z1124))))

def wire_All.f (K : Nat) (x1 : (List (List Int))) : Option ((List Int)) :=
  ((slices_Concat_byte_byte.f K (x1)).bind fun (r20 : ((List Int))) => (some r20))

def bundle_Put_1.f (K : Nat) (x1 : T_api_Sig) : Option ((List Int)) :=
  ((wire_Num.f K (x1.fWit)).bind fun (r158 : ((List Int))) => ((wire_Hash.f K (x1.fTag)).bind fun (r168 : ((List Int))) => ((wire_All.f K (([r158, r168] : List (List Int)))).bind fun (r197 : ((List Int))) => (some r197))))

def bundle_list_api_Sig_l1.b (K : Nat) (x1 : (List T_api_Sig)) (rec : ((List Int) × Int) → Option ((List Int))) (y904 : (List Int) × Int) : Option ((List Int)) :=
  (bif (decide (y904.2 < ((List.length (x1) : Nat) : Int))) then ((getI (x1) y904.2).bind fun (x1038 : T_api_Sig) => ((bundle_Put_1.f K (x1038)).bind fun (r1052 : ((List Int))) => ((catI 1 (y904.1) (r1052)).bind fun (l1067 : (List Int)) => (rec (l1067, (IntKind.wrap .i64 (y904.2 + (1 : Int)))))))) else (some y904.1))

def bundle_list_api_Sig_l1.l (K : Nat) (x1 : (List T_api_Sig)) : Nat → ((List Int) × Int) → Option ((List Int))
  | 0, _ => none
  | k + 1, y => bundle_list_api_Sig_l1.b K x1 (bundle_list_api_Sig_l1.l K x1 k) y

theorem bundle_list_api_Sig_l1.some {K : Nat} (x1 : (List T_api_Sig)) {k : Nat} {y : (List Int) × Int} {s : ((List Int))} (h : bundle_list_api_Sig_l1.l K x1 k y = some s) : ∃ k', k = k' + 1 ∧ bundle_list_api_Sig_l1.b K x1 (bundle_list_api_Sig_l1.l K x1 k') y = some s := by
  cases k with
  | zero => cases h
  | succ k => exact ⟨k, rfl, h⟩

def bundle_list_api_Sig.f (K : Nat) (x1 : (List T_api_Sig)) : Option ((List Int)) :=
  ((wire_Num.f K (((List.length (x1) : Nat) : Int))).bind fun (r542 : ((List Int))) => ((bundle_list_api_Sig_l1.l K x1 K (r542, (0 : Int))).bind fun (z992 : (List Int)) => (some z992)))

def rec_forms.f (K : Nat) : Option Unit :=
  (some ())

def rec_numbers_l1.b (K : Nat) (x1 : (List Int)) (rec : ((List Int) × Int) → Option ((List Int))) (y847 : (List Int) × Int) : Option ((List Int)) :=
  (bif (decide (y847.2 < ((List.length (x1) : Nat) : Int))) then ((getI (x1) y847.2).bind fun (x975 : Int) => ((wire_Num.f K (x975)).bind fun (r987 : ((List Int))) => ((catI 1 (y847.1) (r987)).bind fun (l1002 : (List Int)) => (rec (l1002, (IntKind.wrap .i64 (y847.2 + (1 : Int)))))))) else (some y847.1))

def rec_numbers_l1.l (K : Nat) (x1 : (List Int)) : Nat → ((List Int) × Int) → Option ((List Int))
  | 0, _ => none
  | k + 1, y => rec_numbers_l1.b K x1 (rec_numbers_l1.l K x1 k) y

theorem rec_numbers_l1.some {K : Nat} (x1 : (List Int)) {k : Nat} {y : (List Int) × Int} {s : ((List Int))} (h : rec_numbers_l1.l K x1 k y = some s) : ∃ k', k = k' + 1 ∧ rec_numbers_l1.b K x1 (rec_numbers_l1.l K x1 k') y = some s := by
  cases k with
  | zero => cases h
  | succ k => exact ⟨k, rfl, h⟩

def rec_numbers.f (K : Nat) (x1 : (List Int)) : Option ((List Int)) :=
  ((rec_numbers_l1.l K x1 K (([] : List Int), (0 : Int))).bind fun (z931 : (List Int)) => (some z931))

def rec_begin_l1.b (K : Nat) (x1 : T_api_Rec) (rec : ((List Int) × Int) → Option ((List Int))) (y1109 : (List Int) × Int) : Option ((List Int)) :=
  (bif (decide (y1109.2 < ((List.length (x1.fSteps) : Nat) : Int))) then ((getI (x1.fSteps) y1109.2).bind fun (x1270 : T_api_Step) => ((rec_numbers.f K (([x1270.fPart, x1270.fKind] : List Int))).bind fun (r1293 : ((List Int))) => ((catI 1 (y1109.1) (r1293)).bind fun (l1308 : (List Int)) => (rec (l1308, (IntKind.wrap .i64 (y1109.2 + (1 : Int)))))))) else (some y1109.1))

def rec_begin_l1.l (K : Nat) (x1 : T_api_Rec) : Nat → ((List Int) × Int) → Option ((List Int))
  | 0, _ => none
  | k + 1, y => rec_begin_l1.b K x1 (rec_begin_l1.l K x1 k) y

theorem rec_begin_l1.some {K : Nat} (x1 : T_api_Rec) {k : Nat} {y : (List Int) × Int} {s : ((List Int))} (h : rec_begin_l1.l K x1 k y = some s) : ∃ k', k = k' + 1 ∧ rec_begin_l1.b K x1 (rec_begin_l1.l K x1 k') y = some s := by
  cases k with
  | zero => cases h
  | succ k => exact ⟨k, rfl, h⟩

def rec_begin.f (K : Nat) (x1 : T_api_Rec) : Option ((List Int)) :=
  ((rec_numbers.f K (([x1.fSaga, ((List.length (x1.fSteps) : Nat) : Int)] : List Int))).bind fun (r675 : ((List Int))) => ((rec_begin_l1.l K x1 K (r675, (0 : Int))).bind fun (z1215 : (List Int)) => (some z1215)))

def rec_call.f (K : Nat) (x1 : T_api_Rec) : Option ((List Int)) :=
  ((rec_numbers.f K (([x1.fSaga, x1.fSeq, x1.fStep, x1.fTry] : List Int))).bind fun (r200 : ((List Int))) => ((wire_Flag.f K (x1.fBack)).bind fun (r210 : ((List Int))) => ((wire_All.f K (([r200, r210] : List (List Int)))).bind fun (r239 : ((List Int))) => (some r239))))

def rec_forms_1.f (K : Nat) (x1 : T_api_Rec) : Option ((List Int)) :=
  ((rec_call.f K (x1)).bind fun (r1795 : ((List Int))) => ((wire_Flag.f K (x1.fGood)).bind fun (r1805 : ((List Int))) => ((rec_numbers.f K (([x1.fPart, x1.fEpoch] : List Int))).bind fun (r1824 : ((List Int))) => ((wire_Hash.f K (x1.fTag)).bind fun (r1834 : ((List Int))) => ((wire_All.f K (([r1795, r1805, r1824, r1834] : List (List Int)))).bind fun (r1873 : ((List Int))) => (some r1873))))))

def rec_forms_2.f (K : Nat) (x1 : T_api_Rec) : Option ((List Int)) :=
  ((rec_numbers.f K (([x1.fSaga, x1.fSeq, x1.fEnd] : List Int))).bind fun (r45 : ((List Int))) => (some r45))

def rec_forms_3.f (K : Nat) (x1 : T_api_Rec) : Option ((List Int)) :=
  ((rec_numbers.f K (([x1.fPart, x1.fEpoch] : List Int))).bind fun (r45 : ((List Int))) => (some r45))

def wire_Bytes.f (K : Nat) (x1 : (List Int)) : Option ((List Int)) :=
  ((wire_Num.f K (((List.length (x1) : Nat) : Int))).bind fun (r27 : ((List Int))) => ((catI 1 (r27) (x1)).bind fun (l37 : (List Int)) => (some l37)))

def rec_Open_1.f (K : Nat) (x3 : T_api_Rec) : Option ((List Int)) :=
  (bif x3.fGone then ((wire_Flag.f K (true)).bind fun (r486 : ((List Int))) => ((wire_Hash.f K (x3.fCom)).bind fun (r496 : ((List Int))) => ((wire_All.f K (([r486, r496] : List (List Int)))).bind fun (r525 : ((List Int))) => (some r525)))) else ((wire_Flag.f K (false)).bind fun (r599 : ((List Int))) => ((wire_Hash.f K (x3.fSalt)).bind fun (r609 : ((List Int))) => ((wire_Bytes.f K (x3.fData)).bind fun (r619 : ((List Int))) => ((wire_All.f K (([r599, r609, r619] : List (List Int)))).bind fun (r653 : ((List Int))) => (some r653))))))

def rec_put.f (K : Nat) (x3 : T_api_Rec) (x10 : T_api_Rec) : Option ((List Int)) :=
  ((rec_Right.f K (x3)).bind fun (r1119 : (Bool)) => (bif (!r1119) then (some ([] : List Int)) else (jn (fun (y1637 : (List Int)) => (bif (decide (x3.fKind = (1 : Int))) then ((rec_Open_1.f K (x10)).bind fun (r1667 : ((List Int))) => ((catI 1 (y1637) (r1667)).bind fun (l1682 : (List Int)) => (some l1682))) else (some y1637))) (fun j1689 => ((wire_Num.f K (x3.fKind)).bind fun (r1947 : ((List Int))) => ((rec_forms.f K).bind fun (r1957 : Unit) => (bif decide (x3.fKind = (0 : Int)) then none else (bif decide (x3.fKind = (1 : Int)) then ((rec_begin.f K (x3)).bind fun (r1964 : ((List Int))) => ((wire_All.f K (([r1947, r1964] : List (List Int)))).bind fun (r1993 : ((List Int))) => (j1689 r1993))) else (bif decide (x3.fKind = (2 : Int)) then ((rec_call.f K (x3)).bind fun (r2004 : ((List Int))) => ((wire_All.f K (([r1947, r2004] : List (List Int)))).bind fun (r2033 : ((List Int))) => (j1689 r2033))) else (bif decide (x3.fKind = (3 : Int)) then ((rec_forms_1.f K (x3)).bind fun (r2044 : ((List Int))) => ((wire_All.f K (([r1947, r2044] : List (List Int)))).bind fun (r2073 : ((List Int))) => (j1689 r2073))) else (bif decide (x3.fKind = (4 : Int)) then ((rec_call.f K (x3)).bind fun (r2084 : ((List Int))) => ((wire_All.f K (([r1947, r2084] : List (List Int)))).bind fun (r2113 : ((List Int))) => (j1689 r2113))) else (bif decide (x3.fKind = (5 : Int)) then ((rec_forms_2.f K (x3)).bind fun (r2124 : ((List Int))) => ((wire_All.f K (([r1947, r2124] : List (List Int)))).bind fun (r2153 : ((List Int))) => (j1689 r2153))) else (bif decide (x3.fKind = (6 : Int)) then ((rec_forms_3.f K (x3)).bind fun (r2164 : ((List Int))) => ((wire_All.f K (([r1947, r2164] : List (List Int)))).bind fun (r2193 : ((List Int))) => (j1689 r2193))) else none)))))))))))))

def rec_Open.f (K : Nat) (x1 : T_api_Rec) : Option ((List Int)) :=
  ((rec_put.f K (x1) (x1)).bind fun (r27 : ((List Int))) => (some r27))

def bundle_list_api_Hash_l1.b (K : Nat) (x1 : (List (Vector Int 32))) (rec : ((List Int) × Int) → Option ((List Int))) (y904 : (List Int) × Int) : Option ((List Int)) :=
  (bif (decide (y904.2 < ((List.length (x1) : Nat) : Int))) then ((getI (x1) y904.2).bind fun (x1038 : (Vector Int 32)) => ((wire_Hash.f K (x1038)).bind fun (r1052 : ((List Int))) => ((catI 1 (y904.1) (r1052)).bind fun (l1067 : (List Int)) => (rec (l1067, (IntKind.wrap .i64 (y904.2 + (1 : Int)))))))) else (some y904.1))

def bundle_list_api_Hash_l1.l (K : Nat) (x1 : (List (Vector Int 32))) : Nat → ((List Int) × Int) → Option ((List Int))
  | 0, _ => none
  | k + 1, y => bundle_list_api_Hash_l1.b K x1 (bundle_list_api_Hash_l1.l K x1 k) y

theorem bundle_list_api_Hash_l1.some {K : Nat} (x1 : (List (Vector Int 32))) {k : Nat} {y : (List Int) × Int} {s : ((List Int))} (h : bundle_list_api_Hash_l1.l K x1 k y = some s) : ∃ k', k = k' + 1 ∧ bundle_list_api_Hash_l1.b K x1 (bundle_list_api_Hash_l1.l K x1 k') y = some s := by
  cases k with
  | zero => cases h
  | succ k => exact ⟨k, rfl, h⟩

def bundle_list_api_Hash.f (K : Nat) (x1 : (List (Vector Int 32))) : Option ((List Int)) :=
  ((wire_Num.f K (((List.length (x1) : Nat) : Int))).bind fun (r542 : ((List Int))) => ((bundle_list_api_Hash_l1.l K x1 K (r542, (0 : Int))).bind fun (z992 : (List Int)) => (some z992)))

def bundle_item.f (K : Nat) (x1 : T_api_Item) : Option ((List Int)) :=
  ((wire_Num.f K (x1.fAt)).bind fun (r212 : ((List Int))) => ((rec_Open.f K (x1.fRec)).bind fun (r222 : ((List Int))) => ((bundle_list_api_Hash.f K (x1.fPath)).bind fun (r232 : ((List Int))) => ((wire_All.f K (([r212, r222, r232] : List (List Int)))).bind fun (r266 : ((List Int))) => (some r266)))))

def bundle_list_api_Item_l1.b (K : Nat) (x1 : (List T_api_Item)) (rec : ((List Int) × Int) → Option ((List Int))) (y1084 : (List Int) × Int) : Option ((List Int)) :=
  (bif (decide (y1084.2 < ((List.length (x1) : Nat) : Int))) then ((getI (x1) y1084.2).bind fun (x1245 : T_api_Item) => ((bundle_item.f K (x1245)).bind fun (r1268 : ((List Int))) => ((catI 1 (y1084.1) (r1268)).bind fun (l1283 : (List Int)) => (rec (l1283, (IntKind.wrap .i64 (y1084.2 + (1 : Int)))))))) else (some y1084.1))

def bundle_list_api_Item_l1.l (K : Nat) (x1 : (List T_api_Item)) : Nat → ((List Int) × Int) → Option ((List Int))
  | 0, _ => none
  | k + 1, y => bundle_list_api_Item_l1.b K x1 (bundle_list_api_Item_l1.l K x1 k) y

theorem bundle_list_api_Item_l1.some {K : Nat} (x1 : (List T_api_Item)) {k : Nat} {y : (List Int) × Int} {s : ((List Int))} (h : bundle_list_api_Item_l1.l K x1 k y = some s) : ∃ k', k = k' + 1 ∧ bundle_list_api_Item_l1.b K x1 (bundle_list_api_Item_l1.l K x1 k') y = some s := by
  cases k with
  | zero => cases h
  | succ k => exact ⟨k, rfl, h⟩

def bundle_list_api_Item.f (K : Nat) (x1 : (List T_api_Item)) : Option ((List Int)) :=
  ((wire_Num.f K (((List.length (x1) : Nat) : Int))).bind fun (r650 : ((List Int))) => ((bundle_list_api_Item_l1.l K x1 K (r650, (0 : Int))).bind fun (z1190 : (List Int)) => (some z1190)))

def bundle_Put_l1.b (K : Nat) (x1 : T_api_Bundle) (rec : ((List Int) × Int) → Option ((List Int))) (y7138 : (List Int) × Int) : Option ((List Int)) :=
  (bif (decide (y7138.2 < ((List.length (x1.fItems) : Nat) : Int))) then ((getI (x1.fItems) y7138.2).bind fun (x7299 : T_api_Item) => ((rec_Open.f K (x7299.fRec)).bind fun (r7322 : ((List Int))) => ((catI 1 (y7138.1) (r7322)).bind fun (l7337 : (List Int)) => (rec (l7337, (IntKind.wrap .i64 (y7138.2 + (1 : Int)))))))) else (some y7138.1))

def bundle_Put_l1.l (K : Nat) (x1 : T_api_Bundle) : Nat → ((List Int) × Int) → Option ((List Int))
  | 0, _ => none
  | k + 1, y => bundle_Put_l1.b K x1 (bundle_Put_l1.l K x1 k) y

theorem bundle_Put_l1.some {K : Nat} (x1 : T_api_Bundle) {k : Nat} {y : (List Int) × Int} {s : ((List Int))} (h : bundle_Put_l1.l K x1 k y = some s) : ∃ k', k = k' + 1 ∧ bundle_Put_l1.b K x1 (bundle_Put_l1.l K x1 k') y = some s := by
  cases k with
  | zero => cases h
  | succ k => exact ⟨k, rfl, h⟩

def bundle_Put.f (K : Nat) (x1 : T_api_Bundle) : Option ((List Int)) :=
  ((bundle_Right.f K (x1)).bind fun (r4676 : (Bool)) => (bif (!r4676) then (some ([] : List Int)) else (jn (fun (y6662 : (List Int)) => (bif (!x1.fWhole) then ((bundle_list_api_Item.f K (x1.fItems)).bind fun (r6692 : ((List Int))) => ((catI 1 (y6662) (r6692)).bind fun (l6707 : (List Int)) => (some l6707))) else ((bundle_Put_l1.l K x1 K (y6662, (0 : Int))).bind fun (z7244 : (List Int)) => (some z7244)))) (fun j7344 => ((wire_Flag.f K (x1.fWhole)).bind fun (r8343 : ((List Int))) => ((wire_Num.f K (x1.fPoint.fSize)).bind fun (r8353 : ((List Int))) => ((wire_Hash.f K (x1.fPoint.fRoot)).bind fun (r8363 : ((List Int))) => ((bundle_list_api_Sig.f K (x1.fPoint.fSigs)).bind fun (r8373 : ((List Int))) => ((wire_All.f K (([([(105 : Int), (110 : Int), (115 : Int), (112 : Int)] : List Int), r8343, r8353, r8363, r8373] : List (List Int)))).bind fun (r8412 : ((List Int))) => (j7344 r8412))))))))))

def bytes_HasPrefix.f (K : Nat) (x1 : (List Int)) (x5 : (List Int)) : Option (Bool) :=
  (bif (decide (((List.length (x5) : Nat) : Int) ≤ ((List.length (x1) : Nat) : Int))) then ((subI (x1) 0 ((List.length (x5) : Nat) : Int)).bind fun (l39 : (List Int)) => ((bytes_Equal.f K (l39) (x5)).bind fun (r44 : (Bool)) => (some r44))) else (some false))

def bytes_CutPrefix.f (K : Nat) (x1 : (List Int)) (x5 : (List Int)) : Option ((List Int) × Bool) :=
  ((bytes_HasPrefix.f K (x1) (x5)).bind fun (r32 : (Bool)) => (bif (!r32) then (some (x1, false)) else ((subI (x1) ((List.length (x5) : Nat) : Int) ((List.length (x1) : Nat) : Int)).bind fun (l37 : (List Int)) => (some (l37, true)))))

def wire_Read.f (K : Nat) (x1 : (List Int)) : Option (T_wire_Reader) :=
  ((slices_Clone_byte_byte.f K (x1)).bind fun (r27 : ((List Int))) => (some (T_wire_Reader.mk (r27) ((0 : Int)))))

def wire_Reader_Bad.f (K : Nat) (x3 : T_wire_Reader) : Option (Int) :=
  (some x3.fBad)

def wire_Reader_Flag_1.f (K : Nat) (x1 : (List Int)) : Option (Bool × Int × Int) :=
  (bif (decide (((List.length (x1) : Nat) : Int) = (0 : Int))) then (some (false, (0 : Int), (3 : Int))) else ((getI (x1) (0 : Int)).bind fun (x53 : Int) => (bif (decide ((1 : Int) < x53)) then (some (false, (0 : Int), (2 : Int))) else ((getI (x1) (0 : Int)).bind fun (x65 : Int) => (some ((decide (x65 = (1 : Int))), (1 : Int), (0 : Int)))))))

def wire_Reader_Fail.f (K : Nat) (x3 : Int) (x4 : T_wire_Reader) : Option (T_wire_Reader) :=
  (jn (fun (y20 : Bool) => (bif y20 then ((some (T_wire_Reader.mk (([] : List Int)) (x4.fBad))).bind fun (v23 : T_wire_Reader) => ((some (T_wire_Reader.mk (([] : List Int)) (x3))).bind fun (v25 : T_wire_Reader) => (some (T_wire_Reader.mk (([] : List Int)) (v25.fBad))))) else (some x4))) (fun j27 => (bif (decide (x4.fBad = (0 : Int))) then (j27 (!decide (x3 = (0 : Int)))) else (j27 false))))

def wire_take_bool.f (K : Nat) (x3 : T_wire_Reader) : Option (Bool × T_wire_Reader) :=
  ((wire_Reader_Bad.f K (x3)).bind fun (r54 : (Int)) => (bif (!decide (r54 = (0 : Int))) then (some (false, x3)) else ((wire_Reader_Flag_1.f K (x3.fB)).bind fun (r59 : (Bool × Int × Int)) => (bif (!decide (r59.2.2 = (0 : Int))) then ((wire_Reader_Fail.f K (r59.2.2) (x3)).bind fun (r72 : (T_wire_Reader)) => (some (false, r72))) else ((subI (x3.fB) r59.2.1 ((List.length (x3.fB) : Nat) : Int)).bind fun (l80 : (List Int)) => ((some (T_wire_Reader.mk (l80) (x3.fBad))).bind fun (v85 : T_wire_Reader) => (some (r59.1, v85))))))))

def wire_Reader_Flag.f (K : Nat) (x3 : T_wire_Reader) : Option (Bool × T_wire_Reader) :=
  ((wire_take_bool.f K (x3)).bind fun (r18 : (Bool × T_wire_Reader)) => (some (r18.1, r18.2)))

def wire_number_l1.b (K : Nat) (x1 : (List Int)) (rec : (Int × Int) → Option (Sum ((Int × Int × Int)) (Unit))) (y523 : Int × Int) : Option (Sum ((Int × Int × Int)) (Unit)) :=
  (bif (decide (y523.2 < ((List.length (x1) : Nat) : Int))) then ((getI (x1) y523.2).bind fun (x600 : Int) => (jn (fun (y617 : Bool) => (bif y617 then (some (Sum.inl ((0 : Int), (0 : Int), (2 : Int)))) else (bif (decide (x600 < (128 : Int))) then (bif (decide ((2147483647 : Int) < (bor .i64 (IntKind.wrap .i64 (y523.1 * 2 ^ 7)) (IntKind.wrap .i64 (Int.tmod x600 128))))) then (some (Sum.inl ((0 : Int), (0 : Int), (2 : Int)))) else (some (Sum.inl ((bor .i64 (IntKind.wrap .i64 (y523.1 * 2 ^ 7)) (IntKind.wrap .i64 (Int.tmod x600 128))), (IntKind.wrap .i64 (y523.2 + (1 : Int))), (0 : Int))))) else (rec ((bor .i64 (IntKind.wrap .i64 (y523.1 * 2 ^ 7)) (IntKind.wrap .i64 (Int.tmod x600 128))), (IntKind.wrap .i64 (y523.2 + (1 : Int)))))))) (fun j620 => (bif (decide (y523.2 = (0 : Int))) then (bif (decide (x600 = (128 : Int))) then (j620 true) else (j620 (decide (y523.2 = (5 : Int))))) else (j620 (decide (y523.2 = (5 : Int)))))))) else (some (Sum.inr ())))

def wire_number_l1.l (K : Nat) (x1 : (List Int)) : Nat → (Int × Int) → Option (Sum ((Int × Int × Int)) (Unit))
  | 0, _ => none
  | k + 1, y => wire_number_l1.b K x1 (wire_number_l1.l K x1 k) y

theorem wire_number_l1.some {K : Nat} (x1 : (List Int)) {k : Nat} {y : Int × Int} {s : (Sum ((Int × Int × Int)) (Unit))} (h : wire_number_l1.l K x1 k y = some s) : ∃ k', k = k' + 1 ∧ wire_number_l1.b K x1 (wire_number_l1.l K x1 k') y = some s := by
  cases k with
  | zero => cases h
  | succ k => exact ⟨k, rfl, h⟩

def wire_number.f (K : Nat) (x1 : (List Int)) : Option (Int × Int × Int) :=
  ((wire_number_l1.l K x1 K ((0 : Int), (0 : Int))).bind fun s622 => (match s622 with | .inl u623 => some u623 | .inr u624 => (fun (z573 : Unit) => (some ((0 : Int), (0 : Int), (3 : Int)))) u624))

def wire_take_int.f (K : Nat) (x3 : T_wire_Reader) : Option (Int × T_wire_Reader) :=
  ((wire_Reader_Bad.f K (x3)).bind fun (r54 : (Int)) => (bif (!decide (r54 = (0 : Int))) then (some ((0 : Int), x3)) else ((wire_number.f K (x3.fB)).bind fun (r59 : (Int × Int × Int)) => (bif (!decide (r59.2.2 = (0 : Int))) then ((wire_Reader_Fail.f K (r59.2.2) (x3)).bind fun (r72 : (T_wire_Reader)) => (some ((0 : Int), r72))) else ((subI (x3.fB) r59.2.1 ((List.length (x3.fB) : Nat) : Int)).bind fun (l80 : (List Int)) => ((some (T_wire_Reader.mk (l80) (x3.fBad))).bind fun (v85 : T_wire_Reader) => (some (r59.1, v85))))))))

def wire_Reader_Num.f (K : Nat) (x3 : T_wire_Reader) : Option (Int × T_wire_Reader) :=
  ((wire_take_int.f K (x3)).bind fun (r18 : (Int × T_wire_Reader)) => (some (r18.1, r18.2)))

def wire_Reader_Hash_1.f (K : Nat) (x1 : (List Int)) : Option ((Vector Int 32) × Int × Int) :=
  (bif (decide (((List.length (x1) : Nat) : Int) < (32 : Int))) then (some ((Vector.replicate 32 (0 : Int)), (0 : Int), (3 : Int))) else ((subI (x1) 0 (32 : Int)).bind fun (l29 : (List Int)) => (chk (decide (32 ≤ List.length (l29))) (some ((vofL 32 (l29)), (32 : Int), (0 : Int))))))

def wire_take_api_Hash.f (K : Nat) (x3 : T_wire_Reader) : Option ((Vector Int 32) × T_wire_Reader) :=
  ((wire_Reader_Bad.f K (x3)).bind fun (r64 : (Int)) => (bif (!decide (r64 = (0 : Int))) then (some ((Vector.replicate 32 (0 : Int)), x3)) else ((wire_Reader_Hash_1.f K (x3.fB)).bind fun (r69 : ((Vector Int 32) × Int × Int)) => (bif (!decide (r69.2.2 = (0 : Int))) then ((wire_Reader_Fail.f K (r69.2.2) (x3)).bind fun (r84 : (T_wire_Reader)) => (some ((Vector.replicate 32 (0 : Int)), r84))) else ((subI (x3.fB) r69.2.1 ((List.length (x3.fB) : Nat) : Int)).bind fun (l92 : (List Int)) => ((some (T_wire_Reader.mk (l92) (x3.fBad))).bind fun (v97 : T_wire_Reader) => (some (r69.1, v97))))))))

def wire_Reader_Hash.f (K : Nat) (x3 : T_wire_Reader) : Option ((Vector Int 32) × T_wire_Reader) :=
  ((wire_take_api_Hash.f K (x3)).bind fun (r22 : ((Vector Int 32) × T_wire_Reader)) => (some (r22.1, r22.2)))

def bundle_Get_1.f (K : Nat) (x5 : Int) (x6 : T_wire_Reader) : Option (T_api_Sig × T_wire_Reader) :=
  ((wire_Reader_Num.f K (x6)).bind fun (r71 : (Int × T_wire_Reader)) => ((wire_Reader_Hash.f K (r71.2)).bind fun (r79 : ((Vector Int 32) × T_wire_Reader)) => ((some (T_api_Sig.mk (r71.1) (r79.1))).bind fun (v87 : T_api_Sig) => (some (v87, r79.2)))))

def bundle_read_api_Sig_l1.b (K : Nat) (x5 : Int) (rec : ((List T_api_Sig) × Int × T_wire_Reader) → Option ((List T_api_Sig) × T_wire_Reader)) (y945 : (List T_api_Sig) × Int × T_wire_Reader) : Option ((List T_api_Sig) × T_wire_Reader) :=
  (bif (decide (y945.2.1 < x5)) then ((wire_Reader_Bad.f K (y945.2.2)).bind fun (r1087 : (Int)) => (bif (!decide (r1087 = (0 : Int))) then (some (y945.1, y945.2.2)) else ((bundle_Get_1.f K (y945.2.1) (y945.2.2)).bind fun (r1092 : (T_api_Sig × T_wire_Reader)) => ((catI 40 (y945.1) (([r1092.1] : List T_api_Sig))).bind fun (l1109 : (List T_api_Sig)) => (rec (l1109, (IntKind.wrap .i64 (y945.2.1 + (1 : Int))), r1092.2)))))) else (some (y945.1, y945.2.2)))

def bundle_read_api_Sig_l1.l (K : Nat) (x5 : Int) : Nat → ((List T_api_Sig) × Int × T_wire_Reader) → Option ((List T_api_Sig) × T_wire_Reader)
  | 0, _ => none
  | k + 1, y => bundle_read_api_Sig_l1.b K x5 (bundle_read_api_Sig_l1.l K x5 k) y

theorem bundle_read_api_Sig_l1.some {K : Nat} (x5 : Int) {k : Nat} {y : (List T_api_Sig) × Int × T_wire_Reader} {s : ((List T_api_Sig) × T_wire_Reader)} (h : bundle_read_api_Sig_l1.l K x5 k y = some s) : ∃ k', k = k' + 1 ∧ bundle_read_api_Sig_l1.b K x5 (bundle_read_api_Sig_l1.l K x5 k') y = some s := by
  cases k with
  | zero => cases h
  | succ k => exact ⟨k, rfl, h⟩

def bundle_read_api_Sig.f (K : Nat) (x5 : Int) (x6 : Int) (x7 : T_wire_Reader) : Option ((List T_api_Sig) × T_wire_Reader) :=
  (jn (fun (y581 : T_wire_Reader) => ((bundle_read_api_Sig_l1.l K x5 K (([] : List T_api_Sig), (0 : Int), y581)).bind fun (z1035 : (List T_api_Sig) × T_wire_Reader) => (some (z1035.1, z1035.2)))) (fun j1117 => (bif (decide (x6 < x5)) then ((wire_Reader_Fail.f K ((4 : Int)) (x7)).bind fun (r1119 : (T_wire_Reader)) => (j1117 r1119)) else (j1117 x7))))

def rec_steps_l1.b (K : Nat) (r673 : (Int × T_wire_Reader)) (rec : ((List T_api_Step) × Int × T_wire_Reader) → Option ((List T_api_Step) × T_wire_Reader)) (y1117 : (List T_api_Step) × Int × T_wire_Reader) : Option ((List T_api_Step) × T_wire_Reader) :=
  (bif (decide (y1117.2.1 < r673.1)) then ((wire_Reader_Bad.f K (y1117.2.2)).bind fun (r1283 : (Int)) => (bif (!decide (r1283 = (0 : Int))) then (some (y1117.1, y1117.2.2)) else ((wire_Reader_Num.f K (y1117.2.2)).bind fun (r1288 : (Int × T_wire_Reader)) => ((wire_Reader_Num.f K (r1288.2)).bind fun (r1296 : (Int × T_wire_Reader)) => ((catI 16 (y1117.1) (([(T_api_Step.mk (r1288.1) (r1296.1))] : List T_api_Step))).bind fun (l1313 : (List T_api_Step)) => (rec (l1313, (IntKind.wrap .i64 (y1117.2.1 + (1 : Int))), r1296.2))))))) else (some (y1117.1, y1117.2.2)))

def rec_steps_l1.l (K : Nat) (r673 : (Int × T_wire_Reader)) : Nat → ((List T_api_Step) × Int × T_wire_Reader) → Option ((List T_api_Step) × T_wire_Reader)
  | 0, _ => none
  | k + 1, y => rec_steps_l1.b K r673 (rec_steps_l1.l K r673 k) y

theorem rec_steps_l1.some {K : Nat} (r673 : (Int × T_wire_Reader)) {k : Nat} {y : (List T_api_Step) × Int × T_wire_Reader} {s : ((List T_api_Step) × T_wire_Reader)} (h : rec_steps_l1.l K r673 k y = some s) : ∃ k', k = k' + 1 ∧ rec_steps_l1.b K r673 (rec_steps_l1.l K r673 k') y = some s := by
  cases k with
  | zero => cases h
  | succ k => exact ⟨k, rfl, h⟩

def rec_steps.f (K : Nat) (x3 : T_wire_Reader) : Option ((List T_api_Step) × T_wire_Reader) :=
  ((wire_Reader_Num.f K (x3)).bind fun (r673 : (Int × T_wire_Reader)) => (jn (fun (y689 : T_wire_Reader) => ((rec_steps_l1.l K r673 K (([] : List T_api_Step), (0 : Int), y689)).bind fun (z1223 : (List T_api_Step) × T_wire_Reader) => (some (z1223.1, z1223.2)))) (fun j1321 => (bif (decide ((6 : Int) < r673.1)) then ((wire_Reader_Fail.f K ((2 : Int)) (r673.2)).bind fun (r1323 : (T_wire_Reader)) => (j1321 r1323)) else (j1321 r673.2)))))

def wire_Reader_Bytes_1.f (K : Nat) (x3 : (List Int)) (x7 : Int) : Option ((List Int) × Int × Int) :=
  ((wire_number.f K (x3)).bind fun (r33 : (Int × Int × Int)) => (bif (!decide (r33.2.2 = (0 : Int))) then (some (([] : List Int), (0 : Int), r33.2.2)) else (bif (decide (x7 < r33.1)) then (some (([] : List Int), (0 : Int), (4 : Int))) else (bif (decide ((IntKind.wrap .i64 (((List.length (x3) : Nat) : Int) - r33.2.1)) < r33.1)) then (some (([] : List Int), (0 : Int), (3 : Int))) else ((subI (x3) r33.2.1 (IntKind.wrap .i64 (r33.2.1 + r33.1))).bind fun (l41 : (List Int)) => ((slices_Clone_byte_byte.f K (l41)).bind fun (r46 : ((List Int))) => (some (r46, (IntKind.wrap .i64 (r33.2.1 + r33.1)), (0 : Int)))))))))

def wire_take_byte.f (K : Nat) (x5 : T_wire_Reader) (x9 : Int) : Option ((List Int) × T_wire_Reader) :=
  ((wire_Reader_Bad.f K (x5)).bind fun (r67 : (Int)) => (bif (!decide (r67 = (0 : Int))) then (some (([] : List Int), x5)) else ((wire_Reader_Bytes_1.f K (x5.fB) (x9)).bind fun (r73 : ((List Int) × Int × Int)) => (bif (!decide (r73.2.2 = (0 : Int))) then ((wire_Reader_Fail.f K (r73.2.2) (x5)).bind fun (r91 : (T_wire_Reader)) => (some (([] : List Int), r91))) else ((subI (x5.fB) r73.2.1 ((List.length (x5.fB) : Nat) : Int)).bind fun (l100 : (List Int)) => ((some (T_wire_Reader.mk (l100) (x5.fBad))).bind fun (v105 : T_wire_Reader) => (some (r73.1, v105))))))))

def wire_Reader_Bytes.f (K : Nat) (x3 : Int) (x4 : T_wire_Reader) : Option ((List Int) × T_wire_Reader) :=
  ((wire_take_byte.f K (x4) (x3)).bind fun (r33 : ((List Int) × T_wire_Reader)) => (some (r33.1, r33.2)))

def rec_Read.f (K : Nat) (x3 : T_wire_Reader) : Option (T_api_Rec × T_wire_Reader) :=
  ((wire_Reader_Num.f K (x3)).bind fun (r597 : (Int × T_wire_Reader)) => ((some { z_T_api_Rec with fKind := r597.1 }).bind fun (v607 : T_api_Rec) => (jn (fun (y854 : T_wire_Reader × Int × Int × Int × Int × Int × Bool × Bool × Int × Int × Int × (Vector Int 32) × (List T_api_Step) × (List Int) × (Vector Int 32) × Bool × (Vector Int 32)) => (jn (fun (y879 : T_wire_Reader) => ((wire_Reader_Bad.f K (y879)).bind fun (r890 : (Int)) => (bif (!decide (r890 = (0 : Int))) then (some (z_T_api_Rec, y879)) else ((some (T_api_Rec.mk (y854.2.1) (y854.2.2.1) (y854.2.2.2.1) (y854.2.2.2.2.1) (y854.2.2.2.2.2.1) (y854.2.2.2.2.2.2.1) (y854.2.2.2.2.2.2.2.1) (y854.2.2.2.2.2.2.2.2.1) (y854.2.2.2.2.2.2.2.2.2.1) (y854.2.2.2.2.2.2.2.2.2.2.1) (y854.2.2.2.2.2.2.2.2.2.2.2.1) (y854.2.2.2.2.2.2.2.2.2.2.2.2.1) (y854.2.2.2.2.2.2.2.2.2.2.2.2.2.1) (y854.2.2.2.2.2.2.2.2.2.2.2.2.2.2.1) (y854.2.2.2.2.2.2.2.2.2.2.2.2.2.2.2.1) (y854.2.2.2.2.2.2.2.2.2.2.2.2.2.2.2.2))).bind fun (v895 : T_api_Rec) => (some (v895, y879)))))) (fun j899 => ((rec_Right.f K ((T_api_Rec.mk (y854.2.1) (y854.2.2.1) (y854.2.2.2.1) (y854.2.2.2.2.1) (y854.2.2.2.2.2.1) (y854.2.2.2.2.2.2.1) (y854.2.2.2.2.2.2.2.1) (y854.2.2.2.2.2.2.2.2.1) (y854.2.2.2.2.2.2.2.2.2.1) (y854.2.2.2.2.2.2.2.2.2.2.1) (y854.2.2.2.2.2.2.2.2.2.2.2.1) (y854.2.2.2.2.2.2.2.2.2.2.2.2.1) (y854.2.2.2.2.2.2.2.2.2.2.2.2.2.1) (y854.2.2.2.2.2.2.2.2.2.2.2.2.2.2.1) (y854.2.2.2.2.2.2.2.2.2.2.2.2.2.2.2.1) (y854.2.2.2.2.2.2.2.2.2.2.2.2.2.2.2.2)))).bind fun (r901 : (Bool)) => (bif (!r901) then ((wire_Reader_Fail.f K ((2 : Int)) (y854.1)).bind fun (r906 : (T_wire_Reader)) => (j899 r906)) else (j899 y854.1)))))) (fun j914 => (bif (decide (v607.fKind = (1 : Int))) then ((wire_Reader_Num.f K (r597.2)).bind fun (r916 : (Int × T_wire_Reader)) => ((rec_steps.f K (r916.2)).bind fun (r924 : ((List T_api_Step) × T_wire_Reader)) => ((some { v607 with fSaga := r916.1 }).bind fun (v937 : T_api_Rec) => ((wire_Reader_Flag.f K (r924.2)).bind fun (r941 : (Bool × T_wire_Reader)) => (bif r941.1 then ((wire_Reader_Hash.f K (r941.2)).bind fun (r949 : ((Vector Int 32) × T_wire_Reader)) => (j914 (r949.2, v937.fKind, v937.fSaga, v937.fSeq, v937.fStep, v937.fTry, v937.fBack, v937.fGood, v937.fEnd, v937.fPart, v937.fEpoch, v937.fTag, r924.1, v937.fData, v937.fSalt, r941.1, r949.1))) else ((wire_Reader_Hash.f K (r941.2)).bind fun (r962 : ((Vector Int 32) × T_wire_Reader)) => ((wire_Reader_Bytes.f K ((60 : Int)) (r962.2)).bind fun (r970 : ((List Int) × T_wire_Reader)) => (j914 (r970.2, v937.fKind, v937.fSaga, v937.fSeq, v937.fStep, v937.fTry, v937.fBack, v937.fGood, v937.fEnd, v937.fPart, v937.fEpoch, v937.fTag, r924.1, r970.1, r962.1, r941.1, v937.fCom))))))))) else (jn (fun (y993 : Bool) => (bif y993 then ((wire_Reader_Num.f K (r597.2)).bind fun (r996 : (Int × T_wire_Reader)) => ((wire_Reader_Num.f K (r996.2)).bind fun (r1004 : (Int × T_wire_Reader)) => ((wire_Reader_Num.f K (r1004.2)).bind fun (r1012 : (Int × T_wire_Reader)) => ((wire_Reader_Num.f K (r1012.2)).bind fun (r1020 : (Int × T_wire_Reader)) => ((wire_Reader_Flag.f K (r1020.2)).bind fun (r1028 : (Bool × T_wire_Reader)) => ((some { v607 with fSaga := r996.1 }).bind fun (v1036 : T_api_Rec) => ((some { v1036 with fSeq := r1004.1 }).bind fun (v1040 : T_api_Rec) => ((some { v1040 with fStep := r1012.1 }).bind fun (v1044 : T_api_Rec) => ((some { v1044 with fTry := r1020.1 }).bind fun (v1048 : T_api_Rec) => ((some { v1048 with fBack := r1028.1 }).bind fun (v1052 : T_api_Rec) => (bif (decide (v1052.fKind = (3 : Int))) then ((wire_Reader_Flag.f K (r1028.2)).bind fun (r1056 : (Bool × T_wire_Reader)) => ((wire_Reader_Num.f K (r1056.2)).bind fun (r1064 : (Int × T_wire_Reader)) => ((wire_Reader_Num.f K (r1064.2)).bind fun (r1072 : (Int × T_wire_Reader)) => ((wire_Reader_Hash.f K (r1072.2)).bind fun (r1080 : ((Vector Int 32) × T_wire_Reader)) => ((some { v1052 with fGood := r1056.1 }).bind fun (v1088 : T_api_Rec) => ((some { v1088 with fPart := r1064.1 }).bind fun (v1092 : T_api_Rec) => ((some { v1092 with fEpoch := r1072.1 }).bind fun (v1096 : T_api_Rec) => ((some { v1096 with fTag := r1080.1 }).bind fun (v1100 : T_api_Rec) => (j914 (r1080.2, v1100.fKind, v1100.fSaga, v1100.fSeq, v1100.fStep, v1100.fTry, v1100.fBack, v1100.fGood, v1100.fEnd, v1100.fPart, v1100.fEpoch, v1100.fTag, v1100.fSteps, v1100.fData, v1100.fSalt, v1100.fGone, v1100.fCom)))))))))) else (j914 (r1028.2, v1052.fKind, v1052.fSaga, v1052.fSeq, v1052.fStep, v1052.fTry, v1052.fBack, v1052.fGood, v1052.fEnd, v1052.fPart, v1052.fEpoch, v1052.fTag, v1052.fSteps, v1052.fData, v1052.fSalt, v1052.fGone, v1052.fCom))))))))))))) else (bif (decide (v607.fKind = (5 : Int))) then ((wire_Reader_Num.f K (r597.2)).bind fun (r1104 : (Int × T_wire_Reader)) => ((wire_Reader_Num.f K (r1104.2)).bind fun (r1112 : (Int × T_wire_Reader)) => ((wire_Reader_Num.f K (r1112.2)).bind fun (r1120 : (Int × T_wire_Reader)) => ((some { v607 with fSaga := r1104.1 }).bind fun (v1128 : T_api_Rec) => ((some { v1128 with fSeq := r1112.1 }).bind fun (v1132 : T_api_Rec) => ((some { v1132 with fEnd := r1120.1 }).bind fun (v1136 : T_api_Rec) => (j914 (r1120.2, v1136.fKind, v1136.fSaga, v1136.fSeq, v1136.fStep, v1136.fTry, v1136.fBack, v1136.fGood, v1136.fEnd, v1136.fPart, v1136.fEpoch, v1136.fTag, v1136.fSteps, v1136.fData, v1136.fSalt, v1136.fGone, v1136.fCom)))))))) else (bif (decide (v607.fKind = (6 : Int))) then ((wire_Reader_Num.f K (r597.2)).bind fun (r1140 : (Int × T_wire_Reader)) => ((wire_Reader_Num.f K (r1140.2)).bind fun (r1148 : (Int × T_wire_Reader)) => ((some { v607 with fPart := r1140.1 }).bind fun (v1156 : T_api_Rec) => ((some { v1156 with fEpoch := r1148.1 }).bind fun (v1160 : T_api_Rec) => (j914 (r1148.2, v1160.fKind, v1160.fSaga, v1160.fSeq, v1160.fStep, v1160.fTry, v1160.fBack, v1160.fGood, v1160.fEnd, v1160.fPart, v1160.fEpoch, v1160.fTag, v1160.fSteps, v1160.fData, v1160.fSalt, v1160.fGone, v1160.fCom)))))) else ((wire_Reader_Fail.f K ((2 : Int)) (r597.2)).bind fun (r1164 : (T_wire_Reader)) => (j914 (r1164, v607.fKind, v607.fSaga, v607.fSeq, v607.fStep, v607.fTry, v607.fBack, v607.fGood, v607.fEnd, v607.fPart, v607.fEpoch, v607.fTag, v607.fSteps, v607.fData, v607.fSalt, v607.fGone, v607.fCom))))))) (fun j1172 => (bif (decide (v607.fKind = (2 : Int))) then (j1172 (decide (v607.fKind = (2 : Int)))) else (bif (decide (v607.fKind = (4 : Int))) then (j1172 (decide (v607.fKind = (4 : Int)))) else (j1172 (decide (v607.fKind = (3 : Int)))))))))))))

def bundle_Get_2.f (K : Nat) (x5 : Int) (x6 : T_wire_Reader) : Option (T_api_Item × T_wire_Reader) :=
  ((rec_Read.f K (x6)).bind fun (r45 : (T_api_Rec × T_wire_Reader)) => ((some (T_api_Item.mk (x5) (r45.1) (([] : List (Vector Int 32))))).bind fun (v59 : T_api_Item) => (some (v59, r45.2))))

def bundle_read_api_Item_l1.b (K : Nat) (x5 : Int) (rec : ((List T_api_Item) × Int × T_wire_Reader) → Option ((List T_api_Item) × T_wire_Reader)) (y1125 : (List T_api_Item) × Int × T_wire_Reader) : Option ((List T_api_Item) × T_wire_Reader) :=
  (bif (decide (y1125.2.1 < x5)) then ((wire_Reader_Bad.f K (y1125.2.2)).bind fun (r1294 : (Int)) => (bif (!decide (r1294 = (0 : Int))) then (some (y1125.1, y1125.2.2)) else ((bundle_Get_2.f K (y1125.2.1) (y1125.2.2)).bind fun (r1299 : (T_api_Item × T_wire_Reader)) => ((catI 256 (y1125.1) (([r1299.1] : List T_api_Item))).bind fun (l1325 : (List T_api_Item)) => (rec (l1325, (IntKind.wrap .i64 (y1125.2.1 + (1 : Int))), r1299.2)))))) else (some (y1125.1, y1125.2.2)))

def bundle_read_api_Item_l1.l (K : Nat) (x5 : Int) : Nat → ((List T_api_Item) × Int × T_wire_Reader) → Option ((List T_api_Item) × T_wire_Reader)
  | 0, _ => none
  | k + 1, y => bundle_read_api_Item_l1.b K x5 (bundle_read_api_Item_l1.l K x5 k) y

theorem bundle_read_api_Item_l1.some {K : Nat} (x5 : Int) {k : Nat} {y : (List T_api_Item) × Int × T_wire_Reader} {s : ((List T_api_Item) × T_wire_Reader)} (h : bundle_read_api_Item_l1.l K x5 k y = some s) : ∃ k', k = k' + 1 ∧ bundle_read_api_Item_l1.b K x5 (bundle_read_api_Item_l1.l K x5 k') y = some s := by
  cases k with
  | zero => cases h
  | succ k => exact ⟨k, rfl, h⟩

def bundle_read_api_Item.f (K : Nat) (x5 : Int) (x6 : Int) (x7 : T_wire_Reader) : Option ((List T_api_Item) × T_wire_Reader) :=
  (jn (fun (y689 : T_wire_Reader) => ((bundle_read_api_Item_l1.l K x5 K (([] : List T_api_Item), (0 : Int), y689)).bind fun (z1233 : (List T_api_Item) × T_wire_Reader) => (some (z1233.1, z1233.2)))) (fun j1333 => (bif (decide (x6 < x5)) then ((wire_Reader_Fail.f K ((4 : Int)) (x7)).bind fun (r1335 : (T_wire_Reader)) => (j1333 r1335)) else (j1333 x7))))

def bundle_Get_3_1.f (K : Nat) (x5 : Int) (x6 : T_wire_Reader) : Option ((Vector Int 32) × T_wire_Reader) :=
  ((wire_Reader_Hash.f K (x6)).bind fun (r25 : ((Vector Int 32) × T_wire_Reader)) => (some (r25.1, r25.2)))

def bundle_read_api_Hash_l1.b (K : Nat) (x5 : Int) (rec : ((List (Vector Int 32)) × Int × T_wire_Reader) → Option ((List (Vector Int 32)) × T_wire_Reader)) (y945 : (List (Vector Int 32)) × Int × T_wire_Reader) : Option ((List (Vector Int 32)) × T_wire_Reader) :=
  (bif (decide (y945.2.1 < x5)) then ((wire_Reader_Bad.f K (y945.2.2)).bind fun (r1087 : (Int)) => (bif (!decide (r1087 = (0 : Int))) then (some (y945.1, y945.2.2)) else ((bundle_Get_3_1.f K (y945.2.1) (y945.2.2)).bind fun (r1092 : ((Vector Int 32) × T_wire_Reader)) => ((catI 32 (y945.1) (([r1092.1] : List (Vector Int 32)))).bind fun (l1109 : (List (Vector Int 32))) => (rec (l1109, (IntKind.wrap .i64 (y945.2.1 + (1 : Int))), r1092.2)))))) else (some (y945.1, y945.2.2)))

def bundle_read_api_Hash_l1.l (K : Nat) (x5 : Int) : Nat → ((List (Vector Int 32)) × Int × T_wire_Reader) → Option ((List (Vector Int 32)) × T_wire_Reader)
  | 0, _ => none
  | k + 1, y => bundle_read_api_Hash_l1.b K x5 (bundle_read_api_Hash_l1.l K x5 k) y

theorem bundle_read_api_Hash_l1.some {K : Nat} (x5 : Int) {k : Nat} {y : (List (Vector Int 32)) × Int × T_wire_Reader} {s : ((List (Vector Int 32)) × T_wire_Reader)} (h : bundle_read_api_Hash_l1.l K x5 k y = some s) : ∃ k', k = k' + 1 ∧ bundle_read_api_Hash_l1.b K x5 (bundle_read_api_Hash_l1.l K x5 k') y = some s := by
  cases k with
  | zero => cases h
  | succ k => exact ⟨k, rfl, h⟩

def bundle_read_api_Hash.f (K : Nat) (x5 : Int) (x6 : Int) (x7 : T_wire_Reader) : Option ((List (Vector Int 32)) × T_wire_Reader) :=
  (jn (fun (y581 : T_wire_Reader) => ((bundle_read_api_Hash_l1.l K x5 K (([] : List (Vector Int 32)), (0 : Int), y581)).bind fun (z1035 : (List (Vector Int 32)) × T_wire_Reader) => (some (z1035.1, z1035.2)))) (fun j1117 => (bif (decide (x6 < x5)) then ((wire_Reader_Fail.f K ((4 : Int)) (x7)).bind fun (r1119 : (T_wire_Reader)) => (j1117 r1119)) else (j1117 x7))))

def bundle_Get_3.f (K : Nat) (x5 : Int) (x6 : T_wire_Reader) : Option (T_api_Item × T_wire_Reader) :=
  (jn (fun (y561 : T_api_Item × T_wire_Reader) => ((wire_Reader_Num.f K (y561.2)).bind fun (r599 : (Int × T_wire_Reader)) => ((bundle_read_api_Hash.f K (r599.1) ((20 : Int)) (r599.2)).bind fun (r607 : ((List (Vector Int 32)) × T_wire_Reader)) => (some ({ y561.1 with fPath := r607.1 }, r607.2))))) (fun j625 => ((wire_Reader_Num.f K (x6)).bind fun (r706 : (Int × T_wire_Reader)) => ((rec_Read.f K (r706.2)).bind fun (r714 : (T_api_Rec × T_wire_Reader)) => ((some (T_api_Item.mk (r706.1) (r714.1) (([] : List (Vector Int 32))))).bind fun (v730 : T_api_Item) => (j625 (v730, r714.2)))))))

def bundle_read_api_Item_v2_l1.b (K : Nat) (x5 : Int) (rec : ((List T_api_Item) × Int × T_wire_Reader) → Option ((List T_api_Item) × T_wire_Reader)) (y1125 : (List T_api_Item) × Int × T_wire_Reader) : Option ((List T_api_Item) × T_wire_Reader) :=
  (bif (decide (y1125.2.1 < x5)) then ((wire_Reader_Bad.f K (y1125.2.2)).bind fun (r1294 : (Int)) => (bif (!decide (r1294 = (0 : Int))) then (some (y1125.1, y1125.2.2)) else ((bundle_Get_3.f K (y1125.2.1) (y1125.2.2)).bind fun (r1299 : (T_api_Item × T_wire_Reader)) => ((catI 256 (y1125.1) (([r1299.1] : List T_api_Item))).bind fun (l1325 : (List T_api_Item)) => (rec (l1325, (IntKind.wrap .i64 (y1125.2.1 + (1 : Int))), r1299.2)))))) else (some (y1125.1, y1125.2.2)))

def bundle_read_api_Item_v2_l1.l (K : Nat) (x5 : Int) : Nat → ((List T_api_Item) × Int × T_wire_Reader) → Option ((List T_api_Item) × T_wire_Reader)
  | 0, _ => none
  | k + 1, y => bundle_read_api_Item_v2_l1.b K x5 (bundle_read_api_Item_v2_l1.l K x5 k) y

theorem bundle_read_api_Item_v2_l1.some {K : Nat} (x5 : Int) {k : Nat} {y : (List T_api_Item) × Int × T_wire_Reader} {s : ((List T_api_Item) × T_wire_Reader)} (h : bundle_read_api_Item_v2_l1.l K x5 k y = some s) : ∃ k', k = k' + 1 ∧ bundle_read_api_Item_v2_l1.b K x5 (bundle_read_api_Item_v2_l1.l K x5 k') y = some s := by
  cases k with
  | zero => cases h
  | succ k => exact ⟨k, rfl, h⟩

def bundle_read_api_Item_v2.f (K : Nat) (x5 : Int) (x6 : Int) (x7 : T_wire_Reader) : Option ((List T_api_Item) × T_wire_Reader) :=
  (jn (fun (y689 : T_wire_Reader) => ((bundle_read_api_Item_v2_l1.l K x5 K (([] : List T_api_Item), (0 : Int), y689)).bind fun (z1233 : (List T_api_Item) × T_wire_Reader) => (some (z1233.1, z1233.2)))) (fun j1333 => (bif (decide (x6 < x5)) then ((wire_Reader_Fail.f K ((4 : Int)) (x7)).bind fun (r1335 : (T_wire_Reader)) => (j1333 r1335)) else (j1333 x7))))

def wire_Reader_Done.f (K : Nat) (x3 : T_wire_Reader) : Option (Int) :=
  ((wire_Reader_Bad.f K (x3)).bind fun (r22 : (Int)) => (bif (!decide (r22 = (0 : Int))) then (some r22) else (bif (decide ((0 : Int) < ((List.length (x3.fB) : Nat) : Int))) then (some (2 : Int)) else (some (0 : Int)))))

def bundle_Get.f (K : Nat) (x1 : (List Int)) : Option (T_api_Bundle × Int) :=
  ((bytes_CutPrefix.f K (x1) (([(105 : Int), (110 : Int), (115 : Int), (112 : Int)] : List Int))).bind fun (r316 : ((List Int) × Bool)) => (bif (!r316.2) then (some (z_T_api_Bundle, (2 : Int))) else ((wire_Read.f K (r316.1)).bind fun (r324 : (T_wire_Reader)) => ((wire_Reader_Flag.f K (r324)).bind fun (r336 : (Bool × T_wire_Reader)) => ((some { z_T_api_Bundle with fWhole := r336.1 }).bind fun (v346 : T_api_Bundle) => ((wire_Reader_Num.f K (r336.2)).bind fun (r350 : (Int × T_wire_Reader)) => ((some { v346 with fPoint := { v346.fPoint with fSize := r350.1 } }).bind fun (v358 : T_api_Bundle) => (jn (fun (y370 : T_wire_Reader) => ((wire_Reader_Hash.f K (y370)).bind fun (r376 : ((Vector Int 32) × T_wire_Reader)) => ((some { v358 with fPoint := { v358.fPoint with fRoot := r376.1 } }).bind fun (v384 : T_api_Bundle) => ((wire_Reader_Num.f K (r376.2)).bind fun (r409 : (Int × T_wire_Reader)) => ((bundle_read_api_Sig.f K (r409.1) ((4 : Int)) (r409.2)).bind fun (r417 : ((List T_api_Sig) × T_wire_Reader)) => (jn (fun (y485 : (List T_api_Item) × T_wire_Reader) => ((wire_Reader_Done.f K (y485.2)).bind fun (r501 : (Int)) => (bif (!decide (r501 = (0 : Int))) then (some (z_T_api_Bundle, r501)) else ((bundle_Right.f K ((T_api_Bundle.mk (v384.fWhole) ({ v384.fPoint with fSigs := r417.1 }) (y485.1)))).bind fun (r531 : (Bool)) => (bif (!r531) then (some (z_T_api_Bundle, (2 : Int))) else (some ((T_api_Bundle.mk (v384.fWhole) ({ v384.fPoint with fSigs := r417.1 }) (y485.1)), (0 : Int)))))))) (fun j536 => (bif v384.fWhole then ((bundle_read_api_Item.f K (v384.fPoint.fSize) ((400 : Int)) (r417.2)).bind fun (r538 : ((List T_api_Item) × T_wire_Reader)) => (j536 (r538.1, r538.2))) else ((wire_Reader_Num.f K (r417.2)).bind fun (r572 : (Int × T_wire_Reader)) => ((bundle_read_api_Item_v2.f K (r572.1) (v384.fPoint.fSize) (r572.2)).bind fun (r580 : ((List T_api_Item) × T_wire_Reader)) => (j536 (r580.1, r580.2)))))))))))) (fun j593 => (bif (decide ((400 : Int) < v358.fPoint.fSize)) then ((wire_Reader_Fail.f K ((4 : Int)) (r350.2)).bind fun (r595 : (T_wire_Reader)) => (j593 r595)) else (j593 r350.2)))))))))))

def slices_Equal_api_Sig_api_Sig_l1.b (K : Nat) (x1 : (List T_api_Sig)) (x5 : (List T_api_Sig)) (rec : Int → Option (Sum ((Bool)) (Unit))) (y1047 : Int) : Option (Sum ((Bool)) (Unit)) :=
  (bif (decide (y1047 < ((List.length (x1) : Nat) : Int))) then ((getI (x1) y1047).bind fun (x1226 : T_api_Sig) => ((getI (x5) y1047).bind fun (x1238 : T_api_Sig) => (bif (!((decide (x1226.fWit = x1238.fWit)) && ((decide (x1226.fTag = x1238.fTag)) && true))) then (some (Sum.inl false)) else (rec (IntKind.wrap .i64 (y1047 + (1 : Int))))))) else (some (Sum.inr ())))

def slices_Equal_api_Sig_api_Sig_l1.l (K : Nat) (x1 : (List T_api_Sig)) (x5 : (List T_api_Sig)) : Nat → (Int) → Option (Sum ((Bool)) (Unit))
  | 0, _ => none
  | k + 1, y => slices_Equal_api_Sig_api_Sig_l1.b K x1 x5 (slices_Equal_api_Sig_api_Sig_l1.l K x1 x5 k) y

theorem slices_Equal_api_Sig_api_Sig_l1.some {K : Nat} (x1 : (List T_api_Sig)) (x5 : (List T_api_Sig)) {k : Nat} {y : Int} {s : (Sum ((Bool)) (Unit))} (h : slices_Equal_api_Sig_api_Sig_l1.l K x1 x5 k y = some s) : ∃ k', k = k' + 1 ∧ slices_Equal_api_Sig_api_Sig_l1.b K x1 x5 (slices_Equal_api_Sig_api_Sig_l1.l K x1 x5 k') y = some s := by
  cases k with
  | zero => cases h
  | succ k => exact ⟨k, rfl, h⟩

def slices_Equal_api_Sig_api_Sig.f (K : Nat) (x1 : (List T_api_Sig)) (x5 : (List T_api_Sig)) : Option (Bool) :=
  (bif (!decide (((List.length (x1) : Nat) : Int) = ((List.length (x5) : Nat) : Int))) then (some false) else ((slices_Equal_api_Sig_api_Sig_l1.l K x1 x5 K (0 : Int)).bind fun s1250 => (match s1250 with | .inl u1251 => some u1251 | .inr u1252 => (fun (z1149 : Unit) => (some true)) u1252)))

def slices_Equal_api_Hash_api_Hash_l1.b (K : Nat) (x1 : (List (Vector Int 32))) (x5 : (List (Vector Int 32))) (rec : Int → Option (Sum ((Bool)) (Unit))) (y1047 : Int) : Option (Sum ((Bool)) (Unit)) :=
  (bif (decide (y1047 < ((List.length (x1) : Nat) : Int))) then ((getI (x1) y1047).bind fun (x1226 : (Vector Int 32)) => ((getI (x5) y1047).bind fun (x1238 : (Vector Int 32)) => (bif (!(decide (x1226 = x1238))) then (some (Sum.inl false)) else (rec (IntKind.wrap .i64 (y1047 + (1 : Int))))))) else (some (Sum.inr ())))

def slices_Equal_api_Hash_api_Hash_l1.l (K : Nat) (x1 : (List (Vector Int 32))) (x5 : (List (Vector Int 32))) : Nat → (Int) → Option (Sum ((Bool)) (Unit))
  | 0, _ => none
  | k + 1, y => slices_Equal_api_Hash_api_Hash_l1.b K x1 x5 (slices_Equal_api_Hash_api_Hash_l1.l K x1 x5 k) y

theorem slices_Equal_api_Hash_api_Hash_l1.some {K : Nat} (x1 : (List (Vector Int 32))) (x5 : (List (Vector Int 32))) {k : Nat} {y : Int} {s : (Sum ((Bool)) (Unit))} (h : slices_Equal_api_Hash_api_Hash_l1.l K x1 x5 k y = some s) : ∃ k', k = k' + 1 ∧ slices_Equal_api_Hash_api_Hash_l1.b K x1 x5 (slices_Equal_api_Hash_api_Hash_l1.l K x1 x5 k') y = some s := by
  cases k with
  | zero => cases h
  | succ k => exact ⟨k, rfl, h⟩

def slices_Equal_api_Hash_api_Hash.f (K : Nat) (x1 : (List (Vector Int 32))) (x5 : (List (Vector Int 32))) : Option (Bool) :=
  (bif (!decide (((List.length (x1) : Nat) : Int) = ((List.length (x5) : Nat) : Int))) then (some false) else ((slices_Equal_api_Hash_api_Hash_l1.l K x1 x5 K (0 : Int)).bind fun s1250 => (match s1250 with | .inl u1251 => some u1251 | .inr u1252 => (fun (z1149 : Unit) => (some true)) u1252)))

def bundle_Same_1.f (K : Nat) (x1 : T_api_Item) (x11 : T_api_Item) : Option (Bool) :=
  (bif (decide (x1.fAt = x11.fAt)) then ((rec_Same.f K (x1.fRec) (x11.fRec)).bind fun (r59 : (Bool)) => (bif r59 then ((slices_Equal_api_Hash_api_Hash.f K (x1.fPath) (x11.fPath)).bind fun (r64 : (Bool)) => (some r64)) else (some false))) else (some false))

def slices_EqualFunc_api_Item_api_Item_api_Item_api_Item_l1.b (K : Nat) (x1 : (List T_api_Item)) (x5 : (List T_api_Item)) (rec : Int → Option (Sum ((Bool)) (Unit))) (y1107 : Int) : Option (Sum ((Bool)) (Unit)) :=
  (bif (decide (y1107 < ((List.length (x1) : Nat) : Int))) then ((getI (x1) y1107).bind fun (x1271 : T_api_Item) => ((getI (x5) y1107).bind fun (x1294 : T_api_Item) => ((bundle_Same_1.f K (x1271) (x1294)).bind fun (r1317 : (Bool)) => (bif (!r1317) then (some (Sum.inl false)) else (rec (IntKind.wrap .i64 (y1107 + (1 : Int)))))))) else (some (Sum.inr ())))

def slices_EqualFunc_api_Item_api_Item_api_Item_api_Item_l1.l (K : Nat) (x1 : (List T_api_Item)) (x5 : (List T_api_Item)) : Nat → (Int) → Option (Sum ((Bool)) (Unit))
  | 0, _ => none
  | k + 1, y => slices_EqualFunc_api_Item_api_Item_api_Item_api_Item_l1.b K x1 x5 (slices_EqualFunc_api_Item_api_Item_api_Item_api_Item_l1.l K x1 x5 k) y

theorem slices_EqualFunc_api_Item_api_Item_api_Item_api_Item_l1.some {K : Nat} (x1 : (List T_api_Item)) (x5 : (List T_api_Item)) {k : Nat} {y : Int} {s : (Sum ((Bool)) (Unit))} (h : slices_EqualFunc_api_Item_api_Item_api_Item_api_Item_l1.l K x1 x5 k y = some s) : ∃ k', k = k' + 1 ∧ slices_EqualFunc_api_Item_api_Item_api_Item_api_Item_l1.b K x1 x5 (slices_EqualFunc_api_Item_api_Item_api_Item_api_Item_l1.l K x1 x5 k') y = some s := by
  cases k with
  | zero => cases h
  | succ k => exact ⟨k, rfl, h⟩

def slices_EqualFunc_api_Item_api_Item_api_Item_api_Item.f (K : Nat) (x1 : (List T_api_Item)) (x5 : (List T_api_Item)) : Option (Bool) :=
  (bif (!decide (((List.length (x1) : Nat) : Int) = ((List.length (x5) : Nat) : Int))) then (some false) else ((slices_EqualFunc_api_Item_api_Item_api_Item_api_Item_l1.l K x1 x5 K (0 : Int)).bind fun s1322 => (match s1322 with | .inl u1323 => some u1323 | .inr u1324 => (fun (z1215 : Unit) => (some true)) u1324)))

def bundle_Same.f (K : Nat) (x1 : T_api_Bundle) (x8 : T_api_Bundle) : Option (Bool) :=
  (jn (fun (y58 : Bool) => (some y58)) (fun j61 => (bif (x1.fWhole == x8.fWhole) then (bif (decide (x1.fPoint.fSize = x8.fPoint.fSize)) then (bif (decide (x1.fPoint.fRoot = x8.fPoint.fRoot)) then ((slices_Equal_api_Sig_api_Sig.f K (x1.fPoint.fSigs) (x8.fPoint.fSigs)).bind fun (r63 : (Bool)) => (bif r63 then ((slices_EqualFunc_api_Item_api_Item_api_Item_api_Item.f K (x1.fItems) (x8.fItems)).bind fun (r68 : (Bool)) => (j61 r68)) else (j61 false))) else (j61 false)) else (j61 false)) else (j61 false))))

def inspeximuslaw17_alive.f (K : Nat) : Option (Bool) :=
  ((bundle_Put.f K ({ z_T_api_Bundle with fWhole := true })).bind fun (r141 : ((List Int))) => ((some (T_api_Bundle.mk (false) ((T_api_Point.mk ((5 : Int)) ((Vector.replicate 32 (0 : Int))) (([(T_api_Sig.mk ((1 : Int)) ((Vector.replicate 32 (0 : Int))))] : List T_api_Sig)))) (([(T_api_Item.mk ((3 : Int)) ({ z_T_api_Rec with fKind := (6 : Int), fEpoch := (1 : Int) }) (([(vofL 32 [(1 : Int), (0 : Int), (0 : Int), (0 : Int), (0 : Int), (0 : Int), (0 : Int), (0 : Int), (0 : Int), (0 : Int), (0 : Int), (0 : Int), (0 : Int), (0 : Int), (0 : Int), (0 : Int), (0 : Int), (0 : Int), (0 : Int), (0 : Int), (0 : Int), (0 : Int), (0 : Int), (0 : Int), (0 : Int), (0 : Int), (0 : Int), (0 : Int), (0 : Int), (0 : Int), (0 : Int), (0 : Int)])] : List (Vector Int 32))))] : List T_api_Item)))).bind fun (v180 : T_api_Bundle) => ((bundle_Put.f K (v180)).bind fun (r184 : ((List Int))) => ((bundle_Get.f K (r184)).bind fun (r199 : (T_api_Bundle × Int)) => ((catI 1 (r184) (([(0 : Int)] : List Int))).bind fun (l221 : (List Int)) => ((bundle_Get.f K (l221)).bind fun (r233 : (T_api_Bundle × Int)) => (jn (fun (y261 : Bool) => (some y261)) (fun j264 => (bif (decide (((List.length (r141) : Nat) : Int) = (39 : Int))) then (bif (decide (r199.2 = (0 : Int))) then (bif (decide (r233.2 = (2 : Int))) then ((bundle_Same.f K (v180) (r199.1)).bind fun (r266 : (Bool)) => (bif r266 then ((bundle_Right.f K (v180)).bind fun (r271 : (Bool)) => (bif r271 then ((bundle_Right.f K ((T_api_Bundle.mk (true) ({ z_T_api_Point with fSize := (1 : Int) }) (([] : List T_api_Item))))).bind fun (r276 : (Bool)) => (bif (!r276) then (j264 (decide (((List.length (r184) : Nat) : Int) = (110 : Int)))) else (j264 false))) else (j264 false))) else (j264 false))) else (j264 false)) else (j264 false)) else (j264 false))))))))))

def inspeximusref01_Bytes_l1.b (K : Nat) (x1 : (List Int)) (x5 : (List Int)) (rec : Int → Option (Sum ((Bool)) (Unit))) (y1047 : Int) : Option (Sum ((Bool)) (Unit)) :=
  (bif (decide (y1047 < ((List.length (x1) : Nat) : Int))) then ((getI (x1) y1047).bind fun (x1226 : Int) => ((getI (x5) y1047).bind fun (x1238 : Int) => (bif (!decide (x1226 = x1238)) then (some (Sum.inl false)) else (rec (IntKind.wrap .i64 (y1047 + (1 : Int))))))) else (some (Sum.inr ())))

def inspeximusref01_Bytes_l1.l (K : Nat) (x1 : (List Int)) (x5 : (List Int)) : Nat → (Int) → Option (Sum ((Bool)) (Unit))
  | 0, _ => none
  | k + 1, y => inspeximusref01_Bytes_l1.b K x1 x5 (inspeximusref01_Bytes_l1.l K x1 x5 k) y

theorem inspeximusref01_Bytes_l1.some {K : Nat} (x1 : (List Int)) (x5 : (List Int)) {k : Nat} {y : Int} {s : (Sum ((Bool)) (Unit))} (h : inspeximusref01_Bytes_l1.l K x1 x5 k y = some s) : ∃ k', k = k' + 1 ∧ inspeximusref01_Bytes_l1.b K x1 x5 (inspeximusref01_Bytes_l1.l K x1 x5 k') y = some s := by
  cases k with
  | zero => cases h
  | succ k => exact ⟨k, rfl, h⟩

def inspeximusref01_Bytes.f (K : Nat) (x1 : (List Int)) (x5 : (List Int)) : Option (Bool) :=
  (bif (!decide (((List.length (x1) : Nat) : Int) = ((List.length (x5) : Nat) : Int))) then (some false) else ((inspeximusref01_Bytes_l1.l K x1 x5 K (0 : Int)).bind fun s1250 => (match s1250 with | .inl u1251 => some u1251 | .inr u1252 => (fun (z1149 : Unit) => (some true)) u1252)))

def inspeximuslaw17_BundleOne.f (K : Nat) (x1 : (List Int)) (x5 : Int) : Option (Bool) :=
  ((inspeximuslaw17_alive.f K).bind fun (r183 : (Bool)) => (bif (!r183) then (some false) else (jn (fun (y193 : Bool) => (bif y193 then (some true) else ((bundle_Get.f K (x1)).bind fun (r196 : (T_api_Bundle × Int)) => (bif (!decide (r196.2 = (0 : Int))) then (bif (decide (((List.length (r196.1.fItems) : Nat) : Int) = (0 : Int))) then ((bundle_Put.f K (r196.1)).bind fun (r239 : ((List Int))) => (some (decide ((0 : Int) < ((List.length (r239) : Nat) : Int))))) else (some false)) else (chk (!(decide (((List.length (x1) : Nat) : Int) = 0))) ((subI (x1) 0 (Int.tmod (IntKind.wrap .i64 x5) ((List.length (x1) : Nat) : Int))).bind fun (l250 : (List Int)) => ((bundle_Get.f K (l250)).bind fun (r255 : (T_api_Bundle × Int)) => ((subI (x1) 0 ((List.length (x1) : Nat) : Int)).bind fun (l268 : (List Int)) => ((catI 1 (l268) (([(IntKind.wrap .u8 x5)] : List Int))).bind fun (l283 : (List Int)) => ((bundle_Get.f K (l283)).bind fun (r295 : (T_api_Bundle × Int)) => ((bundle_Put.f K (r196.1)).bind fun (r328 : ((List Int))) => ((inspeximusref01_Bytes.f K (r328) (x1)).bind fun (r343 : (Bool)) => (bif r343 then (bif (!decide (r255.2 = (0 : Int))) then (some (decide (r295.2 = (2 : Int)))) else (some false)) else (some false)))))))))))))) (fun j348 => (bif (decide ((4000 : Int) < ((List.length (x1) : Nat) : Int))) then (j348 true) else (j348 (decide (((List.length (x1) : Nat) : Int) = (0 : Int)))))))))

end Go.Proofs.Ytnnhkfmknlfpbaa
