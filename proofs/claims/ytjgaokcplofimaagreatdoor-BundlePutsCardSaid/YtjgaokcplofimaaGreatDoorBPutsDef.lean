/-
 Data and plain functions, printed by a program: what the functions of the cut compute (fuel K; none: a panic, or the fuel is spent).
 Conditions: none; nothing is claimed here.
-/
import Derived.Test.YtjgaokcplofimaaGreatDoorSepQ
set_option linter.unusedVariables false
namespace Go.Proofs.YtjgaokcplofimaaGreatDoor
open Go Go.Sep
def gl_First : Vector Int 8 := vofL 8 [1779033703, 3144134277, 1013904242, 2773480762, 1359893119, 2600822924, 528734635, 1541459225]
def gl_K : Vector Int 64 := vofL 64 [1116352408, 1899447441, 3049323471, 3921009573, 961987163, 1508970993, 2453635748, 2870763221, 3624381080, 310598401, 607225278, 1426881987, 1925078388, 2162078206, 2614888103, 3248222580, 3835390401, 4022224774, 264347078, 604807628, 770255983, 1249150122, 1555081692, 1996064986, 2554220882, 2821834349, 2952996808, 3210313671, 3336571891, 3584528711, 113926993, 338241895, 666307205, 773529912, 1294757372, 1396182291, 1695183700, 1986661051, 2177026350, 2456956037, 2730485921, 2820302411, 3259730800, 3345764771, 3516065817, 3600352804, 4094571909, 275423344, 430227734, 506948616, 659060556, 883997877, 958139571, 1322822218, 1537002063, 1747873779, 1955562222, 2024104815, 2227730452, 2361852424, 2428436474, 2756734187, 3204031479, 3329325298]
structure T_api_Sig where
 fWit : Int
 fTag : (Vector Int 32)
 deriving DecidableEq
@[reducible] def c_T_api_Sig (x : T_api_Sig) : List Value :=
 [.int .i64 (x.fWit)] ++ (acells .u8 32 (x.fTag))
@[reducible] def kd_T_api_Sig : Kd T_api_Sig := kdMap (fun x => (x.fWit, x.fTag)) (kdPair (kdInt .i64) (kdArr .u8 32))
theorem kd_T_api_Sig_mk {D : Snap} {x : T_api_Sig} {ce0 ce1 : List Value} (he0 : (kdInt .i64).r D x.fWit ce0) (he1 : (kdArr .u8 32).r D x.fTag ce1) : kd_T_api_Sig.r D x (ce0 ++ (ce1)) := ⟨_, _, rfl, he0, he1⟩
theorem kd_T_api_Sig_el {D : Snap} {x : T_api_Sig} {cs : List Value} (h : kd_T_api_Sig.r D x cs) : cs = c_T_api_Sig ((T_api_Sig.mk (x.fWit) (x.fTag))) := by
 obtain ⟨c0, d0, rfl, he0, he1⟩ := h
 obtain rfl := he0
 obtain rfl := he1
 rfl
structure T_api_Point where
 fSize : Int
 fRoot : (Vector Int 32)
 fSigs : (List T_api_Sig)
 deriving DecidableEq
@[reducible] def z_T_api_Point : T_api_Point := ⟨(0 : Int), (Vector.replicate 32 (0 : Int)), ([] : List T_api_Sig)⟩
@[reducible] def c_T_api_Point (x : T_api_Point) (A1 : Option Addr) (c2 : Nat) : List Value :=
 [.int .i64 (x.fSize)] ++ (acells .u8 32 (x.fRoot) ++ ([.slice A1 (List.length (x.fSigs)) c2]))
@[reducible] def kd_T_api_Point : Kd T_api_Point := kdMap (fun x => (x.fSize, x.fRoot, x.fSigs)) (kdPair (kdInt .i64) (kdPair (kdArr .u8 32) (kdSlice kd_T_api_Sig)))
theorem kd_T_api_Point_mk {D : Snap} {x : T_api_Point} {ce0 ce1 ce2 : List Value} (he0 : (kdInt .i64).r D x.fSize ce0) (he1 : (kdArr .u8 32).r D x.fRoot ce1) (he2 : (kdSlice kd_T_api_Sig).r D x.fSigs ce2) : kd_T_api_Point.r D x (ce0 ++ (ce1 ++ (ce2))) := ⟨_, _, rfl, he0, ⟨_, _, rfl, he1, he2⟩⟩
theorem kd_T_api_Point_el {D : Snap} {x : T_api_Point} {cs : List Value} (h : kd_T_api_Point.r D x cs) : ∃ (A4 : Option Addr), ∃ (c5 : Nat), cs = c_T_api_Point ((T_api_Point.mk (x.fSize) (x.fRoot) (x.fSigs))) A4 c5 ∧ Sl kd_T_api_Sig D A4 c5 (x.fSigs) := by
 obtain ⟨c0, d0, rfl, he0, ⟨c1, d1, rfl, he1, he2⟩⟩ := h
 obtain rfl := he0
 obtain rfl := he1
 obtain ⟨A4, c5, rfl, h6⟩ := he2
 exact ⟨A4, c5, rfl, h6⟩
structure T_api_Step where
 fPart : Int
 fKind : Int
 deriving DecidableEq
@[reducible] def c_T_api_Step (x : T_api_Step) : List Value :=
 [.int .i64 (x.fPart)] ++ ([.int .i64 (x.fKind)])
@[reducible] def kd_T_api_Step : Kd T_api_Step := kdMap (fun x => (x.fPart, x.fKind)) (kdPair (kdInt .i64) (kdInt .i64))
theorem kd_T_api_Step_mk {D : Snap} {x : T_api_Step} {ce0 ce1 : List Value} (he0 : (kdInt .i64).r D x.fPart ce0) (he1 : (kdInt .i64).r D x.fKind ce1) : kd_T_api_Step.r D x (ce0 ++ (ce1)) := ⟨_, _, rfl, he0, he1⟩
theorem kd_T_api_Step_el {D : Snap} {x : T_api_Step} {cs : List Value} (h : kd_T_api_Step.r D x cs) : cs = c_T_api_Step ((T_api_Step.mk (x.fPart) (x.fKind))) := by
 obtain ⟨c0, d0, rfl, he0, he1⟩ := h
 obtain rfl := he0
 obtain rfl := he1
 rfl
structure T_api_Rec where
 fKind : Int
 fSaga : Int
 fSeq : Int
 fStep : Int
 fTry : Int
 fBack : Bool
 fGood : Bool
 fEnd : Int
 fPart : Int
 fEpoch : Int
 fTag : (Vector Int 32)
 fSteps : (List T_api_Step)
 fData : (List Int)
 fSalt : (Vector Int 32)
 fGone : Bool
 fCom : (Vector Int 32)
 deriving DecidableEq
@[reducible] def z_T_api_Rec : T_api_Rec := ⟨(0 : Int), (0 : Int), (0 : Int), (0 : Int), (0 : Int), false, false, (0 : Int), (0 : Int), (0 : Int), (Vector.replicate 32 (0 : Int)), ([] : List T_api_Step), ([] : List Int), (Vector.replicate 32 (0 : Int)), false, (Vector.replicate 32 (0 : Int))⟩
@[reducible] def c_T_api_Rec (x : T_api_Rec) (A7 : Option Addr) (c8 : Nat) (A10 : Option Addr) (c11 : Nat) : List Value :=
 [.int .i64 (x.fKind)] ++ ([.int .i64 (x.fSaga)] ++ ([.int .i64 (x.fSeq)] ++ ([.int .i64 (x.fStep)] ++ ([.int .i64 (x.fTry)] ++ ([.bool (x.fBack)] ++ ([.bool (x.fGood)] ++ ([.int .i64 (x.fEnd)] ++ ([.int .i64 (x.fPart)] ++ ([.int .i64 (x.fEpoch)] ++ (acells .u8 32 (x.fTag) ++ ([.slice A7 (List.length (x.fSteps)) c8] ++ ([.slice A10 (List.length (x.fData)) c11] ++ (acells .u8 32 (x.fSalt) ++ ([.bool (x.fGone)] ++ (acells .u8 32 (x.fCom))))))))))))))))
@[reducible] def kd_T_api_Rec : Kd T_api_Rec := kdMap (fun x => (x.fKind, x.fSaga, x.fSeq, x.fStep, x.fTry, x.fBack, x.fGood, x.fEnd, x.fPart, x.fEpoch, x.fTag, x.fSteps, x.fData, x.fSalt, x.fGone, x.fCom)) (kdPair (kdInt .i64) (kdPair (kdInt .i64) (kdPair (kdInt .i64) (kdPair (kdInt .i64) (kdPair (kdInt .i64) (kdPair kdBool (kdPair kdBool (kdPair (kdInt .i64) (kdPair (kdInt .i64) (kdPair (kdInt .i64) (kdPair (kdArr .u8 32) (kdPair (kdSlice kd_T_api_Step) (kdPair (kdSlice (kdInt .u8)) (kdPair (kdArr .u8 32) (kdPair kdBool (kdArr .u8 32))))))))))))))))
theorem kd_T_api_Rec_mk {D : Snap} {x : T_api_Rec} {ce0 ce1 ce2 ce3 ce4 ce5 ce6 ce7 ce8 ce9 ce10 ce11 ce12 ce13 ce14 ce15 : List Value} (he0 : (kdInt .i64).r D x.fKind ce0) (he1 : (kdInt .i64).r D x.fSaga ce1) (he2 : (kdInt .i64).r D x.fSeq ce2) (he3 : (kdInt .i64).r D x.fStep ce3) (he4 : (kdInt .i64).r D x.fTry ce4) (he5 : kdBool.r D x.fBack ce5) (he6 : kdBool.r D x.fGood ce6) (he7 : (kdInt .i64).r D x.fEnd ce7) (he8 : (kdInt .i64).r D x.fPart ce8) (he9 : (kdInt .i64).r D x.fEpoch ce9) (he10 : (kdArr .u8 32).r D x.fTag ce10) (he11 : (kdSlice kd_T_api_Step).r D x.fSteps ce11) (he12 : (kdSlice (kdInt .u8)).r D x.fData ce12) (he13 : (kdArr .u8 32).r D x.fSalt ce13) (he14 : kdBool.r D x.fGone ce14) (he15 : (kdArr .u8 32).r D x.fCom ce15) : kd_T_api_Rec.r D x (ce0 ++ (ce1 ++ (ce2 ++ (ce3 ++ (ce4 ++ (ce5 ++ (ce6 ++ (ce7 ++ (ce8 ++ (ce9 ++ (ce10 ++ (ce11 ++ (ce12 ++ (ce13 ++ (ce14 ++ (ce15)))))))))))))))) := ⟨_, _, rfl, he0, ⟨_, _, rfl, he1, ⟨_, _, rfl, he2, ⟨_, _, rfl, he3, ⟨_, _, rfl, he4, ⟨_, _, rfl, he5, ⟨_, _, rfl, he6, ⟨_, _, rfl, he7, ⟨_, _, rfl, he8, ⟨_, _, rfl, he9, ⟨_, _, rfl, he10, ⟨_, _, rfl, he11, ⟨_, _, rfl, he12, ⟨_, _, rfl, he13, ⟨_, _, rfl, he14, he15⟩⟩⟩⟩⟩⟩⟩⟩⟩⟩⟩⟩⟩⟩⟩
theorem kd_T_api_Rec_el {D : Snap} {x : T_api_Rec} {cs : List Value} (h : kd_T_api_Rec.r D x cs) : ∃ (A13 : Option Addr), ∃ (c14 : Nat), ∃ (A16 : Option Addr), ∃ (c17 : Nat), cs = c_T_api_Rec ((T_api_Rec.mk (x.fKind) (x.fSaga) (x.fSeq) (x.fStep) (x.fTry) (x.fBack) (x.fGood) (x.fEnd) (x.fPart) (x.fEpoch) (x.fTag) (x.fSteps) (x.fData) (x.fSalt) (x.fGone) (x.fCom))) A13 c14 A16 c17 ∧ Sl kd_T_api_Step D A13 c14 (x.fSteps) ∧ Sl (kdInt .u8) D A16 c17 (x.fData) := by
 obtain ⟨c0, d0, rfl, he0, ⟨c1, d1, rfl, he1, ⟨c2, d2, rfl, he2, ⟨c3, d3, rfl, he3, ⟨c4, d4, rfl, he4, ⟨c5, d5, rfl, he5, ⟨c6, d6, rfl, he6, ⟨c7, d7, rfl, he7, ⟨c8, d8, rfl, he8, ⟨c9, d9, rfl, he9, ⟨c10, d10, rfl, he10, ⟨c11, d11, rfl, he11, ⟨c12, d12, rfl, he12, ⟨c13, d13, rfl, he13, ⟨c14, d14, rfl, he14, he15⟩⟩⟩⟩⟩⟩⟩⟩⟩⟩⟩⟩⟩⟩⟩ := h
 obtain rfl := he0
 obtain rfl := he1
 obtain rfl := he2
 obtain rfl := he3
 obtain rfl := he4
 obtain rfl := he5
 obtain rfl := he6
 obtain rfl := he7
 obtain rfl := he8
 obtain rfl := he9
 obtain rfl := he10
 obtain ⟨A13, c14, rfl, h15⟩ := he11
 obtain ⟨A16, c17, rfl, h18⟩ := he12
 obtain rfl := he13
 obtain rfl := he14
 obtain rfl := he15
 exact ⟨A13, c14, A16, c17, rfl, h15, h18⟩
structure T_api_Item where
 fAt : Int
 fRec : T_api_Rec
 fPath : (List (Vector Int 32))
 deriving DecidableEq
@[reducible] def z_T_api_Item : T_api_Item := ⟨(0 : Int), z_T_api_Rec, ([] : List (Vector Int 32))⟩
@[reducible] def c_T_api_Item (x : T_api_Item) (A19 : Option Addr) (c20 : Nat) (A22 : Option Addr) (c23 : Nat) (A25 : Option Addr) (c26 : Nat) : List Value :=
 [.int .i64 (x.fAt)] ++ ((c_T_api_Rec ((T_api_Rec.mk (x.fRec.fKind) (x.fRec.fSaga) (x.fRec.fSeq) (x.fRec.fStep) (x.fRec.fTry) (x.fRec.fBack) (x.fRec.fGood) (x.fRec.fEnd) (x.fRec.fPart) (x.fRec.fEpoch) (x.fRec.fTag) (x.fRec.fSteps) (x.fRec.fData) (x.fRec.fSalt) (x.fRec.fGone) (x.fRec.fCom))) A19 c20 A22 c23) ++ ([.slice A25 (List.length (x.fPath)) c26]))
@[reducible] def kd_T_api_Item : Kd T_api_Item := kdMap (fun x => (x.fAt, x.fRec, x.fPath)) (kdPair (kdInt .i64) (kdPair kd_T_api_Rec (kdSlice (kdArr .u8 32))))
theorem kd_T_api_Item_mk {D : Snap} {x : T_api_Item} {ce0 ce1 ce2 : List Value} (he0 : (kdInt .i64).r D x.fAt ce0) (he1 : kd_T_api_Rec.r D x.fRec ce1) (he2 : (kdSlice (kdArr .u8 32)).r D x.fPath ce2) : kd_T_api_Item.r D x (ce0 ++ (ce1 ++ (ce2))) := ⟨_, _, rfl, he0, ⟨_, _, rfl, he1, he2⟩⟩
theorem kd_T_api_Item_el {D : Snap} {x : T_api_Item} {cs : List Value} (h : kd_T_api_Item.r D x cs) : ∃ (A28 : Option Addr), ∃ (c29 : Nat), ∃ (A31 : Option Addr), ∃ (c32 : Nat), ∃ (A34 : Option Addr), ∃ (c35 : Nat), cs = c_T_api_Item ((T_api_Item.mk (x.fAt) ((T_api_Rec.mk (x.fRec.fKind) (x.fRec.fSaga) (x.fRec.fSeq) (x.fRec.fStep) (x.fRec.fTry) (x.fRec.fBack) (x.fRec.fGood) (x.fRec.fEnd) (x.fRec.fPart) (x.fRec.fEpoch) (x.fRec.fTag) (x.fRec.fSteps) (x.fRec.fData) (x.fRec.fSalt) (x.fRec.fGone) (x.fRec.fCom))) (x.fPath))) A28 c29 A31 c32 A34 c35 ∧ Sl kd_T_api_Step D A28 c29 (x.fRec.fSteps) ∧ Sl (kdInt .u8) D A31 c32 (x.fRec.fData) ∧ Sl (kdArr .u8 32) D A34 c35 (x.fPath) := by
 obtain ⟨c0, d0, rfl, he0, ⟨c1, d1, rfl, he1, he2⟩⟩ := h
 obtain rfl := he0
 obtain ⟨A28, c29, A31, c32, rfl, h30, h33⟩ := kd_T_api_Rec_el he1
 obtain ⟨A34, c35, rfl, h36⟩ := he2
 exact ⟨A28, c29, A31, c32, A34, c35, rfl, h30, h33, h36⟩
structure T_api_Bundle where
 fWhole : Bool
 fPoint : T_api_Point
 fItems : (List T_api_Item)
 deriving DecidableEq
@[reducible] def z_T_api_Bundle : T_api_Bundle := ⟨false, z_T_api_Point, ([] : List T_api_Item)⟩
@[reducible] def c_T_api_Bundle (x : T_api_Bundle) (A43 : Option Addr) (c44 : Nat) (A46 : Option Addr) (c47 : Nat) : List Value :=
 [.bool (x.fWhole)] ++ ((c_T_api_Point ((T_api_Point.mk (x.fPoint.fSize) (x.fPoint.fRoot) (x.fPoint.fSigs))) A43 c44) ++ ([.slice A46 (List.length (x.fItems)) c47]))
@[reducible] def kd_T_api_Bundle : Kd T_api_Bundle := kdMap (fun x => (x.fWhole, x.fPoint, x.fItems)) (kdPair kdBool (kdPair kd_T_api_Point (kdSlice kd_T_api_Item)))
theorem kd_T_api_Bundle_el {D : Snap} {x : T_api_Bundle} {cs : List Value} (h : kd_T_api_Bundle.r D x cs) : ∃ (A49 : Option Addr), ∃ (c50 : Nat), ∃ (A52 : Option Addr), ∃ (c53 : Nat), cs = c_T_api_Bundle ((T_api_Bundle.mk (x.fWhole) ((T_api_Point.mk (x.fPoint.fSize) (x.fPoint.fRoot) (x.fPoint.fSigs))) (x.fItems))) A49 c50 A52 c53 ∧ Sl kd_T_api_Sig D A49 c50 (x.fPoint.fSigs) ∧ Sl kd_T_api_Item D A52 c53 (x.fItems) := by
 obtain ⟨c0, d0, rfl, he0, ⟨c1, d1, rfl, he1, he2⟩⟩ := h
 obtain rfl := he0
 obtain ⟨A49, c50, rfl, h51⟩ := kd_T_api_Point_el he1
 obtain ⟨A52, c53, rfl, h54⟩ := he2
 exact ⟨A49, c50, A52, c53, rfl, h51, h54⟩
structure T_rec_plain where
 fKind : Int
 fSaga : Int
 fSeq : Int
 fStep : Int
 fTry : Int
 fBack : Bool
 fGood : Bool
 fGone : Bool
 fEnd : Int
 fPart : Int
 fEpoch : Int
 deriving DecidableEq
@[reducible] def z_T_rec_plain : T_rec_plain := ⟨(0 : Int), (0 : Int), (0 : Int), (0 : Int), (0 : Int), false, false, false, (0 : Int), (0 : Int), (0 : Int)⟩
@[reducible] def c_T_rec_plain (x : T_rec_plain) : List Value :=
 [.int .i64 (x.fKind)] ++ ([.int .i64 (x.fSaga)] ++ ([.int .i64 (x.fSeq)] ++ ([.int .i64 (x.fStep)] ++ ([.int .i64 (x.fTry)] ++ ([.bool (x.fBack)] ++ ([.bool (x.fGood)] ++ ([.bool (x.fGone)] ++ ([.int .i64 (x.fEnd)] ++ ([.int .i64 (x.fPart)] ++ ([.int .i64 (x.fEpoch)]))))))))))
structure T_wire_Reader where
 fB : (List Int)
 fBad : Int
 deriving DecidableEq
@[reducible] def c_T_wire_Reader (x : T_wire_Reader) (A58 : Option Addr) (c59 : Nat) : List Value :=
 [.slice A58 (List.length (x.fB)) c59] ++ ([.int .i64 (x.fBad)])
def bundle_within.f (K : Nat) (x1 : Int) (x2 : Int) (x3 : Int) : Option (Bool) :=
 (bif (decide (x2 ≤ x1)) then (some (decide (x1 ≤ x3))) else (some false))
def bundle_point_1.f (K : Nat) (x1 : T_api_Sig) : Option (Bool) :=
 ((bundle_within.f K (x1.fWit) ((0 : Int)) ((3 : Int))).bind fun (r11 : (Bool)) => (some (!r11)))
def slices_IndexFunc_api_Sig_api_Sig_l1.b (K : Nat) (x1 : (List T_api_Sig)) (rec : Int → Option (Sum ((Int)) (Unit))) (y1 : Int) : Option (Sum ((Int)) (Unit)) :=
 (bif (decide (y1 < ((List.length (x1) : Nat) : Int))) then ((getI (x1) y1).bind fun (x2 : T_api_Sig) => ((bundle_point_1.f K (x2)).bind fun (r1 : (Bool)) => (bif r1 then (some (Sum.inl y1)) else (rec (IntKind.wrap .i64 (y1 + (1 : Int))))))) else (some (Sum.inr ())))
def slices_IndexFunc_api_Sig_api_Sig_l1.l (K : Nat) (x1 : (List T_api_Sig)) : Nat → (Int) → Option (Sum ((Int)) (Unit))
 | 0, _ => none
 | k + 1, y => slices_IndexFunc_api_Sig_api_Sig_l1.b K x1 (slices_IndexFunc_api_Sig_api_Sig_l1.l K x1 k) y
theorem slices_IndexFunc_api_Sig_api_Sig_l1.some {K : Nat} (x1 : (List T_api_Sig)) {k : Nat} {y : Int} {s : (Sum ((Int)) (Unit))} (h : slices_IndexFunc_api_Sig_api_Sig_l1.l K x1 k y = some s) : ∃ k', k = k' + 1 ∧ slices_IndexFunc_api_Sig_api_Sig_l1.b K x1 (slices_IndexFunc_api_Sig_api_Sig_l1.l K x1 k') y = some s := by
 cases k with
 | zero => cases h
 | succ k => exact ⟨k, rfl, h⟩
def slices_IndexFunc_api_Sig_api_Sig.f (K : Nat) (x1 : (List T_api_Sig)) : Option (Int) :=
 ((slices_IndexFunc_api_Sig_api_Sig_l1.l K x1 K (0 : Int)).bind fun s1 => (match s1 with | .inl u1 => some u1 | .inr u2 => (fun (z1 : Unit) => (some (-1 : Int))) u2))
def slices_ContainsFunc_api_Sig_api_Sig.f (K : Nat) (x1 : (List T_api_Sig)) : Option (Bool) :=
 ((slices_IndexFunc_api_Sig_api_Sig.f K (x1)).bind fun (r10 : (Int)) => (some (decide ((0 : Int) ≤ r10))))
def bundle_point.f (K : Nat) (x1 : T_api_Point) : Option (Bool) :=
 ((bundle_within.f K (x1.fSize) ((0 : Int)) ((400 : Int))).bind fun (r39 : (Bool)) => (bif r39 then (bif (decide (((List.length (x1.fSigs) : Nat) : Int) ≤ (4 : Int))) then ((slices_ContainsFunc_api_Sig_api_Sig.f K (x1.fSigs)).bind fun (r44 : (Bool)) => (some (!r44))) else (some false)) else (some false)))
def rec_within.f (K : Nat) (x1 : Int) (x2 : Int) (x3 : Int) : Option (Bool) :=
 (bif (decide (x2 ≤ x1)) then (some (decide (x1 ≤ x3))) else (some false))
def rec_ranges_1.f (K : Nat) (x1 : T_api_Step) : Option (Bool) :=
 ((rec_within.f K (x1.fPart) ((0 : Int)) ((3 : Int))).bind fun (r36 : (Bool)) => (bif (!r36) then (some true) else ((rec_within.f K (x1.fKind) ((1 : Int)) ((3 : Int))).bind fun (r41 : (Bool)) => (some (!r41)))))
def slices_IndexFunc_api_Step_api_Step_l1.b (K : Nat) (x1 : (List T_api_Step)) (rec : Int → Option (Sum ((Int)) (Unit))) (y1 : Int) : Option (Sum ((Int)) (Unit)) :=
 (bif (decide (y1 < ((List.length (x1) : Nat) : Int))) then ((getI (x1) y1).bind fun (x2 : T_api_Step) => ((rec_ranges_1.f K (x2)).bind fun (r1 : (Bool)) => (bif r1 then (some (Sum.inl y1)) else (rec (IntKind.wrap .i64 (y1 + (1 : Int))))))) else (some (Sum.inr ())))
def slices_IndexFunc_api_Step_api_Step_l1.l (K : Nat) (x1 : (List T_api_Step)) : Nat → (Int) → Option (Sum ((Int)) (Unit))
 | 0, _ => none
 | k + 1, y => slices_IndexFunc_api_Step_api_Step_l1.b K x1 (slices_IndexFunc_api_Step_api_Step_l1.l K x1 k) y
theorem slices_IndexFunc_api_Step_api_Step_l1.some {K : Nat} (x1 : (List T_api_Step)) {k : Nat} {y : Int} {s : (Sum ((Int)) (Unit))} (h : slices_IndexFunc_api_Step_api_Step_l1.l K x1 k y = some s) : ∃ k', k = k' + 1 ∧ slices_IndexFunc_api_Step_api_Step_l1.b K x1 (slices_IndexFunc_api_Step_api_Step_l1.l K x1 k') y = some s := by
 cases k with
 | zero => cases h
 | succ k => exact ⟨k, rfl, h⟩
def slices_IndexFunc_api_Step_api_Step.f (K : Nat) (x1 : (List T_api_Step)) : Option (Int) :=
 ((slices_IndexFunc_api_Step_api_Step_l1.l K x1 K (0 : Int)).bind fun s1 => (match s1 with | .inl u1 => some u1 | .inr u2 => (fun (z1 : Unit) => (some (-1 : Int))) u2))
def slices_ContainsFunc_api_Step_api_Step.f (K : Nat) (x1 : (List T_api_Step)) : Option (Bool) :=
 ((slices_IndexFunc_api_Step_api_Step.f K (x1)).bind fun (r10 : (Int)) => (some (decide ((0 : Int) ≤ r10))))
def rec_ranges.f (K : Nat) (x1 : T_api_Rec) : Option (Bool) :=
 (jn (fun (y1 : Bool) => (bif y1 then (some false) else (bif (decide (x1.fKind = (1 : Int))) then ((rec_within.f K (((List.length (x1.fSteps) : Nat) : Int)) ((1 : Int)) ((6 : Int))).bind fun (r1 : (Bool)) => (bif r1 then ((slices_ContainsFunc_api_Step_api_Step.f K (x1.fSteps)).bind fun (r2 : (Bool)) => (bif (!r2) then (some (decide (((List.length (x1.fData) : Nat) : Int) ≤ (60 : Int)))) else (some false))) else (some false))) else (jn (fun (y2 : Bool) => (bif y2 then ((rec_within.f K (x1.fSeq) ((1 : Int)) ((400 : Int))).bind fun (r3 : (Bool)) => (bif r3 then ((rec_within.f K (x1.fStep) ((0 : Int)) ((5 : Int))).bind fun (r4 : (Bool)) => (bif r4 then ((rec_within.f K (x1.fTry) ((1 : Int)) ((9 : Int))).bind fun (r5 : (Bool)) => (some r5)) else (some false))) else (some false))) else (bif (decide (x1.fKind = (5 : Int))) then ((rec_within.f K (x1.fSeq) ((1 : Int)) ((400 : Int))).bind fun (r6 : (Bool)) => (bif r6 then ((rec_within.f K (x1.fEnd) ((2 : Int)) ((4 : Int))).bind fun (r7 : (Bool)) => (some r7)) else (some false))) else (bif (decide (x1.fKind = (6 : Int))) then (some (decide ((1 : Int) ≤ x1.fEpoch))) else (some false))))) (fun j1 => (bif (decide (x1.fKind = (2 : Int))) then (j1 (decide (x1.fKind = (2 : Int)))) else (bif (decide (x1.fKind = (4 : Int))) then (j1 (decide (x1.fKind = (4 : Int)))) else (j1 (decide (x1.fKind = (3 : Int))))))))))) (fun j2 => ((rec_within.f K (x1.fSaga) ((0 : Int)) ((11 : Int))).bind fun (r8 : (Bool)) => (bif (!r8) then (j2 true) else ((rec_within.f K (x1.fPart) ((0 : Int)) ((3 : Int))).bind fun (r9 : (Bool)) => (bif (!r9) then (j2 true) else ((rec_within.f K (x1.fEpoch) ((0 : Int)) ((400 : Int))).bind fun (r10 : (Bool)) => (j2 (!r10)))))))))
def rec_kept.f (K : Nat) (x1 : T_api_Rec) : Option (T_api_Rec) :=
 ((some { z_T_api_Rec with fKind := x1.fKind }).bind fun (v1 : T_api_Rec) => (jn (fun (y1 : T_api_Rec) => (some y1)) (fun j1 => (jn (fun (y2 : T_api_Rec) => ((some { y2 with fSaga := x1.fSaga }).bind fun (v3 : T_api_Rec) => ((some { v3 with fSeq := x1.fSeq }).bind fun (v4 : T_api_Rec) => ((some { v4 with fStep := x1.fStep }).bind fun (v5 : T_api_Rec) => ((some { v5 with fTry := x1.fTry }).bind fun (v6 : T_api_Rec) => ((some { v6 with fBack := x1.fBack }).bind fun (v7 : T_api_Rec) => (j1 v7))))))) (fun j2 => (bif (decide (x1.fKind = (1 : Int))) then ((some { v1 with fSaga := x1.fSaga }).bind fun (v8 : T_api_Rec) => ((some { v8 with fSteps := x1.fSteps }).bind fun (v9 : T_api_Rec) => ((some { v9 with fGone := x1.fGone }).bind fun (v2 : T_api_Rec) => (bif x1.fGone then ((some { v2 with fCom := x1.fCom }).bind fun (v10 : T_api_Rec) => (j1 v10)) else ((some { v2 with fData := x1.fData }).bind fun (v11 : T_api_Rec) => ((some { v11 with fSalt := x1.fSalt }).bind fun (v12 : T_api_Rec) => (j1 v12))))))) else (bif (decide (x1.fKind = (3 : Int))) then ((some { v1 with fGood := x1.fGood }).bind fun (v13 : T_api_Rec) => ((some { v13 with fPart := x1.fPart }).bind fun (v14 : T_api_Rec) => ((some { v14 with fEpoch := x1.fEpoch }).bind fun (v15 : T_api_Rec) => ((some { v15 with fTag := x1.fTag }).bind fun (v16 : T_api_Rec) => (j2 v16))))) else (jn (fun (y3 : Bool) => (bif y3 then (j2 v1) else (bif (decide (x1.fKind = (5 : Int))) then ((some { v1 with fSaga := x1.fSaga }).bind fun (v17 : T_api_Rec) => ((some { v17 with fSeq := x1.fSeq }).bind fun (v18 : T_api_Rec) => ((some { v18 with fEnd := x1.fEnd }).bind fun (v19 : T_api_Rec) => (j1 v19)))) else (bif (decide (x1.fKind = (6 : Int))) then ((some { v1 with fPart := x1.fPart }).bind fun (v20 : T_api_Rec) => ((some { v20 with fEpoch := x1.fEpoch }).bind fun (v21 : T_api_Rec) => (j1 v21))) else (j1 v1))))) (fun j3 => (bif (decide (x1.fKind = (2 : Int))) then (j3 (decide (x1.fKind = (2 : Int)))) else (j3 (decide (x1.fKind = (4 : Int))))))))))))))
def slices_Equal_api_Step_api_Step_l1.b (K : Nat) (x1 : (List T_api_Step)) (x5 : (List T_api_Step)) (rec : Int → Option (Sum ((Bool)) (Unit))) (y1 : Int) : Option (Sum ((Bool)) (Unit)) :=
 (bif (decide (y1 < ((List.length (x1) : Nat) : Int))) then ((getI (x1) y1).bind fun (x2 : T_api_Step) => ((getI (x5) y1).bind fun (x3 : T_api_Step) => (bif (!((decide (x2.fPart = x3.fPart)) && ((decide (x2.fKind = x3.fKind)) && true))) then (some (Sum.inl false)) else (rec (IntKind.wrap .i64 (y1 + (1 : Int))))))) else (some (Sum.inr ())))
def slices_Equal_api_Step_api_Step_l1.l (K : Nat) (x1 : (List T_api_Step)) (x5 : (List T_api_Step)) : Nat → (Int) → Option (Sum ((Bool)) (Unit))
 | 0, _ => none
 | k + 1, y => slices_Equal_api_Step_api_Step_l1.b K x1 x5 (slices_Equal_api_Step_api_Step_l1.l K x1 x5 k) y
theorem slices_Equal_api_Step_api_Step_l1.some {K : Nat} (x1 : (List T_api_Step)) (x5 : (List T_api_Step)) {k : Nat} {y : Int} {s : (Sum ((Bool)) (Unit))} (h : slices_Equal_api_Step_api_Step_l1.l K x1 x5 k y = some s) : ∃ k', k = k' + 1 ∧ slices_Equal_api_Step_api_Step_l1.b K x1 x5 (slices_Equal_api_Step_api_Step_l1.l K x1 x5 k') y = some s := by
 cases k with
 | zero => cases h
 | succ k => exact ⟨k, rfl, h⟩
def slices_Equal_api_Step_api_Step.f (K : Nat) (x1 : (List T_api_Step)) (x5 : (List T_api_Step)) : Option (Bool) :=
 (bif (!decide (((List.length (x1) : Nat) : Int) = ((List.length (x5) : Nat) : Int))) then (some false) else ((slices_Equal_api_Step_api_Step_l1.l K x1 x5 K (0 : Int)).bind fun s1 => (match s1 with | .inl u1 => some u1 | .inr u2 => (fun (z1 : Unit) => (some true)) u2)))
def bytes_Equal.f (K : Nat) (x1 : (List Int)) (x5 : (List Int)) : Option (Bool) :=
 (some (ByteArray.toList (bofL (x1)) == ByteArray.toList (bofL (x5))))
def rec_head.f (K : Nat) (x1 : T_api_Rec) : Option (T_rec_plain) :=
 ((some (T_rec_plain.mk (x1.fKind) (x1.fSaga) (x1.fSeq) (x1.fStep) (x1.fTry) (x1.fBack) (x1.fGood) (x1.fGone) (x1.fEnd) (x1.fPart) (x1.fEpoch))).bind fun (v18 : T_rec_plain) => (some v18))
def rec_Same.f (K : Nat) (x1 : T_api_Rec) (x8 : T_api_Rec) : Option (Bool) :=
 (jn (fun (y1 : Bool) => (bif y1 then (some false) else (jn (fun (y2 : Bool) => (some y2)) (fun j1 => ((rec_head.f K (x1)).bind fun (r1 : (T_rec_plain)) => ((rec_head.f K (x8)).bind fun (r2 : (T_rec_plain)) => (bif ((decide (r1.fKind = r2.fKind)) && ((decide (r1.fSaga = r2.fSaga)) && ((decide (r1.fSeq = r2.fSeq)) && ((decide (r1.fStep = r2.fStep)) && ((decide (r1.fTry = r2.fTry)) && ((r1.fBack == r2.fBack) && ((r1.fGood == r2.fGood) && ((r1.fGone == r2.fGone) && ((decide (r1.fEnd = r2.fEnd)) && ((decide (r1.fPart = r2.fPart)) && ((decide (r1.fEpoch = r2.fEpoch)) && true))))))))))) then (bif (decide (x1.fTag = x8.fTag)) then (bif (decide (x1.fSalt = x8.fSalt)) then (j1 (decide (x1.fCom = x8.fCom))) else (j1 false)) else (j1 false)) else (j1 false)))))))) (fun j2 => ((slices_Equal_api_Step_api_Step.f K (x1.fSteps) (x8.fSteps)).bind fun (r3 : (Bool)) => (bif (!r3) then (j2 true) else ((bytes_Equal.f K (x1.fData) (x8.fData)).bind fun (r4 : (Bool)) => (j2 (!r4)))))))
def rec_Right.f (K : Nat) (x1 : T_api_Rec) : Option (Bool) :=
 ((rec_ranges.f K (x1)).bind fun (r1 : (Bool)) => (bif r1 then ((rec_kept.f K (x1)).bind fun (r2 : (T_api_Rec)) => ((rec_Same.f K (x1) (r2)).bind fun (r3 : (Bool)) => (some r3))) else (some false)))
def bundle_Right_l1.b (K : Nat) (x1 : T_api_Bundle) (rec : (Int × Int) → Option (Sum ((Bool)) (Unit))) (y1 : Int × Int) : Option (Sum ((Bool)) (Unit)) :=
 (bif (decide (y1.2 < ((List.length (x1.fItems) : Nat) : Int))) then ((getI (x1.fItems) y1.2).bind fun (x2 : T_api_Item) => (jn (fun (y2 : Bool) => (bif y2 then (some (Sum.inl false)) else (rec (x2.fAt, (IntKind.wrap .i64 (y1.2 + (1 : Int))))))) (fun j1 => ((rec_Right.f K (x2.fRec)).bind fun (r1 : (Bool)) => (bif (!r1) then (j1 true) else ((bundle_within.f K (x2.fAt) ((IntKind.wrap .i64 (y1.1 + (1 : Int)))) ((IntKind.wrap .i64 (x1.fPoint.fSize - (1 : Int))))).bind fun (r2 : (Bool)) => (bif (!r2) then (j1 true) else (bif (decide ((20 : Int) < ((List.length (x2.fPath) : Nat) : Int))) then (j1 true) else (bif x1.fWhole then (bif (!decide (x2.fAt = y1.2)) then (j1 true) else (j1 (decide ((0 : Int) < ((List.length (x2.fPath) : Nat) : Int))))) else (j1 false)))))))))) else (some (Sum.inr ())))
def bundle_Right_l1.l (K : Nat) (x1 : T_api_Bundle) : Nat → (Int × Int) → Option (Sum ((Bool)) (Unit))
 | 0, _ => none
 | k + 1, y => bundle_Right_l1.b K x1 (bundle_Right_l1.l K x1 k) y
theorem bundle_Right_l1.some {K : Nat} (x1 : T_api_Bundle) {k : Nat} {y : Int × Int} {s : (Sum ((Bool)) (Unit))} (h : bundle_Right_l1.l K x1 k y = some s) : ∃ k', k = k' + 1 ∧ bundle_Right_l1.b K x1 (bundle_Right_l1.l K x1 k') y = some s := by
 cases k with
 | zero => cases h
 | succ k => exact ⟨k, rfl, h⟩
def bundle_Right.f (K : Nat) (x1 : T_api_Bundle) : Option (Bool) :=
 (jn (fun (y1 : Bool) => (bif y1 then (some false) else ((bundle_Right_l1.l K x1 K ((-1 : Int), (0 : Int))).bind fun s1 => (match s1 with | .inl u1 => some u1 | .inr u2 => (fun (z1 : Unit) => (some true)) u2)))) (fun j1 => ((bundle_point.f K (x1.fPoint)).bind fun (r1 : (Bool)) => (bif (!r1) then (j1 true) else (bif (decide (x1.fPoint.fSize < ((List.length (x1.fItems) : Nat) : Int))) then (j1 true) else (bif x1.fWhole then (j1 (!decide (((List.length (x1.fItems) : Nat) : Int) = x1.fPoint.fSize))) else (j1 false)))))))
def wire_Flag.f (K : Nat) (x1 : Bool) : Option ((List Int)) :=
 (bif x1 then (some ([(1 : Int)] : List Int)) else (some ([(0 : Int)] : List Int)))
def slices_Reverse_byte_byte_l1.b (K : Nat) (rec : ((List Int) × Int × Int) → Option ((List Int))) (y1 : (List Int) × Int × Int) : Option ((List Int)) :=
 (bif (decide (y1.2.1 < y1.2.2)) then ((getI (y1.1) y1.2.2).bind fun (x1 : Int) => ((getI (y1.1) y1.2.1).bind fun (x2 : Int) => ((getI (y1.1) y1.2.1).bind fun (x3 : Int) => ((getI ((List.set (y1.1) (Int.toNat (y1.2.1)) (x1))) y1.2.2).bind fun (x4 : Int) => (rec ((List.set ((List.set (y1.1) (Int.toNat (y1.2.1)) (x1))) (Int.toNat (y1.2.2)) (x2)), (IntKind.wrap .i64 (y1.2.1 + (1 : Int))), (IntKind.wrap .i64 (y1.2.2 - (1 : Int))))))))) else (some y1.1))
def slices_Reverse_byte_byte_l1.l (K : Nat) : Nat → ((List Int) × Int × Int) → Option ((List Int))
 | 0, _ => none
 | k + 1, y => slices_Reverse_byte_byte_l1.b K (slices_Reverse_byte_byte_l1.l K k) y
theorem slices_Reverse_byte_byte_l1.some {K : Nat} {k : Nat} {y : (List Int) × Int × Int} {s : ((List Int))} (h : slices_Reverse_byte_byte_l1.l K k y = some s) : ∃ k', k = k' + 1 ∧ slices_Reverse_byte_byte_l1.b K (slices_Reverse_byte_byte_l1.l K k') y = some s := by
 cases k with
 | zero => cases h
 | succ k => exact ⟨k, rfl, h⟩
def slices_Reverse_byte_byte.f (K : Nat) (x1 : (List Int)) : Option ((List Int)) :=
 ((slices_Reverse_byte_byte_l1.l K K (x1, (0 : Int), (IntKind.wrap .i64 (((List.length (x1) : Nat) : Int) - (1 : Int))))).bind fun (z1 : (List Int)) => (some z1))
theorem slices_Reverse_byte_byte.len {K : Nat} {x r : List Int} (h : slices_Reverse_byte_byte.f K x = some r) : r.length = x.length := by
 have key : ∀ k y z, slices_Reverse_byte_byte_l1.l K k y = some z → z.length = y.1.length := by
  intro k
  induction k with
  | zero => intro y z h; cases h
  | succ k ih =>
   intro y z h
   have h : slices_Reverse_byte_byte_l1.b K (slices_Reverse_byte_byte_l1.l K k) y = some z := h
   unfold slices_Reverse_byte_byte_l1.b at h
   cases hc : decide (y.2.1 < y.2.2) with
   | false => rw [hc] at h; cases h; rfl
   | true =>
    rw [hc] at h
    replace h := cond_t rfl h
    obtain ⟨_, _, h⟩ := bind_some h
    obtain ⟨_, _, h⟩ := bind_some h
    obtain ⟨_, _, h⟩ := bind_some h
    obtain ⟨_, _, h⟩ := bind_some h
    have := ih _ _ h
    simpa using this
 unfold slices_Reverse_byte_byte.f at h
 obtain ⟨z, hz, h⟩ := bind_some h
 cases h
 exact key _ _ _ hz
def wire_Num_l1.b (K : Nat) (rec : (Int × (List Int)) → Option ((List Int))) (y1 : Int × (List Int)) : Option ((List Int)) :=
 (bif (decide ((0 : Int) < y1.1)) then ((catI 1 (y1.2) (([(bor .u8 (IntKind.wrap .u8 (Int.tmod y1.1 128)) (128 : Int))] : List Int))).bind fun (l1 : (List Int)) => (rec ((Int.fdiv y1.1 (2 ^ 7)), l1))) else (some y1.2))
def wire_Num_l1.l (K : Nat) : Nat → (Int × (List Int)) → Option ((List Int))
 | 0, _ => none
 | k + 1, y => wire_Num_l1.b K (wire_Num_l1.l K k) y
theorem wire_Num_l1.some {K : Nat} {k : Nat} {y : Int × (List Int)} {s : ((List Int))} (h : wire_Num_l1.l K k y = some s) : ∃ k', k = k' + 1 ∧ wire_Num_l1.b K (wire_Num_l1.l K k') y = some s := by
 cases k with
 | zero => cases h
 | succ k => exact ⟨k, rfl, h⟩
def wire_Num.f (K : Nat) (x1 : Int) : Option ((List Int)) :=
 (jn (fun (y1 : Bool) => (bif y1 then (some ([] : List Int)) else ((wire_Num_l1.l K K ((Int.fdiv x1 (2 ^ 7)), ([(IntKind.wrap .u8 (Int.tmod x1 128))] : List Int))).bind fun (z1 : (List Int)) => ((slices_Reverse_byte_byte.f K (z1)).bind fun (r1 : ((List Int))) => (some r1))))) (fun j1 => (bif (decide (x1 < (0 : Int))) then (j1 true) else (j1 (decide ((2147483647 : Int) < x1))))))
def slices_Clone_byte_byte.f (K : Nat) (x1 : (List Int)) : Option ((List Int)) :=
 ((catI 1 (([] : List Int)) (x1)).bind fun (l26 : (List Int)) => (some l26))
def wire_Hash.f (K : Nat) (x1 : (Vector Int 32)) : Option ((List Int)) :=
 ((subI (vlist (x1)) 0 ((32 : Nat) : Int)).bind fun (l32 : List Int) => ((slices_Clone_byte_byte.f K (l32)).bind fun (r37 : ((List Int))) => (some r37)))
def slices_Grow_byte_byte.f (K : Nat) (x1 : Int) : Option ((List Int)) :=
 (bif (decide (x1 < (0 : Int))) then none else (bif (decide ((0 : Int) < (IntKind.wrap .i64 (x1 - (IntKind.wrap .i64 (((0 : Nat) : Int) - ((0 : Nat) : Int))))))) then ((zerosI 1 ((0 : Int)) (IntKind.wrap .i64 (x1 - (IntKind.wrap .i64 (((0 : Nat) : Int) - ((0 : Nat) : Int)))))).bind fun (l37 : (List Int)) => ((subI (l37) 0 ((0 : Nat) : Int)).bind fun (l44 : (List Int)) => (some l44))) else (some ([] : List Int))))
def slices_Concat_byte_byte_l1.b (K : Nat) (x1 : (List (List Int))) (rec : (Int × Int) → Option (Int)) (y1 : Int × Int) : Option (Int) :=
 (bif (decide (y1.2 < ((List.length (x1) : Nat) : Int))) then ((getI (x1) y1.2).bind fun (x2 : (List Int)) => (bif (decide ((IntKind.wrap .i64 (y1.1 + ((List.length (x2) : Nat) : Int))) < (0 : Int))) then none else (rec ((IntKind.wrap .i64 (y1.1 + ((List.length (x2) : Nat) : Int))), (IntKind.wrap .i64 (y1.2 + (1 : Int))))))) else (some y1.1))
def slices_Concat_byte_byte_l1.l (K : Nat) (x1 : (List (List Int))) : Nat → (Int × Int) → Option (Int)
 | 0, _ => none
 | k + 1, y => slices_Concat_byte_byte_l1.b K x1 (slices_Concat_byte_byte_l1.l K x1 k) y
theorem slices_Concat_byte_byte_l1.some {K : Nat} (x1 : (List (List Int))) {k : Nat} {y : Int × Int} {s : (Int)} (h : slices_Concat_byte_byte_l1.l K x1 k y = some s) : ∃ k', k = k' + 1 ∧ slices_Concat_byte_byte_l1.b K x1 (slices_Concat_byte_byte_l1.l K x1 k') y = some s := by
 cases k with
 | zero => cases h
 | succ k => exact ⟨k, rfl, h⟩
def slices_Concat_byte_byte_l2.b (K : Nat) (x1 : (List (List Int))) (rec : ((List Int) × Int) → Option ((List Int))) (y1 : (List Int) × Int) : Option ((List Int)) :=
 (bif (decide (y1.2 < ((List.length (x1) : Nat) : Int))) then ((getI (x1) y1.2).bind fun (x2 : (List Int)) => ((catI 1 (y1.1) (x2)).bind fun (l1 : (List Int)) => (rec (l1, (IntKind.wrap .i64 (y1.2 + (1 : Int))))))) else (some y1.1))
def slices_Concat_byte_byte_l2.l (K : Nat) (x1 : (List (List Int))) : Nat → ((List Int) × Int) → Option ((List Int))
 | 0, _ => none
 | k + 1, y => slices_Concat_byte_byte_l2.b K x1 (slices_Concat_byte_byte_l2.l K x1 k) y
theorem slices_Concat_byte_byte_l2.some {K : Nat} (x1 : (List (List Int))) {k : Nat} {y : (List Int) × Int} {s : ((List Int))} (h : slices_Concat_byte_byte_l2.l K x1 k y = some s) : ∃ k', k = k' + 1 ∧ slices_Concat_byte_byte_l2.b K x1 (slices_Concat_byte_byte_l2.l K x1 k') y = some s := by
 cases k with
 | zero => cases h
 | succ k => exact ⟨k, rfl, h⟩
def slices_Concat_byte_byte.f (K : Nat) (x1 : (List (List Int))) : Option ((List Int)) :=
 ((slices_Concat_byte_byte_l1.l K x1 K ((0 : Int), (0 : Int))).bind fun (z1 : Int) => ((slices_Grow_byte_byte.f K (z1)).bind fun (r1 : ((List Int))) => ((slices_Concat_byte_byte_l2.l K x1 K (r1, (0 : Int))).bind fun (z2 : (List Int)) => (some z2))))
def wire_All.f (K : Nat) (x1 : (List (List Int))) : Option ((List Int)) :=
 ((slices_Concat_byte_byte.f K (x1)).bind fun (r20 : ((List Int))) => (some r20))
def bundle_Put_1.f (K : Nat) (x1 : T_api_Sig) : Option ((List Int)) :=
 ((wire_Num.f K (x1.fWit)).bind fun (r1 : ((List Int))) => ((wire_Hash.f K (x1.fTag)).bind fun (r2 : ((List Int))) => ((wire_All.f K (([r1, r2] : List (List Int)))).bind fun (r3 : ((List Int))) => (some r3))))
def bundle_list_api_Sig_l1.b (K : Nat) (x1 : (List T_api_Sig)) (rec : ((List Int) × Int) → Option ((List Int))) (y1 : (List Int) × Int) : Option ((List Int)) :=
 (bif (decide (y1.2 < ((List.length (x1) : Nat) : Int))) then ((getI (x1) y1.2).bind fun (x2 : T_api_Sig) => ((bundle_Put_1.f K (x2)).bind fun (r1 : ((List Int))) => ((catI 1 (y1.1) (r1)).bind fun (l1 : (List Int)) => (rec (l1, (IntKind.wrap .i64 (y1.2 + (1 : Int)))))))) else (some y1.1))
def bundle_list_api_Sig_l1.l (K : Nat) (x1 : (List T_api_Sig)) : Nat → ((List Int) × Int) → Option ((List Int))
 | 0, _ => none
 | k + 1, y => bundle_list_api_Sig_l1.b K x1 (bundle_list_api_Sig_l1.l K x1 k) y
theorem bundle_list_api_Sig_l1.some {K : Nat} (x1 : (List T_api_Sig)) {k : Nat} {y : (List Int) × Int} {s : ((List Int))} (h : bundle_list_api_Sig_l1.l K x1 k y = some s) : ∃ k', k = k' + 1 ∧ bundle_list_api_Sig_l1.b K x1 (bundle_list_api_Sig_l1.l K x1 k') y = some s := by
 cases k with
 | zero => cases h
 | succ k => exact ⟨k, rfl, h⟩
def bundle_list_api_Sig.f (K : Nat) (x1 : (List T_api_Sig)) : Option ((List Int)) :=
 ((wire_Num.f K (((List.length (x1) : Nat) : Int))).bind fun (r1 : ((List Int))) => ((bundle_list_api_Sig_l1.l K x1 K (r1, (0 : Int))).bind fun (z1 : (List Int)) => (some z1)))
def rec_forms.f (K : Nat) : Option Unit :=
 (some ())
def rec_numbers_l1.b (K : Nat) (x1 : (List Int)) (rec : ((List Int) × Int) → Option ((List Int))) (y1 : (List Int) × Int) : Option ((List Int)) :=
 (bif (decide (y1.2 < ((List.length (x1) : Nat) : Int))) then ((getI (x1) y1.2).bind fun (x2 : Int) => ((wire_Num.f K (x2)).bind fun (r1 : ((List Int))) => ((catI 1 (y1.1) (r1)).bind fun (l1 : (List Int)) => (rec (l1, (IntKind.wrap .i64 (y1.2 + (1 : Int)))))))) else (some y1.1))
def rec_numbers_l1.l (K : Nat) (x1 : (List Int)) : Nat → ((List Int) × Int) → Option ((List Int))
 | 0, _ => none
 | k + 1, y => rec_numbers_l1.b K x1 (rec_numbers_l1.l K x1 k) y
theorem rec_numbers_l1.some {K : Nat} (x1 : (List Int)) {k : Nat} {y : (List Int) × Int} {s : ((List Int))} (h : rec_numbers_l1.l K x1 k y = some s) : ∃ k', k = k' + 1 ∧ rec_numbers_l1.b K x1 (rec_numbers_l1.l K x1 k') y = some s := by
 cases k with
 | zero => cases h
 | succ k => exact ⟨k, rfl, h⟩
def rec_numbers.f (K : Nat) (x1 : (List Int)) : Option ((List Int)) :=
 ((rec_numbers_l1.l K x1 K (([] : List Int), (0 : Int))).bind fun (z1 : (List Int)) => (some z1))
def rec_begin_l1.b (K : Nat) (x1 : T_api_Rec) (rec : ((List Int) × Int) → Option ((List Int))) (y1 : (List Int) × Int) : Option ((List Int)) :=
 (bif (decide (y1.2 < ((List.length (x1.fSteps) : Nat) : Int))) then ((getI (x1.fSteps) y1.2).bind fun (x2 : T_api_Step) => ((rec_numbers.f K (([x2.fPart, x2.fKind] : List Int))).bind fun (r1 : ((List Int))) => ((catI 1 (y1.1) (r1)).bind fun (l1 : (List Int)) => (rec (l1, (IntKind.wrap .i64 (y1.2 + (1 : Int)))))))) else (some y1.1))
def rec_begin_l1.l (K : Nat) (x1 : T_api_Rec) : Nat → ((List Int) × Int) → Option ((List Int))
 | 0, _ => none
 | k + 1, y => rec_begin_l1.b K x1 (rec_begin_l1.l K x1 k) y
theorem rec_begin_l1.some {K : Nat} (x1 : T_api_Rec) {k : Nat} {y : (List Int) × Int} {s : ((List Int))} (h : rec_begin_l1.l K x1 k y = some s) : ∃ k', k = k' + 1 ∧ rec_begin_l1.b K x1 (rec_begin_l1.l K x1 k') y = some s := by
 cases k with
 | zero => cases h
 | succ k => exact ⟨k, rfl, h⟩
def rec_begin.f (K : Nat) (x1 : T_api_Rec) : Option ((List Int)) :=
 ((rec_numbers.f K (([x1.fSaga, ((List.length (x1.fSteps) : Nat) : Int)] : List Int))).bind fun (r1 : ((List Int))) => ((rec_begin_l1.l K x1 K (r1, (0 : Int))).bind fun (z1 : (List Int)) => (some z1)))
def rec_call.f (K : Nat) (x1 : T_api_Rec) : Option ((List Int)) :=
 ((rec_numbers.f K (([x1.fSaga, x1.fSeq, x1.fStep, x1.fTry] : List Int))).bind fun (r1 : ((List Int))) => ((wire_Flag.f K (x1.fBack)).bind fun (r2 : ((List Int))) => ((wire_All.f K (([r1, r2] : List (List Int)))).bind fun (r3 : ((List Int))) => (some r3))))
def rec_forms_1.f (K : Nat) (x1 : T_api_Rec) : Option ((List Int)) :=
 ((rec_call.f K (x1)).bind fun (r1 : ((List Int))) => ((wire_Flag.f K (x1.fGood)).bind fun (r2 : ((List Int))) => ((rec_numbers.f K (([x1.fPart, x1.fEpoch] : List Int))).bind fun (r3 : ((List Int))) => ((wire_Hash.f K (x1.fTag)).bind fun (r4 : ((List Int))) => ((wire_All.f K (([r1, r2, r3, r4] : List (List Int)))).bind fun (r5 : ((List Int))) => (some r5))))))
def rec_forms_2.f (K : Nat) (x1 : T_api_Rec) : Option ((List Int)) :=
 ((rec_numbers.f K (([x1.fSaga, x1.fSeq, x1.fEnd] : List Int))).bind fun (r45 : ((List Int))) => (some r45))
def rec_forms_3.f (K : Nat) (x1 : T_api_Rec) : Option ((List Int)) :=
 ((rec_numbers.f K (([x1.fPart, x1.fEpoch] : List Int))).bind fun (r45 : ((List Int))) => (some r45))
def wire_Bytes.f (K : Nat) (x1 : (List Int)) : Option ((List Int)) :=
 ((wire_Num.f K (((List.length (x1) : Nat) : Int))).bind fun (r27 : ((List Int))) => ((catI 1 (r27) (x1)).bind fun (l37 : (List Int)) => (some l37)))
def rec_Open_1.f (K : Nat) (x3 : T_api_Rec) : Option ((List Int)) :=
 (bif x3.fGone then ((wire_Flag.f K (true)).bind fun (r1 : ((List Int))) => ((wire_Hash.f K (x3.fCom)).bind fun (r2 : ((List Int))) => ((wire_All.f K (([r1, r2] : List (List Int)))).bind fun (r3 : ((List Int))) => (some r3)))) else ((wire_Flag.f K (false)).bind fun (r4 : ((List Int))) => ((wire_Hash.f K (x3.fSalt)).bind fun (r5 : ((List Int))) => ((wire_Bytes.f K (x3.fData)).bind fun (r6 : ((List Int))) => ((wire_All.f K (([r4, r5, r6] : List (List Int)))).bind fun (r7 : ((List Int))) => (some r7))))))
def rec_put.f (K : Nat) (x3 : T_api_Rec) (x10 : T_api_Rec) : Option ((List Int)) :=
 ((rec_Right.f K (x3)).bind fun (r2 : (Bool)) => (bif (!r2) then (some ([] : List Int)) else (jn (fun (y1 : (List Int)) => (bif (decide (x3.fKind = (1 : Int))) then ((rec_Open_1.f K (x10)).bind fun (r3 : ((List Int))) => ((catI 1 (y1) (r3)).bind fun (l1 : (List Int)) => (some l1))) else (some y1))) (fun j1 => ((wire_Num.f K (x3.fKind)).bind fun (r1 : ((List Int))) => ((rec_forms.f K).bind fun (r16 : Unit) => (bif decide (x3.fKind = (0 : Int)) then none else (bif decide (x3.fKind = (1 : Int)) then ((rec_begin.f K (x3)).bind fun (r4 : ((List Int))) => ((wire_All.f K (([r1, r4] : List (List Int)))).bind fun (r5 : ((List Int))) => (j1 r5))) else (bif decide (x3.fKind = (2 : Int)) then ((rec_call.f K (x3)).bind fun (r6 : ((List Int))) => ((wire_All.f K (([r1, r6] : List (List Int)))).bind fun (r7 : ((List Int))) => (j1 r7))) else (bif decide (x3.fKind = (3 : Int)) then ((rec_forms_1.f K (x3)).bind fun (r8 : ((List Int))) => ((wire_All.f K (([r1, r8] : List (List Int)))).bind fun (r9 : ((List Int))) => (j1 r9))) else (bif decide (x3.fKind = (4 : Int)) then ((rec_call.f K (x3)).bind fun (r10 : ((List Int))) => ((wire_All.f K (([r1, r10] : List (List Int)))).bind fun (r11 : ((List Int))) => (j1 r11))) else (bif decide (x3.fKind = (5 : Int)) then ((rec_forms_2.f K (x3)).bind fun (r12 : ((List Int))) => ((wire_All.f K (([r1, r12] : List (List Int)))).bind fun (r13 : ((List Int))) => (j1 r13))) else (bif decide (x3.fKind = (6 : Int)) then ((rec_forms_3.f K (x3)).bind fun (r14 : ((List Int))) => ((wire_All.f K (([r1, r14] : List (List Int)))).bind fun (r15 : ((List Int))) => (j1 r15))) else none)))))))))))))
def rec_Open.f (K : Nat) (x1 : T_api_Rec) : Option ((List Int)) :=
 ((rec_put.f K (x1) (x1)).bind fun (r27 : ((List Int))) => (some r27))
def bundle_list_api_Hash_l1.b (K : Nat) (x1 : (List (Vector Int 32))) (rec : ((List Int) × Int) → Option ((List Int))) (y1 : (List Int) × Int) : Option ((List Int)) :=
 (bif (decide (y1.2 < ((List.length (x1) : Nat) : Int))) then ((getI (x1) y1.2).bind fun (x2 : (Vector Int 32)) => ((wire_Hash.f K (x2)).bind fun (r1 : ((List Int))) => ((catI 1 (y1.1) (r1)).bind fun (l1 : (List Int)) => (rec (l1, (IntKind.wrap .i64 (y1.2 + (1 : Int)))))))) else (some y1.1))
def bundle_list_api_Hash_l1.l (K : Nat) (x1 : (List (Vector Int 32))) : Nat → ((List Int) × Int) → Option ((List Int))
 | 0, _ => none
 | k + 1, y => bundle_list_api_Hash_l1.b K x1 (bundle_list_api_Hash_l1.l K x1 k) y
theorem bundle_list_api_Hash_l1.some {K : Nat} (x1 : (List (Vector Int 32))) {k : Nat} {y : (List Int) × Int} {s : ((List Int))} (h : bundle_list_api_Hash_l1.l K x1 k y = some s) : ∃ k', k = k' + 1 ∧ bundle_list_api_Hash_l1.b K x1 (bundle_list_api_Hash_l1.l K x1 k') y = some s := by
 cases k with
 | zero => cases h
 | succ k => exact ⟨k, rfl, h⟩
def bundle_list_api_Hash.f (K : Nat) (x1 : (List (Vector Int 32))) : Option ((List Int)) :=
 ((wire_Num.f K (((List.length (x1) : Nat) : Int))).bind fun (r1 : ((List Int))) => ((bundle_list_api_Hash_l1.l K x1 K (r1, (0 : Int))).bind fun (z1 : (List Int)) => (some z1)))
def bundle_item.f (K : Nat) (x1 : T_api_Item) : Option ((List Int)) :=
 ((wire_Num.f K (x1.fAt)).bind fun (r1 : ((List Int))) => ((rec_Open.f K (x1.fRec)).bind fun (r2 : ((List Int))) => ((bundle_list_api_Hash.f K (x1.fPath)).bind fun (r3 : ((List Int))) => ((wire_All.f K (([r1, r2, r3] : List (List Int)))).bind fun (r4 : ((List Int))) => (some r4)))))
def bundle_list_api_Item_l1.b (K : Nat) (x1 : (List T_api_Item)) (rec : ((List Int) × Int) → Option ((List Int))) (y1 : (List Int) × Int) : Option ((List Int)) :=
 (bif (decide (y1.2 < ((List.length (x1) : Nat) : Int))) then ((getI (x1) y1.2).bind fun (x2 : T_api_Item) => ((bundle_item.f K (x2)).bind fun (r1 : ((List Int))) => ((catI 1 (y1.1) (r1)).bind fun (l1 : (List Int)) => (rec (l1, (IntKind.wrap .i64 (y1.2 + (1 : Int)))))))) else (some y1.1))
def bundle_list_api_Item_l1.l (K : Nat) (x1 : (List T_api_Item)) : Nat → ((List Int) × Int) → Option ((List Int))
 | 0, _ => none
 | k + 1, y => bundle_list_api_Item_l1.b K x1 (bundle_list_api_Item_l1.l K x1 k) y
theorem bundle_list_api_Item_l1.some {K : Nat} (x1 : (List T_api_Item)) {k : Nat} {y : (List Int) × Int} {s : ((List Int))} (h : bundle_list_api_Item_l1.l K x1 k y = some s) : ∃ k', k = k' + 1 ∧ bundle_list_api_Item_l1.b K x1 (bundle_list_api_Item_l1.l K x1 k') y = some s := by
 cases k with
 | zero => cases h
 | succ k => exact ⟨k, rfl, h⟩
def bundle_list_api_Item.f (K : Nat) (x1 : (List T_api_Item)) : Option ((List Int)) :=
 ((wire_Num.f K (((List.length (x1) : Nat) : Int))).bind fun (r1 : ((List Int))) => ((bundle_list_api_Item_l1.l K x1 K (r1, (0 : Int))).bind fun (z1 : (List Int)) => (some z1)))
def bundle_Put_l1.b (K : Nat) (x1 : T_api_Bundle) (rec : ((List Int) × Int) → Option ((List Int))) (y1 : (List Int) × Int) : Option ((List Int)) :=
 (bif (decide (y1.2 < ((List.length (x1.fItems) : Nat) : Int))) then ((getI (x1.fItems) y1.2).bind fun (x2 : T_api_Item) => ((rec_Open.f K (x2.fRec)).bind fun (r1 : ((List Int))) => ((catI 1 (y1.1) (r1)).bind fun (l1 : (List Int)) => (rec (l1, (IntKind.wrap .i64 (y1.2 + (1 : Int)))))))) else (some y1.1))
def bundle_Put_l1.l (K : Nat) (x1 : T_api_Bundle) : Nat → ((List Int) × Int) → Option ((List Int))
 | 0, _ => none
 | k + 1, y => bundle_Put_l1.b K x1 (bundle_Put_l1.l K x1 k) y
theorem bundle_Put_l1.some {K : Nat} (x1 : T_api_Bundle) {k : Nat} {y : (List Int) × Int} {s : ((List Int))} (h : bundle_Put_l1.l K x1 k y = some s) : ∃ k', k = k' + 1 ∧ bundle_Put_l1.b K x1 (bundle_Put_l1.l K x1 k') y = some s := by
 cases k with
 | zero => cases h
 | succ k => exact ⟨k, rfl, h⟩
def bundle_Put.f (K : Nat) (x1 : T_api_Bundle) : Option ((List Int)) :=
 ((bundle_Right.f K (x1)).bind fun (r1 : (Bool)) => (bif (!r1) then (some ([] : List Int)) else (jn (fun (y1 : (List Int)) => (bif (!x1.fWhole) then ((bundle_list_api_Item.f K (x1.fItems)).bind fun (r2 : ((List Int))) => ((catI 1 (y1) (r2)).bind fun (l1 : (List Int)) => (some l1))) else ((bundle_Put_l1.l K x1 K (y1, (0 : Int))).bind fun (z1 : (List Int)) => (some z1)))) (fun j1 => ((wire_Flag.f K (x1.fWhole)).bind fun (r3 : ((List Int))) => ((wire_Num.f K (x1.fPoint.fSize)).bind fun (r4 : ((List Int))) => ((wire_Hash.f K (x1.fPoint.fRoot)).bind fun (r5 : ((List Int))) => ((bundle_list_api_Sig.f K (x1.fPoint.fSigs)).bind fun (r6 : ((List Int))) => ((wire_All.f K (([([(105 : Int), (110 : Int), (115 : Int), (112 : Int)] : List Int), r3, r4, r5, r6] : List (List Int)))).bind fun (r7 : ((List Int))) => (j1 r7))))))))))
def bytes_HasPrefix.f (K : Nat) (x1 : (List Int)) (x5 : (List Int)) : Option (Bool) :=
 (bif (decide (((List.length (x5) : Nat) : Int) ≤ ((List.length (x1) : Nat) : Int))) then ((subI (x1) 0 ((List.length (x5) : Nat) : Int)).bind fun (l39 : (List Int)) => ((bytes_Equal.f K (l39) (x5)).bind fun (r44 : (Bool)) => (some r44))) else (some false))
def bytes_CutPrefix.f (K : Nat) (x1 : (List Int)) (x5 : (List Int)) : Option ((List Int) × Bool) :=
 ((bytes_HasPrefix.f K (x1) (x5)).bind fun (r32 : (Bool)) => (bif (!r32) then (some (x1, false)) else ((subI (x1) ((List.length (x5) : Nat) : Int) ((List.length (x1) : Nat) : Int)).bind fun (l37 : (List Int)) => (some (l37, true)))))
def wire_Read.f (K : Nat) (x1 : (List Int)) : Option (T_wire_Reader) :=
 ((slices_Clone_byte_byte.f K (x1)).bind fun (r27 : ((List Int))) => (some (T_wire_Reader.mk (r27) ((0 : Int)))))
def wire_Reader_Bad.f (K : Nat) (x3 : T_wire_Reader) : Option (Int) :=
 (some x3.fBad)
def wire_Reader_Flag_1.f (K : Nat) (x1 : (List Int)) : Option (Bool × Int × Int) :=
 (bif (decide (((List.length (x1) : Nat) : Int) = (0 : Int))) then (some (false, (0 : Int), (3 : Int))) else ((getI (x1) (0 : Int)).bind fun (x81 : Int) => (bif (decide ((1 : Int) < x81)) then (some (false, (0 : Int), (2 : Int))) else ((getI (x1) (0 : Int)).bind fun (x2 : Int) => (some ((decide (x2 = (1 : Int))), (1 : Int), (0 : Int)))))))
def wire_Reader_Fail.f (K : Nat) (x3 : Int) (x4 : T_wire_Reader) : Option (T_wire_Reader) :=
 (jn (fun (y20 : Bool) => (bif y20 then ((some (T_wire_Reader.mk (([] : List Int)) (x4.fBad))).bind fun (v23 : T_wire_Reader) => ((some (T_wire_Reader.mk (([] : List Int)) (x3))).bind fun (v25 : T_wire_Reader) => (some (T_wire_Reader.mk (([] : List Int)) (v25.fBad))))) else (some x4))) (fun j27 => (bif (decide (x4.fBad = (0 : Int))) then (j27 (!decide (x3 = (0 : Int)))) else (j27 false))))
def wire_take_bool.f (K : Nat) (x3 : T_wire_Reader) : Option (Bool × T_wire_Reader) :=
 ((wire_Reader_Bad.f K (x3)).bind fun (r54 : (Int)) => (bif (!decide (r54 = (0 : Int))) then (some (false, x3)) else ((wire_Reader_Flag_1.f K (x3.fB)).bind fun (r59 : (Bool × Int × Int)) => (bif (!decide (r59.2.2 = (0 : Int))) then ((wire_Reader_Fail.f K (r59.2.2) (x3)).bind fun (r72 : (T_wire_Reader)) => (some (false, r72))) else ((subI (x3.fB) r59.2.1 ((List.length (x3.fB) : Nat) : Int)).bind fun (l80 : (List Int)) => ((some (T_wire_Reader.mk (l80) (x3.fBad))).bind fun (v85 : T_wire_Reader) => (some (r59.1, v85))))))))
def wire_Reader_Flag.f (K : Nat) (x3 : T_wire_Reader) : Option (Bool × T_wire_Reader) :=
 ((wire_take_bool.f K (x3)).bind fun (r18 : (Bool × T_wire_Reader)) => (some (r18.1, r18.2)))
def wire_number_l1.b (K : Nat) (x1 : (List Int)) (rec : (Int × Int) → Option (Sum ((Int × Int × Int)) (Unit))) (y1 : Int × Int) : Option (Sum ((Int × Int × Int)) (Unit)) :=
 (bif (decide (y1.2 < ((List.length (x1) : Nat) : Int))) then ((getI (x1) y1.2).bind fun (x2 : Int) => (jn (fun (y2 : Bool) => (bif y2 then (some (Sum.inl ((0 : Int), (0 : Int), (2 : Int)))) else (bif (decide (x2 < (128 : Int))) then (bif (decide ((2147483647 : Int) < (bor .i64 (IntKind.wrap .i64 (y1.1 * 2 ^ 7)) (IntKind.wrap .i64 (Int.tmod x2 128))))) then (some (Sum.inl ((0 : Int), (0 : Int), (2 : Int)))) else (some (Sum.inl ((bor .i64 (IntKind.wrap .i64 (y1.1 * 2 ^ 7)) (IntKind.wrap .i64 (Int.tmod x2 128))), (IntKind.wrap .i64 (y1.2 + (1 : Int))), (0 : Int))))) else (rec ((bor .i64 (IntKind.wrap .i64 (y1.1 * 2 ^ 7)) (IntKind.wrap .i64 (Int.tmod x2 128))), (IntKind.wrap .i64 (y1.2 + (1 : Int)))))))) (fun j1 => (bif (decide (y1.2 = (0 : Int))) then (bif (decide (x2 = (128 : Int))) then (j1 true) else (j1 (decide (y1.2 = (5 : Int))))) else (j1 (decide (y1.2 = (5 : Int)))))))) else (some (Sum.inr ())))
def wire_number_l1.l (K : Nat) (x1 : (List Int)) : Nat → (Int × Int) → Option (Sum ((Int × Int × Int)) (Unit))
 | 0, _ => none
 | k + 1, y => wire_number_l1.b K x1 (wire_number_l1.l K x1 k) y
theorem wire_number_l1.some {K : Nat} (x1 : (List Int)) {k : Nat} {y : Int × Int} {s : (Sum ((Int × Int × Int)) (Unit))} (h : wire_number_l1.l K x1 k y = some s) : ∃ k', k = k' + 1 ∧ wire_number_l1.b K x1 (wire_number_l1.l K x1 k') y = some s := by
 cases k with
 | zero => cases h
 | succ k => exact ⟨k, rfl, h⟩
def wire_number.f (K : Nat) (x1 : (List Int)) : Option (Int × Int × Int) :=
 ((wire_number_l1.l K x1 K ((0 : Int), (0 : Int))).bind fun s1 => (match s1 with | .inl u1 => some u1 | .inr u2 => (fun (z1 : Unit) => (some ((0 : Int), (0 : Int), (3 : Int)))) u2))
def wire_take_int.f (K : Nat) (x3 : T_wire_Reader) : Option (Int × T_wire_Reader) :=
 ((wire_Reader_Bad.f K (x3)).bind fun (r54 : (Int)) => (bif (!decide (r54 = (0 : Int))) then (some ((0 : Int), x3)) else ((wire_number.f K (x3.fB)).bind fun (r59 : (Int × Int × Int)) => (bif (!decide (r59.2.2 = (0 : Int))) then ((wire_Reader_Fail.f K (r59.2.2) (x3)).bind fun (r72 : (T_wire_Reader)) => (some ((0 : Int), r72))) else ((subI (x3.fB) r59.2.1 ((List.length (x3.fB) : Nat) : Int)).bind fun (l80 : (List Int)) => ((some (T_wire_Reader.mk (l80) (x3.fBad))).bind fun (v85 : T_wire_Reader) => (some (r59.1, v85))))))))
def wire_Reader_Num.f (K : Nat) (x3 : T_wire_Reader) : Option (Int × T_wire_Reader) :=
 ((wire_take_int.f K (x3)).bind fun (r18 : (Int × T_wire_Reader)) => (some (r18.1, r18.2)))
def wire_Reader_Hash_1.f (K : Nat) (x1 : (List Int)) : Option ((Vector Int 32) × Int × Int) :=
 (bif (decide (((List.length (x1) : Nat) : Int) < (32 : Int))) then (some ((Vector.replicate 32 (0 : Int)), (0 : Int), (3 : Int))) else ((subI (x1) 0 (32 : Int)).bind fun (l36 : (List Int)) => (chk (decide (32 ≤ List.length (l36))) (some ((vofL 32 (l36)), (32 : Int), (0 : Int))))))
def wire_take_api_Hash.f (K : Nat) (x3 : T_wire_Reader) : Option ((Vector Int 32) × T_wire_Reader) :=
 ((wire_Reader_Bad.f K (x3)).bind fun (r64 : (Int)) => (bif (!decide (r64 = (0 : Int))) then (some ((Vector.replicate 32 (0 : Int)), x3)) else ((wire_Reader_Hash_1.f K (x3.fB)).bind fun (r69 : ((Vector Int 32) × Int × Int)) => (bif (!decide (r69.2.2 = (0 : Int))) then ((wire_Reader_Fail.f K (r69.2.2) (x3)).bind fun (r84 : (T_wire_Reader)) => (some ((Vector.replicate 32 (0 : Int)), r84))) else ((subI (x3.fB) r69.2.1 ((List.length (x3.fB) : Nat) : Int)).bind fun (l92 : (List Int)) => ((some (T_wire_Reader.mk (l92) (x3.fBad))).bind fun (v97 : T_wire_Reader) => (some (r69.1, v97))))))))
def wire_Reader_Hash.f (K : Nat) (x3 : T_wire_Reader) : Option ((Vector Int 32) × T_wire_Reader) :=
 ((wire_take_api_Hash.f K (x3)).bind fun (r22 : ((Vector Int 32) × T_wire_Reader)) => (some (r22.1, r22.2)))
def bundle_Get_1.f (K : Nat) (x5 : Int) (x6 : T_wire_Reader) : Option (T_api_Sig × T_wire_Reader) :=
 ((wire_Reader_Num.f K (x6)).bind fun (r71 : (Int × T_wire_Reader)) => ((wire_Reader_Hash.f K (r71.2)).bind fun (r79 : ((Vector Int 32) × T_wire_Reader)) => ((some (T_api_Sig.mk (r71.1) (r79.1))).bind fun (v87 : T_api_Sig) => (some (v87, r79.2)))))
def bundle_read_api_Sig_l1.b (K : Nat) (x5 : Int) (rec : ((List T_api_Sig) × Int × T_wire_Reader) → Option ((List T_api_Sig) × T_wire_Reader)) (y1 : (List T_api_Sig) × Int × T_wire_Reader) : Option ((List T_api_Sig) × T_wire_Reader) :=
 (bif (decide (y1.2.1 < x5)) then ((wire_Reader_Bad.f K (y1.2.2)).bind fun (r2 : (Int)) => (bif (!decide (r2 = (0 : Int))) then (some (y1.1, y1.2.2)) else ((bundle_Get_1.f K (y1.2.1) (y1.2.2)).bind fun (r1 : (T_api_Sig × T_wire_Reader)) => ((catI 40 (y1.1) (([r1.1] : List T_api_Sig))).bind fun (l1 : (List T_api_Sig)) => (rec (l1, (IntKind.wrap .i64 (y1.2.1 + (1 : Int))), r1.2)))))) else (some (y1.1, y1.2.2)))
def bundle_read_api_Sig_l1.l (K : Nat) (x5 : Int) : Nat → ((List T_api_Sig) × Int × T_wire_Reader) → Option ((List T_api_Sig) × T_wire_Reader)
 | 0, _ => none
 | k + 1, y => bundle_read_api_Sig_l1.b K x5 (bundle_read_api_Sig_l1.l K x5 k) y
theorem bundle_read_api_Sig_l1.some {K : Nat} (x5 : Int) {k : Nat} {y : (List T_api_Sig) × Int × T_wire_Reader} {s : ((List T_api_Sig) × T_wire_Reader)} (h : bundle_read_api_Sig_l1.l K x5 k y = some s) : ∃ k', k = k' + 1 ∧ bundle_read_api_Sig_l1.b K x5 (bundle_read_api_Sig_l1.l K x5 k') y = some s := by
 cases k with
 | zero => cases h
 | succ k => exact ⟨k, rfl, h⟩
def bundle_read_api_Sig.f (K : Nat) (x5 : Int) (x6 : Int) (x7 : T_wire_Reader) : Option ((List T_api_Sig) × T_wire_Reader) :=
 (jn (fun (y1 : T_wire_Reader) => ((bundle_read_api_Sig_l1.l K x5 K (([] : List T_api_Sig), (0 : Int), y1)).bind fun (z1 : (List T_api_Sig) × T_wire_Reader) => (some (z1.1, z1.2)))) (fun j1 => (bif (decide (x6 < x5)) then ((wire_Reader_Fail.f K ((4 : Int)) (x7)).bind fun (r1 : (T_wire_Reader)) => (j1 r1)) else (j1 x7))))
def rec_steps_l1.b (K : Nat) (r3 : (Int × T_wire_Reader)) (rec : ((List T_api_Step) × Int × T_wire_Reader) → Option ((List T_api_Step) × T_wire_Reader)) (y1 : (List T_api_Step) × Int × T_wire_Reader) : Option ((List T_api_Step) × T_wire_Reader) :=
 (bif (decide (y1.2.1 < r3.1)) then ((wire_Reader_Bad.f K (y1.2.2)).bind fun (r4 : (Int)) => (bif (!decide (r4 = (0 : Int))) then (some (y1.1, y1.2.2)) else ((wire_Reader_Num.f K (y1.2.2)).bind fun (r1 : (Int × T_wire_Reader)) => ((wire_Reader_Num.f K (r1.2)).bind fun (r2 : (Int × T_wire_Reader)) => ((catI 16 (y1.1) (([(T_api_Step.mk (r1.1) (r2.1))] : List T_api_Step))).bind fun (l1 : (List T_api_Step)) => (rec (l1, (IntKind.wrap .i64 (y1.2.1 + (1 : Int))), r2.2))))))) else (some (y1.1, y1.2.2)))
def rec_steps_l1.l (K : Nat) (r1 : (Int × T_wire_Reader)) : Nat → ((List T_api_Step) × Int × T_wire_Reader) → Option ((List T_api_Step) × T_wire_Reader)
 | 0, _ => none
 | k + 1, y => rec_steps_l1.b K r1 (rec_steps_l1.l K r1 k) y
theorem rec_steps_l1.some {K : Nat} (r1 : (Int × T_wire_Reader)) {k : Nat} {y : (List T_api_Step) × Int × T_wire_Reader} {s : ((List T_api_Step) × T_wire_Reader)} (h : rec_steps_l1.l K r1 k y = some s) : ∃ k', k = k' + 1 ∧ rec_steps_l1.b K r1 (rec_steps_l1.l K r1 k') y = some s := by
 cases k with
 | zero => cases h
 | succ k => exact ⟨k, rfl, h⟩
def rec_steps.f (K : Nat) (x3 : T_wire_Reader) : Option ((List T_api_Step) × T_wire_Reader) :=
 ((wire_Reader_Num.f K (x3)).bind fun (r1 : (Int × T_wire_Reader)) => (jn (fun (y1 : T_wire_Reader) => ((rec_steps_l1.l K r1 K (([] : List T_api_Step), (0 : Int), y1)).bind fun (z1 : (List T_api_Step) × T_wire_Reader) => (some (z1.1, z1.2)))) (fun j1 => (bif (decide ((6 : Int) < r1.1)) then ((wire_Reader_Fail.f K ((2 : Int)) (r1.2)).bind fun (r2 : (T_wire_Reader)) => (j1 r2)) else (j1 r1.2)))))
def wire_Reader_Bytes_1.f (K : Nat) (x3 : (List Int)) (x7 : Int) : Option ((List Int) × Int × Int) :=
 ((wire_number.f K (x3)).bind fun (r33 : (Int × Int × Int)) => (bif (!decide (r33.2.2 = (0 : Int))) then (some (([] : List Int), (0 : Int), r33.2.2)) else (bif (decide (x7 < r33.1)) then (some (([] : List Int), (0 : Int), (4 : Int))) else (bif (decide ((IntKind.wrap .i64 (((List.length (x3) : Nat) : Int) - r33.2.1)) < r33.1)) then (some (([] : List Int), (0 : Int), (3 : Int))) else ((subI (x3) r33.2.1 (IntKind.wrap .i64 (r33.2.1 + r33.1))).bind fun (l41 : (List Int)) => ((slices_Clone_byte_byte.f K (l41)).bind fun (r46 : ((List Int))) => (some (r46, (IntKind.wrap .i64 (r33.2.1 + r33.1)), (0 : Int)))))))))
def wire_take_byte.f (K : Nat) (x5 : T_wire_Reader) (x9 : Int) : Option ((List Int) × T_wire_Reader) :=
 ((wire_Reader_Bad.f K (x5)).bind fun (r67 : (Int)) => (bif (!decide (r67 = (0 : Int))) then (some (([] : List Int), x5)) else ((wire_Reader_Bytes_1.f K (x5.fB) (x9)).bind fun (r73 : ((List Int) × Int × Int)) => (bif (!decide (r73.2.2 = (0 : Int))) then ((wire_Reader_Fail.f K (r73.2.2) (x5)).bind fun (r91 : (T_wire_Reader)) => (some (([] : List Int), r91))) else ((subI (x5.fB) r73.2.1 ((List.length (x5.fB) : Nat) : Int)).bind fun (l1 : (List Int)) => ((some (T_wire_Reader.mk (l1) (x5.fBad))).bind fun (v1 : T_wire_Reader) => (some (r73.1, v1))))))))
def wire_Reader_Bytes.f (K : Nat) (x3 : Int) (x4 : T_wire_Reader) : Option ((List Int) × T_wire_Reader) :=
 ((wire_take_byte.f K (x4) (x3)).bind fun (r33 : ((List Int) × T_wire_Reader)) => (some (r33.1, r33.2)))
def rec_Read.f (K : Nat) (x3 : T_wire_Reader) : Option (T_api_Rec × T_wire_Reader) :=
 ((wire_Reader_Num.f K (x3)).bind fun (r1 : (Int × T_wire_Reader)) => ((some { z_T_api_Rec with fKind := r1.1 }).bind fun (v1 : T_api_Rec) => (jn (fun (y1 : T_wire_Reader × Int × Int × Int × Int × Int × Bool × Bool × Int × Int × Int × (Vector Int 32) × (List T_api_Step) × (List Int) × (Vector Int 32) × Bool × (Vector Int 32)) => (jn (fun (y2 : T_wire_Reader) => ((wire_Reader_Bad.f K (y2)).bind fun (r22 : (Int)) => (bif (!decide (r22 = (0 : Int))) then (some (z_T_api_Rec, y2)) else ((some (T_api_Rec.mk (y1.2.1) (y1.2.2.1) (y1.2.2.2.1) (y1.2.2.2.2.1) (y1.2.2.2.2.2.1) (y1.2.2.2.2.2.2.1) (y1.2.2.2.2.2.2.2.1) (y1.2.2.2.2.2.2.2.2.1) (y1.2.2.2.2.2.2.2.2.2.1) (y1.2.2.2.2.2.2.2.2.2.2.1) (y1.2.2.2.2.2.2.2.2.2.2.2.1) (y1.2.2.2.2.2.2.2.2.2.2.2.2.1) (y1.2.2.2.2.2.2.2.2.2.2.2.2.2.1) (y1.2.2.2.2.2.2.2.2.2.2.2.2.2.2.1) (y1.2.2.2.2.2.2.2.2.2.2.2.2.2.2.2.1) (y1.2.2.2.2.2.2.2.2.2.2.2.2.2.2.2.2))).bind fun (v7 : T_api_Rec) => (some (v7, y2)))))) (fun j3 => ((rec_Right.f K ((T_api_Rec.mk (y1.2.1) (y1.2.2.1) (y1.2.2.2.1) (y1.2.2.2.2.1) (y1.2.2.2.2.2.1) (y1.2.2.2.2.2.2.1) (y1.2.2.2.2.2.2.2.1) (y1.2.2.2.2.2.2.2.2.1) (y1.2.2.2.2.2.2.2.2.2.1) (y1.2.2.2.2.2.2.2.2.2.2.1) (y1.2.2.2.2.2.2.2.2.2.2.2.1) (y1.2.2.2.2.2.2.2.2.2.2.2.2.1) (y1.2.2.2.2.2.2.2.2.2.2.2.2.2.1) (y1.2.2.2.2.2.2.2.2.2.2.2.2.2.2.1) (y1.2.2.2.2.2.2.2.2.2.2.2.2.2.2.2.1) (y1.2.2.2.2.2.2.2.2.2.2.2.2.2.2.2.2)))).bind fun (r23 : (Bool)) => (bif (!r23) then ((wire_Reader_Fail.f K ((2 : Int)) (y1.1)).bind fun (r24 : (T_wire_Reader)) => (j3 r24)) else (j3 y1.1)))))) (fun j1 => (bif (decide (v1.fKind = (1 : Int))) then ((wire_Reader_Num.f K (r1.2)).bind fun (r5 : (Int × T_wire_Reader)) => ((rec_steps.f K (r5.2)).bind fun (r3 : ((List T_api_Step) × T_wire_Reader)) => ((some { v1 with fSaga := r5.1 }).bind fun (v2 : T_api_Rec) => ((wire_Reader_Flag.f K (r3.2)).bind fun (r2 : (Bool × T_wire_Reader)) => (bif r2.1 then ((wire_Reader_Hash.f K (r2.2)).bind fun (r6 : ((Vector Int 32) × T_wire_Reader)) => (j1 (r6.2, v2.fKind, v2.fSaga, v2.fSeq, v2.fStep, v2.fTry, v2.fBack, v2.fGood, v2.fEnd, v2.fPart, v2.fEpoch, v2.fTag, r3.1, v2.fData, v2.fSalt, r2.1, r6.1))) else ((wire_Reader_Hash.f K (r2.2)).bind fun (r7 : ((Vector Int 32) × T_wire_Reader)) => ((wire_Reader_Bytes.f K ((60 : Int)) (r7.2)).bind fun (r8 : ((List Int) × T_wire_Reader)) => (j1 (r8.2, v2.fKind, v2.fSaga, v2.fSeq, v2.fStep, v2.fTry, v2.fBack, v2.fGood, v2.fEnd, v2.fPart, v2.fEpoch, v2.fTag, r3.1, r8.1, r7.1, r2.1, v2.fCom))))))))) else (jn (fun (y3 : Bool) => (bif y3 then ((wire_Reader_Num.f K (r1.2)).bind fun (r9 : (Int × T_wire_Reader)) => ((wire_Reader_Num.f K (r9.2)).bind fun (r10 : (Int × T_wire_Reader)) => ((wire_Reader_Num.f K (r10.2)).bind fun (r11 : (Int × T_wire_Reader)) => ((wire_Reader_Num.f K (r11.2)).bind fun (r12 : (Int × T_wire_Reader)) => ((wire_Reader_Flag.f K (r12.2)).bind fun (r4 : (Bool × T_wire_Reader)) => ((some { v1 with fSaga := r9.1 }).bind fun (v8 : T_api_Rec) => ((some { v8 with fSeq := r10.1 }).bind fun (v9 : T_api_Rec) => ((some { v9 with fStep := r11.1 }).bind fun (v10 : T_api_Rec) => ((some { v10 with fTry := r12.1 }).bind fun (v11 : T_api_Rec) => ((some { v11 with fBack := r4.1 }).bind fun (v3 : T_api_Rec) => (bif (decide (v3.fKind = (3 : Int))) then ((wire_Reader_Flag.f K (r4.2)).bind fun (r13 : (Bool × T_wire_Reader)) => ((wire_Reader_Num.f K (r13.2)).bind fun (r14 : (Int × T_wire_Reader)) => ((wire_Reader_Num.f K (r14.2)).bind fun (r15 : (Int × T_wire_Reader)) => ((wire_Reader_Hash.f K (r15.2)).bind fun (r16 : ((Vector Int 32) × T_wire_Reader)) => ((some { v3 with fGood := r13.1 }).bind fun (v12 : T_api_Rec) => ((some { v12 with fPart := r14.1 }).bind fun (v13 : T_api_Rec) => ((some { v13 with fEpoch := r15.1 }).bind fun (v14 : T_api_Rec) => ((some { v14 with fTag := r16.1 }).bind fun (v4 : T_api_Rec) => (j1 (r16.2, v4.fKind, v4.fSaga, v4.fSeq, v4.fStep, v4.fTry, v4.fBack, v4.fGood, v4.fEnd, v4.fPart, v4.fEpoch, v4.fTag, v4.fSteps, v4.fData, v4.fSalt, v4.fGone, v4.fCom)))))))))) else (j1 (r4.2, v3.fKind, v3.fSaga, v3.fSeq, v3.fStep, v3.fTry, v3.fBack, v3.fGood, v3.fEnd, v3.fPart, v3.fEpoch, v3.fTag, v3.fSteps, v3.fData, v3.fSalt, v3.fGone, v3.fCom))))))))))))) else (bif (decide (v1.fKind = (5 : Int))) then ((wire_Reader_Num.f K (r1.2)).bind fun (r17 : (Int × T_wire_Reader)) => ((wire_Reader_Num.f K (r17.2)).bind fun (r18 : (Int × T_wire_Reader)) => ((wire_Reader_Num.f K (r18.2)).bind fun (r19 : (Int × T_wire_Reader)) => ((some { v1 with fSaga := r17.1 }).bind fun (v15 : T_api_Rec) => ((some { v15 with fSeq := r18.1 }).bind fun (v16 : T_api_Rec) => ((some { v16 with fEnd := r19.1 }).bind fun (v5 : T_api_Rec) => (j1 (r19.2, v5.fKind, v5.fSaga, v5.fSeq, v5.fStep, v5.fTry, v5.fBack, v5.fGood, v5.fEnd, v5.fPart, v5.fEpoch, v5.fTag, v5.fSteps, v5.fData, v5.fSalt, v5.fGone, v5.fCom)))))))) else (bif (decide (v1.fKind = (6 : Int))) then ((wire_Reader_Num.f K (r1.2)).bind fun (r20 : (Int × T_wire_Reader)) => ((wire_Reader_Num.f K (r20.2)).bind fun (r21 : (Int × T_wire_Reader)) => ((some { v1 with fPart := r20.1 }).bind fun (v17 : T_api_Rec) => ((some { v17 with fEpoch := r21.1 }).bind fun (v6 : T_api_Rec) => (j1 (r21.2, v6.fKind, v6.fSaga, v6.fSeq, v6.fStep, v6.fTry, v6.fBack, v6.fGood, v6.fEnd, v6.fPart, v6.fEpoch, v6.fTag, v6.fSteps, v6.fData, v6.fSalt, v6.fGone, v6.fCom)))))) else ((wire_Reader_Fail.f K ((2 : Int)) (r1.2)).bind fun (r25 : (T_wire_Reader)) => (j1 (r25, v1.fKind, v1.fSaga, v1.fSeq, v1.fStep, v1.fTry, v1.fBack, v1.fGood, v1.fEnd, v1.fPart, v1.fEpoch, v1.fTag, v1.fSteps, v1.fData, v1.fSalt, v1.fGone, v1.fCom))))))) (fun j2 => (bif (decide (v1.fKind = (2 : Int))) then (j2 (decide (v1.fKind = (2 : Int)))) else (bif (decide (v1.fKind = (4 : Int))) then (j2 (decide (v1.fKind = (4 : Int)))) else (j2 (decide (v1.fKind = (3 : Int)))))))))))))
def bundle_Get_2.f (K : Nat) (x5 : Int) (x6 : T_wire_Reader) : Option (T_api_Item × T_wire_Reader) :=
 ((rec_Read.f K (x6)).bind fun (r45 : (T_api_Rec × T_wire_Reader)) => ((some (T_api_Item.mk (x5) (r45.1) (([] : List (Vector Int 32))))).bind fun (v59 : T_api_Item) => (some (v59, r45.2))))
def bundle_read_api_Item_l1.b (K : Nat) (x5 : Int) (rec : ((List T_api_Item) × Int × T_wire_Reader) → Option ((List T_api_Item) × T_wire_Reader)) (y1 : (List T_api_Item) × Int × T_wire_Reader) : Option ((List T_api_Item) × T_wire_Reader) :=
 (bif (decide (y1.2.1 < x5)) then ((wire_Reader_Bad.f K (y1.2.2)).bind fun (r2 : (Int)) => (bif (!decide (r2 = (0 : Int))) then (some (y1.1, y1.2.2)) else ((bundle_Get_2.f K (y1.2.1) (y1.2.2)).bind fun (r1 : (T_api_Item × T_wire_Reader)) => ((catI 256 (y1.1) (([r1.1] : List T_api_Item))).bind fun (l1 : (List T_api_Item)) => (rec (l1, (IntKind.wrap .i64 (y1.2.1 + (1 : Int))), r1.2)))))) else (some (y1.1, y1.2.2)))
def bundle_read_api_Item_l1.l (K : Nat) (x5 : Int) : Nat → ((List T_api_Item) × Int × T_wire_Reader) → Option ((List T_api_Item) × T_wire_Reader)
 | 0, _ => none
 | k + 1, y => bundle_read_api_Item_l1.b K x5 (bundle_read_api_Item_l1.l K x5 k) y
theorem bundle_read_api_Item_l1.some {K : Nat} (x5 : Int) {k : Nat} {y : (List T_api_Item) × Int × T_wire_Reader} {s : ((List T_api_Item) × T_wire_Reader)} (h : bundle_read_api_Item_l1.l K x5 k y = some s) : ∃ k', k = k' + 1 ∧ bundle_read_api_Item_l1.b K x5 (bundle_read_api_Item_l1.l K x5 k') y = some s := by
 cases k with
 | zero => cases h
 | succ k => exact ⟨k, rfl, h⟩
def bundle_read_api_Item.f (K : Nat) (x5 : Int) (x6 : Int) (x7 : T_wire_Reader) : Option ((List T_api_Item) × T_wire_Reader) :=
 (jn (fun (y1 : T_wire_Reader) => ((bundle_read_api_Item_l1.l K x5 K (([] : List T_api_Item), (0 : Int), y1)).bind fun (z1 : (List T_api_Item) × T_wire_Reader) => (some (z1.1, z1.2)))) (fun j1 => (bif (decide (x6 < x5)) then ((wire_Reader_Fail.f K ((4 : Int)) (x7)).bind fun (r1 : (T_wire_Reader)) => (j1 r1)) else (j1 x7))))
def bundle_Get_3_1.f (K : Nat) (x5 : Int) (x6 : T_wire_Reader) : Option ((Vector Int 32) × T_wire_Reader) :=
 ((wire_Reader_Hash.f K (x6)).bind fun (r25 : ((Vector Int 32) × T_wire_Reader)) => (some (r25.1, r25.2)))
def bundle_read_api_Hash_l1.b (K : Nat) (x5 : Int) (rec : ((List (Vector Int 32)) × Int × T_wire_Reader) → Option ((List (Vector Int 32)) × T_wire_Reader)) (y1 : (List (Vector Int 32)) × Int × T_wire_Reader) : Option ((List (Vector Int 32)) × T_wire_Reader) :=
 (bif (decide (y1.2.1 < x5)) then ((wire_Reader_Bad.f K (y1.2.2)).bind fun (r2 : (Int)) => (bif (!decide (r2 = (0 : Int))) then (some (y1.1, y1.2.2)) else ((bundle_Get_3_1.f K (y1.2.1) (y1.2.2)).bind fun (r1 : ((Vector Int 32) × T_wire_Reader)) => ((catI 32 (y1.1) (([r1.1] : List (Vector Int 32)))).bind fun (l1 : (List (Vector Int 32))) => (rec (l1, (IntKind.wrap .i64 (y1.2.1 + (1 : Int))), r1.2)))))) else (some (y1.1, y1.2.2)))
def bundle_read_api_Hash_l1.l (K : Nat) (x5 : Int) : Nat → ((List (Vector Int 32)) × Int × T_wire_Reader) → Option ((List (Vector Int 32)) × T_wire_Reader)
 | 0, _ => none
 | k + 1, y => bundle_read_api_Hash_l1.b K x5 (bundle_read_api_Hash_l1.l K x5 k) y
theorem bundle_read_api_Hash_l1.some {K : Nat} (x5 : Int) {k : Nat} {y : (List (Vector Int 32)) × Int × T_wire_Reader} {s : ((List (Vector Int 32)) × T_wire_Reader)} (h : bundle_read_api_Hash_l1.l K x5 k y = some s) : ∃ k', k = k' + 1 ∧ bundle_read_api_Hash_l1.b K x5 (bundle_read_api_Hash_l1.l K x5 k') y = some s := by
 cases k with
 | zero => cases h
 | succ k => exact ⟨k, rfl, h⟩
def bundle_read_api_Hash.f (K : Nat) (x5 : Int) (x6 : Int) (x7 : T_wire_Reader) : Option ((List (Vector Int 32)) × T_wire_Reader) :=
 (jn (fun (y1 : T_wire_Reader) => ((bundle_read_api_Hash_l1.l K x5 K (([] : List (Vector Int 32)), (0 : Int), y1)).bind fun (z1 : (List (Vector Int 32)) × T_wire_Reader) => (some (z1.1, z1.2)))) (fun j1 => (bif (decide (x6 < x5)) then ((wire_Reader_Fail.f K ((4 : Int)) (x7)).bind fun (r1 : (T_wire_Reader)) => (j1 r1)) else (j1 x7))))
def bundle_Get_3.f (K : Nat) (x5 : Int) (x6 : T_wire_Reader) : Option (T_api_Item × T_wire_Reader) :=
 (jn (fun (y1 : T_api_Item × T_wire_Reader) => ((wire_Reader_Num.f K (y1.2)).bind fun (r1 : (Int × T_wire_Reader)) => ((bundle_read_api_Hash.f K (r1.1) ((20 : Int)) (r1.2)).bind fun (r2 : ((List (Vector Int 32)) × T_wire_Reader)) => (some ({ y1.1 with fPath := r2.1 }, r2.2))))) (fun j1 => ((wire_Reader_Num.f K (x6)).bind fun (r3 : (Int × T_wire_Reader)) => ((rec_Read.f K (r3.2)).bind fun (r4 : (T_api_Rec × T_wire_Reader)) => ((some (T_api_Item.mk (r3.1) (r4.1) (([] : List (Vector Int 32))))).bind fun (v1 : T_api_Item) => (j1 (v1, r4.2)))))))
def bundle_read_api_Item_v2_l1.b (K : Nat) (x5 : Int) (rec : ((List T_api_Item) × Int × T_wire_Reader) → Option ((List T_api_Item) × T_wire_Reader)) (y1 : (List T_api_Item) × Int × T_wire_Reader) : Option ((List T_api_Item) × T_wire_Reader) :=
 (bif (decide (y1.2.1 < x5)) then ((wire_Reader_Bad.f K (y1.2.2)).bind fun (r2 : (Int)) => (bif (!decide (r2 = (0 : Int))) then (some (y1.1, y1.2.2)) else ((bundle_Get_3.f K (y1.2.1) (y1.2.2)).bind fun (r1 : (T_api_Item × T_wire_Reader)) => ((catI 256 (y1.1) (([r1.1] : List T_api_Item))).bind fun (l1 : (List T_api_Item)) => (rec (l1, (IntKind.wrap .i64 (y1.2.1 + (1 : Int))), r1.2)))))) else (some (y1.1, y1.2.2)))
def bundle_read_api_Item_v2_l1.l (K : Nat) (x5 : Int) : Nat → ((List T_api_Item) × Int × T_wire_Reader) → Option ((List T_api_Item) × T_wire_Reader)
 | 0, _ => none
 | k + 1, y => bundle_read_api_Item_v2_l1.b K x5 (bundle_read_api_Item_v2_l1.l K x5 k) y
theorem bundle_read_api_Item_v2_l1.some {K : Nat} (x5 : Int) {k : Nat} {y : (List T_api_Item) × Int × T_wire_Reader} {s : ((List T_api_Item) × T_wire_Reader)} (h : bundle_read_api_Item_v2_l1.l K x5 k y = some s) : ∃ k', k = k' + 1 ∧ bundle_read_api_Item_v2_l1.b K x5 (bundle_read_api_Item_v2_l1.l K x5 k') y = some s := by
 cases k with
 | zero => cases h
 | succ k => exact ⟨k, rfl, h⟩
def bundle_read_api_Item_v2.f (K : Nat) (x5 : Int) (x6 : Int) (x7 : T_wire_Reader) : Option ((List T_api_Item) × T_wire_Reader) :=
 (jn (fun (y1 : T_wire_Reader) => ((bundle_read_api_Item_v2_l1.l K x5 K (([] : List T_api_Item), (0 : Int), y1)).bind fun (z1 : (List T_api_Item) × T_wire_Reader) => (some (z1.1, z1.2)))) (fun j1 => (bif (decide (x6 < x5)) then ((wire_Reader_Fail.f K ((4 : Int)) (x7)).bind fun (r1 : (T_wire_Reader)) => (j1 r1)) else (j1 x7))))
def wire_Reader_Done.f (K : Nat) (x3 : T_wire_Reader) : Option (Int) :=
 ((wire_Reader_Bad.f K (x3)).bind fun (r22 : (Int)) => (bif (!decide (r22 = (0 : Int))) then (some r22) else (bif (decide ((0 : Int) < ((List.length (x3.fB) : Nat) : Int))) then (some (2 : Int)) else (some (0 : Int)))))
def bundle_Get.f (K : Nat) (x1 : (List Int)) : Option (T_api_Bundle × Int) :=
 ((bytes_CutPrefix.f K (x1) (([(105 : Int), (110 : Int), (115 : Int), (112 : Int)] : List Int))).bind fun (r3 : ((List Int) × Bool)) => (bif (!r3.2) then (some (z_T_api_Bundle, (2 : Int))) else ((wire_Read.f K (r3.1)).bind fun (r11 : (T_wire_Reader)) => ((wire_Reader_Flag.f K (r11)).bind fun (r4 : (Bool × T_wire_Reader)) => ((some { z_T_api_Bundle with fWhole := r4.1 }).bind fun (v3 : T_api_Bundle) => ((wire_Reader_Num.f K (r4.2)).bind fun (r2 : (Int × T_wire_Reader)) => ((some { v3 with fPoint := { v3.fPoint with fSize := r2.1 } }).bind fun (v2 : T_api_Bundle) => (jn (fun (y2 : T_wire_Reader) => ((wire_Reader_Hash.f K (y2)).bind fun (r5 : ((Vector Int 32) × T_wire_Reader)) => ((some { v2 with fPoint := { v2.fPoint with fRoot := r5.1 } }).bind fun (v1 : T_api_Bundle) => ((wire_Reader_Num.f K (r5.2)).bind fun (r6 : (Int × T_wire_Reader)) => ((bundle_read_api_Sig.f K (r6.1) ((4 : Int)) (r6.2)).bind fun (r1 : ((List T_api_Sig) × T_wire_Reader)) => (jn (fun (y1 : (List T_api_Item) × T_wire_Reader) => ((wire_Reader_Done.f K (y1.2)).bind fun (r7 : (Int)) => (bif (!decide (r7 = (0 : Int))) then (some (z_T_api_Bundle, r7)) else ((bundle_Right.f K ((T_api_Bundle.mk (v1.fWhole) ({ v1.fPoint with fSigs := r1.1 }) (y1.1)))).bind fun (r12 : (Bool)) => (bif (!r12) then (some (z_T_api_Bundle, (2 : Int))) else (some ((T_api_Bundle.mk (v1.fWhole) ({ v1.fPoint with fSigs := r1.1 }) (y1.1)), (0 : Int)))))))) (fun j1 => (bif v1.fWhole then ((bundle_read_api_Item.f K (v1.fPoint.fSize) ((400 : Int)) (r1.2)).bind fun (r8 : ((List T_api_Item) × T_wire_Reader)) => (j1 (r8.1, r8.2))) else ((wire_Reader_Num.f K (r1.2)).bind fun (r9 : (Int × T_wire_Reader)) => ((bundle_read_api_Item_v2.f K (r9.1) (v1.fPoint.fSize) (r9.2)).bind fun (r10 : ((List T_api_Item) × T_wire_Reader)) => (j1 (r10.1, r10.2)))))))))))) (fun j2 => (bif (decide ((400 : Int) < v2.fPoint.fSize)) then ((wire_Reader_Fail.f K ((4 : Int)) (r2.2)).bind fun (r13 : (T_wire_Reader)) => (j2 r13)) else (j2 r2.2)))))))))))
def slices_Equal_api_Sig_api_Sig_l1.b (K : Nat) (x1 : (List T_api_Sig)) (x5 : (List T_api_Sig)) (rec : Int → Option (Sum ((Bool)) (Unit))) (y1 : Int) : Option (Sum ((Bool)) (Unit)) :=
 (bif (decide (y1 < ((List.length (x1) : Nat) : Int))) then ((getI (x1) y1).bind fun (x2 : T_api_Sig) => ((getI (x5) y1).bind fun (x3 : T_api_Sig) => (bif (!((decide (x2.fWit = x3.fWit)) && ((decide (x2.fTag = x3.fTag)) && true))) then (some (Sum.inl false)) else (rec (IntKind.wrap .i64 (y1 + (1 : Int))))))) else (some (Sum.inr ())))
def slices_Equal_api_Sig_api_Sig_l1.l (K : Nat) (x1 : (List T_api_Sig)) (x5 : (List T_api_Sig)) : Nat → (Int) → Option (Sum ((Bool)) (Unit))
 | 0, _ => none
 | k + 1, y => slices_Equal_api_Sig_api_Sig_l1.b K x1 x5 (slices_Equal_api_Sig_api_Sig_l1.l K x1 x5 k) y
theorem slices_Equal_api_Sig_api_Sig_l1.some {K : Nat} (x1 : (List T_api_Sig)) (x5 : (List T_api_Sig)) {k : Nat} {y : Int} {s : (Sum ((Bool)) (Unit))} (h : slices_Equal_api_Sig_api_Sig_l1.l K x1 x5 k y = some s) : ∃ k', k = k' + 1 ∧ slices_Equal_api_Sig_api_Sig_l1.b K x1 x5 (slices_Equal_api_Sig_api_Sig_l1.l K x1 x5 k') y = some s := by
 cases k with
 | zero => cases h
 | succ k => exact ⟨k, rfl, h⟩
def slices_Equal_api_Sig_api_Sig.f (K : Nat) (x1 : (List T_api_Sig)) (x5 : (List T_api_Sig)) : Option (Bool) :=
 (bif (!decide (((List.length (x1) : Nat) : Int) = ((List.length (x5) : Nat) : Int))) then (some false) else ((slices_Equal_api_Sig_api_Sig_l1.l K x1 x5 K (0 : Int)).bind fun s1 => (match s1 with | .inl u1 => some u1 | .inr u2 => (fun (z1 : Unit) => (some true)) u2)))
def slices_Equal_api_Hash_api_Hash_l1.b (K : Nat) (x1 : (List (Vector Int 32))) (x5 : (List (Vector Int 32))) (rec : Int → Option (Sum ((Bool)) (Unit))) (y1 : Int) : Option (Sum ((Bool)) (Unit)) :=
 (bif (decide (y1 < ((List.length (x1) : Nat) : Int))) then ((getI (x1) y1).bind fun (x2 : (Vector Int 32)) => ((getI (x5) y1).bind fun (x3 : (Vector Int 32)) => (bif (!(decide (x2 = x3))) then (some (Sum.inl false)) else (rec (IntKind.wrap .i64 (y1 + (1 : Int))))))) else (some (Sum.inr ())))
def slices_Equal_api_Hash_api_Hash_l1.l (K : Nat) (x1 : (List (Vector Int 32))) (x5 : (List (Vector Int 32))) : Nat → (Int) → Option (Sum ((Bool)) (Unit))
 | 0, _ => none
 | k + 1, y => slices_Equal_api_Hash_api_Hash_l1.b K x1 x5 (slices_Equal_api_Hash_api_Hash_l1.l K x1 x5 k) y
theorem slices_Equal_api_Hash_api_Hash_l1.some {K : Nat} (x1 : (List (Vector Int 32))) (x5 : (List (Vector Int 32))) {k : Nat} {y : Int} {s : (Sum ((Bool)) (Unit))} (h : slices_Equal_api_Hash_api_Hash_l1.l K x1 x5 k y = some s) : ∃ k', k = k' + 1 ∧ slices_Equal_api_Hash_api_Hash_l1.b K x1 x5 (slices_Equal_api_Hash_api_Hash_l1.l K x1 x5 k') y = some s := by
 cases k with
 | zero => cases h
 | succ k => exact ⟨k, rfl, h⟩
def slices_Equal_api_Hash_api_Hash.f (K : Nat) (x1 : (List (Vector Int 32))) (x5 : (List (Vector Int 32))) : Option (Bool) :=
 (bif (!decide (((List.length (x1) : Nat) : Int) = ((List.length (x5) : Nat) : Int))) then (some false) else ((slices_Equal_api_Hash_api_Hash_l1.l K x1 x5 K (0 : Int)).bind fun s1 => (match s1 with | .inl u1 => some u1 | .inr u2 => (fun (z1 : Unit) => (some true)) u2)))
def bundle_Same_1.f (K : Nat) (x1 : T_api_Item) (x11 : T_api_Item) : Option (Bool) :=
 (bif (decide (x1.fAt = x11.fAt)) then ((rec_Same.f K (x1.fRec) (x11.fRec)).bind fun (r59 : (Bool)) => (bif r59 then ((slices_Equal_api_Hash_api_Hash.f K (x1.fPath) (x11.fPath)).bind fun (r64 : (Bool)) => (some r64)) else (some false))) else (some false))
def slices_EqualFunc_api_Item_api_Item_api_Item_api_Item_l1.b (K : Nat) (x1 : (List T_api_Item)) (x5 : (List T_api_Item)) (rec : Int → Option (Sum ((Bool)) (Unit))) (y1 : Int) : Option (Sum ((Bool)) (Unit)) :=
 (bif (decide (y1 < ((List.length (x1) : Nat) : Int))) then ((getI (x1) y1).bind fun (x2 : T_api_Item) => ((getI (x5) y1).bind fun (x3 : T_api_Item) => ((bundle_Same_1.f K (x2) (x3)).bind fun (r1 : (Bool)) => (bif (!r1) then (some (Sum.inl false)) else (rec (IntKind.wrap .i64 (y1 + (1 : Int)))))))) else (some (Sum.inr ())))
def slices_EqualFunc_api_Item_api_Item_api_Item_api_Item_l1.l (K : Nat) (x1 : (List T_api_Item)) (x5 : (List T_api_Item)) : Nat → (Int) → Option (Sum ((Bool)) (Unit))
 | 0, _ => none
 | k + 1, y => slices_EqualFunc_api_Item_api_Item_api_Item_api_Item_l1.b K x1 x5 (slices_EqualFunc_api_Item_api_Item_api_Item_api_Item_l1.l K x1 x5 k) y
theorem slices_EqualFunc_api_Item_api_Item_api_Item_api_Item_l1.some {K : Nat} (x1 : (List T_api_Item)) (x5 : (List T_api_Item)) {k : Nat} {y : Int} {s : (Sum ((Bool)) (Unit))} (h : slices_EqualFunc_api_Item_api_Item_api_Item_api_Item_l1.l K x1 x5 k y = some s) : ∃ k', k = k' + 1 ∧ slices_EqualFunc_api_Item_api_Item_api_Item_api_Item_l1.b K x1 x5 (slices_EqualFunc_api_Item_api_Item_api_Item_api_Item_l1.l K x1 x5 k') y = some s := by
 cases k with
 | zero => cases h
 | succ k => exact ⟨k, rfl, h⟩
def slices_EqualFunc_api_Item_api_Item_api_Item_api_Item.f (K : Nat) (x1 : (List T_api_Item)) (x5 : (List T_api_Item)) : Option (Bool) :=
 (bif (!decide (((List.length (x1) : Nat) : Int) = ((List.length (x5) : Nat) : Int))) then (some false) else ((slices_EqualFunc_api_Item_api_Item_api_Item_api_Item_l1.l K x1 x5 K (0 : Int)).bind fun s1 => (match s1 with | .inl u1 => some u1 | .inr u2 => (fun (z1 : Unit) => (some true)) u2)))
def bundle_Same.f (K : Nat) (x1 : T_api_Bundle) (x8 : T_api_Bundle) : Option (Bool) :=
 (jn (fun (y58 : Bool) => (some y58)) (fun j61 => (bif (x1.fWhole == x8.fWhole) then (bif (decide (x1.fPoint.fSize = x8.fPoint.fSize)) then (bif (decide (x1.fPoint.fRoot = x8.fPoint.fRoot)) then ((slices_Equal_api_Sig_api_Sig.f K (x1.fPoint.fSigs) (x8.fPoint.fSigs)).bind fun (r63 : (Bool)) => (bif r63 then ((slices_EqualFunc_api_Item_api_Item_api_Item_api_Item.f K (x1.fItems) (x8.fItems)).bind fun (r68 : (Bool)) => (j61 r68)) else (j61 false))) else (j61 false)) else (j61 false)) else (j61 false))))
def inspeximuslaw17_alive.f (K : Nat) : Option (Bool) :=
 ((bundle_Put.f K ({ z_T_api_Bundle with fWhole := true })).bind fun (r3 : ((List Int))) => ((some (T_api_Bundle.mk (false) ((T_api_Point.mk ((5 : Int)) ((Vector.replicate 32 (0 : Int))) (([(T_api_Sig.mk ((1 : Int)) ((Vector.replicate 32 (0 : Int))))] : List T_api_Sig)))) (([(T_api_Item.mk ((3 : Int)) ({ z_T_api_Rec with fKind := (6 : Int), fEpoch := (1 : Int) }) (([(vofL 32 [(1 : Int), (0 : Int), (0 : Int), (0 : Int), (0 : Int), (0 : Int), (0 : Int), (0 : Int), (0 : Int), (0 : Int), (0 : Int), (0 : Int), (0 : Int), (0 : Int), (0 : Int), (0 : Int), (0 : Int), (0 : Int), (0 : Int), (0 : Int), (0 : Int), (0 : Int), (0 : Int), (0 : Int), (0 : Int), (0 : Int), (0 : Int), (0 : Int), (0 : Int), (0 : Int), (0 : Int), (0 : Int)])] : List (Vector Int 32))))] : List T_api_Item)))).bind fun (v1 : T_api_Bundle) => ((bundle_Put.f K (v1)).bind fun (r1 : ((List Int))) => ((bundle_Get.f K (r1)).bind fun (r2 : (T_api_Bundle × Int)) => ((catI 1 (r1) (([(0 : Int)] : List Int))).bind fun (l1 : (List Int)) => ((bundle_Get.f K (l1)).bind fun (r4 : (T_api_Bundle × Int)) => (jn (fun (y1 : Bool) => (some y1)) (fun j1 => (bif (decide (((List.length (r3) : Nat) : Int) = (39 : Int))) then (bif (decide (r2.2 = (0 : Int))) then (bif (decide (r4.2 = (2 : Int))) then ((bundle_Same.f K (v1) (r2.1)).bind fun (r5 : (Bool)) => (bif r5 then ((bundle_Right.f K (v1)).bind fun (r6 : (Bool)) => (bif r6 then ((bundle_Right.f K ((T_api_Bundle.mk (true) ({ z_T_api_Point with fSize := (1 : Int) }) (([] : List T_api_Item))))).bind fun (r7 : (Bool)) => (bif (!r7) then (j1 (decide (((List.length (r1) : Nat) : Int) = (110 : Int)))) else (j1 false))) else (j1 false))) else (j1 false))) else (j1 false)) else (j1 false)) else (j1 false))))))))))
def inspeximusref04_Great.f (K : Nat) (x1 : T_api_Rec) : Option (Bool) :=
 (bif (decide ((30 : Int) < ((List.length (x1.fSteps) : Nat) : Int))) then (some true) else (some (decide ((300 : Int) < ((List.length (x1.fData) : Nat) : Int)))))
def inspeximusref17_Great_l1.b (K : Nat) (x1 : T_api_Bundle) (rec : Int → Option (Sum ((Bool)) (Unit))) (y1 : Int) : Option (Sum ((Bool)) (Unit)) :=
 (bif (decide (y1 < ((List.length (x1.fItems) : Nat) : Int))) then (jn (fun (y2 : Bool) => (bif y2 then (some (Sum.inl true)) else (rec (IntKind.wrap .i64 (y1 + (1 : Int)))))) (fun j1 => ((getI (x1.fItems) y1).bind fun (x2 : T_api_Item) => ((inspeximusref04_Great.f K (x2.fRec)).bind fun (r1 : (Bool)) => (bif r1 then (j1 true) else ((getI (x1.fItems) y1).bind fun (x3 : T_api_Item) => (j1 (decide ((40 : Int) < ((List.length (x3.fPath) : Nat) : Int)))))))))) else (some (Sum.inr ())))
def inspeximusref17_Great_l1.l (K : Nat) (x1 : T_api_Bundle) : Nat → (Int) → Option (Sum ((Bool)) (Unit))
 | 0, _ => none
 | k + 1, y => inspeximusref17_Great_l1.b K x1 (inspeximusref17_Great_l1.l K x1 k) y
theorem inspeximusref17_Great_l1.some {K : Nat} (x1 : T_api_Bundle) {k : Nat} {y : Int} {s : (Sum ((Bool)) (Unit))} (h : inspeximusref17_Great_l1.l K x1 k y = some s) : ∃ k', k = k' + 1 ∧ inspeximusref17_Great_l1.b K x1 (inspeximusref17_Great_l1.l K x1 k') y = some s := by
 cases k with
 | zero => cases h
 | succ k => exact ⟨k, rfl, h⟩
def inspeximusref17_Great.f (K : Nat) (x1 : T_api_Bundle) : Option (Bool) :=
 (jn (fun (y1 : Bool) => (bif y1 then (some true) else ((inspeximusref17_Great_l1.l K x1 K (0 : Int)).bind fun s1 => (match s1 with | .inl u1 => some u1 | .inr u2 => (fun (z1 : Unit) => (some false)) u2)))) (fun j1 => (bif (decide ((60 : Int) < ((List.length (x1.fItems) : Nat) : Int))) then (j1 true) else (j1 (decide ((20 : Int) < ((List.length (x1.fPoint.fSigs) : Nat) : Int)))))))
def inspeximusref04_in.f (K : Nat) (x1 : Int) (x2 : Int) (x3 : Int) : Option (Bool) :=
 (bif (decide (x2 ≤ x1)) then (some (decide (x1 ≤ x3))) else (some false))
def inspeximusref04_Right_l1.b (K : Nat) (x1 : T_api_Rec) (rec : Int → Option (Sum ((Bool)) (Unit))) (y1 : Int) : Option (Sum ((Bool)) (Unit)) :=
 (bif (decide (y1 < ((List.length (x1.fSteps) : Nat) : Int))) then (jn (fun (y2 : Bool) => (bif y2 then (some (Sum.inl false)) else (rec (IntKind.wrap .i64 (y1 + (1 : Int)))))) (fun j1 => ((getI (x1.fSteps) y1).bind fun (x2 : T_api_Step) => ((inspeximusref04_in.f K (x2.fPart) ((0 : Int)) ((3 : Int))).bind fun (r1 : (Bool)) => (bif (!r1) then (j1 true) else ((getI (x1.fSteps) y1).bind fun (x3 : T_api_Step) => ((inspeximusref04_in.f K (x3.fKind) ((1 : Int)) ((3 : Int))).bind fun (r2 : (Bool)) => (j1 (!r2))))))))) else (some (Sum.inr ())))
def inspeximusref04_Right_l1.l (K : Nat) (x1 : T_api_Rec) : Nat → (Int) → Option (Sum ((Bool)) (Unit))
 | 0, _ => none
 | k + 1, y => inspeximusref04_Right_l1.b K x1 (inspeximusref04_Right_l1.l K x1 k) y
theorem inspeximusref04_Right_l1.some {K : Nat} (x1 : T_api_Rec) {k : Nat} {y : Int} {s : (Sum ((Bool)) (Unit))} (h : inspeximusref04_Right_l1.l K x1 k y = some s) : ∃ k', k = k' + 1 ∧ inspeximusref04_Right_l1.b K x1 (inspeximusref04_Right_l1.l K x1 k') y = some s := by
 cases k with
 | zero => cases h
 | succ k => exact ⟨k, rfl, h⟩
def inspeximusref04_Right.f (K : Nat) (x1 : T_api_Rec) : Option (Bool) :=
 (jn (fun (y1 : Bool) => (jn (fun (y2 : Bool) => (bif y2 then (some false) else (jn (fun (y10 : Unit) => (jn (fun (y3 : Bool) => (bif y3 then (some false) else (jn (fun (y4 : Bool) => (bif y4 then (some false) else (jn (fun (y5 : Bool) => (bif y5 then (some false) else (jn (fun (y6 : Bool) => (bif y6 then (some false) else (bif (!(decide (x1.fKind = (1 : Int)))) then (jn (fun (y7 : Bool) => (some y7)) (fun j4 => (bif (decide (((List.length (x1.fSteps) : Nat) : Int) = (0 : Int))) then (bif (decide (((List.length (x1.fData) : Nat) : Int) = (0 : Int))) then (bif (decide (x1.fSalt = (Vector.replicate 32 (0 : Int)))) then (bif (!x1.fGone) then (j4 (decide (x1.fCom = (Vector.replicate 32 (0 : Int))))) else (j4 false)) else (j4 false)) else (j4 false)) else (j4 false)))) else ((inspeximusref04_Right_l1.l K x1 K (0 : Int)).bind fun s1 => (match s1 with | .inl u1 => some u1 | .inr u2 => (fun (z1 : Unit) => (jn (fun (y8 : Bool) => (bif y8 then (some false) else (bif x1.fGone then (bif (decide (((List.length (x1.fData) : Nat) : Int) = (0 : Int))) then (some (decide (x1.fSalt = (Vector.replicate 32 (0 : Int))))) else (some false)) else (some (decide (x1.fCom = (Vector.replicate 32 (0 : Int)))))))) (fun j7 => ((inspeximusref04_in.f K (((List.length (x1.fSteps) : Nat) : Int)) ((1 : Int)) ((6 : Int))).bind fun (r1 : (Bool)) => (bif (!r1) then (j7 true) else (j7 (decide ((60 : Int) < ((List.length (x1.fData) : Nat) : Int))))))))) u2))))) (fun j6 => (bif (!(decide (x1.fKind = (3 : Int)))) then (bif (!decide (x1.fKind = (6 : Int))) then (bif (!decide (x1.fPart = (0 : Int))) then (j6 true) else (j6 (!decide (x1.fEpoch = (0 : Int))))) else (j6 false)) else (j6 false)))))) (fun j3 => (bif (decide (x1.fKind = (3 : Int))) then ((inspeximusref04_in.f K (x1.fPart) ((0 : Int)) ((3 : Int))).bind fun (r2 : (Bool)) => (bif (!r2) then (j3 true) else ((inspeximusref04_in.f K (x1.fEpoch) ((0 : Int)) ((400 : Int))).bind fun (r3 : (Bool)) => (bif (!r3) then (j3 true) else (bif (decide (x1.fKind = (6 : Int))) then ((inspeximusref04_in.f K (x1.fPart) ((0 : Int)) ((3 : Int))).bind fun (r4 : (Bool)) => (bif (!r4) then (j3 true) else ((inspeximusref04_in.f K (x1.fEpoch) ((1 : Int)) ((400 : Int))).bind fun (r5 : (Bool)) => (j3 (!r5))))) else (j3 false)))))) else (bif (decide (x1.fKind = (6 : Int))) then ((inspeximusref04_in.f K (x1.fPart) ((0 : Int)) ((3 : Int))).bind fun (r6 : (Bool)) => (bif (!r6) then (j3 true) else ((inspeximusref04_in.f K (x1.fEpoch) ((1 : Int)) ((400 : Int))).bind fun (r7 : (Bool)) => (j3 (!r7))))) else (j3 false))))))) (fun j1 => (bif (!(decide (x1.fKind = (3 : Int)))) then (bif x1.fGood then (j1 true) else (bif (!(decide (x1.fTag = (Vector.replicate 32 (0 : Int))))) then (j1 true) else (bif (decide (x1.fKind = (5 : Int))) then ((inspeximusref04_in.f K (x1.fEnd) ((2 : Int)) ((4 : Int))).bind fun (r8 : (Bool)) => (bif (!r8) then (j1 true) else (bif (!decide (x1.fKind = (5 : Int))) then (j1 (!decide (x1.fEnd = (0 : Int)))) else (j1 false)))) else (bif (!decide (x1.fKind = (5 : Int))) then (j1 (!decide (x1.fEnd = (0 : Int)))) else (j1 false))))) else (bif (decide (x1.fKind = (5 : Int))) then ((inspeximusref04_in.f K (x1.fEnd) ((2 : Int)) ((4 : Int))).bind fun (r9 : (Bool)) => (bif (!r9) then (j1 true) else (bif (!decide (x1.fKind = (5 : Int))) then (j1 (!decide (x1.fEnd = (0 : Int)))) else (j1 false)))) else (bif (!decide (x1.fKind = (5 : Int))) then (j1 (!decide (x1.fEnd = (0 : Int)))) else (j1 false)))))))) (fun j2 => (bif y1 then ((inspeximusref04_in.f K (x1.fStep) ((0 : Int)) ((5 : Int))).bind fun (r10 : (Bool)) => (bif (!r10) then (j2 true) else ((inspeximusref04_in.f K (x1.fTry) ((1 : Int)) ((9 : Int))).bind fun (r11 : (Bool)) => (bif (!r11) then (j2 true) else (bif (!y1) then (bif (!decide (x1.fStep = (0 : Int))) then (j2 true) else (bif (!decide (x1.fTry = (0 : Int))) then (j2 true) else (j2 x1.fBack))) else (j2 false)))))) else (bif (!y1) then (bif (!decide (x1.fStep = (0 : Int))) then (j2 true) else (bif (!decide (x1.fTry = (0 : Int))) then (j2 true) else (j2 x1.fBack))) else (j2 false)))))) (fun j8 => (jn (fun (y9 : Bool) => (bif y9 then ((inspeximusref04_in.f K (x1.fSeq) ((1 : Int)) ((400 : Int))).bind fun (r12 : (Bool)) => (bif (!r12) then (some false) else (j8 ()))) else (bif (!decide (x1.fSeq = (0 : Int))) then (some false) else (j8 ())))) (fun j9 => (bif y1 then (j9 true) else (j9 (decide (x1.fKind = (5 : Int))))))))))) (fun j5 => (bif (decide (x1.fKind < (1 : Int))) then (j5 true) else (bif (decide ((6 : Int) < x1.fKind)) then (j5 true) else ((inspeximusref04_in.f K (x1.fSaga) ((0 : Int)) ((11 : Int))).bind fun (r13 : (Bool)) => (bif (!r13) then (j5 true) else (bif (decide (x1.fKind = (6 : Int))) then (j5 (!decide (x1.fSaga = (0 : Int)))) else (j5 false))))))))) (fun j10 => (bif (decide ((2 : Int) ≤ x1.fKind)) then (j10 (decide (x1.fKind ≤ (4 : Int)))) else (j10 false))))
def inspeximusref17_Right_l1.b (K : Nat) (x1 : T_api_Bundle) (rec : Int → Option (Sum ((Bool)) (Unit))) (y1 : Int) : Option (Sum ((Bool)) (Unit)) :=
 (bif (decide (y1 < ((List.length (x1.fPoint.fSigs) : Nat) : Int))) then (jn (fun (y2 : Bool) => (bif y2 then (some (Sum.inl false)) else (rec (IntKind.wrap .i64 (y1 + (1 : Int)))))) (fun j1 => ((getI (x1.fPoint.fSigs) y1).bind fun (x2 : T_api_Sig) => (bif (decide (x2.fWit < (0 : Int))) then (j1 true) else ((getI (x1.fPoint.fSigs) y1).bind fun (x3 : T_api_Sig) => (j1 (decide ((3 : Int) < x3.fWit)))))))) else (some (Sum.inr ())))
def inspeximusref17_Right_l1.l (K : Nat) (x1 : T_api_Bundle) : Nat → (Int) → Option (Sum ((Bool)) (Unit))
 | 0, _ => none
 | k + 1, y => inspeximusref17_Right_l1.b K x1 (inspeximusref17_Right_l1.l K x1 k) y
theorem inspeximusref17_Right_l1.some {K : Nat} (x1 : T_api_Bundle) {k : Nat} {y : Int} {s : (Sum ((Bool)) (Unit))} (h : inspeximusref17_Right_l1.l K x1 k y = some s) : ∃ k', k = k' + 1 ∧ inspeximusref17_Right_l1.b K x1 (inspeximusref17_Right_l1.l K x1 k') y = some s := by
 cases k with
 | zero => cases h
 | succ k => exact ⟨k, rfl, h⟩
def inspeximusref17_Right_l2.b (K : Nat) (x1 : T_api_Bundle) (rec : Int → Option (Sum ((Bool)) (Unit))) (y1 : Int) : Option (Sum ((Bool)) (Unit)) :=
 (bif (decide (y1 < ((List.length (x1.fItems) : Nat) : Int))) then ((getI (x1.fItems) y1).bind fun (x2 : T_api_Item) => (jn (fun (y2 : Bool) => (bif y2 then (some (Sum.inl false)) else (jn (fun (y3 : Bool) => (bif y3 then (some (Sum.inl false)) else (rec (IntKind.wrap .i64 (y1 + (1 : Int)))))) (fun j2 => (bif x1.fWhole then (bif (!decide (x2.fAt = y1)) then (j2 true) else (j2 (decide ((0 : Int) < ((List.length (x2.fPath) : Nat) : Int))))) else (j2 false)))))) (fun j1 => ((inspeximusref04_Right.f K (x2.fRec)).bind fun (r1 : (Bool)) => (bif (!r1) then (j1 true) else (bif (decide (x2.fAt < (0 : Int))) then (j1 true) else (bif (decide (x1.fPoint.fSize ≤ x2.fAt)) then (j1 true) else (bif (decide ((20 : Int) < ((List.length (x2.fPath) : Nat) : Int))) then (j1 true) else (bif (decide ((0 : Int) < y1)) then ((getI (x1.fItems) (IntKind.wrap .i64 (y1 - (1 : Int)))).bind fun (x3 : T_api_Item) => (j1 (decide (x2.fAt ≤ x3.fAt)))) else (j1 false)))))))))) else (some (Sum.inr ())))
def inspeximusref17_Right_l2.l (K : Nat) (x1 : T_api_Bundle) : Nat → (Int) → Option (Sum ((Bool)) (Unit))
 | 0, _ => none
 | k + 1, y => inspeximusref17_Right_l2.b K x1 (inspeximusref17_Right_l2.l K x1 k) y
theorem inspeximusref17_Right_l2.some {K : Nat} (x1 : T_api_Bundle) {k : Nat} {y : Int} {s : (Sum ((Bool)) (Unit))} (h : inspeximusref17_Right_l2.l K x1 k y = some s) : ∃ k', k = k' + 1 ∧ inspeximusref17_Right_l2.b K x1 (inspeximusref17_Right_l2.l K x1 k') y = some s := by
 cases k with
 | zero => cases h
 | succ k => exact ⟨k, rfl, h⟩
def inspeximusref17_Right.f (K : Nat) (x1 : T_api_Bundle) : Option (Bool) :=
 (jn (fun (y1 : Bool) => (bif y1 then (some false) else ((inspeximusref17_Right_l1.l K x1 K (0 : Int)).bind fun s1 => (match s1 with | .inl u1 => some u1 | .inr u2 => (fun (z1 : Unit) => (jn (fun (y2 : Bool) => (bif y2 then (some false) else ((inspeximusref17_Right_l2.l K x1 K (0 : Int)).bind fun s2 => (match s2 with | .inl u3 => some u3 | .inr u4 => (fun (z2 : Unit) => (some true)) u4)))) (fun j2 => (bif x1.fWhole then (j2 (!decide (((List.length (x1.fItems) : Nat) : Int) = x1.fPoint.fSize))) else (j2 false))))) u2)))) (fun j1 => (bif (decide (x1.fPoint.fSize < (0 : Int))) then (j1 true) else (bif (decide ((400 : Int) < x1.fPoint.fSize)) then (j1 true) else (bif (decide ((4 : Int) < ((List.length (x1.fPoint.fSigs) : Nat) : Int))) then (j1 true) else (j1 (decide (x1.fPoint.fSize < ((List.length (x1.fItems) : Nat) : Int)))))))))
def inspeximusref03_Num.b (K : Nat) (self : Int → Option ((List Int))) (x1 : Int) : Option ((List Int)) :=
 (jn (fun (y95 : Bool) => (bif y95 then (some ([] : List Int)) else (bif (decide (x1 < (128 : Int))) then (some ([(IntKind.wrap .u8 x1)] : List Int)) else ((self ((IntKind.wrap .i64 (Int.tdiv x1 128)))).bind fun (r1 : ((List Int))) => ((getI (r1) (IntKind.wrap .i64 (((List.length (r1) : Nat) : Int) - (1 : Int)))).bind fun (x2 : Int) => ((getI (r1) (IntKind.wrap .i64 (((List.length (r1) : Nat) : Int) - (1 : Int)))).bind fun (x3 : Int) => ((catI 1 ((List.set (r1) (Int.toNat ((IntKind.wrap .i64 (((List.length (r1) : Nat) : Int) - (1 : Int))))) ((IntKind.wrap .u8 (x2 + (128 : Int)))))) (([(IntKind.wrap .u8 (Int.tmod x1 128))] : List Int))).bind fun (l1 : (List Int)) => (some l1)))))))) (fun j1 => (bif (decide (x1 < (0 : Int))) then (j1 true) else (j1 (decide ((2147483647 : Int) < x1))))))
def inspeximusref03_Num.r (K : Nat) : Nat → Int → Option ((List Int))
 | 0 => fun _ => none
 | k + 1 => inspeximusref03_Num.b K (inspeximusref03_Num.r K k)
def inspeximusref03_Num.f (K : Nat) (x1 : Int) : Option ((List Int)) := inspeximusref03_Num.r K K x1
def inspeximusref02_Number_l1.b (K : Nat) (rec : ((List Int) × Int × Int) → Option ((List Int))) (y1 : (List Int) × Int × Int) : Option ((List Int)) :=
 (bif (decide ((0 : Int) ≤ y1.2.2)) then ((getI (y1.1) y1.2.2).bind fun (x1 : Int) => (rec ((List.set (y1.1) (Int.toNat (y1.2.2)) ((IntKind.wrap .u8 (Int.tmod y1.2.1 256)))), (IntKind.wrap .u64 (Int.tdiv y1.2.1 256)), (IntKind.wrap .i64 (y1.2.2 - (1 : Int)))))) else (some y1.1))
def inspeximusref02_Number_l1.l (K : Nat) : Nat → ((List Int) × Int × Int) → Option ((List Int))
 | 0, _ => none
 | k + 1, y => inspeximusref02_Number_l1.b K (inspeximusref02_Number_l1.l K k) y
theorem inspeximusref02_Number_l1.some {K : Nat} {k : Nat} {y : (List Int) × Int × Int} {s : ((List Int))} (h : inspeximusref02_Number_l1.l K k y = some s) : ∃ k', k = k' + 1 ∧ inspeximusref02_Number_l1.b K (inspeximusref02_Number_l1.l K k') y = some s := by
 cases k with
 | zero => cases h
 | succ k => exact ⟨k, rfl, h⟩
def inspeximusref02_Number.f (K : Nat) (x1 : Int) (x2 : Int) : Option ((List Int)) :=
 ((zerosI 1 ((0 : Int)) x2).bind fun (l1 : (List Int)) => ((inspeximusref02_Number_l1.l K K (l1, (IntKind.wrap .u64 x1), (IntKind.wrap .i64 (x2 - (1 : Int))))).bind fun (z1 : (List Int)) => (some z1)))
def inspeximusref02_Text_l1.b (K : Nat) (x2 : (List (List Int))) (rec : ((List Int) × Int) → Option ((List Int))) (y1 : (List Int) × Int) : Option ((List Int)) :=
 (bif (decide (y1.2 < ((List.length (x2) : Nat) : Int))) then ((getI (x2) y1.2).bind fun (x1 : (List Int)) => ((inspeximusref02_Number.f K (((List.length (x1) : Nat) : Int)) ((4 : Int))).bind fun (r1 : ((List Int))) => ((catI 1 (y1.1) (r1)).bind fun (l1 : (List Int)) => ((getI (x2) y1.2).bind fun (x3 : (List Int)) => ((catI 1 (l1) (x3)).bind fun (l2 : (List Int)) => (rec (l2, (IntKind.wrap .i64 (y1.2 + (1 : Int)))))))))) else (some y1.1))
def inspeximusref02_Text_l1.l (K : Nat) (x2 : (List (List Int))) : Nat → ((List Int) × Int) → Option ((List Int))
 | 0, _ => none
 | k + 1, y => inspeximusref02_Text_l1.b K x2 (inspeximusref02_Text_l1.l K x2 k) y
theorem inspeximusref02_Text_l1.some {K : Nat} (x2 : (List (List Int))) {k : Nat} {y : (List Int) × Int} {s : ((List Int))} (h : inspeximusref02_Text_l1.l K x2 k y = some s) : ∃ k', k = k' + 1 ∧ inspeximusref02_Text_l1.b K x2 (inspeximusref02_Text_l1.l K x2 k') y = some s := by
 cases k with
 | zero => cases h
 | succ k => exact ⟨k, rfl, h⟩
def inspeximusref02_Text.f (K : Nat) (x1 : Int) (x2 : (List (List Int))) : Option ((List Int)) :=
 ((inspeximusref02_Text_l1.l K x2 K (([(IntKind.wrap .u8 x1)] : List Int), (0 : Int))).bind fun (z1 : (List Int)) => (some z1))
def inspeximusref01_Fill_l1.b (K : Nat) (x1 : Int) (rec : (List Int) → Option ((List Int))) (y1 : (List Int)) : Option ((List Int)) :=
 (bif (!decide ((Int.tmod (IntKind.wrap .i64 (x1 + ((List.length (y1) : Nat) : Int))) 64) = (56 : Int))) then ((catI 1 (y1) (([(0 : Int)] : List Int))).bind fun (l1 : (List Int)) => (rec l1)) else (some y1))
def inspeximusref01_Fill_l1.l (K : Nat) (x1 : Int) : Nat → ((List Int)) → Option ((List Int))
 | 0, _ => none
 | k + 1, y => inspeximusref01_Fill_l1.b K x1 (inspeximusref01_Fill_l1.l K x1 k) y
theorem inspeximusref01_Fill_l1.some {K : Nat} (x1 : Int) {k : Nat} {y : (List Int)} {s : ((List Int))} (h : inspeximusref01_Fill_l1.l K x1 k y = some s) : ∃ k', k = k' + 1 ∧ inspeximusref01_Fill_l1.b K x1 (inspeximusref01_Fill_l1.l K x1 k') y = some s := by
 cases k with
 | zero => cases h
 | succ k => exact ⟨k, rfl, h⟩
def inspeximusref01_Fill_l2.b (K : Nat) (x1 : Int) (rec : ((List Int) × Int × Int) → Option ((List Int))) (y1 : (List Int) × Int × Int) : Option ((List Int)) :=
 (bif (decide (y1.2.2 < (8 : Int))) then (chk (!(decide (y1.2.1 = 0))) ((catI 1 (y1.1) (([(IntKind.wrap .u8 (Int.tmod (IntKind.wrap .u64 (Int.tdiv (IntKind.wrap .u64 ((IntKind.wrap .u64 x1) * (8 : Int))) y1.2.1)) 256))] : List Int))).bind fun (l1 : (List Int)) => (rec (l1, (IntKind.wrap .u64 (Int.tdiv y1.2.1 256)), (IntKind.wrap .i64 (y1.2.2 + (1 : Int))))))) else (some y1.1))
def inspeximusref01_Fill_l2.l (K : Nat) (x1 : Int) : Nat → ((List Int) × Int × Int) → Option ((List Int))
 | 0, _ => none
 | k + 1, y => inspeximusref01_Fill_l2.b K x1 (inspeximusref01_Fill_l2.l K x1 k) y
theorem inspeximusref01_Fill_l2.some {K : Nat} (x1 : Int) {k : Nat} {y : (List Int) × Int × Int} {s : ((List Int))} (h : inspeximusref01_Fill_l2.l K x1 k y = some s) : ∃ k', k = k' + 1 ∧ inspeximusref01_Fill_l2.b K x1 (inspeximusref01_Fill_l2.l K x1 k') y = some s := by
 cases k with
 | zero => cases h
 | succ k => exact ⟨k, rfl, h⟩
def inspeximusref01_Fill.f (K : Nat) (x1 : Int) : Option ((List Int)) :=
 (bif (decide (x1 < (0 : Int))) then (some ([] : List Int)) else ((inspeximusref01_Fill_l1.l K x1 K ([(128 : Int)] : List Int)).bind fun (z1 : (List Int)) => ((inspeximusref01_Fill_l2.l K x1 K (z1, (72057594037927936 : Int), (0 : Int))).bind fun (z2 : (List Int)) => (some z2))))
def inspeximusref01_right.f (K : Nat) (x1 : Int) (x2 : Int) : Option (Int) :=
 (chk (!(decide ((IntKind.wrap .u64 x2) < 0))) (chk (!(decide ((IntKind.wrap .u64 (IntKind.wrap .i64 ((32 : Int) - x2))) < 0))) (some (Int.tmod (bor .u64 (Int.fdiv x1 (2 ^ (min (Int.toNat (IntKind.wrap .u64 x2)) 64))) (IntKind.wrap .u64 (x1 * 2 ^ (min (Int.toNat (IntKind.wrap .u64 (IntKind.wrap .i64 ((32 : Int) - x2)))) 64)))) 4294967296))))
def inspeximusref01_shift.f (K : Nat) (x1 : Int) (x2 : Int) : Option (Int) :=
 (chk (!(decide ((IntKind.wrap .u64 x2) < 0))) (some (Int.fdiv x1 (2 ^ (min (Int.toNat (IntKind.wrap .u64 x2)) 64)))))
def inspeximusref01_Turn_l1.b (K : Nat) (x2 : (List Int)) (rec : (Int × (Vector Int 64)) → Option ((Vector Int 64))) (y1 : Int × (Vector Int 64)) : Option ((Vector Int 64)) :=
 (bif (decide (y1.1 < (64 : Int))) then (jn (fun (y2 : (Vector Int 64)) => (rec ((IntKind.wrap .i64 (y1.1 + (1 : Int))), y2))) (fun j1 => (bif (decide (y1.1 < (16 : Int))) then ((getI (x2) (IntKind.wrap .i64 ((4 : Int) * y1.1))).bind fun (x1 : Int) => ((getI (x2) (IntKind.wrap .i64 ((IntKind.wrap .i64 ((4 : Int) * y1.1)) + (1 : Int)))).bind fun (x3 : Int) => ((getI (x2) (IntKind.wrap .i64 ((IntKind.wrap .i64 ((4 : Int) * y1.1)) + (2 : Int)))).bind fun (x4 : Int) => ((getI (x2) (IntKind.wrap .i64 ((IntKind.wrap .i64 ((4 : Int) * y1.1)) + (3 : Int)))).bind fun (x5 : Int) => (chk (inA 64 y1.1) ((some (vset (y1.2) (Int.toNat (y1.1)) ((IntKind.wrap .u64 ((IntKind.wrap .u64 ((IntKind.wrap .u64 ((IntKind.wrap .u64 ((IntKind.wrap .u64 ((IntKind.wrap .u64 ((IntKind.wrap .u64 x1) * (256 : Int))) + (IntKind.wrap .u64 x3))) * (256 : Int))) + (IntKind.wrap .u64 x4))) * (256 : Int))) + (IntKind.wrap .u64 x5)))))).bind fun (v1 : (Vector Int 64)) => (j1 v1))))))) else (chk (inA 64 (IntKind.wrap .i64 (y1.1 - (15 : Int)))) (chk (inA 64 (IntKind.wrap .i64 (y1.1 - (2 : Int)))) (chk (inA 64 (IntKind.wrap .i64 (y1.1 - (7 : Int)))) (chk (inA 64 (IntKind.wrap .i64 (y1.1 - (16 : Int)))) ((inspeximusref01_right.f K ((vget (y1.2) (Int.toNat ((IntKind.wrap .i64 (y1.1 - (2 : Int))))))) ((17 : Int))).bind fun (r1 : (Int)) => ((inspeximusref01_right.f K ((vget (y1.2) (Int.toNat ((IntKind.wrap .i64 (y1.1 - (2 : Int))))))) ((19 : Int))).bind fun (r2 : (Int)) => ((inspeximusref01_shift.f K ((vget (y1.2) (Int.toNat ((IntKind.wrap .i64 (y1.1 - (2 : Int))))))) ((10 : Int))).bind fun (r3 : (Int)) => ((inspeximusref01_right.f K ((vget (y1.2) (Int.toNat ((IntKind.wrap .i64 (y1.1 - (15 : Int))))))) ((7 : Int))).bind fun (r4 : (Int)) => ((inspeximusref01_right.f K ((vget (y1.2) (Int.toNat ((IntKind.wrap .i64 (y1.1 - (15 : Int))))))) ((18 : Int))).bind fun (r5 : (Int)) => ((inspeximusref01_shift.f K ((vget (y1.2) (Int.toNat ((IntKind.wrap .i64 (y1.1 - (15 : Int))))))) ((3 : Int))).bind fun (r6 : (Int)) => (chk (inA 64 y1.1) ((some (vset (y1.2) (Int.toNat (y1.1)) ((Int.tmod (IntKind.wrap .u64 ((IntKind.wrap .u64 ((IntKind.wrap .u64 ((bxor .u64 (bxor .u64 r1 r2) r3) + (vget (y1.2) (Int.toNat ((IntKind.wrap .i64 (y1.1 - (7 : Int)))))))) + (bxor .u64 (bxor .u64 r4 r5) r6))) + (vget (y1.2) (Int.toNat ((IntKind.wrap .i64 (y1.1 - (16 : Int)))))))) 4294967296)))).bind fun (v2 : (Vector Int 64)) => (j1 v2)))))))))))))))) else (some y1.2))
def inspeximusref01_Turn_l1.l (K : Nat) (x2 : (List Int)) : Nat → (Int × (Vector Int 64)) → Option ((Vector Int 64))
 | 0, _ => none
 | k + 1, y => inspeximusref01_Turn_l1.b K x2 (inspeximusref01_Turn_l1.l K x2 k) y
theorem inspeximusref01_Turn_l1.some {K : Nat} (x2 : (List Int)) {k : Nat} {y : Int × (Vector Int 64)} {s : ((Vector Int 64))} (h : inspeximusref01_Turn_l1.l K x2 k y = some s) : ∃ k', k = k' + 1 ∧ inspeximusref01_Turn_l1.b K x2 (inspeximusref01_Turn_l1.l K x2 k') y = some s := by
 cases k with
 | zero => cases h
 | succ k => exact ⟨k, rfl, h⟩
def inspeximusref01_Turn_l2.b (K : Nat) (x1 : (Vector Int 8)) (rec : (Int × (Vector Int 8)) → Option ((Vector Int 8))) (y1 : Int × (Vector Int 8)) : Option ((Vector Int 8)) :=
 (bif (decide (y1.1 < (8 : Int))) then (chk (inA 8 y1.1) (chk (inA 8 y1.1) ((some (vset (y1.2) (Int.toNat (y1.1)) ((IntKind.wrap .u64 (vget (x1) (Int.toNat (y1.1))))))).bind fun (v1 : (Vector Int 8)) => (rec ((IntKind.wrap .i64 (y1.1 + (1 : Int))), v1))))) else (some y1.2))
def inspeximusref01_Turn_l2.l (K : Nat) (x1 : (Vector Int 8)) : Nat → (Int × (Vector Int 8)) → Option ((Vector Int 8))
 | 0, _ => none
 | k + 1, y => inspeximusref01_Turn_l2.b K x1 (inspeximusref01_Turn_l2.l K x1 k) y
theorem inspeximusref01_Turn_l2.some {K : Nat} (x1 : (Vector Int 8)) {k : Nat} {y : Int × (Vector Int 8)} {s : ((Vector Int 8))} (h : inspeximusref01_Turn_l2.l K x1 k y = some s) : ∃ k', k = k' + 1 ∧ inspeximusref01_Turn_l2.b K x1 (inspeximusref01_Turn_l2.l K x1 k') y = some s := by
 cases k with
 | zero => cases h
 | succ k => exact ⟨k, rfl, h⟩
def inspeximusref01_Turn_l3.b (K : Nat) (z1 : (Vector Int 64)) (rec : (Int × (Vector Int 8)) → Option ((Vector Int 8))) (y1 : Int × (Vector Int 8)) : Option ((Vector Int 8)) :=
 (bif (decide (y1.1 < (64 : Int))) then (chk (inA 64 y1.1) (chk (inA 64 y1.1) ((inspeximusref01_right.f K ((vget (y1.2) (Int.toNat ((4 : Int))))) ((6 : Int))).bind fun (r1 : (Int)) => ((inspeximusref01_right.f K ((vget (y1.2) (Int.toNat ((4 : Int))))) ((11 : Int))).bind fun (r2 : (Int)) => ((inspeximusref01_right.f K ((vget (y1.2) (Int.toNat ((4 : Int))))) ((25 : Int))).bind fun (r3 : (Int)) => ((inspeximusref01_right.f K ((vget (y1.2) (Int.toNat ((0 : Int))))) ((2 : Int))).bind fun (r4 : (Int)) => ((inspeximusref01_right.f K ((vget (y1.2) (Int.toNat ((0 : Int))))) ((13 : Int))).bind fun (r5 : (Int)) => ((inspeximusref01_right.f K ((vget (y1.2) (Int.toNat ((0 : Int))))) ((22 : Int))).bind fun (r6 : (Int)) => (rec ((IntKind.wrap .i64 (y1.1 + (1 : Int))), (vofL 8 [(Int.tmod (IntKind.wrap .u64 ((Int.tmod (IntKind.wrap .u64 ((IntKind.wrap .u64 ((IntKind.wrap .u64 ((IntKind.wrap .u64 ((vget (y1.2) (Int.toNat ((7 : Int)))) + (bxor .u64 (bxor .u64 r1 r2) r3))) + (bxor .u64 (band .u64 (vget (y1.2) (Int.toNat ((4 : Int)))) (vget (y1.2) (Int.toNat ((5 : Int))))) (band .u64 (IntKind.wrap .u64 ((4294967295 : Int) - (vget (y1.2) (Int.toNat ((4 : Int)))))) (vget (y1.2) (Int.toNat ((6 : Int)))))))) + (IntKind.wrap .u64 (vget (gl_K) (Int.toNat (y1.1)))))) + (vget (z1) (Int.toNat (y1.1))))) 4294967296) + (Int.tmod (IntKind.wrap .u64 ((bxor .u64 (bxor .u64 r4 r5) r6) + (bxor .u64 (bxor .u64 (band .u64 (vget (y1.2) (Int.toNat ((0 : Int)))) (vget (y1.2) (Int.toNat ((1 : Int))))) (band .u64 (vget (y1.2) (Int.toNat ((0 : Int)))) (vget (y1.2) (Int.toNat ((2 : Int)))))) (band .u64 (vget (y1.2) (Int.toNat ((1 : Int)))) (vget (y1.2) (Int.toNat ((2 : Int)))))))) 4294967296))) 4294967296), (vget (y1.2) (Int.toNat ((0 : Int)))), (vget (y1.2) (Int.toNat ((1 : Int)))), (vget (y1.2) (Int.toNat ((2 : Int)))), (Int.tmod (IntKind.wrap .u64 ((vget (y1.2) (Int.toNat ((3 : Int)))) + (Int.tmod (IntKind.wrap .u64 ((IntKind.wrap .u64 ((IntKind.wrap .u64 ((IntKind.wrap .u64 ((vget (y1.2) (Int.toNat ((7 : Int)))) + (bxor .u64 (bxor .u64 r1 r2) r3))) + (bxor .u64 (band .u64 (vget (y1.2) (Int.toNat ((4 : Int)))) (vget (y1.2) (Int.toNat ((5 : Int))))) (band .u64 (IntKind.wrap .u64 ((4294967295 : Int) - (vget (y1.2) (Int.toNat ((4 : Int)))))) (vget (y1.2) (Int.toNat ((6 : Int)))))))) + (IntKind.wrap .u64 (vget (gl_K) (Int.toNat (y1.1)))))) + (vget (z1) (Int.toNat (y1.1))))) 4294967296))) 4294967296), (vget (y1.2) (Int.toNat ((4 : Int)))), (vget (y1.2) (Int.toNat ((5 : Int)))), (vget (y1.2) (Int.toNat ((6 : Int))))]))))))))))) else (some y1.2))
def inspeximusref01_Turn_l3.l (K : Nat) (z1 : (Vector Int 64)) : Nat → (Int × (Vector Int 8)) → Option ((Vector Int 8))
 | 0, _ => none
 | k + 1, y => inspeximusref01_Turn_l3.b K z1 (inspeximusref01_Turn_l3.l K z1 k) y
theorem inspeximusref01_Turn_l3.some {K : Nat} (z1 : (Vector Int 64)) {k : Nat} {y : Int × (Vector Int 8)} {s : ((Vector Int 8))} (h : inspeximusref01_Turn_l3.l K z1 k y = some s) : ∃ k', k = k' + 1 ∧ inspeximusref01_Turn_l3.b K z1 (inspeximusref01_Turn_l3.l K z1 k') y = some s := by
 cases k with
 | zero => cases h
 | succ k => exact ⟨k, rfl, h⟩
def inspeximusref01_Turn_l4.b (K : Nat) (z1 : (Vector Int 8)) (rec : (Int × (Vector Int 8)) → Option ((Vector Int 8))) (y1 : Int × (Vector Int 8)) : Option ((Vector Int 8)) :=
 (bif (decide (y1.1 < (8 : Int))) then (chk (inA 8 y1.1) (chk (inA 8 y1.1) (chk (inA 8 y1.1) ((some (vset (y1.2) (Int.toNat (y1.1)) ((IntKind.wrap .u32 (Int.tmod (IntKind.wrap .u64 ((IntKind.wrap .u64 (vget (y1.2) (Int.toNat (y1.1)))) + (vget (z1) (Int.toNat (y1.1))))) 4294967296))))).bind fun (v1 : (Vector Int 8)) => (rec ((IntKind.wrap .i64 (y1.1 + (1 : Int))), v1)))))) else (some y1.2))
def inspeximusref01_Turn_l4.l (K : Nat) (z1 : (Vector Int 8)) : Nat → (Int × (Vector Int 8)) → Option ((Vector Int 8))
 | 0, _ => none
 | k + 1, y => inspeximusref01_Turn_l4.b K z1 (inspeximusref01_Turn_l4.l K z1 k) y
theorem inspeximusref01_Turn_l4.some {K : Nat} (z1 : (Vector Int 8)) {k : Nat} {y : Int × (Vector Int 8)} {s : ((Vector Int 8))} (h : inspeximusref01_Turn_l4.l K z1 k y = some s) : ∃ k', k = k' + 1 ∧ inspeximusref01_Turn_l4.b K z1 (inspeximusref01_Turn_l4.l K z1 k') y = some s := by
 cases k with
 | zero => cases h
 | succ k => exact ⟨k, rfl, h⟩
def inspeximusref01_Turn.f (K : Nat) (x1 : (Vector Int 8)) (x2 : (List Int)) : Option ((Vector Int 8)) :=
 (bif (!decide (((List.length (x2) : Nat) : Int) = (64 : Int))) then (some x1) else ((inspeximusref01_Turn_l1.l K x2 K ((0 : Int), (Vector.replicate 64 (0 : Int)))).bind fun (z1 : (Vector Int 64)) => ((inspeximusref01_Turn_l2.l K x1 K ((0 : Int), (Vector.replicate 8 (0 : Int)))).bind fun (z2 : (Vector Int 8)) => ((inspeximusref01_Turn_l3.l K z1 K ((0 : Int), z2)).bind fun (z3 : (Vector Int 8)) => ((inspeximusref01_Turn_l4.l K z3 K ((0 : Int), x1)).bind fun (z4 : (Vector Int 8)) => (some z4))))))
def inspeximusref01_Sum_l1.b (K : Nat) (l1 : (List Int)) (rec : (Int × (Vector Int 8)) → Option ((Vector Int 8))) (y1 : Int × (Vector Int 8)) : Option ((Vector Int 8)) :=
 (bif (decide ((IntKind.wrap .i64 (y1.1 + (64 : Int))) ≤ ((List.length (l1) : Nat) : Int))) then ((subI (l1) y1.1 (IntKind.wrap .i64 (y1.1 + (64 : Int)))).bind fun (l2 : (List Int)) => ((inspeximusref01_Turn.f K (y1.2) (l2)).bind fun (r1 : ((Vector Int 8))) => (rec ((IntKind.wrap .i64 (y1.1 + (64 : Int))), r1)))) else (some y1.2))
def inspeximusref01_Sum_l1.l (K : Nat) (l1 : (List Int)) : Nat → (Int × (Vector Int 8)) → Option ((Vector Int 8))
 | 0, _ => none
 | k + 1, y => inspeximusref01_Sum_l1.b K l1 (inspeximusref01_Sum_l1.l K l1 k) y
theorem inspeximusref01_Sum_l1.some {K : Nat} (l1 : (List Int)) {k : Nat} {y : Int × (Vector Int 8)} {s : ((Vector Int 8))} (h : inspeximusref01_Sum_l1.l K l1 k y = some s) : ∃ k', k = k' + 1 ∧ inspeximusref01_Sum_l1.b K l1 (inspeximusref01_Sum_l1.l K l1 k') y = some s := by
 cases k with
 | zero => cases h
 | succ k => exact ⟨k, rfl, h⟩
def inspeximusref01_Sum_l3.b (K : Nat) (y2 : Int × (Vector Int 32)) (rec : (Int × Int × (Vector Int 32)) → Option ((Vector Int 32))) (y1 : Int × Int × (Vector Int 32)) : Option ((Vector Int 32)) :=
 (bif (decide ((0 : Int) ≤ y1.2.1)) then (chk (inA 32 (IntKind.wrap .i64 ((IntKind.wrap .i64 ((4 : Int) * y2.1)) + y1.2.1))) ((some (vset (y1.2.2) (Int.toNat ((IntKind.wrap .i64 ((IntKind.wrap .i64 ((4 : Int) * y2.1)) + y1.2.1)))) ((IntKind.wrap .u8 (Int.tmod y1.1 256))))).bind fun (v1 : (Vector Int 32)) => (rec ((IntKind.wrap .u32 (Int.tdiv y1.1 256)), (IntKind.wrap .i64 (y1.2.1 - (1 : Int))), v1)))) else (some y1.2.2))
def inspeximusref01_Sum_l3.l (K : Nat) (y1 : Int × (Vector Int 32)) : Nat → (Int × Int × (Vector Int 32)) → Option ((Vector Int 32))
 | 0, _ => none
 | k + 1, y => inspeximusref01_Sum_l3.b K y1 (inspeximusref01_Sum_l3.l K y1 k) y
theorem inspeximusref01_Sum_l3.some {K : Nat} (y1 : Int × (Vector Int 32)) {k : Nat} {y : Int × Int × (Vector Int 32)} {s : ((Vector Int 32))} (h : inspeximusref01_Sum_l3.l K y1 k y = some s) : ∃ k', k = k' + 1 ∧ inspeximusref01_Sum_l3.b K y1 (inspeximusref01_Sum_l3.l K y1 k') y = some s := by
 cases k with
 | zero => cases h
 | succ k => exact ⟨k, rfl, h⟩
def inspeximusref01_Sum_l2.b (K : Nat) (z1 : (Vector Int 8)) (rec : (Int × (Vector Int 32)) → Option ((Vector Int 32))) (y1 : Int × (Vector Int 32)) : Option ((Vector Int 32)) :=
 (bif (decide (y1.1 < (8 : Int))) then (chk (inA 8 y1.1) ((inspeximusref01_Sum_l3.l K y1 K ((vget (z1) (Int.toNat (y1.1))), (3 : Int), y1.2)).bind fun (z2 : (Vector Int 32)) => (rec ((IntKind.wrap .i64 (y1.1 + (1 : Int))), z2)))) else (some y1.2))
def inspeximusref01_Sum_l2.l (K : Nat) (z1 : (Vector Int 8)) : Nat → (Int × (Vector Int 32)) → Option ((Vector Int 32))
 | 0, _ => none
 | k + 1, y => inspeximusref01_Sum_l2.b K z1 (inspeximusref01_Sum_l2.l K z1 k) y
theorem inspeximusref01_Sum_l2.some {K : Nat} (z1 : (Vector Int 8)) {k : Nat} {y : Int × (Vector Int 32)} {s : ((Vector Int 32))} (h : inspeximusref01_Sum_l2.l K z1 k y = some s) : ∃ k', k = k' + 1 ∧ inspeximusref01_Sum_l2.b K z1 (inspeximusref01_Sum_l2.l K z1 k') y = some s := by
 cases k with
 | zero => cases h
 | succ k => exact ⟨k, rfl, h⟩
def inspeximusref01_Sum.f (K : Nat) (x1 : (List Int)) : Option ((Vector Int 32)) :=
 ((catI 1 (([] : List Int)) (x1)).bind fun (l1 : (List Int)) => ((inspeximusref01_Fill.f K (((List.length (x1) : Nat) : Int))).bind fun (r1 : ((List Int))) => ((catI 1 (l1) (r1)).bind fun (l2 : (List Int)) => ((inspeximusref01_Sum_l1.l K l2 K ((0 : Int), gl_First)).bind fun (z1 : (Vector Int 8)) => ((inspeximusref01_Sum_l2.l K z1 K ((0 : Int), (Vector.replicate 32 (0 : Int)))).bind fun (z2 : (Vector Int 32)) => (some z2))))))
def inspeximusref02_Of.f (K : Nat) (x1 : Int) (x2 : (List (List Int))) : Option ((Vector Int 32)) :=
 ((inspeximusref02_Text.f K (x1) (x2)).bind fun (r30 : ((List Int))) => ((inspeximusref01_Sum.f K (r30)).bind fun (r45 : ((Vector Int 32))) => (some r45)))
def inspeximusref04_Com.f (K : Nat) (x1 : T_api_Rec) : Option ((Vector Int 32)) :=
 (jn (fun (y1 : Bool) => (bif y1 then (some (vofL 32 [(0 : Int), (0 : Int), (0 : Int), (0 : Int), (0 : Int), (0 : Int), (0 : Int), (0 : Int), (0 : Int), (0 : Int), (0 : Int), (0 : Int), (0 : Int), (0 : Int), (0 : Int), (0 : Int), (0 : Int), (0 : Int), (0 : Int), (0 : Int), (0 : Int), (0 : Int), (0 : Int), (0 : Int), (0 : Int), (0 : Int), (0 : Int), (0 : Int), (0 : Int), (0 : Int), (0 : Int), (0 : Int)])) else (bif x1.fGone then (some x1.fCom) else ((subI (vlist (x1.fSalt)) 0 ((32 : Nat) : Int)).bind fun (l1 : List Int) => ((inspeximusref02_Of.f K ((4 : Int)) (([l1, x1.fData] : List (List Int)))).bind fun (r1 : ((Vector Int 32))) => (some r1)))))) (fun j1 => ((inspeximusref04_Right.f K (x1)).bind fun (r2 : (Bool)) => (bif (!r2) then (j1 true) else (j1 (!decide (x1.fKind = (1 : Int))))))))
def inspeximusref04_flag.f (K : Nat) (x1 : Bool) : Option (Int) :=
 (bif x1 then (some (1 : Int)) else (some (0 : Int)))
def inspeximusref03_Bytes.f (K : Nat) (x1 : (List Int)) : Option ((List Int)) :=
 ((inspeximusref03_Num.f K (((List.length (x1) : Nat) : Int))).bind fun (r27 : ((List Int))) => ((catI 1 (r27) (x1)).bind fun (l37 : (List Int)) => (some l37)))
def inspeximusref04_Put_l1.b (K : Nat) (x1 : T_api_Rec) (rec : ((List Int) × Int) → Option ((List Int))) (y1 : (List Int) × Int) : Option ((List Int)) :=
 (bif (decide (y1.2 < ((List.length (x1.fSteps) : Nat) : Int))) then ((getI (x1.fSteps) y1.2).bind fun (x2 : T_api_Step) => ((inspeximusref03_Num.f K (x2.fPart)).bind fun (r1 : ((List Int))) => ((catI 1 (y1.1) (r1)).bind fun (l1 : (List Int)) => ((getI (x1.fSteps) y1.2).bind fun (x3 : T_api_Step) => ((inspeximusref03_Num.f K (x3.fKind)).bind fun (r2 : ((List Int))) => ((catI 1 (l1) (r2)).bind fun (l2 : (List Int)) => (rec (l2, (IntKind.wrap .i64 (y1.2 + (1 : Int))))))))))) else (some y1.1))
def inspeximusref04_Put_l1.l (K : Nat) (x1 : T_api_Rec) : Nat → ((List Int) × Int) → Option ((List Int))
 | 0, _ => none
 | k + 1, y => inspeximusref04_Put_l1.b K x1 (inspeximusref04_Put_l1.l K x1 k) y
theorem inspeximusref04_Put_l1.some {K : Nat} (x1 : T_api_Rec) {k : Nat} {y : (List Int) × Int} {s : ((List Int))} (h : inspeximusref04_Put_l1.l K x1 k y = some s) : ∃ k', k = k' + 1 ∧ inspeximusref04_Put_l1.b K x1 (inspeximusref04_Put_l1.l K x1 k') y = some s := by
 cases k with
 | zero => cases h
 | succ k => exact ⟨k, rfl, h⟩
def inspeximusref04_Put.f (K : Nat) (x1 : T_api_Rec) (x8 : Bool) : Option ((List Int)) :=
 ((inspeximusref04_Right.f K (x1)).bind fun (r2 : (Bool)) => (bif (!r2) then (some ([] : List Int)) else ((inspeximusref03_Num.f K (x1.fKind)).bind fun (r1 : ((List Int))) => (jn (fun (y2 : (List Int)) => (some y2)) (fun j1 => (bif (decide (x1.fKind = (1 : Int))) then ((inspeximusref03_Num.f K (x1.fSaga)).bind fun (r3 : ((List Int))) => ((catI 1 (r1) (r3)).bind fun (l2 : (List Int)) => ((inspeximusref03_Num.f K (((List.length (x1.fSteps) : Nat) : Int))).bind fun (r4 : ((List Int))) => ((catI 1 (l2) (r4)).bind fun (l3 : (List Int)) => ((inspeximusref04_Put_l1.l K x1 K (l3, (0 : Int))).bind fun (z1 : (List Int)) => ((inspeximusref04_Com.f K (x1)).bind fun (r5 : ((Vector Int 32))) => (jn (fun (y1 : (List Int)) => (jn (fun (y3 : Bool) => (bif y3 then ((subI (vlist (x1.fSalt)) 0 ((32 : Nat) : Int)).bind fun (l4 : List Int) => ((catI 1 (y1) (l4)).bind fun (l5 : (List Int)) => ((inspeximusref03_Bytes.f K (x1.fData)).bind fun (r6 : ((List Int))) => ((catI 1 (l5) (r6)).bind fun (l6 : (List Int)) => (some l6))))) else ((subI (vlist (r5)) 0 ((32 : Nat) : Int)).bind fun (l7 : List Int) => ((catI 1 (y1) (l7)).bind fun (l8 : (List Int)) => (j1 l8))))) (fun j3 => (bif x8 then (j3 (!x1.fGone)) else (j3 false))))) (fun j4 => (bif x8 then ((inspeximusref04_flag.f K (x1.fGone)).bind fun (r7 : (Int)) => ((catI 1 (z1) (([r7] : List Int))).bind fun (l9 : (List Int)) => (j4 l9))) else (j4 z1)))))))))) else (jn (fun (y4 : Bool) => (bif y4 then ((inspeximusref03_Num.f K (x1.fSaga)).bind fun (r8 : ((List Int))) => ((catI 1 (r1) (r8)).bind fun (l10 : (List Int)) => ((inspeximusref03_Num.f K (x1.fSeq)).bind fun (r9 : ((List Int))) => ((catI 1 (l10) (r9)).bind fun (l11 : (List Int)) => ((inspeximusref03_Num.f K (x1.fStep)).bind fun (r10 : ((List Int))) => ((catI 1 (l11) (r10)).bind fun (l12 : (List Int)) => ((inspeximusref03_Num.f K (x1.fTry)).bind fun (r11 : ((List Int))) => ((catI 1 (l12) (r11)).bind fun (l13 : (List Int)) => ((inspeximusref04_flag.f K (x1.fBack)).bind fun (r12 : (Int)) => ((catI 1 (l13) (([r12] : List Int))).bind fun (l1 : (List Int)) => (bif (decide (x1.fKind = (3 : Int))) then ((inspeximusref04_flag.f K (x1.fGood)).bind fun (r13 : (Int)) => ((catI 1 (l1) (([r13] : List Int))).bind fun (l14 : (List Int)) => ((inspeximusref03_Num.f K (x1.fPart)).bind fun (r14 : ((List Int))) => ((catI 1 (l14) (r14)).bind fun (l15 : (List Int)) => ((inspeximusref03_Num.f K (x1.fEpoch)).bind fun (r15 : ((List Int))) => ((catI 1 (l15) (r15)).bind fun (l16 : (List Int)) => ((subI (vlist (x1.fTag)) 0 ((32 : Nat) : Int)).bind fun (l17 : List Int) => ((catI 1 (l16) (l17)).bind fun (l18 : (List Int)) => (j1 l18))))))))) else (j1 l1)))))))))))) else (bif (decide (x1.fKind = (5 : Int))) then ((inspeximusref03_Num.f K (x1.fSaga)).bind fun (r16 : ((List Int))) => ((catI 1 (r1) (r16)).bind fun (l19 : (List Int)) => ((inspeximusref03_Num.f K (x1.fSeq)).bind fun (r17 : ((List Int))) => ((catI 1 (l19) (r17)).bind fun (l20 : (List Int)) => ((inspeximusref03_Num.f K (x1.fEnd)).bind fun (r18 : ((List Int))) => ((catI 1 (l20) (r18)).bind fun (l21 : (List Int)) => (j1 l21))))))) else ((inspeximusref03_Num.f K (x1.fPart)).bind fun (r19 : ((List Int))) => ((catI 1 (r1) (r19)).bind fun (l22 : (List Int)) => ((inspeximusref03_Num.f K (x1.fEpoch)).bind fun (r20 : ((List Int))) => ((catI 1 (l22) (r20)).bind fun (l23 : (List Int)) => (j1 l23)))))))) (fun j2 => (bif (decide (x1.fKind = (2 : Int))) then (j2 (decide (x1.fKind = (2 : Int)))) else (bif (decide (x1.fKind = (3 : Int))) then (j2 (decide (x1.fKind = (3 : Int)))) else (j2 (decide (x1.fKind = (4 : Int))))))))))))))
def inspeximusref17_Put_l1.b (K : Nat) (x1 : T_api_Bundle) (rec : ((List Int) × Int) → Option ((List Int))) (y1 : (List Int) × Int) : Option ((List Int)) :=
 (bif (decide (y1.2 < ((List.length (x1.fPoint.fSigs) : Nat) : Int))) then ((getI (x1.fPoint.fSigs) y1.2).bind fun (x2 : T_api_Sig) => ((getI (x1.fPoint.fSigs) y1.2).bind fun (x3 : T_api_Sig) => ((inspeximusref03_Num.f K (x3.fWit)).bind fun (r1 : ((List Int))) => ((catI 1 (y1.1) (r1)).bind fun (l1 : (List Int)) => ((subI (vlist (x2.fTag)) 0 ((32 : Nat) : Int)).bind fun (l2 : List Int) => ((catI 1 (l1) (l2)).bind fun (l3 : (List Int)) => (rec (l3, (IntKind.wrap .i64 (y1.2 + (1 : Int))))))))))) else (some y1.1))
def inspeximusref17_Put_l1.l (K : Nat) (x1 : T_api_Bundle) : Nat → ((List Int) × Int) → Option ((List Int))
 | 0, _ => none
 | k + 1, y => inspeximusref17_Put_l1.b K x1 (inspeximusref17_Put_l1.l K x1 k) y
theorem inspeximusref17_Put_l1.some {K : Nat} (x1 : T_api_Bundle) {k : Nat} {y : (List Int) × Int} {s : ((List Int))} (h : inspeximusref17_Put_l1.l K x1 k y = some s) : ∃ k', k = k' + 1 ∧ inspeximusref17_Put_l1.b K x1 (inspeximusref17_Put_l1.l K x1 k') y = some s := by
 cases k with
 | zero => cases h
 | succ k => exact ⟨k, rfl, h⟩
def inspeximusref17_Put_l3.b (K : Nat) (x1 : T_api_Item) (rec : ((List Int) × Int) → Option ((List Int))) (y1 : (List Int) × Int) : Option ((List Int)) :=
 (bif (decide (y1.2 < ((List.length (x1.fPath) : Nat) : Int))) then ((getI (x1.fPath) y1.2).bind fun (x2 : (Vector Int 32)) => ((subI (vlist (x2)) 0 ((32 : Nat) : Int)).bind fun (l1 : List Int) => ((catI 1 (y1.1) (l1)).bind fun (l2 : (List Int)) => (rec (l2, (IntKind.wrap .i64 (y1.2 + (1 : Int)))))))) else (some y1.1))
def inspeximusref17_Put_l3.l (K : Nat) (x1 : T_api_Item) : Nat → ((List Int) × Int) → Option ((List Int))
 | 0, _ => none
 | k + 1, y => inspeximusref17_Put_l3.b K x1 (inspeximusref17_Put_l3.l K x1 k) y
theorem inspeximusref17_Put_l3.some {K : Nat} (x1 : T_api_Item) {k : Nat} {y : (List Int) × Int} {s : ((List Int))} (h : inspeximusref17_Put_l3.l K x1 k y = some s) : ∃ k', k = k' + 1 ∧ inspeximusref17_Put_l3.b K x1 (inspeximusref17_Put_l3.l K x1 k') y = some s := by
 cases k with
 | zero => cases h
 | succ k => exact ⟨k, rfl, h⟩
def inspeximusref17_Put_l2.b (K : Nat) (x1 : T_api_Bundle) (rec : ((List Int) × Int) → Option ((List Int))) (y1 : (List Int) × Int) : Option ((List Int)) :=
 (bif (decide (y1.2 < ((List.length (x1.fItems) : Nat) : Int))) then (jn (fun (y2 : (List Int)) => (rec (y2, (IntKind.wrap .i64 (y1.2 + (1 : Int)))))) (fun j1 => ((getI (x1.fItems) y1.2).bind fun (x2 : T_api_Item) => (jn (fun (y3 : (List Int)) => ((inspeximusref04_Put.f K (x2.fRec) (true)).bind fun (r1 : ((List Int))) => ((catI 1 (y3) (r1)).bind fun (l1 : (List Int)) => (bif x1.fWhole then (j1 l1) else ((inspeximusref03_Num.f K (((List.length (x2.fPath) : Nat) : Int))).bind fun (r2 : ((List Int))) => ((catI 1 (l1) (r2)).bind fun (l2 : (List Int)) => ((inspeximusref17_Put_l3.l K x2 K (l2, (0 : Int))).bind fun (z1 : (List Int)) => (j1 z1)))))))) (fun j2 => (bif (!x1.fWhole) then ((inspeximusref03_Num.f K (x2.fAt)).bind fun (r3 : ((List Int))) => ((catI 1 (y1.1) (r3)).bind fun (l3 : (List Int)) => (j2 l3))) else (j2 y1.1))))))) else (some y1.1))
def inspeximusref17_Put_l2.l (K : Nat) (x1 : T_api_Bundle) : Nat → ((List Int) × Int) → Option ((List Int))
 | 0, _ => none
 | k + 1, y => inspeximusref17_Put_l2.b K x1 (inspeximusref17_Put_l2.l K x1 k) y
theorem inspeximusref17_Put_l2.some {K : Nat} (x1 : T_api_Bundle) {k : Nat} {y : (List Int) × Int} {s : ((List Int))} (h : inspeximusref17_Put_l2.l K x1 k y = some s) : ∃ k', k = k' + 1 ∧ inspeximusref17_Put_l2.b K x1 (inspeximusref17_Put_l2.l K x1 k') y = some s := by
 cases k with
 | zero => cases h
 | succ k => exact ⟨k, rfl, h⟩
def inspeximusref17_Put.f (K : Nat) (x1 : T_api_Bundle) : Option ((List Int)) :=
 ((inspeximusref17_Right.f K (x1)).bind fun (r1 : (Bool)) => (bif (!r1) then (some ([] : List Int)) else (jn (fun (y1 : (List Int)) => ((inspeximusref03_Num.f K (x1.fPoint.fSize)).bind fun (r2 : ((List Int))) => ((catI 1 (y1) (r2)).bind fun (l1 : (List Int)) => ((subI (vlist (x1.fPoint.fRoot)) 0 ((32 : Nat) : Int)).bind fun (l2 : List Int) => ((catI 1 (l1) (l2)).bind fun (l3 : (List Int)) => ((inspeximusref03_Num.f K (((List.length (x1.fPoint.fSigs) : Nat) : Int))).bind fun (r3 : ((List Int))) => ((catI 1 (l3) (r3)).bind fun (l4 : (List Int)) => ((inspeximusref17_Put_l1.l K x1 K (l4, (0 : Int))).bind fun (z1 : (List Int)) => (jn (fun (y2 : (List Int)) => ((inspeximusref17_Put_l2.l K x1 K (y2, (0 : Int))).bind fun (z2 : (List Int)) => (some z2))) (fun j1 => (bif (!x1.fWhole) then ((inspeximusref03_Num.f K (((List.length (x1.fItems) : Nat) : Int))).bind fun (r4 : ((List Int))) => ((catI 1 (z1) (r4)).bind fun (l5 : (List Int)) => (j1 l5))) else (j1 z1)))))))))))) (fun j2 => (bif x1.fWhole then ((catI 1 (([(105 : Int), (110 : Int), (115 : Int), (112 : Int)] : List Int)) (([(1 : Int)] : List Int))).bind fun (l6 : (List Int)) => (j2 l6)) else ((catI 1 (([(105 : Int), (110 : Int), (115 : Int), (112 : Int)] : List Int)) (([(0 : Int)] : List Int))).bind fun (l7 : (List Int)) => (j2 l7)))))))
def inspeximusref01_Bytes_l1.b (K : Nat) (x1 : (List Int)) (x5 : (List Int)) (rec : Int → Option (Sum ((Bool)) (Unit))) (y1 : Int) : Option (Sum ((Bool)) (Unit)) :=
 (bif (decide (y1 < ((List.length (x1) : Nat) : Int))) then ((getI (x1) y1).bind fun (x2 : Int) => ((getI (x5) y1).bind fun (x3 : Int) => (bif (!decide (x2 = x3)) then (some (Sum.inl false)) else (rec (IntKind.wrap .i64 (y1 + (1 : Int))))))) else (some (Sum.inr ())))
def inspeximusref01_Bytes_l1.l (K : Nat) (x1 : (List Int)) (x5 : (List Int)) : Nat → (Int) → Option (Sum ((Bool)) (Unit))
 | 0, _ => none
 | k + 1, y => inspeximusref01_Bytes_l1.b K x1 x5 (inspeximusref01_Bytes_l1.l K x1 x5 k) y
theorem inspeximusref01_Bytes_l1.some {K : Nat} (x1 : (List Int)) (x5 : (List Int)) {k : Nat} {y : Int} {s : (Sum ((Bool)) (Unit))} (h : inspeximusref01_Bytes_l1.l K x1 x5 k y = some s) : ∃ k', k = k' + 1 ∧ inspeximusref01_Bytes_l1.b K x1 x5 (inspeximusref01_Bytes_l1.l K x1 x5 k') y = some s := by
 cases k with
 | zero => cases h
 | succ k => exact ⟨k, rfl, h⟩
def inspeximusref01_Bytes.f (K : Nat) (x1 : (List Int)) (x5 : (List Int)) : Option (Bool) :=
 (bif (!decide (((List.length (x1) : Nat) : Int) = ((List.length (x5) : Nat) : Int))) then (some false) else ((inspeximusref01_Bytes_l1.l K x1 x5 K (0 : Int)).bind fun s1 => (match s1 with | .inl u1 => some u1 | .inr u2 => (fun (z1 : Unit) => (some true)) u2)))
def inspeximusref10_Points_l1.b (K : Nat) (x1 : T_api_Point) (x5 : T_api_Point) (rec : Int → Option (Sum ((Bool)) (Unit))) (y1 : Int) : Option (Sum ((Bool)) (Unit)) :=
 (bif (decide (y1 < ((List.length (x1.fSigs) : Nat) : Int))) then ((getI (x1.fSigs) y1).bind fun (x2 : T_api_Sig) => ((getI (x5.fSigs) y1).bind fun (x3 : T_api_Sig) => (bif (!((decide (x2.fWit = x3.fWit)) && ((decide (x2.fTag = x3.fTag)) && true))) then (some (Sum.inl false)) else (rec (IntKind.wrap .i64 (y1 + (1 : Int))))))) else (some (Sum.inr ())))
def inspeximusref10_Points_l1.l (K : Nat) (x1 : T_api_Point) (x5 : T_api_Point) : Nat → (Int) → Option (Sum ((Bool)) (Unit))
 | 0, _ => none
 | k + 1, y => inspeximusref10_Points_l1.b K x1 x5 (inspeximusref10_Points_l1.l K x1 x5 k) y
theorem inspeximusref10_Points_l1.some {K : Nat} (x1 : T_api_Point) (x5 : T_api_Point) {k : Nat} {y : Int} {s : (Sum ((Bool)) (Unit))} (h : inspeximusref10_Points_l1.l K x1 x5 k y = some s) : ∃ k', k = k' + 1 ∧ inspeximusref10_Points_l1.b K x1 x5 (inspeximusref10_Points_l1.l K x1 x5 k') y = some s := by
 cases k with
 | zero => cases h
 | succ k => exact ⟨k, rfl, h⟩
def inspeximusref10_Points.f (K : Nat) (x1 : T_api_Point) (x5 : T_api_Point) : Option (Bool) :=
 (jn (fun (y1 : Bool) => (bif y1 then (some false) else ((inspeximusref10_Points_l1.l K x1 x5 K (0 : Int)).bind fun s1 => (match s1 with | .inl u1 => some u1 | .inr u2 => (fun (z1 : Unit) => (some true)) u2)))) (fun j1 => (bif (!decide (x1.fSize = x5.fSize)) then (j1 true) else (bif (!(decide (x1.fRoot = x5.fRoot))) then (j1 true) else (j1 (!decide (((List.length (x1.fSigs) : Nat) : Int) = ((List.length (x5.fSigs) : Nat) : Int))))))))
def inspeximusref04_Steps_l1.b (K : Nat) (x1 : (List T_api_Step)) (x5 : (List T_api_Step)) (rec : Int → Option (Sum ((Bool)) (Unit))) (y1 : Int) : Option (Sum ((Bool)) (Unit)) :=
 (bif (decide (y1 < ((List.length (x1) : Nat) : Int))) then ((getI (x1) y1).bind fun (x2 : T_api_Step) => ((getI (x5) y1).bind fun (x3 : T_api_Step) => (bif (!((decide (x2.fPart = x3.fPart)) && ((decide (x2.fKind = x3.fKind)) && true))) then (some (Sum.inl false)) else (rec (IntKind.wrap .i64 (y1 + (1 : Int))))))) else (some (Sum.inr ())))
def inspeximusref04_Steps_l1.l (K : Nat) (x1 : (List T_api_Step)) (x5 : (List T_api_Step)) : Nat → (Int) → Option (Sum ((Bool)) (Unit))
 | 0, _ => none
 | k + 1, y => inspeximusref04_Steps_l1.b K x1 x5 (inspeximusref04_Steps_l1.l K x1 x5 k) y
theorem inspeximusref04_Steps_l1.some {K : Nat} (x1 : (List T_api_Step)) (x5 : (List T_api_Step)) {k : Nat} {y : Int} {s : (Sum ((Bool)) (Unit))} (h : inspeximusref04_Steps_l1.l K x1 x5 k y = some s) : ∃ k', k = k' + 1 ∧ inspeximusref04_Steps_l1.b K x1 x5 (inspeximusref04_Steps_l1.l K x1 x5 k') y = some s := by
 cases k with
 | zero => cases h
 | succ k => exact ⟨k, rfl, h⟩
def inspeximusref04_Steps.f (K : Nat) (x1 : (List T_api_Step)) (x5 : (List T_api_Step)) : Option (Bool) :=
 (bif (!decide (((List.length (x1) : Nat) : Int) = ((List.length (x5) : Nat) : Int))) then (some false) else ((inspeximusref04_Steps_l1.l K x1 x5 K (0 : Int)).bind fun s1 => (match s1 with | .inl u1 => some u1 | .inr u2 => (fun (z1 : Unit) => (some true)) u2)))
def inspeximusref04_Same.f (K : Nat) (x1 : T_api_Rec) (x8 : T_api_Rec) : Option (Bool) :=
 (jn (fun (y58 : Bool) => (some y58)) (fun j61 => (bif (decide (x1.fKind = x8.fKind)) then (bif (decide (x1.fSaga = x8.fSaga)) then (bif (decide (x1.fSeq = x8.fSeq)) then (bif (decide (x1.fStep = x8.fStep)) then (bif (decide (x1.fTry = x8.fTry)) then (bif (x1.fBack == x8.fBack) then (bif (x1.fGood == x8.fGood) then (bif (decide (x1.fEnd = x8.fEnd)) then (bif (decide (x1.fPart = x8.fPart)) then (bif (decide (x1.fEpoch = x8.fEpoch)) then (bif (decide (x1.fTag = x8.fTag)) then ((inspeximusref04_Steps.f K (x1.fSteps) (x8.fSteps)).bind fun (r63 : (Bool)) => (bif r63 then ((inspeximusref01_Bytes.f K (x1.fData) (x8.fData)).bind fun (r68 : (Bool)) => (bif r68 then (bif (decide (x1.fSalt = x8.fSalt)) then (bif (x1.fGone == x8.fGone) then (j61 (decide (x1.fCom = x8.fCom))) else (j61 false)) else (j61 false)) else (j61 false))) else (j61 false))) else (j61 false)) else (j61 false)) else (j61 false)) else (j61 false)) else (j61 false)) else (j61 false)) else (j61 false)) else (j61 false)) else (j61 false)) else (j61 false)) else (j61 false))))
def inspeximusref05_Same_l1.b (K : Nat) (x1 : (List (Vector Int 32))) (x5 : (List (Vector Int 32))) (rec : Int → Option (Sum ((Bool)) (Unit))) (y1 : Int) : Option (Sum ((Bool)) (Unit)) :=
 (bif (decide (y1 < ((List.length (x1) : Nat) : Int))) then ((getI (x1) y1).bind fun (x2 : (Vector Int 32)) => ((getI (x5) y1).bind fun (x3 : (Vector Int 32)) => (bif (!(decide (x2 = x3))) then (some (Sum.inl false)) else (rec (IntKind.wrap .i64 (y1 + (1 : Int))))))) else (some (Sum.inr ())))
def inspeximusref05_Same_l1.l (K : Nat) (x1 : (List (Vector Int 32))) (x5 : (List (Vector Int 32))) : Nat → (Int) → Option (Sum ((Bool)) (Unit))
 | 0, _ => none
 | k + 1, y => inspeximusref05_Same_l1.b K x1 x5 (inspeximusref05_Same_l1.l K x1 x5 k) y
theorem inspeximusref05_Same_l1.some {K : Nat} (x1 : (List (Vector Int 32))) (x5 : (List (Vector Int 32))) {k : Nat} {y : Int} {s : (Sum ((Bool)) (Unit))} (h : inspeximusref05_Same_l1.l K x1 x5 k y = some s) : ∃ k', k = k' + 1 ∧ inspeximusref05_Same_l1.b K x1 x5 (inspeximusref05_Same_l1.l K x1 x5 k') y = some s := by
 cases k with
 | zero => cases h
 | succ k => exact ⟨k, rfl, h⟩
def inspeximusref05_Same.f (K : Nat) (x1 : (List (Vector Int 32))) (x5 : (List (Vector Int 32))) : Option (Bool) :=
 (bif (!decide (((List.length (x1) : Nat) : Int) = ((List.length (x5) : Nat) : Int))) then (some false) else ((inspeximusref05_Same_l1.l K x1 x5 K (0 : Int)).bind fun s1 => (match s1 with | .inl u1 => some u1 | .inr u2 => (fun (z1 : Unit) => (some true)) u2)))
def inspeximusref17_Same_l1.b (K : Nat) (x1 : T_api_Bundle) (x8 : T_api_Bundle) (rec : Int → Option (Sum ((Bool)) (Unit))) (y2 : Int) : Option (Sum ((Bool)) (Unit)) :=
 (bif (decide (y2 < ((List.length (x1.fItems) : Nat) : Int))) then (jn (fun (y1 : T_api_Item × T_api_Item) => (jn (fun (y3 : Bool) => (bif y3 then (some (Sum.inl false)) else (rec (IntKind.wrap .i64 (y2 + (1 : Int)))))) (fun j1 => (bif (!decide (y1.1.fAt = y1.2.fAt)) then (j1 true) else ((inspeximusref04_Same.f K (y1.1.fRec) (y1.2.fRec)).bind fun (r1 : (Bool)) => (bif (!r1) then (j1 true) else ((inspeximusref05_Same.f K (y1.1.fPath) (y1.2.fPath)).bind fun (r2 : (Bool)) => (j1 (!r2))))))))) (fun j2 => ((getI (x1.fItems) y2).bind fun (x2 : T_api_Item) => ((getI (x8.fItems) y2).bind fun (x3 : T_api_Item) => (j2 (x2, x3)))))) else (some (Sum.inr ())))
def inspeximusref17_Same_l1.l (K : Nat) (x1 : T_api_Bundle) (x8 : T_api_Bundle) : Nat → (Int) → Option (Sum ((Bool)) (Unit))
 | 0, _ => none
 | k + 1, y => inspeximusref17_Same_l1.b K x1 x8 (inspeximusref17_Same_l1.l K x1 x8 k) y
theorem inspeximusref17_Same_l1.some {K : Nat} (x1 : T_api_Bundle) (x8 : T_api_Bundle) {k : Nat} {y : Int} {s : (Sum ((Bool)) (Unit))} (h : inspeximusref17_Same_l1.l K x1 x8 k y = some s) : ∃ k', k = k' + 1 ∧ inspeximusref17_Same_l1.b K x1 x8 (inspeximusref17_Same_l1.l K x1 x8 k') y = some s := by
 cases k with
 | zero => cases h
 | succ k => exact ⟨k, rfl, h⟩
def inspeximusref17_Same.f (K : Nat) (x1 : T_api_Bundle) (x8 : T_api_Bundle) : Option (Bool) :=
 (jn (fun (y1 : Bool) => (bif y1 then (some false) else ((inspeximusref17_Same_l1.l K x1 x8 K (0 : Int)).bind fun s1 => (match s1 with | .inl u1 => some u1 | .inr u2 => (fun (z1 : Unit) => (some true)) u2)))) (fun j1 => (bif (!(x1.fWhole == x8.fWhole)) then (j1 true) else ((inspeximusref10_Points.f K (x1.fPoint) (x8.fPoint)).bind fun (r1 : (Bool)) => (bif (!r1) then (j1 true) else (j1 (!decide (((List.length (x1.fItems) : Nat) : Int) = ((List.length (x8.fItems) : Nat) : Int)))))))))
def inspeximuslaw17_BundlePuts.f (K : Nat) (x1 : T_api_Bundle) (x8 : T_api_Bundle) : Option (Bool) :=
 ((inspeximuslaw17_alive.f K).bind fun (r1 : (Bool)) => (bif (!r1) then (some false) else (jn (fun (y1 : Bool) => (bif y1 then (some true) else ((bundle_Right.f K (x1)).bind fun (r2 : (Bool)) => ((inspeximusref17_Right.f K (x1)).bind fun (r3 : (Bool)) => (bif (r2 == r3) then ((bundle_Put.f K (x1)).bind fun (r4 : ((List Int))) => ((inspeximusref17_Put.f K (x1)).bind fun (r5 : ((List Int))) => ((inspeximusref01_Bytes.f K (r4) (r5)).bind fun (r6 : (Bool)) => (bif r6 then ((bundle_Same.f K (x1) (x8)).bind fun (r7 : (Bool)) => ((inspeximusref17_Same.f K (x1) (x8)).bind fun (r8 : (Bool)) => (some (r7 == r8)))) else (some false))))) else (some false)))))) (fun j1 => ((inspeximusref17_Great.f K (x1)).bind fun (r9 : (Bool)) => (bif r9 then (j1 true) else ((inspeximusref17_Great.f K (x8)).bind fun (r10 : (Bool)) => (j1 r10))))))))
end Go.Proofs.YtjgaokcplofimaaGreatDoor
