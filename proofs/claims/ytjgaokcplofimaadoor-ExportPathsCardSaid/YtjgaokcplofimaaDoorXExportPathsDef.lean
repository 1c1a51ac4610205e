/-
 Data and plain functions, printed by a program: what the functions of the cut compute (fuel K; none: a panic, or the fuel is spent).
 Conditions: none; nothing is claimed here.
-/
import Derived.Test.YtjgaokcplofimaaDoorSepQ
set_option linter.unusedVariables false
namespace Go.Proofs.YtjgaokcplofimaaDoor
open Go Go.Sep
def gl_First : Vector Int 8 := vofL 8 [1779033703, 3144134277, 1013904242, 2773480762, 1359893119, 2600822924, 528734635, 1541459225]
def gl_K : Vector Int 64 := vofL 64 [1116352408, 1899447441, 3049323471, 3921009573, 961987163, 1508970993, 2453635748, 2870763221, 3624381080, 310598401, 607225278, 1426881987, 1925078388, 2162078206, 2614888103, 3248222580, 3835390401, 4022224774, 264347078, 604807628, 770255983, 1249150122, 1555081692, 1996064986, 2554220882, 2821834349, 2952996808, 3210313671, 3336571891, 3584528711, 113926993, 338241895, 666307205, 773529912, 1294757372, 1396182291, 1695183700, 1986661051, 2177026350, 2456956037, 2730485921, 2820302411, 3259730800, 3345764771, 3516065817, 3600352804, 4094571909, 275423344, 430227734, 506948616, 659060556, 883997877, 958139571, 1322822218, 1537002063, 1747873779, 1955562222, 2024104815, 2227730452, 2361852424, 2428436474, 2756734187, 3204031479, 3329325298]
structure T_api_Step where
 fPart : Int
 fKind : Int
 deriving DecidableEq
@[reducible] def c_T_api_Step (x : T_api_Step) : List Value :=
 [.int .i64 (x.fPart)] ++ ([.int .i64 (x.fKind)])
@[reducible] def kd_T_api_Step : Kd T_api_Step := kdMap (fun x => (x.fPart, x.fKind)) (kdPair (kdInt .i64) (kdInt .i64))
theorem kd_T_api_Step_mk {D : Snap} {x : T_api_Step} {ce0 ce1 : List Value} (he0 : (kdInt .i64).r D x.fPart ce0) (he1 : (kdInt .i64).r D x.fKind ce1) : kd_T_api_Step.r D x (ce0 ++ (ce1)) := ⟨_, _, rfl, he0, he1⟩
theorem kd_T_api_Step_el {D : Snap} {x : T_api_Step} {cs : List Value} (h : kd_T_api_Step.r D x cs) : cs = c_T_api_Step ((T_api_Step.mk (x.fPart) (x.fKind))) := by
 obtain ⟨c0, d0, rfl, he0, he1⟩ := h
 obtain rfl := he0
 obtain rfl := he1
 rfl
structure T_api_Rec where
 fKind : Int
 fSaga : Int
 fSeq : Int
 fStep : Int
 fTry : Int
 fBack : Bool
 fGood : Bool
 fEnd : Int
 fPart : Int
 fEpoch : Int
 fTag : (Vector Int 32)
 fSteps : (List T_api_Step)
 fData : (List Int)
 fSalt : (Vector Int 32)
 fGone : Bool
 fCom : (Vector Int 32)
 deriving DecidableEq
@[reducible] def z_T_api_Rec : T_api_Rec := ⟨(0 : Int), (0 : Int), (0 : Int), (0 : Int), (0 : Int), false, false, (0 : Int), (0 : Int), (0 : Int), (Vector.replicate 32 (0 : Int)), ([] : List T_api_Step), ([] : List Int), (Vector.replicate 32 (0 : Int)), false, (Vector.replicate 32 (0 : Int))⟩
@[reducible] def c_T_api_Rec (x : T_api_Rec) (A1 : Option Addr) (c2 : Nat) (A4 : Option Addr) (c5 : Nat) : List Value :=
 [.int .i64 (x.fKind)] ++ ([.int .i64 (x.fSaga)] ++ ([.int .i64 (x.fSeq)] ++ ([.int .i64 (x.fStep)] ++ ([.int .i64 (x.fTry)] ++ ([.bool (x.fBack)] ++ ([.bool (x.fGood)] ++ ([.int .i64 (x.fEnd)] ++ ([.int .i64 (x.fPart)] ++ ([.int .i64 (x.fEpoch)] ++ (acells .u8 32 (x.fTag) ++ ([.slice A1 (List.length (x.fSteps)) c2] ++ ([.slice A4 (List.length (x.fData)) c5] ++ (acells .u8 32 (x.fSalt) ++ ([.bool (x.fGone)] ++ (acells .u8 32 (x.fCom))))))))))))))))
@[reducible] def kd_T_api_Rec : Kd T_api_Rec := kdMap (fun x => (x.fKind, x.fSaga, x.fSeq, x.fStep, x.fTry, x.fBack, x.fGood, x.fEnd, x.fPart, x.fEpoch, x.fTag, x.fSteps, x.fData, x.fSalt, x.fGone, x.fCom)) (kdPair (kdInt .i64) (kdPair (kdInt .i64) (kdPair (kdInt .i64) (kdPair (kdInt .i64) (kdPair (kdInt .i64) (kdPair kdBool (kdPair kdBool (kdPair (kdInt .i64) (kdPair (kdInt .i64) (kdPair (kdInt .i64) (kdPair (kdArr .u8 32) (kdPair (kdSlice kd_T_api_Step) (kdPair (kdSlice (kdInt .u8)) (kdPair (kdArr .u8 32) (kdPair kdBool (kdArr .u8 32))))))))))))))))
theorem kd_T_api_Rec_mk {D : Snap} {x : T_api_Rec} {ce0 ce1 ce2 ce3 ce4 ce5 ce6 ce7 ce8 ce9 ce10 ce11 ce12 ce13 ce14 ce15 : List Value} (he0 : (kdInt .i64).r D x.fKind ce0) (he1 : (kdInt .i64).r D x.fSaga ce1) (he2 : (kdInt .i64).r D x.fSeq ce2) (he3 : (kdInt .i64).r D x.fStep ce3) (he4 : (kdInt .i64).r D x.fTry ce4) (he5 : kdBool.r D x.fBack ce5) (he6 : kdBool.r D x.fGood ce6) (he7 : (kdInt .i64).r D x.fEnd ce7) (he8 : (kdInt .i64).r D x.fPart ce8) (he9 : (kdInt .i64).r D x.fEpoch ce9) (he10 : (kdArr .u8 32).r D x.fTag ce10) (he11 : (kdSlice kd_T_api_Step).r D x.fSteps ce11) (he12 : (kdSlice (kdInt .u8)).r D x.fData ce12) (he13 : (kdArr .u8 32).r D x.fSalt ce13) (he14 : kdBool.r D x.fGone ce14) (he15 : (kdArr .u8 32).r D x.fCom ce15) : kd_T_api_Rec.r D x (ce0 ++ (ce1 ++ (ce2 ++ (ce3 ++ (ce4 ++ (ce5 ++ (ce6 ++ (ce7 ++ (ce8 ++ (ce9 ++ (ce10 ++ (ce11 ++ (ce12 ++ (ce13 ++ (ce14 ++ (ce15)))))))))))))))) := ⟨_, _, rfl, he0, ⟨_, _, rfl, he1, ⟨_, _, rfl, he2, ⟨_, _, rfl, he3, ⟨_, _, rfl, he4, ⟨_, _, rfl, he5, ⟨_, _, rfl, he6, ⟨_, _, rfl, he7, ⟨_, _, rfl, he8, ⟨_, _, rfl, he9, ⟨_, _, rfl, he10, ⟨_, _, rfl, he11, ⟨_, _, rfl, he12, ⟨_, _, rfl, he13, ⟨_, _, rfl, he14, he15⟩⟩⟩⟩⟩⟩⟩⟩⟩⟩⟩⟩⟩⟩⟩
theorem kd_T_api_Rec_el {D : Snap} {x : T_api_Rec} {cs : List Value} (h : kd_T_api_Rec.r D x cs) : ∃ (A7 : Option Addr), ∃ (c8 : Nat), ∃ (A10 : Option Addr), ∃ (c11 : Nat), cs = c_T_api_Rec ((T_api_Rec.mk (x.fKind) (x.fSaga) (x.fSeq) (x.fStep) (x.fTry) (x.fBack) (x.fGood) (x.fEnd) (x.fPart) (x.fEpoch) (x.fTag) (x.fSteps) (x.fData) (x.fSalt) (x.fGone) (x.fCom))) A7 c8 A10 c11 ∧ Sl kd_T_api_Step D A7 c8 (x.fSteps) ∧ Sl (kdInt .u8) D A10 c11 (x.fData) := by
 obtain ⟨c0, d0, rfl, he0, ⟨c1, d1, rfl, he1, ⟨c2, d2, rfl, he2, ⟨c3, d3, rfl, he3, ⟨c4, d4, rfl, he4, ⟨c5, d5, rfl, he5, ⟨c6, d6, rfl, he6, ⟨c7, d7, rfl, he7, ⟨c8, d8, rfl, he8, ⟨c9, d9, rfl, he9, ⟨c10, d10, rfl, he10, ⟨c11, d11, rfl, he11, ⟨c12, d12, rfl, he12, ⟨c13, d13, rfl, he13, ⟨c14, d14, rfl, he14, he15⟩⟩⟩⟩⟩⟩⟩⟩⟩⟩⟩⟩⟩⟩⟩ := h
 obtain rfl := he0
 obtain rfl := he1
 obtain rfl := he2
 obtain rfl := he3
 obtain rfl := he4
 obtain rfl := he5
 obtain rfl := he6
 obtain rfl := he7
 obtain rfl := he8
 obtain rfl := he9
 obtain rfl := he10
 obtain ⟨A7, c8, rfl, h9⟩ := he11
 obtain ⟨A10, c11, rfl, h12⟩ := he12
 obtain rfl := he13
 obtain rfl := he14
 obtain rfl := he15
 exact ⟨A7, c8, A10, c11, rfl, h9, h12⟩
structure T_api_Sig where
 fWit : Int
 fTag : (Vector Int 32)
 deriving DecidableEq
@[reducible] def c_T_api_Sig (x : T_api_Sig) : List Value :=
 [.int .i64 (x.fWit)] ++ (acells .u8 32 (x.fTag))
@[reducible] def kd_T_api_Sig : Kd T_api_Sig := kdMap (fun x => (x.fWit, x.fTag)) (kdPair (kdInt .i64) (kdArr .u8 32))
theorem kd_T_api_Sig_el {D : Snap} {x : T_api_Sig} {cs : List Value} (h : kd_T_api_Sig.r D x cs) : cs = c_T_api_Sig ((T_api_Sig.mk (x.fWit) (x.fTag))) := by
 obtain ⟨c0, d0, rfl, he0, he1⟩ := h
 obtain rfl := he0
 obtain rfl := he1
 rfl
structure T_api_Point where
 fSize : Int
 fRoot : (Vector Int 32)
 fSigs : (List T_api_Sig)
 deriving DecidableEq
@[reducible] def z_T_api_Point : T_api_Point := ⟨(0 : Int), (Vector.replicate 32 (0 : Int)), ([] : List T_api_Sig)⟩
@[reducible] def c_T_api_Point (x : T_api_Point) (A13 : Option Addr) (c14 : Nat) : List Value :=
 [.int .i64 (x.fSize)] ++ (acells .u8 32 (x.fRoot) ++ ([.slice A13 (List.length (x.fSigs)) c14]))
@[reducible] def kd_T_api_Point : Kd T_api_Point := kdMap (fun x => (x.fSize, x.fRoot, x.fSigs)) (kdPair (kdInt .i64) (kdPair (kdArr .u8 32) (kdSlice kd_T_api_Sig)))
theorem kd_T_api_Point_el {D : Snap} {x : T_api_Point} {cs : List Value} (h : kd_T_api_Point.r D x cs) : ∃ (A16 : Option Addr), ∃ (c17 : Nat), cs = c_T_api_Point ((T_api_Point.mk (x.fSize) (x.fRoot) (x.fSigs))) A16 c17 ∧ Sl kd_T_api_Sig D A16 c17 (x.fSigs) := by
 obtain ⟨c0, d0, rfl, he0, ⟨c1, d1, rfl, he1, he2⟩⟩ := h
 obtain rfl := he0
 obtain rfl := he1
 obtain ⟨A16, c17, rfl, h18⟩ := he2
 exact ⟨A16, c17, rfl, h18⟩
structure T_api_Item where
 fAt : Int
 fRec : T_api_Rec
 fPath : (List (Vector Int 32))
 deriving DecidableEq
@[reducible] def z_T_api_Item : T_api_Item := ⟨(0 : Int), z_T_api_Rec, ([] : List (Vector Int 32))⟩
@[reducible] def c_T_api_Item (x : T_api_Item) (A19 : Option Addr) (c20 : Nat) (A22 : Option Addr) (c23 : Nat) (A25 : Option Addr) (c26 : Nat) : List Value :=
 [.int .i64 (x.fAt)] ++ ((c_T_api_Rec ((T_api_Rec.mk (x.fRec.fKind) (x.fRec.fSaga) (x.fRec.fSeq) (x.fRec.fStep) (x.fRec.fTry) (x.fRec.fBack) (x.fRec.fGood) (x.fRec.fEnd) (x.fRec.fPart) (x.fRec.fEpoch) (x.fRec.fTag) (x.fRec.fSteps) (x.fRec.fData) (x.fRec.fSalt) (x.fRec.fGone) (x.fRec.fCom))) A19 c20 A22 c23) ++ ([.slice A25 (List.length (x.fPath)) c26]))
@[reducible] def kd_T_api_Item : Kd T_api_Item := kdMap (fun x => (x.fAt, x.fRec, x.fPath)) (kdPair (kdInt .i64) (kdPair kd_T_api_Rec (kdSlice (kdArr .u8 32))))
theorem kd_T_api_Item_mk {D : Snap} {x : T_api_Item} {ce0 ce1 ce2 : List Value} (he0 : (kdInt .i64).r D x.fAt ce0) (he1 : kd_T_api_Rec.r D x.fRec ce1) (he2 : (kdSlice (kdArr .u8 32)).r D x.fPath ce2) : kd_T_api_Item.r D x (ce0 ++ (ce1 ++ (ce2))) := ⟨_, _, rfl, he0, ⟨_, _, rfl, he1, he2⟩⟩
theorem kd_T_api_Item_el {D : Snap} {x : T_api_Item} {cs : List Value} (h : kd_T_api_Item.r D x cs) : ∃ (A28 : Option Addr), ∃ (c29 : Nat), ∃ (A31 : Option Addr), ∃ (c32 : Nat), ∃ (A34 : Option Addr), ∃ (c35 : Nat), cs = c_T_api_Item ((T_api_Item.mk (x.fAt) ((T_api_Rec.mk (x.fRec.fKind) (x.fRec.fSaga) (x.fRec.fSeq) (x.fRec.fStep) (x.fRec.fTry) (x.fRec.fBack) (x.fRec.fGood) (x.fRec.fEnd) (x.fRec.fPart) (x.fRec.fEpoch) (x.fRec.fTag) (x.fRec.fSteps) (x.fRec.fData) (x.fRec.fSalt) (x.fRec.fGone) (x.fRec.fCom))) (x.fPath))) A28 c29 A31 c32 A34 c35 ∧ Sl kd_T_api_Step D A28 c29 (x.fRec.fSteps) ∧ Sl (kdInt .u8) D A31 c32 (x.fRec.fData) ∧ Sl (kdArr .u8 32) D A34 c35 (x.fPath) := by
 obtain ⟨c0, d0, rfl, he0, ⟨c1, d1, rfl, he1, he2⟩⟩ := h
 obtain rfl := he0
 obtain ⟨A28, c29, A31, c32, rfl, h30, h33⟩ := kd_T_api_Rec_el he1
 obtain ⟨A34, c35, rfl, h36⟩ := he2
 exact ⟨A28, c29, A31, c32, A34, c35, rfl, h30, h33, h36⟩
structure T_api_Bundle where
 fWhole : Bool
 fPoint : T_api_Point
 fItems : (List T_api_Item)
 deriving DecidableEq
@[reducible] def z_T_api_Bundle : T_api_Bundle := ⟨false, z_T_api_Point, ([] : List T_api_Item)⟩
@[reducible] def c_T_api_Bundle (x : T_api_Bundle) (A43 : Option Addr) (c44 : Nat) (A46 : Option Addr) (c47 : Nat) : List Value :=
 [.bool (x.fWhole)] ++ ((c_T_api_Point ((T_api_Point.mk (x.fPoint.fSize) (x.fPoint.fRoot) (x.fPoint.fSigs))) A43 c44) ++ ([.slice A46 (List.length (x.fItems)) c47]))
structure T_rec_plain where
 fKind : Int
 fSaga : Int
 fSeq : Int
 fStep : Int
 fTry : Int
 fBack : Bool
 fGood : Bool
 fGone : Bool
 fEnd : Int
 fPart : Int
 fEpoch : Int
 deriving DecidableEq
@[reducible] def z_T_rec_plain : T_rec_plain := ⟨(0 : Int), (0 : Int), (0 : Int), (0 : Int), (0 : Int), false, false, false, (0 : Int), (0 : Int), (0 : Int)⟩
@[reducible] def c_T_rec_plain (x : T_rec_plain) : List Value :=
 [.int .i64 (x.fKind)] ++ ([.int .i64 (x.fSaga)] ++ ([.int .i64 (x.fSeq)] ++ ([.int .i64 (x.fStep)] ++ ([.int .i64 (x.fTry)] ++ ([.bool (x.fBack)] ++ ([.bool (x.fGood)] ++ ([.bool (x.fGone)] ++ ([.int .i64 (x.fEnd)] ++ ([.int .i64 (x.fPart)] ++ ([.int .i64 (x.fEpoch)]))))))))))
def export_those.f (K : Nat) (x5 : Int) (x6 : Int) (x7 : Int) : Option (Int) :=
 (some x5)
def rec_within.f (K : Nat) (x1 : Int) (x2 : Int) (x3 : Int) : Option (Bool) :=
 (bif (decide (x2 ≤ x1)) then (some (decide (x1 ≤ x3))) else (some false))
def rec_ranges_1.f (K : Nat) (x1 : T_api_Step) : Option (Bool) :=
 ((rec_within.f K (x1.fPart) ((0 : Int)) ((3 : Int))).bind fun (r36 : (Bool)) => (bif (!r36) then (some true) else ((rec_within.f K (x1.fKind) ((1 : Int)) ((3 : Int))).bind fun (r41 : (Bool)) => (some (!r41)))))
def slices_IndexFunc_api_Step_api_Step_l1.b (K : Nat) (x1 : (List T_api_Step)) (rec : Int → Option (Sum ((Int)) (Unit))) (y1 : Int) : Option (Sum ((Int)) (Unit)) :=
 (bif (decide (y1 < ((List.length (x1) : Nat) : Int))) then ((getI (x1) y1).bind fun (x2 : T_api_Step) => ((rec_ranges_1.f K (x2)).bind fun (r1 : (Bool)) => (bif r1 then (some (Sum.inl y1)) else (rec (IntKind.wrap .i64 (y1 + (1 : Int))))))) else (some (Sum.inr ())))
def slices_IndexFunc_api_Step_api_Step_l1.l (K : Nat) (x1 : (List T_api_Step)) : Nat → (Int) → Option (Sum ((Int)) (Unit))
 | 0, _ => none
 | k + 1, y => slices_IndexFunc_api_Step_api_Step_l1.b K x1 (slices_IndexFunc_api_Step_api_Step_l1.l K x1 k) y
theorem slices_IndexFunc_api_Step_api_Step_l1.some {K : Nat} (x1 : (List T_api_Step)) {k : Nat} {y : Int} {s : (Sum ((Int)) (Unit))} (h : slices_IndexFunc_api_Step_api_Step_l1.l K x1 k y = some s) : ∃ k', k = k' + 1 ∧ slices_IndexFunc_api_Step_api_Step_l1.b K x1 (slices_IndexFunc_api_Step_api_Step_l1.l K x1 k') y = some s := by
 cases k with
 | zero => cases h
 | succ k => exact ⟨k, rfl, h⟩
def slices_IndexFunc_api_Step_api_Step.f (K : Nat) (x1 : (List T_api_Step)) : Option (Int) :=
 ((slices_IndexFunc_api_Step_api_Step_l1.l K x1 K (0 : Int)).bind fun s1 => (match s1 with | .inl u1 => some u1 | .inr u2 => (fun (z1 : Unit) => (some (-1 : Int))) u2))
def slices_ContainsFunc_api_Step_api_Step.f (K : Nat) (x1 : (List T_api_Step)) : Option (Bool) :=
 ((slices_IndexFunc_api_Step_api_Step.f K (x1)).bind fun (r10 : (Int)) => (some (decide ((0 : Int) ≤ r10))))
def rec_ranges.f (K : Nat) (x1 : T_api_Rec) : Option (Bool) :=
 (jn (fun (y1 : Bool) => (bif y1 then (some false) else (bif (decide (x1.fKind = (1 : Int))) then ((rec_within.f K (((List.length (x1.fSteps) : Nat) : Int)) ((1 : Int)) ((6 : Int))).bind fun (r1 : (Bool)) => (bif r1 then ((slices_ContainsFunc_api_Step_api_Step.f K (x1.fSteps)).bind fun (r2 : (Bool)) => (bif (!r2) then (some (decide (((List.length (x1.fData) : Nat) : Int) ≤ (60 : Int)))) else (some false))) else (some false))) else (jn (fun (y2 : Bool) => (bif y2 then ((rec_within.f K (x1.fSeq) ((1 : Int)) ((400 : Int))).bind fun (r3 : (Bool)) => (bif r3 then ((rec_within.f K (x1.fStep) ((0 : Int)) ((5 : Int))).bind fun (r4 : (Bool)) => (bif r4 then ((rec_within.f K (x1.fTry) ((1 : Int)) ((9 : Int))).bind fun (r5 : (Bool)) => (some r5)) else (some false))) else (some false))) else (bif (decide (x1.fKind = (5 : Int))) then ((rec_within.f K (x1.fSeq) ((1 : Int)) ((400 : Int))).bind fun (r6 : (Bool)) => (bif r6 then ((rec_within.f K (x1.fEnd) ((2 : Int)) ((4 : Int))).bind fun (r7 : (Bool)) => (some r7)) else (some false))) else (bif (decide (x1.fKind = (6 : Int))) then (some (decide ((1 : Int) ≤ x1.fEpoch))) else (some false))))) (fun j1 => (bif (decide (x1.fKind = (2 : Int))) then (j1 (decide (x1.fKind = (2 : Int)))) else (bif (decide (x1.fKind = (4 : Int))) then (j1 (decide (x1.fKind = (4 : Int)))) else (j1 (decide (x1.fKind = (3 : Int))))))))))) (fun j2 => ((rec_within.f K (x1.fSaga) ((0 : Int)) ((11 : Int))).bind fun (r8 : (Bool)) => (bif (!r8) then (j2 true) else ((rec_within.f K (x1.fPart) ((0 : Int)) ((3 : Int))).bind fun (r9 : (Bool)) => (bif (!r9) then (j2 true) else ((rec_within.f K (x1.fEpoch) ((0 : Int)) ((400 : Int))).bind fun (r10 : (Bool)) => (j2 (!r10)))))))))
def rec_kept.f (K : Nat) (x1 : T_api_Rec) : Option (T_api_Rec) :=
 ((some { z_T_api_Rec with fKind := x1.fKind }).bind fun (v1 : T_api_Rec) => (jn (fun (y1 : T_api_Rec) => (some y1)) (fun j1 => (jn (fun (y2 : T_api_Rec) => ((some { y2 with fSaga := x1.fSaga }).bind fun (v3 : T_api_Rec) => ((some { v3 with fSeq := x1.fSeq }).bind fun (v4 : T_api_Rec) => ((some { v4 with fStep := x1.fStep }).bind fun (v5 : T_api_Rec) => ((some { v5 with fTry := x1.fTry }).bind fun (v6 : T_api_Rec) => ((some { v6 with fBack := x1.fBack }).bind fun (v7 : T_api_Rec) => (j1 v7))))))) (fun j2 => (bif (decide (x1.fKind = (1 : Int))) then ((some { v1 with fSaga := x1.fSaga }).bind fun (v8 : T_api_Rec) => ((some { v8 with fSteps := x1.fSteps }).bind fun (v9 : T_api_Rec) => ((some { v9 with fGone := x1.fGone }).bind fun (v2 : T_api_Rec) => (bif x1.fGone then ((some { v2 with fCom := x1.fCom }).bind fun (v10 : T_api_Rec) => (j1 v10)) else ((some { v2 with fData := x1.fData }).bind fun (v11 : T_api_Rec) => ((some { v11 with fSalt := x1.fSalt }).bind fun (v12 : T_api_Rec) => (j1 v12))))))) else (bif (decide (x1.fKind = (3 : Int))) then ((some { v1 with fGood := x1.fGood }).bind fun (v13 : T_api_Rec) => ((some { v13 with fPart := x1.fPart }).bind fun (v14 : T_api_Rec) => ((some { v14 with fEpoch := x1.fEpoch }).bind fun (v15 : T_api_Rec) => ((some { v15 with fTag := x1.fTag }).bind fun (v16 : T_api_Rec) => (j2 v16))))) else (jn (fun (y3 : Bool) => (bif y3 then (j2 v1) else (bif (decide (x1.fKind = (5 : Int))) then ((some { v1 with fSaga := x1.fSaga }).bind fun (v17 : T_api_Rec) => ((some { v17 with fSeq := x1.fSeq }).bind fun (v18 : T_api_Rec) => ((some { v18 with fEnd := x1.fEnd }).bind fun (v19 : T_api_Rec) => (j1 v19)))) else (bif (decide (x1.fKind = (6 : Int))) then ((some { v1 with fPart := x1.fPart }).bind fun (v20 : T_api_Rec) => ((some { v20 with fEpoch := x1.fEpoch }).bind fun (v21 : T_api_Rec) => (j1 v21))) else (j1 v1))))) (fun j3 => (bif (decide (x1.fKind = (2 : Int))) then (j3 (decide (x1.fKind = (2 : Int)))) else (j3 (decide (x1.fKind = (4 : Int))))))))))))))
def slices_Equal_api_Step_api_Step_l1.b (K : Nat) (x1 : (List T_api_Step)) (x5 : (List T_api_Step)) (rec : Int → Option (Sum ((Bool)) (Unit))) (y1 : Int) : Option (Sum ((Bool)) (Unit)) :=
 (bif (decide (y1 < ((List.length (x1) : Nat) : Int))) then ((getI (x1) y1).bind fun (x2 : T_api_Step) => ((getI (x5) y1).bind fun (x3 : T_api_Step) => (bif (!((decide (x2.fPart = x3.fPart)) && ((decide (x2.fKind = x3.fKind)) && true))) then (some (Sum.inl false)) else (rec (IntKind.wrap .i64 (y1 + (1 : Int))))))) else (some (Sum.inr ())))
def slices_Equal_api_Step_api_Step_l1.l (K : Nat) (x1 : (List T_api_Step)) (x5 : (List T_api_Step)) : Nat → (Int) → Option (Sum ((Bool)) (Unit))
 | 0, _ => none
 | k + 1, y => slices_Equal_api_Step_api_Step_l1.b K x1 x5 (slices_Equal_api_Step_api_Step_l1.l K x1 x5 k) y
theorem slices_Equal_api_Step_api_Step_l1.some {K : Nat} (x1 : (List T_api_Step)) (x5 : (List T_api_Step)) {k : Nat} {y : Int} {s : (Sum ((Bool)) (Unit))} (h : slices_Equal_api_Step_api_Step_l1.l K x1 x5 k y = some s) : ∃ k', k = k' + 1 ∧ slices_Equal_api_Step_api_Step_l1.b K x1 x5 (slices_Equal_api_Step_api_Step_l1.l K x1 x5 k') y = some s := by
 cases k with
 | zero => cases h
 | succ k => exact ⟨k, rfl, h⟩
def slices_Equal_api_Step_api_Step.f (K : Nat) (x1 : (List T_api_Step)) (x5 : (List T_api_Step)) : Option (Bool) :=
 (bif (!decide (((List.length (x1) : Nat) : Int) = ((List.length (x5) : Nat) : Int))) then (some false) else ((slices_Equal_api_Step_api_Step_l1.l K x1 x5 K (0 : Int)).bind fun s1 => (match s1 with | .inl u1 => some u1 | .inr u2 => (fun (z1 : Unit) => (some true)) u2)))
def bytes_Equal.f (K : Nat) (x1 : (List Int)) (x5 : (List Int)) : Option (Bool) :=
 (some (ByteArray.toList (bofL (x1)) == ByteArray.toList (bofL (x5))))
def rec_head.f (K : Nat) (x1 : T_api_Rec) : Option (T_rec_plain) :=
 ((some (T_rec_plain.mk (x1.fKind) (x1.fSaga) (x1.fSeq) (x1.fStep) (x1.fTry) (x1.fBack) (x1.fGood) (x1.fGone) (x1.fEnd) (x1.fPart) (x1.fEpoch))).bind fun (v18 : T_rec_plain) => (some v18))
def rec_Same.f (K : Nat) (x1 : T_api_Rec) (x8 : T_api_Rec) : Option (Bool) :=
 (jn (fun (y1 : Bool) => (bif y1 then (some false) else (jn (fun (y2 : Bool) => (some y2)) (fun j1 => ((rec_head.f K (x1)).bind fun (r1 : (T_rec_plain)) => ((rec_head.f K (x8)).bind fun (r2 : (T_rec_plain)) => (bif ((decide (r1.fKind = r2.fKind)) && ((decide (r1.fSaga = r2.fSaga)) && ((decide (r1.fSeq = r2.fSeq)) && ((decide (r1.fStep = r2.fStep)) && ((decide (r1.fTry = r2.fTry)) && ((r1.fBack == r2.fBack) && ((r1.fGood == r2.fGood) && ((r1.fGone == r2.fGone) && ((decide (r1.fEnd = r2.fEnd)) && ((decide (r1.fPart = r2.fPart)) && ((decide (r1.fEpoch = r2.fEpoch)) && true))))))))))) then (bif (decide (x1.fTag = x8.fTag)) then (bif (decide (x1.fSalt = x8.fSalt)) then (j1 (decide (x1.fCom = x8.fCom))) else (j1 false)) else (j1 false)) else (j1 false)))))))) (fun j2 => ((slices_Equal_api_Step_api_Step.f K (x1.fSteps) (x8.fSteps)).bind fun (r3 : (Bool)) => (bif (!r3) then (j2 true) else ((bytes_Equal.f K (x1.fData) (x8.fData)).bind fun (r4 : (Bool)) => (j2 (!r4)))))))
def rec_Right.f (K : Nat) (x1 : T_api_Rec) : Option (Bool) :=
 ((rec_ranges.f K (x1)).bind fun (r1 : (Bool)) => (bif r1 then ((rec_kept.f K (x1)).bind fun (r2 : (T_api_Rec)) => ((rec_Same.f K (x1) (r2)).bind fun (r3 : (Bool)) => (some r3))) else (some false)))
def export_right_1.f (K : Nat) (x1 : T_api_Rec) : Option (Bool) :=
 ((rec_Right.f K (x1)).bind fun (r17 : (Bool)) => (some (!r17)))
def slices_IndexFunc_api_Rec_api_Rec_l1.b (K : Nat) (x1 : (List T_api_Rec)) (rec : Int → Option (Sum ((Int)) (Unit))) (y1 : Int) : Option (Sum ((Int)) (Unit)) :=
 (bif (decide (y1 < ((List.length (x1) : Nat) : Int))) then ((getI (x1) y1).bind fun (x2 : T_api_Rec) => ((export_right_1.f K (x2)).bind fun (r1 : (Bool)) => (bif r1 then (some (Sum.inl y1)) else (rec (IntKind.wrap .i64 (y1 + (1 : Int))))))) else (some (Sum.inr ())))
def slices_IndexFunc_api_Rec_api_Rec_l1.l (K : Nat) (x1 : (List T_api_Rec)) : Nat → (Int) → Option (Sum ((Int)) (Unit))
 | 0, _ => none
 | k + 1, y => slices_IndexFunc_api_Rec_api_Rec_l1.b K x1 (slices_IndexFunc_api_Rec_api_Rec_l1.l K x1 k) y
theorem slices_IndexFunc_api_Rec_api_Rec_l1.some {K : Nat} (x1 : (List T_api_Rec)) {k : Nat} {y : Int} {s : (Sum ((Int)) (Unit))} (h : slices_IndexFunc_api_Rec_api_Rec_l1.l K x1 k y = some s) : ∃ k', k = k' + 1 ∧ slices_IndexFunc_api_Rec_api_Rec_l1.b K x1 (slices_IndexFunc_api_Rec_api_Rec_l1.l K x1 k') y = some s := by
 cases k with
 | zero => cases h
 | succ k => exact ⟨k, rfl, h⟩
def slices_IndexFunc_api_Rec_api_Rec.f (K : Nat) (x1 : (List T_api_Rec)) : Option (Int) :=
 ((slices_IndexFunc_api_Rec_api_Rec_l1.l K x1 K (0 : Int)).bind fun s1 => (match s1 with | .inl u1 => some u1 | .inr u2 => (fun (z1 : Unit) => (some (-1 : Int))) u2))
def slices_ContainsFunc_api_Rec_api_Rec.f (K : Nat) (x1 : (List T_api_Rec)) : Option (Bool) :=
 ((slices_IndexFunc_api_Rec_api_Rec.f K (x1)).bind fun (r10 : (Int)) => (some (decide ((0 : Int) ≤ r10))))
def export_right.f (K : Nat) (x1 : (List T_api_Rec)) : Option (Bool) :=
 ((slices_ContainsFunc_api_Rec_api_Rec.f K (x1)).bind fun (r10 : (Bool)) => (some (!r10)))
def slices_Reverse_byte_byte_l1.b (K : Nat) (rec : ((List Int) × Int × Int) → Option ((List Int))) (y1 : (List Int) × Int × Int) : Option ((List Int)) :=
 (bif (decide (y1.2.1 < y1.2.2)) then ((getI (y1.1) y1.2.2).bind fun (x1 : Int) => ((getI (y1.1) y1.2.1).bind fun (x2 : Int) => ((getI (y1.1) y1.2.1).bind fun (x3 : Int) => ((getI ((List.set (y1.1) (Int.toNat (y1.2.1)) (x1))) y1.2.2).bind fun (x4 : Int) => (rec ((List.set ((List.set (y1.1) (Int.toNat (y1.2.1)) (x1))) (Int.toNat (y1.2.2)) (x2)), (IntKind.wrap .i64 (y1.2.1 + (1 : Int))), (IntKind.wrap .i64 (y1.2.2 - (1 : Int))))))))) else (some y1.1))
def slices_Reverse_byte_byte_l1.l (K : Nat) : Nat → ((List Int) × Int × Int) → Option ((List Int))
 | 0, _ => none
 | k + 1, y => slices_Reverse_byte_byte_l1.b K (slices_Reverse_byte_byte_l1.l K k) y
theorem slices_Reverse_byte_byte_l1.some {K : Nat} {k : Nat} {y : (List Int) × Int × Int} {s : ((List Int))} (h : slices_Reverse_byte_byte_l1.l K k y = some s) : ∃ k', k = k' + 1 ∧ slices_Reverse_byte_byte_l1.b K (slices_Reverse_byte_byte_l1.l K k') y = some s := by
 cases k with
 | zero => cases h
 | succ k => exact ⟨k, rfl, h⟩
def slices_Reverse_byte_byte.f (K : Nat) (x1 : (List Int)) : Option ((List Int)) :=
 ((slices_Reverse_byte_byte_l1.l K K (x1, (0 : Int), (IntKind.wrap .i64 (((List.length (x1) : Nat) : Int) - (1 : Int))))).bind fun (z1 : (List Int)) => (some z1))
theorem slices_Reverse_byte_byte.len {K : Nat} {x r : List Int} (h : slices_Reverse_byte_byte.f K x = some r) : r.length = x.length := by
 have key : ∀ k y z, slices_Reverse_byte_byte_l1.l K k y = some z → z.length = y.1.length := by
  intro k
  induction k with
  | zero => intro y z h; cases h
  | succ k ih =>
   intro y z h
   have h : slices_Reverse_byte_byte_l1.b K (slices_Reverse_byte_byte_l1.l K k) y = some z := h
   unfold slices_Reverse_byte_byte_l1.b at h
   cases hc : decide (y.2.1 < y.2.2) with
   | false => rw [hc] at h; cases h; rfl
   | true =>
    rw [hc] at h
    replace h := cond_t rfl h
    obtain ⟨_, _, h⟩ := bind_some h
    obtain ⟨_, _, h⟩ := bind_some h
    obtain ⟨_, _, h⟩ := bind_some h
    obtain ⟨_, _, h⟩ := bind_some h
    have := ih _ _ h
    simpa using this
 unfold slices_Reverse_byte_byte.f at h
 obtain ⟨z, hz, h⟩ := bind_some h
 cases h
 exact key _ _ _ hz
def wire_Num_l1.b (K : Nat) (rec : (Int × (List Int)) → Option ((List Int))) (y1 : Int × (List Int)) : Option ((List Int)) :=
 (bif (decide ((0 : Int) < y1.1)) then ((catI 1 (y1.2) (([(bor .u8 (IntKind.wrap .u8 (Int.tmod y1.1 128)) (128 : Int))] : List Int))).bind fun (l1 : (List Int)) => (rec ((Int.fdiv y1.1 (2 ^ 7)), l1))) else (some y1.2))
def wire_Num_l1.l (K : Nat) : Nat → (Int × (List Int)) → Option ((List Int))
 | 0, _ => none
 | k + 1, y => wire_Num_l1.b K (wire_Num_l1.l K k) y
theorem wire_Num_l1.some {K : Nat} {k : Nat} {y : Int × (List Int)} {s : ((List Int))} (h : wire_Num_l1.l K k y = some s) : ∃ k', k = k' + 1 ∧ wire_Num_l1.b K (wire_Num_l1.l K k') y = some s := by
 cases k with
 | zero => cases h
 | succ k => exact ⟨k, rfl, h⟩
def wire_Num.f (K : Nat) (x1 : Int) : Option ((List Int)) :=
 (jn (fun (y1 : Bool) => (bif y1 then (some ([] : List Int)) else ((wire_Num_l1.l K K ((Int.fdiv x1 (2 ^ 7)), ([(IntKind.wrap .u8 (Int.tmod x1 128))] : List Int))).bind fun (z1 : (List Int)) => ((slices_Reverse_byte_byte.f K (z1)).bind fun (r1 : ((List Int))) => (some r1))))) (fun j1 => (bif (decide (x1 < (0 : Int))) then (j1 true) else (j1 (decide ((2147483647 : Int) < x1))))))
def rec_forms.f (K : Nat) : Option Unit :=
 (some ())
def rec_numbers_l1.b (K : Nat) (x1 : (List Int)) (rec : ((List Int) × Int) → Option ((List Int))) (y1 : (List Int) × Int) : Option ((List Int)) :=
 (bif (decide (y1.2 < ((List.length (x1) : Nat) : Int))) then ((getI (x1) y1.2).bind fun (x2 : Int) => ((wire_Num.f K (x2)).bind fun (r1 : ((List Int))) => ((catI 1 (y1.1) (r1)).bind fun (l1 : (List Int)) => (rec (l1, (IntKind.wrap .i64 (y1.2 + (1 : Int)))))))) else (some y1.1))
def rec_numbers_l1.l (K : Nat) (x1 : (List Int)) : Nat → ((List Int) × Int) → Option ((List Int))
 | 0, _ => none
 | k + 1, y => rec_numbers_l1.b K x1 (rec_numbers_l1.l K x1 k) y
theorem rec_numbers_l1.some {K : Nat} (x1 : (List Int)) {k : Nat} {y : (List Int) × Int} {s : ((List Int))} (h : rec_numbers_l1.l K x1 k y = some s) : ∃ k', k = k' + 1 ∧ rec_numbers_l1.b K x1 (rec_numbers_l1.l K x1 k') y = some s := by
 cases k with
 | zero => cases h
 | succ k => exact ⟨k, rfl, h⟩
def rec_numbers.f (K : Nat) (x1 : (List Int)) : Option ((List Int)) :=
 ((rec_numbers_l1.l K x1 K (([] : List Int), (0 : Int))).bind fun (z1 : (List Int)) => (some z1))
def rec_begin_l1.b (K : Nat) (x1 : T_api_Rec) (rec : ((List Int) × Int) → Option ((List Int))) (y1 : (List Int) × Int) : Option ((List Int)) :=
 (bif (decide (y1.2 < ((List.length (x1.fSteps) : Nat) : Int))) then ((getI (x1.fSteps) y1.2).bind fun (x2 : T_api_Step) => ((rec_numbers.f K (([x2.fPart, x2.fKind] : List Int))).bind fun (r1 : ((List Int))) => ((catI 1 (y1.1) (r1)).bind fun (l1 : (List Int)) => (rec (l1, (IntKind.wrap .i64 (y1.2 + (1 : Int)))))))) else (some y1.1))
def rec_begin_l1.l (K : Nat) (x1 : T_api_Rec) : Nat → ((List Int) × Int) → Option ((List Int))
 | 0, _ => none
 | k + 1, y => rec_begin_l1.b K x1 (rec_begin_l1.l K x1 k) y
theorem rec_begin_l1.some {K : Nat} (x1 : T_api_Rec) {k : Nat} {y : (List Int) × Int} {s : ((List Int))} (h : rec_begin_l1.l K x1 k y = some s) : ∃ k', k = k' + 1 ∧ rec_begin_l1.b K x1 (rec_begin_l1.l K x1 k') y = some s := by
 cases k with
 | zero => cases h
 | succ k => exact ⟨k, rfl, h⟩
def rec_begin.f (K : Nat) (x1 : T_api_Rec) : Option ((List Int)) :=
 ((rec_numbers.f K (([x1.fSaga, ((List.length (x1.fSteps) : Nat) : Int)] : List Int))).bind fun (r1 : ((List Int))) => ((rec_begin_l1.l K x1 K (r1, (0 : Int))).bind fun (z1 : (List Int)) => (some z1)))
def slices_Grow_byte_byte.f (K : Nat) (x1 : Int) : Option ((List Int)) :=
 (bif (decide (x1 < (0 : Int))) then none else (bif (decide ((0 : Int) < (IntKind.wrap .i64 (x1 - (IntKind.wrap .i64 (((0 : Nat) : Int) - ((0 : Nat) : Int))))))) then ((zerosI 1 ((0 : Int)) (IntKind.wrap .i64 (x1 - (IntKind.wrap .i64 (((0 : Nat) : Int) - ((0 : Nat) : Int)))))).bind fun (l37 : (List Int)) => ((subI (l37) 0 ((0 : Nat) : Int)).bind fun (l44 : (List Int)) => (some l44))) else (some ([] : List Int))))
def slices_Concat_byte_byte_l1.b (K : Nat) (x1 : (List (List Int))) (rec : (Int × Int) → Option (Int)) (y1 : Int × Int) : Option (Int) :=
 (bif (decide (y1.2 < ((List.length (x1) : Nat) : Int))) then ((getI (x1) y1.2).bind fun (x2 : (List Int)) => (bif (decide ((IntKind.wrap .i64 (y1.1 + ((List.length (x2) : Nat) : Int))) < (0 : Int))) then none else (rec ((IntKind.wrap .i64 (y1.1 + ((List.length (x2) : Nat) : Int))), (IntKind.wrap .i64 (y1.2 + (1 : Int))))))) else (some y1.1))
def slices_Concat_byte_byte_l1.l (K : Nat) (x1 : (List (List Int))) : Nat → (Int × Int) → Option (Int)
 | 0, _ => none
 | k + 1, y => slices_Concat_byte_byte_l1.b K x1 (slices_Concat_byte_byte_l1.l K x1 k) y
theorem slices_Concat_byte_byte_l1.some {K : Nat} (x1 : (List (List Int))) {k : Nat} {y : Int × Int} {s : (Int)} (h : slices_Concat_byte_byte_l1.l K x1 k y = some s) : ∃ k', k = k' + 1 ∧ slices_Concat_byte_byte_l1.b K x1 (slices_Concat_byte_byte_l1.l K x1 k') y = some s := by
 cases k with
 | zero => cases h
 | succ k => exact ⟨k, rfl, h⟩
def slices_Concat_byte_byte_l2.b (K : Nat) (x1 : (List (List Int))) (rec : ((List Int) × Int) → Option ((List Int))) (y1 : (List Int) × Int) : Option ((List Int)) :=
 (bif (decide (y1.2 < ((List.length (x1) : Nat) : Int))) then ((getI (x1) y1.2).bind fun (x2 : (List Int)) => ((catI 1 (y1.1) (x2)).bind fun (l1 : (List Int)) => (rec (l1, (IntKind.wrap .i64 (y1.2 + (1 : Int))))))) else (some y1.1))
def slices_Concat_byte_byte_l2.l (K : Nat) (x1 : (List (List Int))) : Nat → ((List Int) × Int) → Option ((List Int))
 | 0, _ => none
 | k + 1, y => slices_Concat_byte_byte_l2.b K x1 (slices_Concat_byte_byte_l2.l K x1 k) y
theorem slices_Concat_byte_byte_l2.some {K : Nat} (x1 : (List (List Int))) {k : Nat} {y : (List Int) × Int} {s : ((List Int))} (h : slices_Concat_byte_byte_l2.l K x1 k y = some s) : ∃ k', k = k' + 1 ∧ slices_Concat_byte_byte_l2.b K x1 (slices_Concat_byte_byte_l2.l K x1 k') y = some s := by
 cases k with
 | zero => cases h
 | succ k => exact ⟨k, rfl, h⟩
def slices_Concat_byte_byte.f (K : Nat) (x1 : (List (List Int))) : Option ((List Int)) :=
 ((slices_Concat_byte_byte_l1.l K x1 K ((0 : Int), (0 : Int))).bind fun (z1 : Int) => ((slices_Grow_byte_byte.f K (z1)).bind fun (r1 : ((List Int))) => ((slices_Concat_byte_byte_l2.l K x1 K (r1, (0 : Int))).bind fun (z2 : (List Int)) => (some z2))))
def wire_All.f (K : Nat) (x1 : (List (List Int))) : Option ((List Int)) :=
 ((slices_Concat_byte_byte.f K (x1)).bind fun (r20 : ((List Int))) => (some r20))
def wire_Flag.f (K : Nat) (x1 : Bool) : Option ((List Int)) :=
 (bif x1 then (some ([(1 : Int)] : List Int)) else (some ([(0 : Int)] : List Int)))
def rec_call.f (K : Nat) (x1 : T_api_Rec) : Option ((List Int)) :=
 ((rec_numbers.f K (([x1.fSaga, x1.fSeq, x1.fStep, x1.fTry] : List Int))).bind fun (r1 : ((List Int))) => ((wire_Flag.f K (x1.fBack)).bind fun (r2 : ((List Int))) => ((wire_All.f K (([r1, r2] : List (List Int)))).bind fun (r3 : ((List Int))) => (some r3))))
def slices_Clone_byte_byte.f (K : Nat) (x1 : (List Int)) : Option ((List Int)) :=
 ((catI 1 (([] : List Int)) (x1)).bind fun (l26 : (List Int)) => (some l26))
def wire_Hash.f (K : Nat) (x1 : (Vector Int 32)) : Option ((List Int)) :=
 ((subI (vlist (x1)) 0 ((32 : Nat) : Int)).bind fun (l32 : List Int) => ((slices_Clone_byte_byte.f K (l32)).bind fun (r37 : ((List Int))) => (some r37)))
def rec_forms_1.f (K : Nat) (x1 : T_api_Rec) : Option ((List Int)) :=
 ((rec_call.f K (x1)).bind fun (r1 : ((List Int))) => ((wire_Flag.f K (x1.fGood)).bind fun (r2 : ((List Int))) => ((rec_numbers.f K (([x1.fPart, x1.fEpoch] : List Int))).bind fun (r3 : ((List Int))) => ((wire_Hash.f K (x1.fTag)).bind fun (r4 : ((List Int))) => ((wire_All.f K (([r1, r2, r3, r4] : List (List Int)))).bind fun (r5 : ((List Int))) => (some r5))))))
def rec_forms_2.f (K : Nat) (x1 : T_api_Rec) : Option ((List Int)) :=
 ((rec_numbers.f K (([x1.fSaga, x1.fSeq, x1.fEnd] : List Int))).bind fun (r45 : ((List Int))) => (some r45))
def rec_forms_3.f (K : Nat) (x1 : T_api_Rec) : Option ((List Int)) :=
 ((rec_numbers.f K (([x1.fPart, x1.fEpoch] : List Int))).bind fun (r45 : ((List Int))) => (some r45))
def mac_row_l1.b (K : Nat) (x2 : Int) (l1 : (List Int)) (rec : (Int × (List Int) × Int) → Option ((List Int))) (y1 : Int × (List Int) × Int) : Option ((List Int)) :=
 (bif (decide (y1.2.2 < ((List.length (l1) : Nat) : Int))) then ((getI (y1.2.1) (IntKind.wrap .i64 ((IntKind.wrap .i64 (x2 - (1 : Int))) - y1.2.2))).bind fun (x1 : Int) => (rec ((Int.fdiv y1.1 (2 ^ 8)), (List.set (y1.2.1) (Int.toNat ((IntKind.wrap .i64 ((IntKind.wrap .i64 (x2 - (1 : Int))) - y1.2.2)))) ((IntKind.wrap .u8 y1.1))), (IntKind.wrap .i64 (y1.2.2 + (1 : Int)))))) else (some y1.2.1))
def mac_row_l1.l (K : Nat) (x2 : Int) (l1 : (List Int)) : Nat → (Int × (List Int) × Int) → Option ((List Int))
 | 0, _ => none
 | k + 1, y => mac_row_l1.b K x2 l1 (mac_row_l1.l K x2 l1 k) y
theorem mac_row_l1.some {K : Nat} (x2 : Int) (l1 : (List Int)) {k : Nat} {y : Int × (List Int) × Int} {s : ((List Int))} (h : mac_row_l1.l K x2 l1 k y = some s) : ∃ k', k = k' + 1 ∧ mac_row_l1.b K x2 l1 (mac_row_l1.l K x2 l1 k') y = some s := by
 cases k with
 | zero => cases h
 | succ k => exact ⟨k, rfl, h⟩
def mac_row.f (K : Nat) (x1 : Int) (x2 : Int) : Option ((List Int)) :=
 ((zerosI 1 ((0 : Int)) x2).bind fun (l1 : (List Int)) => ((mac_row_l1.l K x2 l1 K (x1, l1, (0 : Int))).bind fun (z1 : (List Int)) => (some z1)))
def mac_Of_1.f (K : Nat) (x1 : (List Int)) : Option ((List Int)) :=
 ((mac_row.f K ((IntKind.wrap .u64 ((List.length (x1) : Nat) : Int))) ((4 : Int))).bind fun (r44 : ((List Int))) => ((slices_Concat_byte_byte.f K (([r44, x1] : List (List Int)))).bind fun (r68 : ((List Int))) => (some r68)))
def mac_joined_byte_l1.b (K : Nat) (x1 : (List (List Int))) (rec : ((List Int) × Int) → Option ((List Int))) (y1 : (List Int) × Int) : Option ((List Int)) :=
 (bif (decide (y1.2 < ((List.length (x1) : Nat) : Int))) then ((getI (x1) y1.2).bind fun (x2 : (List Int)) => ((mac_Of_1.f K (x2)).bind fun (r1 : ((List Int))) => ((catI 1 (y1.1) (r1)).bind fun (l1 : (List Int)) => (rec (l1, (IntKind.wrap .i64 (y1.2 + (1 : Int)))))))) else (some y1.1))
def mac_joined_byte_l1.l (K : Nat) (x1 : (List (List Int))) : Nat → ((List Int) × Int) → Option ((List Int))
 | 0, _ => none
 | k + 1, y => mac_joined_byte_l1.b K x1 (mac_joined_byte_l1.l K x1 k) y
theorem mac_joined_byte_l1.some {K : Nat} (x1 : (List (List Int))) {k : Nat} {y : (List Int) × Int} {s : ((List Int))} (h : mac_joined_byte_l1.l K x1 k y = some s) : ∃ k', k = k' + 1 ∧ mac_joined_byte_l1.b K x1 (mac_joined_byte_l1.l K x1 k') y = some s := by
 cases k with
 | zero => cases h
 | succ k => exact ⟨k, rfl, h⟩
def mac_joined_byte.f (K : Nat) (x1 : (List (List Int))) : Option ((List Int)) :=
 ((mac_joined_byte_l1.l K x1 K (([] : List Int), (0 : Int))).bind fun (z1 : (List Int)) => (some z1))
def sha_Fill_l1.b (K : Nat) (x1 : Int) (rec : (List Int) → Option ((List Int))) (y1 : (List Int)) : Option ((List Int)) :=
 (bif (!decide ((Int.tmod (IntKind.wrap .i64 (x1 + ((List.length (y1) : Nat) : Int))) 64) = (56 : Int))) then ((catI 1 (y1) (([(0 : Int)] : List Int))).bind fun (l1 : (List Int)) => (rec l1)) else (some y1))
def sha_Fill_l1.l (K : Nat) (x1 : Int) : Nat → ((List Int)) → Option ((List Int))
 | 0, _ => none
 | k + 1, y => sha_Fill_l1.b K x1 (sha_Fill_l1.l K x1 k) y
theorem sha_Fill_l1.some {K : Nat} (x1 : Int) {k : Nat} {y : (List Int)} {s : ((List Int))} (h : sha_Fill_l1.l K x1 k y = some s) : ∃ k', k = k' + 1 ∧ sha_Fill_l1.b K x1 (sha_Fill_l1.l K x1 k') y = some s := by
 cases k with
 | zero => cases h
 | succ k => exact ⟨k, rfl, h⟩
def sha_Fill_l2.b (K : Nat) (x1 : Int) (rec : ((List Int) × Int) → Option ((List Int))) (y1 : (List Int) × Int) : Option ((List Int)) :=
 (bif (decide ((0 : Int) ≤ y1.2)) then (chk (!(decide ((IntKind.wrap .i64 ((8 : Int) * y1.2)) < 0))) ((catI 1 (y1.1) (([(IntKind.wrap .u8 (Int.fdiv (IntKind.wrap .u64 ((IntKind.wrap .u64 x1) * (8 : Int))) (2 ^ (min (Int.toNat (IntKind.wrap .i64 ((8 : Int) * y1.2))) 64))))] : List Int))).bind fun (l1 : (List Int)) => (rec (l1, (IntKind.wrap .i64 (y1.2 - (1 : Int))))))) else (some y1.1))
def sha_Fill_l2.l (K : Nat) (x1 : Int) : Nat → ((List Int) × Int) → Option ((List Int))
 | 0, _ => none
 | k + 1, y => sha_Fill_l2.b K x1 (sha_Fill_l2.l K x1 k) y
theorem sha_Fill_l2.some {K : Nat} (x1 : Int) {k : Nat} {y : (List Int) × Int} {s : ((List Int))} (h : sha_Fill_l2.l K x1 k y = some s) : ∃ k', k = k' + 1 ∧ sha_Fill_l2.b K x1 (sha_Fill_l2.l K x1 k') y = some s := by
 cases k with
 | zero => cases h
 | succ k => exact ⟨k, rfl, h⟩
def sha_Fill.f (K : Nat) (x1 : Int) : Option ((List Int)) :=
 (bif (decide (x1 < (0 : Int))) then (some ([] : List Int)) else ((sha_Fill_l1.l K x1 K ([(128 : Int)] : List Int)).bind fun (z1 : (List Int)) => ((sha_Fill_l2.l K x1 K (z1, (7 : Int))).bind fun (z2 : (List Int)) => (some z2))))
def sha_blocks.f (K : Nat) (x1 : (List Int)) : Option ((List Int)) :=
 (some x1)
def math_bits_RotateLeft32.f (K : Nat) (x1 : Int) (x2 : Int) : Option (Int) :=
 (chk (!(decide ((band .u64 (IntKind.wrap .u64 x2) (31 : Int)) < 0))) (chk (!(decide ((IntKind.wrap .u64 ((32 : Int) - (band .u64 (IntKind.wrap .u64 x2) (31 : Int)))) < 0))) (some (bor .u32 (IntKind.wrap .u32 (x1 * 2 ^ (min (Int.toNat (band .u64 (IntKind.wrap .u64 x2) (31 : Int))) 32))) (Int.fdiv x1 (2 ^ (min (Int.toNat (IntKind.wrap .u64 ((32 : Int) - (band .u64 (IntKind.wrap .u64 x2) (31 : Int))))) 32)))))))
def sha_moved.f (K : Nat) (x1 : Int) (x2 : Int) (x3 : Int) (x4 : Int) : Option (Int) :=
 (chk (!(decide (x4 < 0))) ((math_bits_RotateLeft32.f K (x1) ((IntKind.wrap .i64 (0 - x2)))).bind fun (r39 : (Int)) => ((math_bits_RotateLeft32.f K (x1) ((IntKind.wrap .i64 (0 - x3)))).bind fun (r44 : (Int)) => (some (bxor .u32 (bxor .u32 r39 r44) (Int.fdiv x1 (2 ^ (min (Int.toNat x4) 32))))))))
def sha_schedule_l1.b (K : Nat) (x1 : (List Int)) (rec : (Int × (Vector Int 64)) → Option ((Vector Int 64))) (y1 : Int × (Vector Int 64)) : Option ((Vector Int 64)) :=
 (bif (decide (y1.1 < (64 : Int))) then (jn (fun (y2 : (Vector Int 64)) => (rec ((IntKind.wrap .i64 (y1.1 + (1 : Int))), y2))) (fun j1 => (bif (decide (y1.1 < (16 : Int))) then ((getI (x1) (IntKind.wrap .i64 ((4 : Int) * y1.1))).bind fun (x2 : Int) => ((getI (x1) (IntKind.wrap .i64 ((IntKind.wrap .i64 ((4 : Int) * y1.1)) + (1 : Int)))).bind fun (x3 : Int) => ((getI (x1) (IntKind.wrap .i64 ((IntKind.wrap .i64 ((4 : Int) * y1.1)) + (2 : Int)))).bind fun (x4 : Int) => ((getI (x1) (IntKind.wrap .i64 ((IntKind.wrap .i64 ((4 : Int) * y1.1)) + (3 : Int)))).bind fun (x5 : Int) => (chk (inA 64 y1.1) ((some (vset (y1.2) (Int.toNat (y1.1)) ((bor .u32 (bor .u32 (bor .u32 (IntKind.wrap .u32 ((IntKind.wrap .u32 x2) * 2 ^ 24)) (IntKind.wrap .u32 ((IntKind.wrap .u32 x3) * 2 ^ 16))) (IntKind.wrap .u32 ((IntKind.wrap .u32 x4) * 2 ^ 8))) (IntKind.wrap .u32 x5))))).bind fun (v1 : (Vector Int 64)) => (j1 v1))))))) else (chk (inA 64 (IntKind.wrap .i64 (y1.1 - (2 : Int)))) (chk (inA 64 (IntKind.wrap .i64 (y1.1 - (7 : Int)))) (chk (inA 64 (IntKind.wrap .i64 (y1.1 - (15 : Int)))) (chk (inA 64 (IntKind.wrap .i64 (y1.1 - (16 : Int)))) ((sha_moved.f K ((vget (y1.2) (Int.toNat ((IntKind.wrap .i64 (y1.1 - (2 : Int))))))) ((17 : Int)) ((19 : Int)) ((10 : Int))).bind fun (r1 : (Int)) => ((sha_moved.f K ((vget (y1.2) (Int.toNat ((IntKind.wrap .i64 (y1.1 - (15 : Int))))))) ((7 : Int)) ((18 : Int)) ((3 : Int))).bind fun (r2 : (Int)) => (chk (inA 64 y1.1) ((some (vset (y1.2) (Int.toNat (y1.1)) ((IntKind.wrap .u32 ((IntKind.wrap .u32 ((IntKind.wrap .u32 (r1 + (vget (y1.2) (Int.toNat ((IntKind.wrap .i64 (y1.1 - (7 : Int)))))))) + r2)) + (vget (y1.2) (Int.toNat ((IntKind.wrap .i64 (y1.1 - (16 : Int))))))))))).bind fun (v2 : (Vector Int 64)) => (j1 v2)))))))))))) else (some y1.2))
def sha_schedule_l1.l (K : Nat) (x1 : (List Int)) : Nat → (Int × (Vector Int 64)) → Option ((Vector Int 64))
 | 0, _ => none
 | k + 1, y => sha_schedule_l1.b K x1 (sha_schedule_l1.l K x1 k) y
theorem sha_schedule_l1.some {K : Nat} (x1 : (List Int)) {k : Nat} {y : Int × (Vector Int 64)} {s : ((Vector Int 64))} (h : sha_schedule_l1.l K x1 k y = some s) : ∃ k', k = k' + 1 ∧ sha_schedule_l1.b K x1 (sha_schedule_l1.l K x1 k') y = some s := by
 cases k with
 | zero => cases h
 | succ k => exact ⟨k, rfl, h⟩
def sha_schedule.f (K : Nat) (x1 : (List Int)) : Option ((Vector Int 64)) :=
 ((sha_schedule_l1.l K x1 K ((0 : Int), (Vector.replicate 64 (0 : Int)))).bind fun (z1 : (Vector Int 64)) => (some z1))
def sha_turned.f (K : Nat) (x1 : Int) (x2 : Int) (x3 : Int) (x4 : Int) : Option (Int) :=
 ((math_bits_RotateLeft32.f K (x1) ((IntKind.wrap .i64 (0 - x2)))).bind fun (r20 : (Int)) => ((math_bits_RotateLeft32.f K (x1) ((IntKind.wrap .i64 (0 - x3)))).bind fun (r25 : (Int)) => ((math_bits_RotateLeft32.f K (x1) ((IntKind.wrap .i64 (0 - x4)))).bind fun (r30 : (Int)) => (some (bxor .u32 (bxor .u32 r20 r25) r30)))))
def sha_Turn_l1.b (K : Nat) (r2 : ((Vector Int 64))) (rec : (Int × (Vector Int 8)) → Option ((Vector Int 8))) (y1 : Int × (Vector Int 8)) : Option ((Vector Int 8)) :=
 (bif (decide (y1.1 < (64 : Int))) then ((getI (vlist (r2)) y1.1).bind fun (x1 : Int) => (chk (inA 64 y1.1) ((sha_turned.f K ((vget (y1.2) (Int.toNat ((4 : Int))))) ((6 : Int)) ((11 : Int)) ((25 : Int))).bind fun (r1 : (Int)) => ((sha_turned.f K ((vget (y1.2) (Int.toNat ((0 : Int))))) ((2 : Int)) ((13 : Int)) ((22 : Int))).bind fun (r3 : (Int)) => ((some (vcopy (y1.2) 1 0 7)).bind fun (v1 : (Vector Int 8)) => ((some (vset (v1) (Int.toNat ((4 : Int))) ((IntKind.wrap .u32 ((vget (v1) (Int.toNat ((4 : Int)))) + (IntKind.wrap .u32 ((IntKind.wrap .u32 ((IntKind.wrap .u32 ((IntKind.wrap .u32 ((vget (y1.2) (Int.toNat ((7 : Int)))) + r1)) + (bxor .u32 (band .u32 (vget (y1.2) (Int.toNat ((4 : Int)))) (vget (y1.2) (Int.toNat ((5 : Int))))) (band .u32 (bnot .u32 (vget (y1.2) (Int.toNat ((4 : Int))))) (vget (y1.2) (Int.toNat ((6 : Int)))))))) + (vget (gl_K) (Int.toNat (y1.1))))) + x1))))))).bind fun (v2 : (Vector Int 8)) => ((some (vset (v2) (Int.toNat ((0 : Int))) ((IntKind.wrap .u32 ((IntKind.wrap .u32 ((IntKind.wrap .u32 ((IntKind.wrap .u32 ((IntKind.wrap .u32 ((vget (y1.2) (Int.toNat ((7 : Int)))) + r1)) + (bxor .u32 (band .u32 (vget (y1.2) (Int.toNat ((4 : Int)))) (vget (y1.2) (Int.toNat ((5 : Int))))) (band .u32 (bnot .u32 (vget (y1.2) (Int.toNat ((4 : Int))))) (vget (y1.2) (Int.toNat ((6 : Int)))))))) + (vget (gl_K) (Int.toNat (y1.1))))) + x1)) + (IntKind.wrap .u32 (r3 + (bxor .u32 (bxor .u32 (band .u32 (vget (y1.2) (Int.toNat ((0 : Int)))) (vget (y1.2) (Int.toNat ((1 : Int))))) (band .u32 (vget (y1.2) (Int.toNat ((0 : Int)))) (vget (y1.2) (Int.toNat ((2 : Int)))))) (band .u32 (vget (y1.2) (Int.toNat ((1 : Int)))) (vget (y1.2) (Int.toNat ((2 : Int))))))))))))).bind fun (v3 : (Vector Int 8)) => (rec ((IntKind.wrap .i64 (y1.1 + (1 : Int))), v3))))))))) else (some y1.2))
def sha_Turn_l1.l (K : Nat) (r1 : ((Vector Int 64))) : Nat → (Int × (Vector Int 8)) → Option ((Vector Int 8))
 | 0, _ => none
 | k + 1, y => sha_Turn_l1.b K r1 (sha_Turn_l1.l K r1 k) y
theorem sha_Turn_l1.some {K : Nat} (r1 : ((Vector Int 64))) {k : Nat} {y : Int × (Vector Int 8)} {s : ((Vector Int 8))} (h : sha_Turn_l1.l K r1 k y = some s) : ∃ k', k = k' + 1 ∧ sha_Turn_l1.b K r1 (sha_Turn_l1.l K r1 k') y = some s := by
 cases k with
 | zero => cases h
 | succ k => exact ⟨k, rfl, h⟩
def sha_Turn_l2.b (K : Nat) (z1 : (Vector Int 8)) (rec : (Int × (Vector Int 8)) → Option ((Vector Int 8))) (y1 : Int × (Vector Int 8)) : Option ((Vector Int 8)) :=
 (bif (decide (y1.1 < (8 : Int))) then (chk (inA 8 y1.1) (chk (inA 8 y1.1) (chk (inA 8 y1.1) ((some (vset (y1.2) (Int.toNat (y1.1)) ((IntKind.wrap .u32 ((vget (y1.2) (Int.toNat (y1.1))) + (vget (z1) (Int.toNat (y1.1)))))))).bind fun (v1 : (Vector Int 8)) => (rec ((IntKind.wrap .i64 (y1.1 + (1 : Int))), v1)))))) else (some y1.2))
def sha_Turn_l2.l (K : Nat) (z1 : (Vector Int 8)) : Nat → (Int × (Vector Int 8)) → Option ((Vector Int 8))
 | 0, _ => none
 | k + 1, y => sha_Turn_l2.b K z1 (sha_Turn_l2.l K z1 k) y
theorem sha_Turn_l2.some {K : Nat} (z1 : (Vector Int 8)) {k : Nat} {y : Int × (Vector Int 8)} {s : ((Vector Int 8))} (h : sha_Turn_l2.l K z1 k y = some s) : ∃ k', k = k' + 1 ∧ sha_Turn_l2.b K z1 (sha_Turn_l2.l K z1 k') y = some s := by
 cases k with
 | zero => cases h
 | succ k => exact ⟨k, rfl, h⟩
def sha_Turn.f (K : Nat) (x1 : (Vector Int 8)) (x2 : (List Int)) : Option ((Vector Int 8)) :=
 (bif (!decide (((List.length (x2) : Nat) : Int) = (64 : Int))) then (some x1) else ((sha_schedule.f K (x2)).bind fun (r1 : ((Vector Int 64))) => ((sha_Turn_l1.l K r1 K ((0 : Int), x1)).bind fun (z1 : (Vector Int 8)) => ((sha_Turn_l2.l K z1 K ((0 : Int), x1)).bind fun (z2 : (Vector Int 8)) => (some z2)))))
def sha_Sum_l1.b (K : Nat) (rec : ((Vector Int 8) × (List Int)) → Option ((Vector Int 8) × (List Int))) (y1 : (Vector Int 8) × (List Int)) : Option ((Vector Int 8) × (List Int)) :=
 (bif (decide ((64 : Int) ≤ ((List.length (y1.2) : Nat) : Int))) then ((subI (y1.2) 0 (64 : Int)).bind fun (l1 : (List Int)) => ((sha_Turn.f K (y1.1) (l1)).bind fun (r1 : ((Vector Int 8))) => ((subI (y1.2) (64 : Int) ((List.length (y1.2) : Nat) : Int)).bind fun (l2 : (List Int)) => (rec (r1, l2))))) else (some (y1.1, y1.2)))
def sha_Sum_l1.l (K : Nat) : Nat → ((Vector Int 8) × (List Int)) → Option ((Vector Int 8) × (List Int))
 | 0, _ => none
 | k + 1, y => sha_Sum_l1.b K (sha_Sum_l1.l K k) y
theorem sha_Sum_l1.some {K : Nat} {k : Nat} {y : (Vector Int 8) × (List Int)} {s : ((Vector Int 8) × (List Int))} (h : sha_Sum_l1.l K k y = some s) : ∃ k', k = k' + 1 ∧ sha_Sum_l1.b K (sha_Sum_l1.l K k') y = some s := by
 cases k with
 | zero => cases h
 | succ k => exact ⟨k, rfl, h⟩
def sha_Sum_l2.b (K : Nat) (z1 : (Vector Int 8) × (List Int)) (rec : (Int × (Vector Int 32)) → Option ((Vector Int 32))) (y1 : Int × (Vector Int 32)) : Option ((Vector Int 32)) :=
 (bif (decide (y1.1 < (32 : Int))) then (chk (inA 8 (IntKind.wrap .i64 (Int.tdiv y1.1 4))) (chk (!(decide ((IntKind.wrap .i64 ((24 : Int) - (IntKind.wrap .i64 ((8 : Int) * (Int.tmod y1.1 4))))) < 0))) (chk (inA 32 y1.1) ((some (vset (y1.2) (Int.toNat (y1.1)) ((IntKind.wrap .u8 (Int.fdiv (vget (z1.1) (Int.toNat ((IntKind.wrap .i64 (Int.tdiv y1.1 4))))) (2 ^ (min (Int.toNat (IntKind.wrap .i64 ((24 : Int) - (IntKind.wrap .i64 ((8 : Int) * (Int.tmod y1.1 4)))))) 32))))))).bind fun (v1 : (Vector Int 32)) => (rec ((IntKind.wrap .i64 (y1.1 + (1 : Int))), v1)))))) else (some y1.2))
def sha_Sum_l2.l (K : Nat) (z1 : (Vector Int 8) × (List Int)) : Nat → (Int × (Vector Int 32)) → Option ((Vector Int 32))
 | 0, _ => none
 | k + 1, y => sha_Sum_l2.b K z1 (sha_Sum_l2.l K z1 k) y
theorem sha_Sum_l2.some {K : Nat} (z1 : (Vector Int 8) × (List Int)) {k : Nat} {y : Int × (Vector Int 32)} {s : ((Vector Int 32))} (h : sha_Sum_l2.l K z1 k y = some s) : ∃ k', k = k' + 1 ∧ sha_Sum_l2.b K z1 (sha_Sum_l2.l K z1 k') y = some s := by
 cases k with
 | zero => cases h
 | succ k => exact ⟨k, rfl, h⟩
def sha_Sum.f (K : Nat) (x1 : (List (List Int))) : Option ((Vector Int 32)) :=
 ((slices_Concat_byte_byte.f K (x1)).bind fun (r1 : ((List Int))) => ((sha_Fill.f K (((List.length (r1) : Nat) : Int))).bind fun (r2 : ((List Int))) => ((catI 1 (r1) (r2)).bind fun (l1 : (List Int)) => ((sha_blocks.f K (l1)).bind fun (r3 : ((List Int))) => ((sha_Sum_l1.l K K (gl_First, r3)).bind fun (z1 : (Vector Int 8) × (List Int)) => ((sha_Sum_l2.l K z1 K ((0 : Int), (Vector.replicate 32 (0 : Int)))).bind fun (z2 : (Vector Int 32)) => (some z2)))))))
def mac_Of.f (K : Nat) (x1 : Int) (x2 : (List (List Int))) : Option ((Vector Int 32)) :=
 ((mac_joined_byte.f K (x2)).bind fun (r52 : ((List Int))) => ((sha_Sum.f K (([([(IntKind.wrap .u8 x1)] : List Int), r52] : List (List Int)))).bind fun (r81 : ((Vector Int 32))) => (some r81)))
def rec_Com.f (K : Nat) (x1 : T_api_Rec) : Option ((Vector Int 32)) :=
 (jn (fun (y1 : Bool) => (bif y1 then (some (vofL 32 [(0 : Int), (0 : Int), (0 : Int), (0 : Int), (0 : Int), (0 : Int), (0 : Int), (0 : Int), (0 : Int), (0 : Int), (0 : Int), (0 : Int), (0 : Int), (0 : Int), (0 : Int), (0 : Int), (0 : Int), (0 : Int), (0 : Int), (0 : Int), (0 : Int), (0 : Int), (0 : Int), (0 : Int), (0 : Int), (0 : Int), (0 : Int), (0 : Int), (0 : Int), (0 : Int), (0 : Int), (0 : Int)])) else (bif x1.fGone then (some x1.fCom) else ((subI (vlist (x1.fSalt)) 0 ((32 : Nat) : Int)).bind fun (l1 : List Int) => ((mac_Of.f K ((4 : Int)) (([l1, x1.fData] : List (List Int)))).bind fun (r1 : ((Vector Int 32))) => (some r1)))))) (fun j1 => ((rec_Right.f K (x1)).bind fun (r2 : (Bool)) => (bif (!r2) then (j1 true) else (j1 (!decide (x1.fKind = (1 : Int))))))))
def rec_Sealed_1.f (K : Nat) (x3 : T_api_Rec) : Option ((List Int)) :=
 ((rec_Com.f K (x3)).bind fun (r30 : ((Vector Int 32))) => ((wire_Hash.f K (r30)).bind fun (r35 : ((List Int))) => (some r35)))
def rec_put.f (K : Nat) (x3 : T_api_Rec) (x10 : T_api_Rec) : Option ((List Int)) :=
 ((rec_Right.f K (x3)).bind fun (r2 : (Bool)) => (bif (!r2) then (some ([] : List Int)) else (jn (fun (y1 : (List Int)) => (bif (decide (x3.fKind = (1 : Int))) then ((rec_Sealed_1.f K (x10)).bind fun (r3 : ((List Int))) => ((catI 1 (y1) (r3)).bind fun (l1 : (List Int)) => (some l1))) else (some y1))) (fun j1 => ((wire_Num.f K (x3.fKind)).bind fun (r1 : ((List Int))) => ((rec_forms.f K).bind fun (r16 : Unit) => (bif decide (x3.fKind = (0 : Int)) then none else (bif decide (x3.fKind = (1 : Int)) then ((rec_begin.f K (x3)).bind fun (r4 : ((List Int))) => ((wire_All.f K (([r1, r4] : List (List Int)))).bind fun (r5 : ((List Int))) => (j1 r5))) else (bif decide (x3.fKind = (2 : Int)) then ((rec_call.f K (x3)).bind fun (r6 : ((List Int))) => ((wire_All.f K (([r1, r6] : List (List Int)))).bind fun (r7 : ((List Int))) => (j1 r7))) else (bif decide (x3.fKind = (3 : Int)) then ((rec_forms_1.f K (x3)).bind fun (r8 : ((List Int))) => ((wire_All.f K (([r1, r8] : List (List Int)))).bind fun (r9 : ((List Int))) => (j1 r9))) else (bif decide (x3.fKind = (4 : Int)) then ((rec_call.f K (x3)).bind fun (r10 : ((List Int))) => ((wire_All.f K (([r1, r10] : List (List Int)))).bind fun (r11 : ((List Int))) => (j1 r11))) else (bif decide (x3.fKind = (5 : Int)) then ((rec_forms_2.f K (x3)).bind fun (r12 : ((List Int))) => ((wire_All.f K (([r1, r12] : List (List Int)))).bind fun (r13 : ((List Int))) => (j1 r13))) else (bif decide (x3.fKind = (6 : Int)) then ((rec_forms_3.f K (x3)).bind fun (r14 : ((List Int))) => ((wire_All.f K (([r1, r14] : List (List Int)))).bind fun (r15 : ((List Int))) => (j1 r15))) else none)))))))))))))
def rec_Sealed.f (K : Nat) (x1 : T_api_Rec) : Option ((List Int)) :=
 ((rec_put.f K (x1) (x1)).bind fun (r27 : ((List Int))) => (some r27))
def tree_Leaf.f (K : Nat) (x1 : (List Int)) : Option ((Vector Int 32)) :=
 ((sha_Sum.f K (([([(0 : Int)] : List Int), x1] : List (List Int)))).bind fun (r50 : ((Vector Int 32))) => (some r50))
def export_Hashes_l1.b (K : Nat) (x1 : (List T_api_Rec)) (rec : ((List (Vector Int 32)) × Int) → Option ((List (Vector Int 32)))) (y1 : (List (Vector Int 32)) × Int) : Option ((List (Vector Int 32))) :=
 (bif (decide (y1.2 < ((List.length (x1) : Nat) : Int))) then ((getI (x1) y1.2).bind fun (x2 : T_api_Rec) => ((rec_Sealed.f K (x2)).bind fun (r1 : ((List Int))) => ((tree_Leaf.f K (r1)).bind fun (r2 : ((Vector Int 32))) => ((catI 32 (y1.1) (([r2] : List (Vector Int 32)))).bind fun (l1 : (List (Vector Int 32))) => (rec (l1, (IntKind.wrap .i64 (y1.2 + (1 : Int))))))))) else (some y1.1))
def export_Hashes_l1.l (K : Nat) (x1 : (List T_api_Rec)) : Nat → ((List (Vector Int 32)) × Int) → Option ((List (Vector Int 32)))
 | 0, _ => none
 | k + 1, y => export_Hashes_l1.b K x1 (export_Hashes_l1.l K x1 k) y
theorem export_Hashes_l1.some {K : Nat} (x1 : (List T_api_Rec)) {k : Nat} {y : (List (Vector Int 32)) × Int} {s : ((List (Vector Int 32)))} (h : export_Hashes_l1.l K x1 k y = some s) : ∃ k', k = k' + 1 ∧ export_Hashes_l1.b K x1 (export_Hashes_l1.l K x1 k') y = some s := by
 cases k with
 | zero => cases h
 | succ k => exact ⟨k, rfl, h⟩
def export_Hashes.f (K : Nat) (x1 : (List T_api_Rec)) : Option ((List (Vector Int 32))) :=
 ((export_right.f K (x1)).bind fun (r1 : (Bool)) => (bif (!r1) then (some ([] : List (Vector Int 32))) else ((export_Hashes_l1.l K x1 K (([] : List (Vector Int 32)), (0 : Int))).bind fun (z1 : (List (Vector Int 32))) => (some z1))))
def slices_Clone_api_Sig_api_Sig.f (K : Nat) (x1 : (List T_api_Sig)) : Option ((List T_api_Sig)) :=
 ((catI 40 (([] : List T_api_Sig)) (x1)).bind fun (l26 : (List T_api_Sig)) => (some l26))
def export_Range_1.f (K : Nat) (x5 : Int) (x6 : Int) (x7 : Int) : Option (Bool) :=
 (bif (decide (x6 ≤ x5)) then (some (decide (x5 < x7))) else (some false))
def slices_Clone_api_Step_api_Step.f (K : Nat) (x1 : (List T_api_Step)) : Option ((List T_api_Step)) :=
 ((catI 16 (([] : List T_api_Step)) (x1)).bind fun (l26 : (List T_api_Step)) => (some l26))
def rec_Redact.f (K : Nat) (x1 : T_api_Rec) : Option (T_api_Rec) :=
 (jn (fun (y1 : Bool) => (bif y1 then (some x1) else ((slices_Clone_api_Step_api_Step.f K (x1.fSteps)).bind fun (r1 : ((List T_api_Step))) => ((rec_Com.f K (x1)).bind fun (r2 : ((Vector Int 32))) => ((some { z_T_api_Rec with fKind := (1 : Int), fSaga := x1.fSaga, fSteps := r1, fGone := true, fCom := r2 }).bind fun (v1 : T_api_Rec) => (some v1)))))) (fun j1 => ((rec_Right.f K (x1)).bind fun (r3 : (Bool)) => (bif (!r3) then (j1 true) else (j1 (!decide (x1.fKind = (1 : Int))))))))
def export_masked.f (K : Nat) (x1 : T_api_Rec) (x8 : Int) (x9 : Int) : Option (T_api_Rec) :=
 (chk (!(decide ((Int.tmod x8 32) < 0))) (bif (decide ((band .u32 (Int.fdiv x9 (2 ^ (min (Int.toNat (Int.tmod x8 32)) 32))) (1 : Int)) = (1 : Int))) then ((rec_Redact.f K (x1)).bind fun (r1 : (T_api_Rec)) => (some r1)) else ((slices_Clone_api_Step_api_Step.f K (x1.fSteps)).bind fun (r2 : ((List T_api_Step))) => ((slices_Clone_byte_byte.f K (x1.fData)).bind fun (r3 : ((List Int))) => (some { x1 with fSteps := r2, fData := r3 })))))
def tree_Split_l1.b (K : Nat) (x1 : Int) (rec : Int → Option (Int)) (y71 : Int) : Option (Int) :=
 (bif (decide (y71 < (IntKind.wrap .i64 (x1 - y71)))) then (rec (IntKind.wrap .i64 (y71 * (2 : Int)))) else (some y71))
def tree_Split_l1.l (K : Nat) (x1 : Int) : Nat → (Int) → Option (Int)
 | 0, _ => none
 | k + 1, y => tree_Split_l1.b K x1 (tree_Split_l1.l K x1 k) y
theorem tree_Split_l1.some {K : Nat} (x1 : Int) {k : Nat} {y : Int} {s : (Int)} (h : tree_Split_l1.l K x1 k y = some s) : ∃ k', k = k' + 1 ∧ tree_Split_l1.b K x1 (tree_Split_l1.l K x1 k') y = some s := by
 cases k with
 | zero => cases h
 | succ k => exact ⟨k, rfl, h⟩
def tree_Split.f (K : Nat) (x1 : Int) : Option (Int) :=
 (bif (decide (x1 < (2 : Int))) then (some (0 : Int)) else ((tree_Split_l1.l K x1 K (1 : Int)).bind fun (z77 : Int) => (some z77)))
def tree_Node.f (K : Nat) (x1 : (Vector Int 32)) (x2 : (Vector Int 32)) : Option ((Vector Int 32)) :=
 ((subI (vlist (x1)) 0 ((32 : Nat) : Int)).bind fun (l1 : List Int) => ((subI (vlist (x2)) 0 ((32 : Nat) : Int)).bind fun (l2 : List Int) => ((sha_Sum.f K (([([(1 : Int)] : List Int), l1, l2] : List (List Int)))).bind fun (r1 : ((Vector Int 32))) => (some r1))))
def tree_Root.b (K : Nat) (self : (List (Vector Int 32)) → Option ((Vector Int 32))) (x1 : (List (Vector Int 32))) : Option ((Vector Int 32)) :=
 (bif (decide (((List.length (x1) : Nat) : Int) = (0 : Int))) then ((sha_Sum.f K (([] : List (List Int)))).bind fun (r2 : ((Vector Int 32))) => (some r2)) else (bif (decide (((List.length (x1) : Nat) : Int) = (1 : Int))) then ((getI (x1) (0 : Int)).bind fun (x2 : (Vector Int 32)) => (some x2)) else ((tree_Split.f K (((List.length (x1) : Nat) : Int))).bind fun (r1 : (Int)) => ((subI (x1) 0 r1).bind fun (l1 : (List (Vector Int 32))) => ((subI (x1) r1 ((List.length (x1) : Nat) : Int)).bind fun (l2 : (List (Vector Int 32))) => ((self (l1)).bind fun (r3 : ((Vector Int 32))) => ((self (l2)).bind fun (r4 : ((Vector Int 32))) => ((tree_Node.f K (r3) (r4)).bind fun (r5 : ((Vector Int 32))) => (some r5)))))))))
def tree_Root.r (K : Nat) : Nat → (List (Vector Int 32)) → Option ((Vector Int 32))
 | 0 => fun _ => none
 | k + 1 => tree_Root.b K (tree_Root.r K k)
def tree_Root.f (K : Nat) (x1 : (List (Vector Int 32))) : Option ((Vector Int 32)) := tree_Root.r K K x1
def proof_Path.b (K : Nat) (self : (List (Vector Int 32)) → Int → Option ((List (Vector Int 32)) × Bool)) (x1 : (List (Vector Int 32))) (x5 : Int) : Option ((List (Vector Int 32)) × Bool) :=
 (jn (fun (y1 : Bool) => (bif y1 then (some (([] : List (Vector Int 32)), false)) else (bif (decide (((List.length (x1) : Nat) : Int) = (1 : Int))) then (some (([] : List (Vector Int 32)), true)) else ((tree_Split.f K (((List.length (x1) : Nat) : Int))).bind fun (r1 : (Int)) => (bif (decide (x5 < r1)) then ((subI (x1) 0 r1).bind fun (l1 : (List (Vector Int 32))) => ((self (l1) (x5)).bind fun (r2 : ((List (Vector Int 32)) × Bool)) => ((subI (x1) r1 ((List.length (x1) : Nat) : Int)).bind fun (l2 : (List (Vector Int 32))) => ((tree_Root.f K (l2)).bind fun (r3 : ((Vector Int 32))) => ((catI 32 (r2.1) (([r3] : List (Vector Int 32)))).bind fun (l3 : (List (Vector Int 32))) => (some (l3, true))))))) else ((subI (x1) r1 ((List.length (x1) : Nat) : Int)).bind fun (l4 : (List (Vector Int 32))) => ((self (l4) ((IntKind.wrap .i64 (x5 - r1)))).bind fun (r4 : ((List (Vector Int 32)) × Bool)) => ((subI (x1) 0 r1).bind fun (l5 : (List (Vector Int 32))) => ((tree_Root.f K (l5)).bind fun (r5 : ((Vector Int 32))) => ((catI 32 (r4.1) (([r5] : List (Vector Int 32)))).bind fun (l6 : (List (Vector Int 32))) => (some (l6, true)))))))))))) (fun j1 => (bif (decide (x5 < (0 : Int))) then (j1 true) else (j1 (decide (((List.length (x1) : Nat) : Int) ≤ x5))))))
def proof_Path.r (K : Nat) : Nat → (List (Vector Int 32)) → Int → Option ((List (Vector Int 32)) × Bool)
 | 0 => fun _ _ => none
 | k + 1 => proof_Path.b K (proof_Path.r K k)
def proof_Path.f (K : Nat) (x1 : (List (Vector Int 32))) (x5 : Int) : Option ((List (Vector Int 32)) × Bool) := proof_Path.r K K x1 x5
def bundle_within.f (K : Nat) (x1 : Int) (x2 : Int) (x3 : Int) : Option (Bool) :=
 (bif (decide (x2 ≤ x1)) then (some (decide (x1 ≤ x3))) else (some false))
def bundle_point_1.f (K : Nat) (x1 : T_api_Sig) : Option (Bool) :=
 ((bundle_within.f K (x1.fWit) ((0 : Int)) ((3 : Int))).bind fun (r11 : (Bool)) => (some (!r11)))
def slices_IndexFunc_api_Sig_api_Sig_l1.b (K : Nat) (x1 : (List T_api_Sig)) (rec : Int → Option (Sum ((Int)) (Unit))) (y1 : Int) : Option (Sum ((Int)) (Unit)) :=
 (bif (decide (y1 < ((List.length (x1) : Nat) : Int))) then ((getI (x1) y1).bind fun (x2 : T_api_Sig) => ((bundle_point_1.f K (x2)).bind fun (r1 : (Bool)) => (bif r1 then (some (Sum.inl y1)) else (rec (IntKind.wrap .i64 (y1 + (1 : Int))))))) else (some (Sum.inr ())))
def slices_IndexFunc_api_Sig_api_Sig_l1.l (K : Nat) (x1 : (List T_api_Sig)) : Nat → (Int) → Option (Sum ((Int)) (Unit))
 | 0, _ => none
 | k + 1, y => slices_IndexFunc_api_Sig_api_Sig_l1.b K x1 (slices_IndexFunc_api_Sig_api_Sig_l1.l K x1 k) y
theorem slices_IndexFunc_api_Sig_api_Sig_l1.some {K : Nat} (x1 : (List T_api_Sig)) {k : Nat} {y : Int} {s : (Sum ((Int)) (Unit))} (h : slices_IndexFunc_api_Sig_api_Sig_l1.l K x1 k y = some s) : ∃ k', k = k' + 1 ∧ slices_IndexFunc_api_Sig_api_Sig_l1.b K x1 (slices_IndexFunc_api_Sig_api_Sig_l1.l K x1 k') y = some s := by
 cases k with
 | zero => cases h
 | succ k => exact ⟨k, rfl, h⟩
def slices_IndexFunc_api_Sig_api_Sig.f (K : Nat) (x1 : (List T_api_Sig)) : Option (Int) :=
 ((slices_IndexFunc_api_Sig_api_Sig_l1.l K x1 K (0 : Int)).bind fun s1 => (match s1 with | .inl u1 => some u1 | .inr u2 => (fun (z1 : Unit) => (some (-1 : Int))) u2))
def slices_ContainsFunc_api_Sig_api_Sig.f (K : Nat) (x1 : (List T_api_Sig)) : Option (Bool) :=
 ((slices_IndexFunc_api_Sig_api_Sig.f K (x1)).bind fun (r10 : (Int)) => (some (decide ((0 : Int) ≤ r10))))
def bundle_point.f (K : Nat) (x1 : T_api_Point) : Option (Bool) :=
 ((bundle_within.f K (x1.fSize) ((0 : Int)) ((400 : Int))).bind fun (r39 : (Bool)) => (bif r39 then (bif (decide (((List.length (x1.fSigs) : Nat) : Int) ≤ (4 : Int))) then ((slices_ContainsFunc_api_Sig_api_Sig.f K (x1.fSigs)).bind fun (r44 : (Bool)) => (some (!r44))) else (some false)) else (some false)))
def bundle_Right_l1.b (K : Nat) (x1 : T_api_Bundle) (rec : (Int × Int) → Option (Sum ((Bool)) (Unit))) (y1 : Int × Int) : Option (Sum ((Bool)) (Unit)) :=
 (bif (decide (y1.2 < ((List.length (x1.fItems) : Nat) : Int))) then ((getI (x1.fItems) y1.2).bind fun (x2 : T_api_Item) => (jn (fun (y2 : Bool) => (bif y2 then (some (Sum.inl false)) else (rec (x2.fAt, (IntKind.wrap .i64 (y1.2 + (1 : Int))))))) (fun j1 => ((rec_Right.f K (x2.fRec)).bind fun (r1 : (Bool)) => (bif (!r1) then (j1 true) else ((bundle_within.f K (x2.fAt) ((IntKind.wrap .i64 (y1.1 + (1 : Int)))) ((IntKind.wrap .i64 (x1.fPoint.fSize - (1 : Int))))).bind fun (r2 : (Bool)) => (bif (!r2) then (j1 true) else (bif (decide ((20 : Int) < ((List.length (x2.fPath) : Nat) : Int))) then (j1 true) else (bif x1.fWhole then (bif (!decide (x2.fAt = y1.2)) then (j1 true) else (j1 (decide ((0 : Int) < ((List.length (x2.fPath) : Nat) : Int))))) else (j1 false)))))))))) else (some (Sum.inr ())))
def bundle_Right_l1.l (K : Nat) (x1 : T_api_Bundle) : Nat → (Int × Int) → Option (Sum ((Bool)) (Unit))
 | 0, _ => none
 | k + 1, y => bundle_Right_l1.b K x1 (bundle_Right_l1.l K x1 k) y
theorem bundle_Right_l1.some {K : Nat} (x1 : T_api_Bundle) {k : Nat} {y : Int × Int} {s : (Sum ((Bool)) (Unit))} (h : bundle_Right_l1.l K x1 k y = some s) : ∃ k', k = k' + 1 ∧ bundle_Right_l1.b K x1 (bundle_Right_l1.l K x1 k') y = some s := by
 cases k with
 | zero => cases h
 | succ k => exact ⟨k, rfl, h⟩
def bundle_Right.f (K : Nat) (x1 : T_api_Bundle) : Option (Bool) :=
 (jn (fun (y1 : Bool) => (bif y1 then (some false) else ((bundle_Right_l1.l K x1 K ((-1 : Int), (0 : Int))).bind fun s1 => (match s1 with | .inl u1 => some u1 | .inr u2 => (fun (z1 : Unit) => (some true)) u2)))) (fun j1 => ((bundle_point.f K (x1.fPoint)).bind fun (r1 : (Bool)) => (bif (!r1) then (j1 true) else (bif (decide (x1.fPoint.fSize < ((List.length (x1.fItems) : Nat) : Int))) then (j1 true) else (bif x1.fWhole then (j1 (!decide (((List.length (x1.fItems) : Nat) : Int) = x1.fPoint.fSize))) else (j1 false)))))))
def export_made_l1.b (K : Nat) (x9 : (List T_api_Rec)) (x13 : T_api_Point) (x17 : Int) (x18 : Bool) (x19 : Int) (x20 : Int) (x21 : Int) (r1 : ((List (Vector Int 32)))) (rec : (Int × (List T_api_Item)) → Option (Sum ((List T_api_Item)) ((List T_api_Item)))) (y1 : Int × (List T_api_Item)) : Option (Sum ((List T_api_Item)) ((List T_api_Item))) :=
 (bif (decide (y1.1 < x19)) then (jn (fun (y2 : (List T_api_Item)) => (rec ((IntKind.wrap .i64 (y1.1 + (1 : Int))), y2))) (fun j1 => ((export_Range_1.f K (y1.1) (x20) (x21)).bind fun (r2 : (Bool)) => (bif r2 then (jn (fun (y3 : Bool) => (bif y3 then (some (Sum.inl y1.2)) else (jn (fun (y4 : T_api_Rec) => (jn (fun (y5 : (List (Vector Int 32))) => ((catI 256 (y1.2) (([(T_api_Item.mk (y1.1) (y4) (y5))] : List T_api_Item))).bind fun (l1 : (List T_api_Item)) => (j1 l1))) (fun j2 => (bif (!x18) then ((proof_Path.f K (r1) (y1.1)).bind fun (r3 : ((List (Vector Int 32)) × Bool)) => (j2 r3.1)) else (j2 ([] : List (Vector Int 32))))))) (fun j4 => ((getI (x9) y1.1).bind fun (x1 : T_api_Rec) => ((export_masked.f K (x1) (y1.1) (x17)).bind fun (r4 : (T_api_Rec)) => (j4 r4))))))) (fun j3 => (bif (decide (y1.1 < (0 : Int))) then (j3 true) else (j3 (decide (x13.fSize ≤ y1.1)))))) else (j1 y1.2))))) else (some (Sum.inr y1.2)))
def export_made_l1.l (K : Nat) (x9 : (List T_api_Rec)) (x13 : T_api_Point) (x17 : Int) (x18 : Bool) (x19 : Int) (x20 : Int) (x21 : Int) (r1 : ((List (Vector Int 32)))) : Nat → (Int × (List T_api_Item)) → Option (Sum ((List T_api_Item)) ((List T_api_Item)))
 | 0, _ => none
 | k + 1, y => export_made_l1.b K x9 x13 x17 x18 x19 x20 x21 r1 (export_made_l1.l K x9 x13 x17 x18 x19 x20 x21 r1 k) y
theorem export_made_l1.some {K : Nat} (x9 : (List T_api_Rec)) (x13 : T_api_Point) (x17 : Int) (x18 : Bool) (x19 : Int) (x20 : Int) (x21 : Int) (r1 : ((List (Vector Int 32)))) {k : Nat} {y : Int × (List T_api_Item)} {s : (Sum ((List T_api_Item)) ((List T_api_Item)))} (h : export_made_l1.l K x9 x13 x17 x18 x19 x20 x21 r1 k y = some s) : ∃ k', k = k' + 1 ∧ export_made_l1.b K x9 x13 x17 x18 x19 x20 x21 r1 (export_made_l1.l K x9 x13 x17 x18 x19 x20 x21 r1 k') y = some s := by
 cases k with
 | zero => cases h
 | succ k => exact ⟨k, rfl, h⟩
def export_made.f (K : Nat) (x9 : (List T_api_Rec)) (x13 : T_api_Point) (x17 : Int) (x18 : Bool) (x19 : Int) (x20 : Int) (x21 : Int) : Option (T_api_Bundle × Bool) :=
 (jn (fun (y2 : Bool) => (bif y2 then (some (z_T_api_Bundle, false)) else ((subI (x9) 0 x13.fSize).bind fun (l1 : (List T_api_Rec)) => ((export_Hashes.f K (l1)).bind fun (r1 : ((List (Vector Int 32)))) => (jn (fun (y1 : T_api_Point) => ((export_made_l1.l K x9 x13 x17 x18 x19 x20 x21 r1 K ((0 : Int), ([] : List T_api_Item))).bind fun s1 => (match s1 with | .inl u1 => (fun (z2 : (List T_api_Item)) => (some (z_T_api_Bundle, false))) u1 | .inr u2 => (fun (z1 : (List T_api_Item)) => ((bundle_Right.f K ((T_api_Bundle.mk (x18) (y1) (z1)))).bind fun (r2 : (Bool)) => (bif (!r2) then (some (z_T_api_Bundle, false)) else (some ((T_api_Bundle.mk (x18) (y1) (z1)), true))))) u2))) (fun j2 => ((slices_Clone_api_Sig_api_Sig.f K (x13.fSigs)).bind fun (r3 : ((List T_api_Sig))) => (j2 { x13 with fSigs := r3 })))))))) (fun j1 => ((export_right.f K (x9)).bind fun (r4 : (Bool)) => (bif (!r4) then (j1 true) else (bif (decide ((400 : Int) < ((List.length (x9) : Nat) : Int))) then (j1 true) else (bif (decide (x13.fSize < (0 : Int))) then (j1 true) else (j1 (decide (((List.length (x9) : Nat) : Int) < x13.fSize)))))))))
def export_Range.f (K : Nat) (x1 : (List T_api_Rec)) (x5 : T_api_Point) (x9 : Int) (x10 : Int) (x11 : Int) : Option (T_api_Bundle × Bool) :=
 ((export_those.f K ((minI (maxI (0 : Int) x5.fSize) ((List.length (x1) : Nat) : Int))) (x10) (x11)).bind fun (r94 : (Int)) => ((export_made.f K (x1) (x5) (x9) (false) (r94) (x10) (x11)).bind fun (r1 : (T_api_Bundle × Bool)) => (some (r1.1, r1.2))))
def export_those_v2.f (K : Nat) (x1 : Int) : Option (Int) :=
 (some x1)
def export_Whole_1.f (K : Nat) (x1 : Int) : Option (Bool) :=
 (some true)
def export_made_v2_l1.b (K : Nat) (x5 : (List T_api_Rec)) (x9 : T_api_Point) (x13 : Int) (x14 : Bool) (x15 : Int) (r1 : ((List (Vector Int 32)))) (rec : (Int × (List T_api_Item)) → Option (Sum ((List T_api_Item)) ((List T_api_Item)))) (y1 : Int × (List T_api_Item)) : Option (Sum ((List T_api_Item)) ((List T_api_Item))) :=
 (bif (decide (y1.1 < x15)) then (jn (fun (y2 : (List T_api_Item)) => (rec ((IntKind.wrap .i64 (y1.1 + (1 : Int))), y2))) (fun j1 => ((export_Whole_1.f K (y1.1)).bind fun (r2 : (Bool)) => (bif r2 then (jn (fun (y3 : Bool) => (bif y3 then (some (Sum.inl y1.2)) else (jn (fun (y4 : T_api_Rec) => (jn (fun (y5 : (List (Vector Int 32))) => ((catI 256 (y1.2) (([(T_api_Item.mk (y1.1) (y4) (y5))] : List T_api_Item))).bind fun (l1 : (List T_api_Item)) => (j1 l1))) (fun j2 => (bif (!x14) then ((proof_Path.f K (r1) (y1.1)).bind fun (r3 : ((List (Vector Int 32)) × Bool)) => (j2 r3.1)) else (j2 ([] : List (Vector Int 32))))))) (fun j4 => ((getI (x5) y1.1).bind fun (x1 : T_api_Rec) => ((export_masked.f K (x1) (y1.1) (x13)).bind fun (r4 : (T_api_Rec)) => (j4 r4))))))) (fun j3 => (bif (decide (y1.1 < (0 : Int))) then (j3 true) else (j3 (decide (x9.fSize ≤ y1.1)))))) else (j1 y1.2))))) else (some (Sum.inr y1.2)))
def export_made_v2_l1.l (K : Nat) (x5 : (List T_api_Rec)) (x9 : T_api_Point) (x13 : Int) (x14 : Bool) (x15 : Int) (r1 : ((List (Vector Int 32)))) : Nat → (Int × (List T_api_Item)) → Option (Sum ((List T_api_Item)) ((List T_api_Item)))
 | 0, _ => none
 | k + 1, y => export_made_v2_l1.b K x5 x9 x13 x14 x15 r1 (export_made_v2_l1.l K x5 x9 x13 x14 x15 r1 k) y
theorem export_made_v2_l1.some {K : Nat} (x5 : (List T_api_Rec)) (x9 : T_api_Point) (x13 : Int) (x14 : Bool) (x15 : Int) (r1 : ((List (Vector Int 32)))) {k : Nat} {y : Int × (List T_api_Item)} {s : (Sum ((List T_api_Item)) ((List T_api_Item)))} (h : export_made_v2_l1.l K x5 x9 x13 x14 x15 r1 k y = some s) : ∃ k', k = k' + 1 ∧ export_made_v2_l1.b K x5 x9 x13 x14 x15 r1 (export_made_v2_l1.l K x5 x9 x13 x14 x15 r1 k') y = some s := by
 cases k with
 | zero => cases h
 | succ k => exact ⟨k, rfl, h⟩
def export_made_v2.f (K : Nat) (x5 : (List T_api_Rec)) (x9 : T_api_Point) (x13 : Int) (x14 : Bool) (x15 : Int) : Option (T_api_Bundle × Bool) :=
 (jn (fun (y2 : Bool) => (bif y2 then (some (z_T_api_Bundle, false)) else ((subI (x5) 0 x9.fSize).bind fun (l1 : (List T_api_Rec)) => ((export_Hashes.f K (l1)).bind fun (r1 : ((List (Vector Int 32)))) => (jn (fun (y1 : T_api_Point) => ((export_made_v2_l1.l K x5 x9 x13 x14 x15 r1 K ((0 : Int), ([] : List T_api_Item))).bind fun s1 => (match s1 with | .inl u1 => (fun (z2 : (List T_api_Item)) => (some (z_T_api_Bundle, false))) u1 | .inr u2 => (fun (z1 : (List T_api_Item)) => ((bundle_Right.f K ((T_api_Bundle.mk (x14) (y1) (z1)))).bind fun (r2 : (Bool)) => (bif (!r2) then (some (z_T_api_Bundle, false)) else (some ((T_api_Bundle.mk (x14) (y1) (z1)), true))))) u2))) (fun j2 => ((slices_Clone_api_Sig_api_Sig.f K (x9.fSigs)).bind fun (r3 : ((List T_api_Sig))) => (j2 { x9 with fSigs := r3 })))))))) (fun j1 => ((export_right.f K (x5)).bind fun (r4 : (Bool)) => (bif (!r4) then (j1 true) else (bif (decide ((400 : Int) < ((List.length (x5) : Nat) : Int))) then (j1 true) else (bif (decide (x9.fSize < (0 : Int))) then (j1 true) else (j1 (decide (((List.length (x5) : Nat) : Int) < x9.fSize)))))))))
def export_Whole.f (K : Nat) (x1 : (List T_api_Rec)) (x5 : T_api_Point) (x9 : Int) : Option (T_api_Bundle × Bool) :=
 ((export_those_v2.f K ((maxI (0 : Int) x5.fSize))).bind fun (r84 : (Int)) => ((export_made_v2.f K (x1) (x5) (x9) (true) (r84)).bind fun (r93 : (T_api_Bundle × Bool)) => (some (r93.1, r93.2))))
def export_those_v3.f (K : Nat) (x5 : Int) (x6 : (List T_api_Rec)) (x10 : Int) : Option (Int) :=
 (some x5)
def export_Saga_1.f (K : Nat) (x5 : Int) (x6 : (List T_api_Rec)) (x10 : Int) : Option (Bool) :=
 ((getI (x6) x5).bind fun (x1 : T_api_Rec) => (bif (!decide (x1.fKind = (6 : Int))) then ((getI (x6) x5).bind fun (x2 : T_api_Rec) => (some (decide (x2.fSaga = x10)))) else (some false)))
def export_made_v3_l1.b (K : Nat) (x9 : (List T_api_Rec)) (x13 : T_api_Point) (x17 : Int) (x18 : Bool) (x19 : Int) (x20 : (List T_api_Rec)) (x24 : Int) (r1 : ((List (Vector Int 32)))) (rec : (Int × (List T_api_Item)) → Option (Sum ((List T_api_Item)) ((List T_api_Item)))) (y1 : Int × (List T_api_Item)) : Option (Sum ((List T_api_Item)) ((List T_api_Item))) :=
 (bif (decide (y1.1 < x19)) then (jn (fun (y2 : (List T_api_Item)) => (rec ((IntKind.wrap .i64 (y1.1 + (1 : Int))), y2))) (fun j1 => ((export_Saga_1.f K (y1.1) (x20) (x24)).bind fun (r2 : (Bool)) => (bif r2 then (jn (fun (y3 : Bool) => (bif y3 then (some (Sum.inl y1.2)) else (jn (fun (y4 : T_api_Rec) => (jn (fun (y5 : (List (Vector Int 32))) => ((catI 256 (y1.2) (([(T_api_Item.mk (y1.1) (y4) (y5))] : List T_api_Item))).bind fun (l1 : (List T_api_Item)) => (j1 l1))) (fun j2 => (bif (!x18) then ((proof_Path.f K (r1) (y1.1)).bind fun (r3 : ((List (Vector Int 32)) × Bool)) => (j2 r3.1)) else (j2 ([] : List (Vector Int 32))))))) (fun j4 => ((getI (x9) y1.1).bind fun (x1 : T_api_Rec) => ((export_masked.f K (x1) (y1.1) (x17)).bind fun (r4 : (T_api_Rec)) => (j4 r4))))))) (fun j3 => (bif (decide (y1.1 < (0 : Int))) then (j3 true) else (j3 (decide (x13.fSize ≤ y1.1)))))) else (j1 y1.2))))) else (some (Sum.inr y1.2)))
def export_made_v3_l1.l (K : Nat) (x9 : (List T_api_Rec)) (x13 : T_api_Point) (x17 : Int) (x18 : Bool) (x19 : Int) (x20 : (List T_api_Rec)) (x24 : Int) (r1 : ((List (Vector Int 32)))) : Nat → (Int × (List T_api_Item)) → Option (Sum ((List T_api_Item)) ((List T_api_Item)))
 | 0, _ => none
 | k + 1, y => export_made_v3_l1.b K x9 x13 x17 x18 x19 x20 x24 r1 (export_made_v3_l1.l K x9 x13 x17 x18 x19 x20 x24 r1 k) y
theorem export_made_v3_l1.some {K : Nat} (x9 : (List T_api_Rec)) (x13 : T_api_Point) (x17 : Int) (x18 : Bool) (x19 : Int) (x20 : (List T_api_Rec)) (x24 : Int) (r1 : ((List (Vector Int 32)))) {k : Nat} {y : Int × (List T_api_Item)} {s : (Sum ((List T_api_Item)) ((List T_api_Item)))} (h : export_made_v3_l1.l K x9 x13 x17 x18 x19 x20 x24 r1 k y = some s) : ∃ k', k = k' + 1 ∧ export_made_v3_l1.b K x9 x13 x17 x18 x19 x20 x24 r1 (export_made_v3_l1.l K x9 x13 x17 x18 x19 x20 x24 r1 k') y = some s := by
 cases k with
 | zero => cases h
 | succ k => exact ⟨k, rfl, h⟩
def export_made_v3.f (K : Nat) (x9 : (List T_api_Rec)) (x13 : T_api_Point) (x17 : Int) (x18 : Bool) (x19 : Int) (x20 : (List T_api_Rec)) (x24 : Int) : Option (T_api_Bundle × Bool) :=
 (jn (fun (y2 : Bool) => (bif y2 then (some (z_T_api_Bundle, false)) else ((subI (x9) 0 x13.fSize).bind fun (l1 : (List T_api_Rec)) => ((export_Hashes.f K (l1)).bind fun (r1 : ((List (Vector Int 32)))) => (jn (fun (y1 : T_api_Point) => ((export_made_v3_l1.l K x9 x13 x17 x18 x19 x20 x24 r1 K ((0 : Int), ([] : List T_api_Item))).bind fun s1 => (match s1 with | .inl u1 => (fun (z2 : (List T_api_Item)) => (some (z_T_api_Bundle, false))) u1 | .inr u2 => (fun (z1 : (List T_api_Item)) => ((bundle_Right.f K ((T_api_Bundle.mk (x18) (y1) (z1)))).bind fun (r2 : (Bool)) => (bif (!r2) then (some (z_T_api_Bundle, false)) else (some ((T_api_Bundle.mk (x18) (y1) (z1)), true))))) u2))) (fun j2 => ((slices_Clone_api_Sig_api_Sig.f K (x13.fSigs)).bind fun (r3 : ((List T_api_Sig))) => (j2 { x13 with fSigs := r3 })))))))) (fun j1 => ((export_right.f K (x9)).bind fun (r4 : (Bool)) => (bif (!r4) then (j1 true) else (bif (decide ((400 : Int) < ((List.length (x9) : Nat) : Int))) then (j1 true) else (bif (decide (x13.fSize < (0 : Int))) then (j1 true) else (j1 (decide (((List.length (x9) : Nat) : Int) < x13.fSize)))))))))
def export_Saga.f (K : Nat) (x1 : (List T_api_Rec)) (x5 : T_api_Point) (x9 : Int) (x10 : Int) : Option (T_api_Bundle × Bool) :=
 ((export_those_v3.f K ((minI (maxI (0 : Int) x5.fSize) ((List.length (x1) : Nat) : Int))) (x1) (x10)).bind fun (r93 : (Int)) => ((export_made_v3.f K (x1) (x5) (x9) (false) (r93) (x1) (x10)).bind fun (r1 : (T_api_Bundle × Bool)) => (some (r1.1, r1.2))))
def slices_Values_int_int.f (K : Nat) (x1 : (List Int)) : Option ((List Int)) :=
 (some x1)
def export_made_v4_l1.b (K : Nat) (x3 : (List T_api_Rec)) (x7 : T_api_Point) (x11 : Int) (x12 : Bool) (x13 : (List Int)) (r1 : ((List (Vector Int 32)))) (rec : (Int × (List T_api_Item)) → Option (Sum ((List T_api_Item)) ((List T_api_Item)))) (y1 : Int × (List T_api_Item)) : Option (Sum ((List T_api_Item)) ((List T_api_Item))) :=
 (bif (decide (y1.1 < ((List.length (x13) : Nat) : Int))) then ((getI (x13) y1.1).bind fun (x1 : Int) => (jn (fun (y2 : Bool) => (bif y2 then (some (Sum.inl y1.2)) else (jn (fun (y3 : T_api_Rec) => (jn (fun (y4 : (List (Vector Int 32))) => ((catI 256 (y1.2) (([(T_api_Item.mk (x1) (y3) (y4))] : List T_api_Item))).bind fun (l1 : (List T_api_Item)) => (rec ((IntKind.wrap .i64 (y1.1 + (1 : Int))), l1)))) (fun j1 => (bif (!x12) then ((proof_Path.f K (r1) (x1)).bind fun (r2 : ((List (Vector Int 32)) × Bool)) => (j1 r2.1)) else (j1 ([] : List (Vector Int 32))))))) (fun j3 => ((getI (x3) x1).bind fun (x2 : T_api_Rec) => ((export_masked.f K (x2) (x1) (x11)).bind fun (r3 : (T_api_Rec)) => (j3 r3))))))) (fun j2 => (bif (decide (x1 < (0 : Int))) then (j2 true) else (j2 (decide (x7.fSize ≤ x1))))))) else (some (Sum.inr y1.2)))
def export_made_v4_l1.l (K : Nat) (x3 : (List T_api_Rec)) (x7 : T_api_Point) (x11 : Int) (x12 : Bool) (x13 : (List Int)) (r1 : ((List (Vector Int 32)))) : Nat → (Int × (List T_api_Item)) → Option (Sum ((List T_api_Item)) ((List T_api_Item)))
 | 0, _ => none
 | k + 1, y => export_made_v4_l1.b K x3 x7 x11 x12 x13 r1 (export_made_v4_l1.l K x3 x7 x11 x12 x13 r1 k) y
theorem export_made_v4_l1.some {K : Nat} (x3 : (List T_api_Rec)) (x7 : T_api_Point) (x11 : Int) (x12 : Bool) (x13 : (List Int)) (r1 : ((List (Vector Int 32)))) {k : Nat} {y : Int × (List T_api_Item)} {s : (Sum ((List T_api_Item)) ((List T_api_Item)))} (h : export_made_v4_l1.l K x3 x7 x11 x12 x13 r1 k y = some s) : ∃ k', k = k' + 1 ∧ export_made_v4_l1.b K x3 x7 x11 x12 x13 r1 (export_made_v4_l1.l K x3 x7 x11 x12 x13 r1 k') y = some s := by
 cases k with
 | zero => cases h
 | succ k => exact ⟨k, rfl, h⟩
def export_made_v4.f (K : Nat) (x3 : (List T_api_Rec)) (x7 : T_api_Point) (x11 : Int) (x12 : Bool) (x13 : (List Int)) : Option (T_api_Bundle × Bool) :=
 (jn (fun (y2 : Bool) => (bif y2 then (some (z_T_api_Bundle, false)) else ((subI (x3) 0 x7.fSize).bind fun (l1 : (List T_api_Rec)) => ((export_Hashes.f K (l1)).bind fun (r1 : ((List (Vector Int 32)))) => (jn (fun (y1 : T_api_Point) => ((export_made_v4_l1.l K x3 x7 x11 x12 x13 r1 K ((0 : Int), ([] : List T_api_Item))).bind fun s1 => (match s1 with | .inl u1 => (fun (z2 : (List T_api_Item)) => (some (z_T_api_Bundle, false))) u1 | .inr u2 => (fun (z1 : (List T_api_Item)) => ((bundle_Right.f K ((T_api_Bundle.mk (x12) (y1) (z1)))).bind fun (r2 : (Bool)) => (bif (!r2) then (some (z_T_api_Bundle, false)) else (some ((T_api_Bundle.mk (x12) (y1) (z1)), true))))) u2))) (fun j2 => ((slices_Clone_api_Sig_api_Sig.f K (x7.fSigs)).bind fun (r3 : ((List T_api_Sig))) => (j2 { x7 with fSigs := r3 })))))))) (fun j1 => ((export_right.f K (x3)).bind fun (r4 : (Bool)) => (bif (!r4) then (j1 true) else (bif (decide ((400 : Int) < ((List.length (x3) : Nat) : Int))) then (j1 true) else (bif (decide (x7.fSize < (0 : Int))) then (j1 true) else (j1 (decide (((List.length (x3) : Nat) : Int) < x7.fSize)))))))))
def export_Some.f (K : Nat) (x1 : (List T_api_Rec)) (x5 : T_api_Point) (x9 : Int) (x10 : (List Int)) : Option (T_api_Bundle × Bool) :=
 ((slices_Values_int_int.f K (x10)).bind fun (r91 : ((List Int))) => ((export_made_v4.f K (x1) (x5) (x9) (false) (r91)).bind fun (r1 : (T_api_Bundle × Bool)) => (some (r1.1, r1.2))))
def inspeximuslaw18_alive.f (K : Nat) : Option (Bool) :=
 ((some { z_T_api_Point with fSize := (4 : Int) }).bind fun (v1 : T_api_Point) => ((export_Range.f K (([{ z_T_api_Rec with fKind := (1 : Int), fSteps := ([(T_api_Step.mk ((0 : Int)) ((1 : Int)))] : List T_api_Step), fData := ([(97 : Int)] : List Int) }, { z_T_api_Rec with fKind := (2 : Int), fSeq := (1 : Int), fTry := (1 : Int) }, { z_T_api_Rec with fKind := (6 : Int), fEpoch := (1 : Int) }, { z_T_api_Rec with fKind := (4 : Int), fSeq := (2 : Int), fTry := (1 : Int) }] : List T_api_Rec)) (v1) ((0 : Int)) ((1 : Int)) ((3 : Int))).bind fun (r2 : (T_api_Bundle × Bool)) => ((export_Whole.f K (([{ z_T_api_Rec with fKind := (1 : Int), fSteps := ([(T_api_Step.mk ((0 : Int)) ((1 : Int)))] : List T_api_Step), fData := ([(97 : Int)] : List Int) }, { z_T_api_Rec with fKind := (2 : Int), fSeq := (1 : Int), fTry := (1 : Int) }, { z_T_api_Rec with fKind := (6 : Int), fEpoch := (1 : Int) }, { z_T_api_Rec with fKind := (4 : Int), fSeq := (2 : Int), fTry := (1 : Int) }] : List T_api_Rec)) (v1) ((1 : Int))).bind fun (r3 : (T_api_Bundle × Bool)) => ((export_Saga.f K (([{ z_T_api_Rec with fKind := (1 : Int), fSteps := ([(T_api_Step.mk ((0 : Int)) ((1 : Int)))] : List T_api_Step), fData := ([(97 : Int)] : List Int) }, { z_T_api_Rec with fKind := (2 : Int), fSeq := (1 : Int), fTry := (1 : Int) }, { z_T_api_Rec with fKind := (6 : Int), fEpoch := (1 : Int) }, { z_T_api_Rec with fKind := (4 : Int), fSeq := (2 : Int), fTry := (1 : Int) }] : List T_api_Rec)) (v1) ((0 : Int)) ((0 : Int))).bind fun (r1 : (T_api_Bundle × Bool)) => ((export_Some.f K (([{ z_T_api_Rec with fKind := (1 : Int), fSteps := ([(T_api_Step.mk ((0 : Int)) ((1 : Int)))] : List T_api_Step), fData := ([(97 : Int)] : List Int) }, { z_T_api_Rec with fKind := (2 : Int), fSeq := (1 : Int), fTry := (1 : Int) }, { z_T_api_Rec with fKind := (6 : Int), fEpoch := (1 : Int) }, { z_T_api_Rec with fKind := (4 : Int), fSeq := (2 : Int), fTry := (1 : Int) }] : List T_api_Rec)) (v1) ((0 : Int)) (([(1 : Int), (1 : Int)] : List Int))).bind fun (r4 : (T_api_Bundle × Bool)) => (jn (fun (y1 : Bool) => (some y1)) (fun j1 => (bif r2.2 then (bif r3.2 then (bif r1.2 then (bif (!r4.2) then (bif (decide (((List.length (r2.1.fItems) : Nat) : Int) = (2 : Int))) then ((getI (r2.1.fItems) (0 : Int)).bind fun (x1 : T_api_Item) => (bif (decide (x1.fAt = (1 : Int))) then (bif (decide (((List.length (r3.1.fItems) : Nat) : Int) = (4 : Int))) then ((getI (r3.1.fItems) (0 : Int)).bind fun (x2 : T_api_Item) => (bif x2.fRec.fGone then (bif (decide (((List.length (r1.1.fItems) : Nat) : Int) = (3 : Int))) then ((getI (r1.1.fItems) (0 : Int)).bind fun (x3 : T_api_Item) => (bif (!x3.fRec.fGone) then ((getI (r1.1.fItems) (2 : Int)).bind fun (x4 : T_api_Item) => (bif (decide (((List.length (x4.fPath) : Nat) : Int) = (2 : Int))) then ((export_Hashes.f K (([{ z_T_api_Rec with fKind := (1 : Int), fSteps := ([(T_api_Step.mk ((0 : Int)) ((1 : Int)))] : List T_api_Step), fData := ([(97 : Int)] : List Int) }, { z_T_api_Rec with fKind := (2 : Int), fSeq := (1 : Int), fTry := (1 : Int) }, { z_T_api_Rec with fKind := (6 : Int), fEpoch := (1 : Int) }, { z_T_api_Rec with fKind := (4 : Int), fSeq := (2 : Int), fTry := (1 : Int) }] : List T_api_Rec))).bind fun (r5 : ((List (Vector Int 32)))) => (j1 (decide (((List.length (r5) : Nat) : Int) = (4 : Int))))) else (j1 false))) else (j1 false))) else (j1 false)) else (j1 false))) else (j1 false)) else (j1 false))) else (j1 false)) else (j1 false)) else (j1 false)) else (j1 false)) else (j1 false)))))))))
def inspeximusref04_Great.f (K : Nat) (x1 : T_api_Rec) : Option (Bool) :=
 (bif (decide ((30 : Int) < ((List.length (x1.fSteps) : Nat) : Int))) then (some true) else (some (decide ((300 : Int) < ((List.length (x1.fData) : Nat) : Int)))))
def inspeximusref12_Great_l1.b (K : Nat) (x1 : (List T_api_Rec)) (rec : Int → Option (Sum ((Bool)) (Unit))) (y1 : Int) : Option (Sum ((Bool)) (Unit)) :=
 (bif (decide (y1 < ((List.length (x1) : Nat) : Int))) then ((getI (x1) y1).bind fun (x2 : T_api_Rec) => ((inspeximusref04_Great.f K (x2)).bind fun (r1 : (Bool)) => (bif r1 then (some (Sum.inl true)) else (rec (IntKind.wrap .i64 (y1 + (1 : Int))))))) else (some (Sum.inr ())))
def inspeximusref12_Great_l1.l (K : Nat) (x1 : (List T_api_Rec)) : Nat → (Int) → Option (Sum ((Bool)) (Unit))
 | 0, _ => none
 | k + 1, y => inspeximusref12_Great_l1.b K x1 (inspeximusref12_Great_l1.l K x1 k) y
theorem inspeximusref12_Great_l1.some {K : Nat} (x1 : (List T_api_Rec)) {k : Nat} {y : Int} {s : (Sum ((Bool)) (Unit))} (h : inspeximusref12_Great_l1.l K x1 k y = some s) : ∃ k', k = k' + 1 ∧ inspeximusref12_Great_l1.b K x1 (inspeximusref12_Great_l1.l K x1 k') y = some s := by
 cases k with
 | zero => cases h
 | succ k => exact ⟨k, rfl, h⟩
def inspeximusref12_Great.f (K : Nat) (x1 : (List T_api_Rec)) : Option (Bool) :=
 (bif (decide ((150 : Int) < ((List.length (x1) : Nat) : Int))) then (some true) else ((inspeximusref12_Great_l1.l K x1 K (0 : Int)).bind fun s1 => (match s1 with | .inl u1 => some u1 | .inr u2 => (fun (z1 : Unit) => (some false)) u2)))
def inspeximuslaw18_few.f (K : Nat) (x1 : (List T_api_Rec)) (x5 : T_api_Point) : Option (Bool) :=
 ((inspeximusref12_Great.f K (x1)).bind fun (r28 : (Bool)) => (bif (!r28) then (bif (decide (((List.length (x1) : Nat) : Int) ≤ (50 : Int))) then (some (decide (((List.length (x5.fSigs) : Nat) : Int) ≤ (20 : Int)))) else (some false)) else (some false)))
def proof_taken_2.f (K : Nat) (x5 : Int) (x6 : (List (Vector Int 32))) : Option ((Vector Int 32) × Int) :=
 (bif (decide (x5 = (0 : Int))) then none else ((getI (x6) (IntKind.wrap .i64 (x5 - (1 : Int)))).bind fun (x33 : (Vector Int 32)) => (some (x33, (IntKind.wrap .i64 (x5 - (1 : Int)))))))
def proof_Comes_1_1.b (K : Nat) (self : Int → Int → (Vector Int 32) → Int → (List (Vector Int 32)) → Option ((Vector Int 32) × Int)) (x11 : Int) (x12 : Int) (x13 : (Vector Int 32)) (x14 : Int) (x15 : (List (Vector Int 32))) : Option ((Vector Int 32) × Int) :=
 (bif (decide (x12 = (1 : Int))) then (some (x13, x14)) else (jn (fun (y1 : Int × (Vector Int 32) × Int) => (bif (decide (x11 < y1.1)) then ((self (x11) (y1.1) (x13) (y1.2.2) (x15)).bind fun (r1 : ((Vector Int 32) × Int)) => ((tree_Node.f K (r1.1) (y1.2.1)).bind fun (r4 : ((Vector Int 32))) => (some (r4, r1.2)))) else ((self ((IntKind.wrap .i64 (x11 - y1.1))) ((IntKind.wrap .i64 (x12 - y1.1))) (x13) (y1.2.2) (x15)).bind fun (r2 : ((Vector Int 32) × Int)) => ((tree_Node.f K (y1.2.1) (r2.1)).bind fun (r5 : ((Vector Int 32))) => (some (r5, r2.2)))))) (fun j1 => ((tree_Split.f K (x12)).bind fun (r6 : (Int)) => ((proof_taken_2.f K (x14) (x15)).bind fun (r3 : ((Vector Int 32) × Int)) => (j1 (r6, r3.1, r3.2)))))))
def proof_Comes_1_1.r (K : Nat) : Nat → Int → Int → (Vector Int 32) → Int → (List (Vector Int 32)) → Option ((Vector Int 32) × Int)
 | 0 => fun _ _ _ _ _ => none
 | k + 1 => proof_Comes_1_1.b K (proof_Comes_1_1.r K k)
def proof_Comes_1_1.f (K : Nat) (x11 : Int) (x12 : Int) (x13 : (Vector Int 32)) (x14 : Int) (x15 : (List (Vector Int 32))) : Option ((Vector Int 32) × Int) := proof_Comes_1_1.r K K x11 x12 x13 x14 x15
def proof_Comes_1.f (K : Nat) (x13 : Int) (x14 : (List (Vector Int 32))) (x18 : (Vector Int 32)) (x19 : Int) (x20 : Int) (x21 : (Vector Int 32)) : Option (Int × (Vector Int 32)) :=
 ((proof_Comes_1_1.f K (x19) (x20) (x18) (x13) (x14)).bind fun (r35 : ((Vector Int 32) × Int)) => (some (r35.2, r35.1)))
def proof_taken.f (K : Nat) (x9 : (List (Vector Int 32))) (x13 : (Vector Int 32)) (x14 : Int) (x15 : Int) (x16 : (Vector Int 32)) : Option (Bool × (Vector Int 32)) :=
 ((proof_Comes_1.f K (((List.length (x9) : Nat) : Int)) (x9) (x13) (x14) (x15) (x16)).bind fun (r34 : (Int × (Vector Int 32))) => (some ((decide (r34.1 = (0 : Int))), r34.2)))
def proof_Comes.f (K : Nat) (x1 : (Vector Int 32)) (x2 : Int) (x3 : Int) (x4 : (List (Vector Int 32))) : Option ((Vector Int 32) × Bool) :=
 (jn (fun (y46 : Bool) => (bif y46 then (some ((vofL 32 [(0 : Int), (0 : Int), (0 : Int), (0 : Int), (0 : Int), (0 : Int), (0 : Int), (0 : Int), (0 : Int), (0 : Int), (0 : Int), (0 : Int), (0 : Int), (0 : Int), (0 : Int), (0 : Int), (0 : Int), (0 : Int), (0 : Int), (0 : Int), (0 : Int), (0 : Int), (0 : Int), (0 : Int), (0 : Int), (0 : Int), (0 : Int), (0 : Int), (0 : Int), (0 : Int), (0 : Int), (0 : Int)]), false)) else ((proof_taken.f K (x4) (x1) (x2) (x3) ((Vector.replicate 32 (0 : Int)))).bind fun (r51 : (Bool × (Vector Int 32))) => (bif (!r51.1) then (some ((vofL 32 [(0 : Int), (0 : Int), (0 : Int), (0 : Int), (0 : Int), (0 : Int), (0 : Int), (0 : Int), (0 : Int), (0 : Int), (0 : Int), (0 : Int), (0 : Int), (0 : Int), (0 : Int), (0 : Int), (0 : Int), (0 : Int), (0 : Int), (0 : Int), (0 : Int), (0 : Int), (0 : Int), (0 : Int), (0 : Int), (0 : Int), (0 : Int), (0 : Int), (0 : Int), (0 : Int), (0 : Int), (0 : Int)]), false)) else (some (r51.2, true)))))) (fun j56 => (bif (decide (x2 < (0 : Int))) then (j56 true) else (bif (decide (x3 ≤ x2)) then (j56 true) else (j56 (decide ((1048576 : Int) < x3)))))))
def mac_Equal_1.f (K : Nat) (x7 : Int) (x8 : Int) (x9 : (Vector Int 32)) (x10 : (Vector Int 32)) : Option (Int) :=
 (chk (inA 32 x7) (chk (inA 32 x7) (some (bor .u8 x8 (bxor .u8 (vget (x9) (Int.toNat (x7))) (vget (x10) (Int.toNat (x7))))))))
def mac_Equal_l1.b (K : Nat) (x1 : (Vector Int 32)) (x2 : (Vector Int 32)) (rec : (Int × Int) → Option (Int)) (y1 : Int × Int) : Option (Int) :=
 (bif (decide (y1.1 < (32 : Int))) then ((mac_Equal_1.f K (y1.1) (y1.2) (x1) (x2)).bind fun (r1 : (Int)) => (rec ((IntKind.wrap .i64 (y1.1 + (1 : Int))), r1))) else (some y1.2))
def mac_Equal_l1.l (K : Nat) (x1 : (Vector Int 32)) (x2 : (Vector Int 32)) : Nat → (Int × Int) → Option (Int)
 | 0, _ => none
 | k + 1, y => mac_Equal_l1.b K x1 x2 (mac_Equal_l1.l K x1 x2 k) y
theorem mac_Equal_l1.some {K : Nat} (x1 : (Vector Int 32)) (x2 : (Vector Int 32)) {k : Nat} {y : Int × Int} {s : (Int)} (h : mac_Equal_l1.l K x1 x2 k y = some s) : ∃ k', k = k' + 1 ∧ mac_Equal_l1.b K x1 x2 (mac_Equal_l1.l K x1 x2 k') y = some s := by
 cases k with
 | zero => cases h
 | succ k => exact ⟨k, rfl, h⟩
def mac_Equal.f (K : Nat) (x1 : (Vector Int 32)) (x2 : (Vector Int 32)) : Option (Bool) :=
 ((mac_Equal_l1.l K x1 x2 K ((0 : Int), (0 : Int))).bind fun (z1 : Int) => (some (decide (z1 = (0 : Int)))))
def proof_In.f (K : Nat) (x1 : (Vector Int 32)) (x2 : Int) (x3 : Int) (x4 : (List (Vector Int 32))) (x8 : (Vector Int 32)) : Option (Bool) :=
 ((proof_Comes.f K (x1) (x2) (x3) (x4)).bind fun (r34 : ((Vector Int 32) × Bool)) => (bif r34.2 then ((mac_Equal.f K (r34.1) (x8)).bind fun (r46 : (Bool)) => (some r46)) else (some false)))
def inspeximuslaw18_ExportPaths_l1.b (K : Nat) (x1 : (List T_api_Rec)) (x5 : T_api_Point) (r1 : (T_api_Bundle × Bool)) (r2 : ((Vector Int 32))) (rec : Int → Option (Sum ((Bool)) (Unit))) (y1 : Int) : Option (Sum ((Bool)) (Unit)) :=
 (bif (decide (y1 < ((List.length (r1.1.fItems) : Nat) : Int))) then ((getI (r1.1.fItems) y1).bind fun (x2 : T_api_Item) => (jn (fun (y2 : Bool) => (bif y2 then (some (Sum.inl false)) else (rec (IntKind.wrap .i64 (y1 + (1 : Int)))))) (fun j1 => ((rec_Sealed.f K (x2.fRec)).bind fun (r3 : ((List Int))) => ((tree_Leaf.f K (r3)).bind fun (r4 : ((Vector Int 32))) => ((proof_In.f K (r4) (x2.fAt) (x5.fSize) (x2.fPath) (r2)).bind fun (r5 : (Bool)) => (bif (!r5) then (j1 true) else ((getI (x1) x2.fAt).bind fun (x3 : T_api_Rec) => ((rec_Redact.f K (x2.fRec)).bind fun (r6 : (T_api_Rec)) => ((rec_Redact.f K (x3)).bind fun (r7 : (T_api_Rec)) => ((rec_Same.f K (r6) (r7)).bind fun (r8 : (Bool)) => (j1 (!r8))))))))))))) else (some (Sum.inr ())))
def inspeximuslaw18_ExportPaths_l1.l (K : Nat) (x1 : (List T_api_Rec)) (x5 : T_api_Point) (r1 : (T_api_Bundle × Bool)) (r2 : ((Vector Int 32))) : Nat → (Int) → Option (Sum ((Bool)) (Unit))
 | 0, _ => none
 | k + 1, y => inspeximuslaw18_ExportPaths_l1.b K x1 x5 r1 r2 (inspeximuslaw18_ExportPaths_l1.l K x1 x5 r1 r2 k) y
theorem inspeximuslaw18_ExportPaths_l1.some {K : Nat} (x1 : (List T_api_Rec)) (x5 : T_api_Point) (r1 : (T_api_Bundle × Bool)) (r2 : ((Vector Int 32))) {k : Nat} {y : Int} {s : (Sum ((Bool)) (Unit))} (h : inspeximuslaw18_ExportPaths_l1.l K x1 x5 r1 r2 k y = some s) : ∃ k', k = k' + 1 ∧ inspeximuslaw18_ExportPaths_l1.b K x1 x5 r1 r2 (inspeximuslaw18_ExportPaths_l1.l K x1 x5 r1 r2 k') y = some s := by
 cases k with
 | zero => cases h
 | succ k => exact ⟨k, rfl, h⟩
def inspeximuslaw18_ExportPaths.f (K : Nat) (x1 : (List T_api_Rec)) (x5 : T_api_Point) (x9 : Int) (x10 : Int) (x11 : Int) : Option (Bool) :=
 ((inspeximuslaw18_alive.f K).bind fun (r2 : (Bool)) => (bif (!r2) then (some false) else ((inspeximuslaw18_few.f K (x1) (x5)).bind fun (r3 : (Bool)) => (bif (!r3) then (some true) else ((export_Range.f K (x1) (x5) (x9) (x10) (x11)).bind fun (r1 : (T_api_Bundle × Bool)) => (bif (!r1.2) then (some (decide (((List.length (r1.1.fItems) : Nat) : Int) = (0 : Int)))) else ((subI (x1) 0 x5.fSize).bind fun (l1 : (List T_api_Rec)) => ((export_Hashes.f K (l1)).bind fun (r4 : ((List (Vector Int 32)))) => ((tree_Root.f K (r4)).bind fun (r5 : ((Vector Int 32))) => ((inspeximuslaw18_ExportPaths_l1.l K x1 x5 r1 r5 K (0 : Int)).bind fun s1 => (match s1 with | .inl u1 => some u1 | .inr u2 => (fun (z1 : Unit) => (some true)) u2)))))))))))
end Go.Proofs.YtjgaokcplofimaaDoor
