/-
 Data and plain functions, printed by a program: what the functions of the cut compute (fuel K; none: a panic, or the fuel is spent).
 Conditions: none; nothing is claimed here.
-/
import Derived.Test.YtlcnliiampfigaaDoorSepQ
set_option linter.unusedVariables false
namespace Go.Proofs.YtlcnliiampfigaaDoor
open Go Go.Sep
def gl_First : Vector Int 8 := vofL 8 [1779033703, 3144134277, 1013904242, 2773480762, 1359893119, 2600822924, 528734635, 1541459225]
def gl_K : Vector Int 64 := vofL 64 [1116352408, 1899447441, 3049323471, 3921009573, 961987163, 1508970993, 2453635748, 2870763221, 3624381080, 310598401, 607225278, 1426881987, 1925078388, 2162078206, 2614888103, 3248222580, 3835390401, 4022224774, 264347078, 604807628, 770255983, 1249150122, 1555081692, 1996064986, 2554220882, 2821834349, 2952996808, 3210313671, 3336571891, 3584528711, 113926993, 338241895, 666307205, 773529912, 1294757372, 1396182291, 1695183700, 1986661051, 2177026350, 2456956037, 2730485921, 2820302411, 3259730800, 3345764771, 3516065817, 3600352804, 4094571909, 275423344, 430227734, 506948616, 659060556, 883997877, 958139571, 1322822218, 1537002063, 1747873779, 1955562222, 2024104815, 2227730452, 2361852424, 2428436474, 2756734187, 3204031479, 3329325298]
structure T_api_Step where
 fPart : Int
 fKind : Int
 deriving DecidableEq
@[reducible] def c_T_api_Step (x : T_api_Step) : List Value :=
 [.int .i64 (x.fPart)] ++ ([.int .i64 (x.fKind)])
@[reducible] def kd_T_api_Step : Kd T_api_Step := kdMap (fun x => (x.fPart, x.fKind)) (kdPair (kdInt .i64) (kdInt .i64))
theorem kd_T_api_Step_mk {D : Snap} {x : T_api_Step} {ce0 ce1 : List Value} (he0 : (kdInt .i64).r D x.fPart ce0) (he1 : (kdInt .i64).r D x.fKind ce1) : kd_T_api_Step.r D x (ce0 ++ (ce1)) := ⟨_, _, rfl, he0, he1⟩
theorem kd_T_api_Step_el {D : Snap} {x : T_api_Step} {cs : List Value} (h : kd_T_api_Step.r D x cs) : cs = c_T_api_Step ((T_api_Step.mk (x.fPart) (x.fKind))) := by
 obtain ⟨c0, d0, rfl, he0, he1⟩ := h
 obtain rfl := he0
 obtain rfl := he1
 rfl
structure T_api_Rec where
 fKind : Int
 fSaga : Int
 fSeq : Int
 fStep : Int
 fTry : Int
 fBack : Bool
 fGood : Bool
 fEnd : Int
 fPart : Int
 fEpoch : Int
 fTag : (Vector Int 32)
 fSteps : (List T_api_Step)
 fData : (List Int)
 fSalt : (Vector Int 32)
 fGone : Bool
 fCom : (Vector Int 32)
 deriving DecidableEq
@[reducible] def z_T_api_Rec : T_api_Rec := ⟨(0 : Int), (0 : Int), (0 : Int), (0 : Int), (0 : Int), false, false, (0 : Int), (0 : Int), (0 : Int), (Vector.replicate 32 (0 : Int)), ([] : List T_api_Step), ([] : List Int), (Vector.replicate 32 (0 : Int)), false, (Vector.replicate 32 (0 : Int))⟩
@[reducible] def c_T_api_Rec (x : T_api_Rec) (A1 : Option Addr) (c2 : Nat) (A4 : Option Addr) (c5 : Nat) : List Value :=
 [.int .i64 (x.fKind)] ++ ([.int .i64 (x.fSaga)] ++ ([.int .i64 (x.fSeq)] ++ ([.int .i64 (x.fStep)] ++ ([.int .i64 (x.fTry)] ++ ([.bool (x.fBack)] ++ ([.bool (x.fGood)] ++ ([.int .i64 (x.fEnd)] ++ ([.int .i64 (x.fPart)] ++ ([.int .i64 (x.fEpoch)] ++ (acells .u8 32 (x.fTag) ++ ([.slice A1 (List.length (x.fSteps)) c2] ++ ([.slice A4 (List.length (x.fData)) c5] ++ (acells .u8 32 (x.fSalt) ++ ([.bool (x.fGone)] ++ (acells .u8 32 (x.fCom))))))))))))))))
@[reducible] def kd_T_api_Rec : Kd T_api_Rec := kdMap (fun x => (x.fKind, x.fSaga, x.fSeq, x.fStep, x.fTry, x.fBack, x.fGood, x.fEnd, x.fPart, x.fEpoch, x.fTag, x.fSteps, x.fData, x.fSalt, x.fGone, x.fCom)) (kdPair (kdInt .i64) (kdPair (kdInt .i64) (kdPair (kdInt .i64) (kdPair (kdInt .i64) (kdPair (kdInt .i64) (kdPair kdBool (kdPair kdBool (kdPair (kdInt .i64) (kdPair (kdInt .i64) (kdPair (kdInt .i64) (kdPair (kdArr .u8 32) (kdPair (kdSlice kd_T_api_Step) (kdPair (kdSlice (kdInt .u8)) (kdPair (kdArr .u8 32) (kdPair kdBool (kdArr .u8 32))))))))))))))))
theorem kd_T_api_Rec_mk {D : Snap} {x : T_api_Rec} {ce0 ce1 ce2 ce3 ce4 ce5 ce6 ce7 ce8 ce9 ce10 ce11 ce12 ce13 ce14 ce15 : List Value} (he0 : (kdInt .i64).r D x.fKind ce0) (he1 : (kdInt .i64).r D x.fSaga ce1) (he2 : (kdInt .i64).r D x.fSeq ce2) (he3 : (kdInt .i64).r D x.fStep ce3) (he4 : (kdInt .i64).r D x.fTry ce4) (he5 : kdBool.r D x.fBack ce5) (he6 : kdBool.r D x.fGood ce6) (he7 : (kdInt .i64).r D x.fEnd ce7) (he8 : (kdInt .i64).r D x.fPart ce8) (he9 : (kdInt .i64).r D x.fEpoch ce9) (he10 : (kdArr .u8 32).r D x.fTag ce10) (he11 : (kdSlice kd_T_api_Step).r D x.fSteps ce11) (he12 : (kdSlice (kdInt .u8)).r D x.fData ce12) (he13 : (kdArr .u8 32).r D x.fSalt ce13) (he14 : kdBool.r D x.fGone ce14) (he15 : (kdArr .u8 32).r D x.fCom ce15) : kd_T_api_Rec.r D x (ce0 ++ (ce1 ++ (ce2 ++ (ce3 ++ (ce4 ++ (ce5 ++ (ce6 ++ (ce7 ++ (ce8 ++ (ce9 ++ (ce10 ++ (ce11 ++ (ce12 ++ (ce13 ++ (ce14 ++ (ce15)))))))))))))))) := ⟨_, _, rfl, he0, ⟨_, _, rfl, he1, ⟨_, _, rfl, he2, ⟨_, _, rfl, he3, ⟨_, _, rfl, he4, ⟨_, _, rfl, he5, ⟨_, _, rfl, he6, ⟨_, _, rfl, he7, ⟨_, _, rfl, he8, ⟨_, _, rfl, he9, ⟨_, _, rfl, he10, ⟨_, _, rfl, he11, ⟨_, _, rfl, he12, ⟨_, _, rfl, he13, ⟨_, _, rfl, he14, he15⟩⟩⟩⟩⟩⟩⟩⟩⟩⟩⟩⟩⟩⟩⟩
theorem kd_T_api_Rec_el {D : Snap} {x : T_api_Rec} {cs : List Value} (h : kd_T_api_Rec.r D x cs) : ∃ (A7 : Option Addr), ∃ (c8 : Nat), ∃ (A10 : Option Addr), ∃ (c11 : Nat), cs = c_T_api_Rec ((T_api_Rec.mk (x.fKind) (x.fSaga) (x.fSeq) (x.fStep) (x.fTry) (x.fBack) (x.fGood) (x.fEnd) (x.fPart) (x.fEpoch) (x.fTag) (x.fSteps) (x.fData) (x.fSalt) (x.fGone) (x.fCom))) A7 c8 A10 c11 ∧ Sl kd_T_api_Step D A7 c8 (x.fSteps) ∧ Sl (kdInt .u8) D A10 c11 (x.fData) := by
 obtain ⟨c0, d0, rfl, he0, ⟨c1, d1, rfl, he1, ⟨c2, d2, rfl, he2, ⟨c3, d3, rfl, he3, ⟨c4, d4, rfl, he4, ⟨c5, d5, rfl, he5, ⟨c6, d6, rfl, he6, ⟨c7, d7, rfl, he7, ⟨c8, d8, rfl, he8, ⟨c9, d9, rfl, he9, ⟨c10, d10, rfl, he10, ⟨c11, d11, rfl, he11, ⟨c12, d12, rfl, he12, ⟨c13, d13, rfl, he13, ⟨c14, d14, rfl, he14, he15⟩⟩⟩⟩⟩⟩⟩⟩⟩⟩⟩⟩⟩⟩⟩ := h
 obtain rfl := he0
 obtain rfl := he1
 obtain rfl := he2
 obtain rfl := he3
 obtain rfl := he4
 obtain rfl := he5
 obtain rfl := he6
 obtain rfl := he7
 obtain rfl := he8
 obtain rfl := he9
 obtain rfl := he10
 obtain ⟨A7, c8, rfl, h9⟩ := he11
 obtain ⟨A10, c11, rfl, h12⟩ := he12
 obtain rfl := he13
 obtain rfl := he14
 obtain rfl := he15
 exact ⟨A7, c8, A10, c11, rfl, h9, h12⟩
structure T_rec_plain where
 fKind : Int
 fSaga : Int
 fSeq : Int
 fStep : Int
 fTry : Int
 fBack : Bool
 fGood : Bool
 fGone : Bool
 fEnd : Int
 fPart : Int
 fEpoch : Int
 deriving DecidableEq
@[reducible] def z_T_rec_plain : T_rec_plain := ⟨(0 : Int), (0 : Int), (0 : Int), (0 : Int), (0 : Int), false, false, false, (0 : Int), (0 : Int), (0 : Int)⟩
@[reducible] def c_T_rec_plain (x : T_rec_plain) : List Value :=
 [.int .i64 (x.fKind)] ++ ([.int .i64 (x.fSaga)] ++ ([.int .i64 (x.fSeq)] ++ ([.int .i64 (x.fStep)] ++ ([.int .i64 (x.fTry)] ++ ([.bool (x.fBack)] ++ ([.bool (x.fGood)] ++ ([.bool (x.fGone)] ++ ([.int .i64 (x.fEnd)] ++ ([.int .i64 (x.fPart)] ++ ([.int .i64 (x.fEpoch)]))))))))))
structure T_wire_Reader where
 fB : (List Int)
 fBad : Int
 deriving DecidableEq
@[reducible] def c_T_wire_Reader (x : T_wire_Reader) (A13 : Option Addr) (c14 : Nat) : List Value :=
 [.slice A13 (List.length (x.fB)) c14] ++ ([.int .i64 (x.fBad)])
def rec_within.f (K : Nat) (x1 : Int) (x2 : Int) (x3 : Int) : Option (Bool) :=
 (bif (decide (x2 ≤ x1)) then (some (decide (x1 ≤ x3))) else (some false))
def rec_ranges_1.f (K : Nat) (x1 : T_api_Step) : Option (Bool) :=
 ((rec_within.f K (x1.fPart) ((0 : Int)) ((3 : Int))).bind fun (r36 : (Bool)) => (bif (!r36) then (some true) else ((rec_within.f K (x1.fKind) ((1 : Int)) ((3 : Int))).bind fun (r41 : (Bool)) => (some (!r41)))))
def slices_IndexFunc_api_Step_api_Step_l1.b (K : Nat) (x1 : (List T_api_Step)) (rec : Int → Option (Sum ((Int)) (Unit))) (y423 : Int) : Option (Sum ((Int)) (Unit)) :=
 (bif (decide (y423 < ((List.length (x1) : Nat) : Int))) then ((getI (x1) y423).bind fun (x485 : T_api_Step) => ((rec_ranges_1.f K (x485)).bind fun (r497 : (Bool)) => (bif r497 then (some (Sum.inl y423)) else (rec (IntKind.wrap .i64 (y423 + (1 : Int))))))) else (some (Sum.inr ())))
def slices_IndexFunc_api_Step_api_Step_l1.l (K : Nat) (x1 : (List T_api_Step)) : Nat → (Int) → Option (Sum ((Int)) (Unit))
 | 0, _ => none
 | k + 1, y => slices_IndexFunc_api_Step_api_Step_l1.b K x1 (slices_IndexFunc_api_Step_api_Step_l1.l K x1 k) y
theorem slices_IndexFunc_api_Step_api_Step_l1.some {K : Nat} (x1 : (List T_api_Step)) {k : Nat} {y : Int} {s : (Sum ((Int)) (Unit))} (h : slices_IndexFunc_api_Step_api_Step_l1.l K x1 k y = some s) : ∃ k', k = k' + 1 ∧ slices_IndexFunc_api_Step_api_Step_l1.b K x1 (slices_IndexFunc_api_Step_api_Step_l1.l K x1 k') y = some s := by
 cases k with
 | zero => cases h
 | succ k => exact ⟨k, rfl, h⟩
def slices_IndexFunc_api_Step_api_Step.f (K : Nat) (x1 : (List T_api_Step)) : Option (Int) :=
 ((slices_IndexFunc_api_Step_api_Step_l1.l K x1 K (0 : Int)).bind fun s502 => (match s502 with | .inl u503 => some u503 | .inr u504 => (fun (z463 : Unit) => (some (-1 : Int))) u504))
def slices_ContainsFunc_api_Step_api_Step.f (K : Nat) (x1 : (List T_api_Step)) : Option (Bool) :=
 ((slices_IndexFunc_api_Step_api_Step.f K (x1)).bind fun (r10 : (Int)) => (some (decide ((0 : Int) ≤ r10))))
def rec_ranges.f (K : Nat) (x1 : T_api_Rec) : Option (Bool) :=
 (jn (fun (y282 : Bool) => (bif y282 then (some false) else (bif (decide (x1.fKind = (1 : Int))) then ((rec_within.f K (((List.length (x1.fSteps) : Nat) : Int)) ((1 : Int)) ((6 : Int))).bind fun (r370 : (Bool)) => (bif r370 then ((slices_ContainsFunc_api_Step_api_Step.f K (x1.fSteps)).bind fun (r375 : (Bool)) => (bif (!r375) then (some (decide (((List.length (x1.fData) : Nat) : Int) ≤ (60 : Int)))) else (some false))) else (some false))) else (jn (fun (y380 : Bool) => (bif y380 then ((rec_within.f K (x1.fSeq) ((1 : Int)) ((400 : Int))).bind fun (r398 : (Bool)) => (bif r398 then ((rec_within.f K (x1.fStep) ((0 : Int)) ((5 : Int))).bind fun (r403 : (Bool)) => (bif r403 then ((rec_within.f K (x1.fTry) ((1 : Int)) ((9 : Int))).bind fun (r408 : (Bool)) => (some r408)) else (some false))) else (some false))) else (bif (decide (x1.fKind = (5 : Int))) then ((rec_within.f K (x1.fSeq) ((1 : Int)) ((400 : Int))).bind fun (r423 : (Bool)) => (bif r423 then ((rec_within.f K (x1.fEnd) ((2 : Int)) ((4 : Int))).bind fun (r428 : (Bool)) => (some r428)) else (some false))) else (bif (decide (x1.fKind = (6 : Int))) then (some (decide ((1 : Int) ≤ x1.fEpoch))) else (some false))))) (fun j433 => (bif (decide (x1.fKind = (2 : Int))) then (j433 (decide (x1.fKind = (2 : Int)))) else (bif (decide (x1.fKind = (4 : Int))) then (j433 (decide (x1.fKind = (4 : Int)))) else (j433 (decide (x1.fKind = (3 : Int))))))))))) (fun j435 => ((rec_within.f K (x1.fSaga) ((0 : Int)) ((11 : Int))).bind fun (r437 : (Bool)) => (bif (!r437) then (j435 true) else ((rec_within.f K (x1.fPart) ((0 : Int)) ((3 : Int))).bind fun (r442 : (Bool)) => (bif (!r442) then (j435 true) else ((rec_within.f K (x1.fEpoch) ((0 : Int)) ((400 : Int))).bind fun (r447 : (Bool)) => (j435 (!r447)))))))))
def rec_kept.f (K : Nat) (x1 : T_api_Rec) : Option (T_api_Rec) :=
 ((some { z_T_api_Rec with fKind := x1.fKind }).bind fun (v5185 : T_api_Rec) => (jn (fun (y7761 : T_api_Rec) => (some y7761)) (fun j7770 => (jn (fun (y9965 : T_api_Rec) => ((some { y9965 with fSaga := x1.fSaga }).bind fun (v9994 : T_api_Rec) => ((some { v9994 with fSeq := x1.fSeq }).bind fun (v9998 : T_api_Rec) => ((some { v9998 with fStep := x1.fStep }).bind fun (v10002 : T_api_Rec) => ((some { v10002 with fTry := x1.fTry }).bind fun (v10006 : T_api_Rec) => ((some { v10006 with fBack := x1.fBack }).bind fun (v10010 : T_api_Rec) => (j7770 v10010))))))) (fun j10014 => (bif (decide (x1.fKind = (1 : Int))) then ((some { v5185 with fSaga := x1.fSaga }).bind fun (v10230 : T_api_Rec) => ((some { v10230 with fSteps := x1.fSteps }).bind fun (v10234 : T_api_Rec) => ((some { v10234 with fGone := x1.fGone }).bind fun (v10238 : T_api_Rec) => (bif x1.fGone then ((some { v10238 with fCom := x1.fCom }).bind fun (v10242 : T_api_Rec) => (j7770 v10242)) else ((some { v10238 with fData := x1.fData }).bind fun (v10254 : T_api_Rec) => ((some { v10254 with fSalt := x1.fSalt }).bind fun (v10258 : T_api_Rec) => (j7770 v10258))))))) else (bif (decide (x1.fKind = (3 : Int))) then ((some { v5185 with fGood := x1.fGood }).bind fun (v10278 : T_api_Rec) => ((some { v10278 with fPart := x1.fPart }).bind fun (v10282 : T_api_Rec) => ((some { v10282 with fEpoch := x1.fEpoch }).bind fun (v10286 : T_api_Rec) => ((some { v10286 with fTag := x1.fTag }).bind fun (v10290 : T_api_Rec) => (j10014 v10290))))) else (jn (fun (y10299 : Bool) => (bif y10299 then (j10014 v5185) else (bif (decide (x1.fKind = (5 : Int))) then ((some { v5185 with fSaga := x1.fSaga }).bind fun (v10314 : T_api_Rec) => ((some { v10314 with fSeq := x1.fSeq }).bind fun (v10318 : T_api_Rec) => ((some { v10318 with fEnd := x1.fEnd }).bind fun (v10322 : T_api_Rec) => (j7770 v10322)))) else (bif (decide (x1.fKind = (6 : Int))) then ((some { v5185 with fPart := x1.fPart }).bind fun (v10334 : T_api_Rec) => ((some { v10334 with fEpoch := x1.fEpoch }).bind fun (v10338 : T_api_Rec) => (j7770 v10338))) else (j7770 v5185))))) (fun j10342 => (bif (decide (x1.fKind = (2 : Int))) then (j10342 (decide (x1.fKind = (2 : Int)))) else (j10342 (decide (x1.fKind = (4 : Int))))))))))))))
def slices_Equal_api_Step_api_Step_l1.b (K : Nat) (x1 : (List T_api_Step)) (x5 : (List T_api_Step)) (rec : Int → Option (Sum ((Bool)) (Unit))) (y1047 : Int) : Option (Sum ((Bool)) (Unit)) :=
 (bif (decide (y1047 < ((List.length (x1) : Nat) : Int))) then ((getI (x1) y1047).bind fun (x1226 : T_api_Step) => ((getI (x5) y1047).bind fun (x1238 : T_api_Step) => (bif (!((decide (x1226.fPart = x1238.fPart)) && ((decide (x1226.fKind = x1238.fKind)) && true))) then (some (Sum.inl false)) else (rec (IntKind.wrap .i64 (y1047 + (1 : Int))))))) else (some (Sum.inr ())))
def slices_Equal_api_Step_api_Step_l1.l (K : Nat) (x1 : (List T_api_Step)) (x5 : (List T_api_Step)) : Nat → (Int) → Option (Sum ((Bool)) (Unit))
 | 0, _ => none
 | k + 1, y => slices_Equal_api_Step_api_Step_l1.b K x1 x5 (slices_Equal_api_Step_api_Step_l1.l K x1 x5 k) y
theorem slices_Equal_api_Step_api_Step_l1.some {K : Nat} (x1 : (List T_api_Step)) (x5 : (List T_api_Step)) {k : Nat} {y : Int} {s : (Sum ((Bool)) (Unit))} (h : slices_Equal_api_Step_api_Step_l1.l K x1 x5 k y = some s) : ∃ k', k = k' + 1 ∧ slices_Equal_api_Step_api_Step_l1.b K x1 x5 (slices_Equal_api_Step_api_Step_l1.l K x1 x5 k') y = some s := by
 cases k with
 | zero => cases h
 | succ k => exact ⟨k, rfl, h⟩
def slices_Equal_api_Step_api_Step.f (K : Nat) (x1 : (List T_api_Step)) (x5 : (List T_api_Step)) : Option (Bool) :=
 (bif (!decide (((List.length (x1) : Nat) : Int) = ((List.length (x5) : Nat) : Int))) then (some false) else ((slices_Equal_api_Step_api_Step_l1.l K x1 x5 K (0 : Int)).bind fun s1250 => (match s1250 with | .inl u1251 => some u1251 | .inr u1252 => (fun (z1149 : Unit) => (some true)) u1252)))
def bytes_Equal.f (K : Nat) (x1 : (List Int)) (x5 : (List Int)) : Option (Bool) :=
 (some (ByteArray.toList (bofL (x1)) == ByteArray.toList (bofL (x5))))
def rec_head.f (K : Nat) (x1 : T_api_Rec) : Option (T_rec_plain) :=
 ((some (T_rec_plain.mk (x1.fKind) (x1.fSaga) (x1.fSeq) (x1.fStep) (x1.fTry) (x1.fBack) (x1.fGood) (x1.fGone) (x1.fEnd) (x1.fPart) (x1.fEpoch))).bind fun (v18 : T_rec_plain) => (some v18))
def rec_Same.f (K : Nat) (x1 : T_api_Rec) (x8 : T_api_Rec) : Option (Bool) :=
 (jn (fun (y153 : Bool) => (bif y153 then (some false) else (jn (fun (y176 : Bool) => (some y176)) (fun j179 => ((rec_head.f K (x1)).bind fun (r191 : (T_rec_plain)) => ((rec_head.f K (x8)).bind fun (r196 : (T_rec_plain)) => (bif ((decide (r191.fKind = r196.fKind)) && ((decide (r191.fSaga = r196.fSaga)) && ((decide (r191.fSeq = r196.fSeq)) && ((decide (r191.fStep = r196.fStep)) && ((decide (r191.fTry = r196.fTry)) && ((r191.fBack == r196.fBack) && ((r191.fGood == r196.fGood) && ((r191.fGone == r196.fGone) && ((decide (r191.fEnd = r196.fEnd)) && ((decide (r191.fPart = r196.fPart)) && ((decide (r191.fEpoch = r196.fEpoch)) && true))))))))))) then (bif (decide (x1.fTag = x8.fTag)) then (bif (decide (x1.fSalt = x8.fSalt)) then (j179 (decide (x1.fCom = x8.fCom))) else (j179 false)) else (j179 false)) else (j179 false)))))))) (fun j201 => ((slices_Equal_api_Step_api_Step.f K (x1.fSteps) (x8.fSteps)).bind fun (r203 : (Bool)) => (bif (!r203) then (j201 true) else ((bytes_Equal.f K (x1.fData) (x8.fData)).bind fun (r208 : (Bool)) => (j201 (!r208)))))))
def rec_Right.f (K : Nat) (x1 : T_api_Rec) : Option (Bool) :=
 ((rec_ranges.f K (x1)).bind fun (r159 : (Bool)) => (bif r159 then ((rec_kept.f K (x1)).bind fun (r164 : (T_api_Rec)) => ((rec_Same.f K (x1) (r164)).bind fun (r175 : (Bool)) => (some r175))) else (some false)))
def slices_Reverse_byte_byte_l1.b (K : Nat) (rec : ((List Int) × Int × Int) → Option ((List Int))) (y586 : (List Int) × Int × Int) : Option ((List Int)) :=
 (bif (decide (y586.2.1 < y586.2.2)) then ((getI (y586.1) y586.2.2).bind fun (x836 : Int) => ((getI (y586.1) y586.2.1).bind fun (x845 : Int) => ((getI (y586.1) y586.2.1).bind fun (x854 : Int) => ((getI ((List.set (y586.1) (Int.toNat (y586.2.1)) (x836))) y586.2.2).bind fun (x861 : Int) => (rec ((List.set ((List.set (y586.1) (Int.toNat (y586.2.1)) (x836))) (Int.toNat (y586.2.2)) (x845)), (IntKind.wrap .i64 (y586.2.1 + (1 : Int))), (IntKind.wrap .i64 (y586.2.2 - (1 : Int))))))))) else (some y586.1))
def slices_Reverse_byte_byte_l1.l (K : Nat) : Nat → ((List Int) × Int × Int) → Option ((List Int))
 | 0, _ => none
 | k + 1, y => slices_Reverse_byte_byte_l1.b K (slices_Reverse_byte_byte_l1.l K k) y
theorem slices_Reverse_byte_byte_l1.some {K : Nat} {k : Nat} {y : (List Int) × Int × Int} {s : ((List Int))} (h : slices_Reverse_byte_byte_l1.l K k y = some s) : ∃ k', k = k' + 1 ∧ slices_Reverse_byte_byte_l1.b K (slices_Reverse_byte_byte_l1.l K k') y = some s := by
 cases k with
 | zero => cases h
 | succ k => exact ⟨k, rfl, h⟩
def slices_Reverse_byte_byte.f (K : Nat) (x1 : (List Int)) : Option ((List Int)) :=
 ((slices_Reverse_byte_byte_l1.l K K (x1, (0 : Int), (IntKind.wrap .i64 (((List.length (x1) : Nat) : Int) - (1 : Int))))).bind fun (z730 : (List Int)) => (some z730))
theorem slices_Reverse_byte_byte.len {K : Nat} {x r : List Int} (h : slices_Reverse_byte_byte.f K x = some r) : r.length = x.length := by
 have key : ∀ k y z, slices_Reverse_byte_byte_l1.l K k y = some z → z.length = y.1.length := by
  intro k
  induction k with
  | zero => intro y z h; cases h
  | succ k ih =>
   intro y z h
   have h : slices_Reverse_byte_byte_l1.b K (slices_Reverse_byte_byte_l1.l K k) y = some z := h
   unfold slices_Reverse_byte_byte_l1.b at h
   cases hc : decide (y.2.1 < y.2.2) with
   | false => rw [hc] at h; cases h; rfl
   | true =>
    rw [hc] at h
    replace h := cond_t rfl h
    obtain ⟨_, _, h⟩ := bind_some h
    obtain ⟨_, _, h⟩ := bind_some h
    obtain ⟨_, _, h⟩ := bind_some h
    obtain ⟨_, _, h⟩ := bind_some h
    have := ih _ _ h
    simpa using this
 unfold slices_Reverse_byte_byte.f at h
 obtain ⟨z, hz, h⟩ := bind_some h
 cases h
 exact key _ _ _ hz
def wire_Num_l1.b (K : Nat) (rec : (Int × (List Int)) → Option ((List Int))) (y516 : Int × (List Int)) : Option ((List Int)) :=
 (bif (decide ((0 : Int) < y516.1)) then ((catI 1 (y516.2) (([(bor .u8 (IntKind.wrap .u8 (Int.tmod y516.1 128)) (128 : Int))] : List Int))).bind fun (l599 : (List Int)) => (rec ((Int.fdiv y516.1 (2 ^ 7)), l599))) else (some y516.2))
def wire_Num_l1.l (K : Nat) : Nat → (Int × (List Int)) → Option ((List Int))
 | 0, _ => none
 | k + 1, y => wire_Num_l1.b K (wire_Num_l1.l K k) y
theorem wire_Num_l1.some {K : Nat} {k : Nat} {y : Int × (List Int)} {s : ((List Int))} (h : wire_Num_l1.l K k y = some s) : ∃ k', k = k' + 1 ∧ wire_Num_l1.b K (wire_Num_l1.l K k') y = some s := by
 cases k with
 | zero => cases h
 | succ k => exact ⟨k, rfl, h⟩
def wire_Num.f (K : Nat) (x1 : Int) : Option ((List Int)) :=
 (jn (fun (y316 : Bool) => (bif y316 then (some ([] : List Int)) else ((wire_Num_l1.l K K ((Int.fdiv x1 (2 ^ 7)), ([(IntKind.wrap .u8 (Int.tmod x1 128))] : List Int))).bind fun (z564 : (List Int)) => ((slices_Reverse_byte_byte.f K (z564)).bind fun (r606 : ((List Int))) => (some r606))))) (fun j614 => (bif (decide (x1 < (0 : Int))) then (j614 true) else (j614 (decide ((2147483647 : Int) < x1))))))
def rec_forms.f (K : Nat) : Option Unit :=
 (some ())
def rec_numbers_l1.b (K : Nat) (x1 : (List Int)) (rec : ((List Int) × Int) → Option ((List Int))) (y847 : (List Int) × Int) : Option ((List Int)) :=
 (bif (decide (y847.2 < ((List.length (x1) : Nat) : Int))) then ((getI (x1) y847.2).bind fun (x975 : Int) => ((wire_Num.f K (x975)).bind fun (r987 : ((List Int))) => ((catI 1 (y847.1) (r987)).bind fun (l1002 : (List Int)) => (rec (l1002, (IntKind.wrap .i64 (y847.2 + (1 : Int)))))))) else (some y847.1))
def rec_numbers_l1.l (K : Nat) (x1 : (List Int)) : Nat → ((List Int) × Int) → Option ((List Int))
 | 0, _ => none
 | k + 1, y => rec_numbers_l1.b K x1 (rec_numbers_l1.l K x1 k) y
theorem rec_numbers_l1.some {K : Nat} (x1 : (List Int)) {k : Nat} {y : (List Int) × Int} {s : ((List Int))} (h : rec_numbers_l1.l K x1 k y = some s) : ∃ k', k = k' + 1 ∧ rec_numbers_l1.b K x1 (rec_numbers_l1.l K x1 k') y = some s := by
 cases k with
 | zero => cases h
 | succ k => exact ⟨k, rfl, h⟩
def rec_numbers.f (K : Nat) (x1 : (List Int)) : Option ((List Int)) :=
 ((rec_numbers_l1.l K x1 K (([] : List Int), (0 : Int))).bind fun (z931 : (List Int)) => (some z931))
def rec_begin_l1.b (K : Nat) (x1 : T_api_Rec) (rec : ((List Int) × Int) → Option ((List Int))) (y1109 : (List Int) × Int) : Option ((List Int)) :=
 (bif (decide (y1109.2 < ((List.length (x1.fSteps) : Nat) : Int))) then ((getI (x1.fSteps) y1109.2).bind fun (x1270 : T_api_Step) => ((rec_numbers.f K (([x1270.fPart, x1270.fKind] : List Int))).bind fun (r1293 : ((List Int))) => ((catI 1 (y1109.1) (r1293)).bind fun (l1308 : (List Int)) => (rec (l1308, (IntKind.wrap .i64 (y1109.2 + (1 : Int)))))))) else (some y1109.1))
def rec_begin_l1.l (K : Nat) (x1 : T_api_Rec) : Nat → ((List Int) × Int) → Option ((List Int))
 | 0, _ => none
 | k + 1, y => rec_begin_l1.b K x1 (rec_begin_l1.l K x1 k) y
theorem rec_begin_l1.some {K : Nat} (x1 : T_api_Rec) {k : Nat} {y : (List Int) × Int} {s : ((List Int))} (h : rec_begin_l1.l K x1 k y = some s) : ∃ k', k = k' + 1 ∧ rec_begin_l1.b K x1 (rec_begin_l1.l K x1 k') y = some s := by
 cases k with
 | zero => cases h
 | succ k => exact ⟨k, rfl, h⟩
def rec_begin.f (K : Nat) (x1 : T_api_Rec) : Option ((List Int)) :=
 ((rec_numbers.f K (([x1.fSaga, ((List.length (x1.fSteps) : Nat) : Int)] : List Int))).bind fun (r675 : ((List Int))) => ((rec_begin_l1.l K x1 K (r675, (0 : Int))).bind fun (z1215 : (List Int)) => (some z1215)))
def slices_Grow_byte_byte.f (K : Nat) (x1 : Int) : Option ((List Int)) :=
 (bif (decide (x1 < (0 : Int))) then none else (bif (decide ((0 : Int) < (IntKind.wrap .i64 (x1 - (IntKind.wrap .i64 (((0 : Nat) : Int) - ((0 : Nat) : Int))))))) then ((zerosI 1 ((0 : Int)) (IntKind.wrap .i64 (x1 - (IntKind.wrap .i64 (((0 : Nat) : Int) - ((0 : Nat) : Int)))))).bind fun (l37 : (List Int)) => ((subI (l37) 0 ((0 : Nat) : Int)).bind fun (l44 : (List Int)) => (some l44))) else (some ([] : List Int))))
def slices_Concat_byte_byte_l1.b (K : Nat) (x1 : (List (List Int))) (rec : (Int × Int) → Option (Int)) (y743 : Int × Int) : Option (Int) :=
 (bif (decide (y743.2 < ((List.length (x1) : Nat) : Int))) then ((getI (x1) y743.2).bind fun (x799 : (List Int)) => (bif (decide ((IntKind.wrap .i64 (y743.1 + ((List.length (x799) : Nat) : Int))) < (0 : Int))) then none else (rec ((IntKind.wrap .i64 (y743.1 + ((List.length (x799) : Nat) : Int))), (IntKind.wrap .i64 (y743.2 + (1 : Int))))))) else (some y743.1))
def slices_Concat_byte_byte_l1.l (K : Nat) (x1 : (List (List Int))) : Nat → (Int × Int) → Option (Int)
 | 0, _ => none
 | k + 1, y => slices_Concat_byte_byte_l1.b K x1 (slices_Concat_byte_byte_l1.l K x1 k) y
theorem slices_Concat_byte_byte_l1.some {K : Nat} (x1 : (List (List Int))) {k : Nat} {y : Int × Int} {s : (Int)} (h : slices_Concat_byte_byte_l1.l K x1 k y = some s) : ∃ k', k = k' + 1 ∧ slices_Concat_byte_byte_l1.b K x1 (slices_Concat_byte_byte_l1.l K x1 k') y = some s := by
 cases k with
 | zero => cases h
 | succ k => exact ⟨k, rfl, h⟩
def slices_Concat_byte_byte_l2.b (K : Nat) (x1 : (List (List Int))) (rec : ((List Int) × Int) → Option ((List Int))) (y1064 : (List Int) × Int) : Option ((List Int)) :=
 (bif (decide (y1064.2 < ((List.length (x1) : Nat) : Int))) then ((getI (x1) y1064.2).bind fun (x1156 : (List Int)) => ((catI 1 (y1064.1) (x1156)).bind fun (l1171 : (List Int)) => (rec (l1171, (IntKind.wrap .i64 (y1064.2 + (1 : Int))))))) else (some y1064.1))
def slices_Concat_byte_byte_l2.l (K : Nat) (x1 : (List (List Int))) : Nat → ((List Int) × Int) → Option ((List Int))
 | 0, _ => none
 | k + 1, y => slices_Concat_byte_byte_l2.b K x1 (slices_Concat_byte_byte_l2.l K x1 k) y
theorem slices_Concat_byte_byte_l2.some {K : Nat} (x1 : (List (List Int))) {k : Nat} {y : (List Int) × Int} {s : ((List Int))} (h : slices_Concat_byte_byte_l2.l K x1 k y = some s) : ∃ k', k = k' + 1 ∧ slices_Concat_byte_byte_l2.b K x1 (slices_Concat_byte_byte_l2.l K x1 k') y = some s := by
 cases k with
 | zero => cases h
 | succ k => exact ⟨k, rfl, h⟩
def slices_Concat_byte_byte.f (K : Nat) (x1 : (List (List Int))) : Option ((List Int)) :=
 ((slices_Concat_byte_byte_l1.l K x1 K ((0 : Int), (0 : Int))).bind fun (z779 : Int) => ((slices_Grow_byte_byte.f K (z779)).bind fun (r814 : ((List Int))) => ((slices_Concat_byte_byte_l2.l K x1 K (r814, (0 : Int))).bind fun (z1124 : (List Int)) => (some z1124))))
def wire_All.f (K : Nat) (x1 : (List (List Int))) : Option ((List Int)) :=
 ((slices_Concat_byte_byte.f K (x1)).bind fun (r20 : ((List Int))) => (some r20))
def wire_Flag.f (K : Nat) (x1 : Bool) : Option ((List Int)) :=
 (bif x1 then (some ([(1 : Int)] : List Int)) else (some ([(0 : Int)] : List Int)))
def rec_call.f (K : Nat) (x1 : T_api_Rec) : Option ((List Int)) :=
 ((rec_numbers.f K (([x1.fSaga, x1.fSeq, x1.fStep, x1.fTry] : List Int))).bind fun (r200 : ((List Int))) => ((wire_Flag.f K (x1.fBack)).bind fun (r210 : ((List Int))) => ((wire_All.f K (([r200, r210] : List (List Int)))).bind fun (r239 : ((List Int))) => (some r239))))
def slices_Clone_byte_byte.f (K : Nat) (x1 : (List Int)) : Option ((List Int)) :=
 ((catI 1 (([] : List Int)) (x1)).bind fun (l26 : (List Int)) => (some l26))
def wire_Hash.f (K : Nat) (x1 : (Vector Int 32)) : Option ((List Int)) :=
 ((subI (vlist (x1)) 0 ((32 : Nat) : Int)).bind fun (l32 : List Int) => ((slices_Clone_byte_byte.f K (l32)).bind fun (r37 : ((List Int))) => (some r37)))
def rec_forms_1.f (K : Nat) (x1 : T_api_Rec) : Option ((List Int)) :=
 ((rec_call.f K (x1)).bind fun (r1795 : ((List Int))) => ((wire_Flag.f K (x1.fGood)).bind fun (r1805 : ((List Int))) => ((rec_numbers.f K (([x1.fPart, x1.fEpoch] : List Int))).bind fun (r1824 : ((List Int))) => ((wire_Hash.f K (x1.fTag)).bind fun (r1834 : ((List Int))) => ((wire_All.f K (([r1795, r1805, r1824, r1834] : List (List Int)))).bind fun (r1873 : ((List Int))) => (some r1873))))))
def rec_forms_2.f (K : Nat) (x1 : T_api_Rec) : Option ((List Int)) :=
 ((rec_numbers.f K (([x1.fSaga, x1.fSeq, x1.fEnd] : List Int))).bind fun (r45 : ((List Int))) => (some r45))
def rec_forms_3.f (K : Nat) (x1 : T_api_Rec) : Option ((List Int)) :=
 ((rec_numbers.f K (([x1.fPart, x1.fEpoch] : List Int))).bind fun (r45 : ((List Int))) => (some r45))
def wire_Bytes.f (K : Nat) (x1 : (List Int)) : Option ((List Int)) :=
 ((wire_Num.f K (((List.length (x1) : Nat) : Int))).bind fun (r27 : ((List Int))) => ((catI 1 (r27) (x1)).bind fun (l37 : (List Int)) => (some l37)))
def rec_Open_1.f (K : Nat) (x3 : T_api_Rec) : Option ((List Int)) :=
 (bif x3.fGone then ((wire_Flag.f K (true)).bind fun (r486 : ((List Int))) => ((wire_Hash.f K (x3.fCom)).bind fun (r496 : ((List Int))) => ((wire_All.f K (([r486, r496] : List (List Int)))).bind fun (r525 : ((List Int))) => (some r525)))) else ((wire_Flag.f K (false)).bind fun (r599 : ((List Int))) => ((wire_Hash.f K (x3.fSalt)).bind fun (r609 : ((List Int))) => ((wire_Bytes.f K (x3.fData)).bind fun (r619 : ((List Int))) => ((wire_All.f K (([r599, r609, r619] : List (List Int)))).bind fun (r653 : ((List Int))) => (some r653))))))
def rec_put.f (K : Nat) (x3 : T_api_Rec) (x10 : T_api_Rec) : Option ((List Int)) :=
 ((rec_Right.f K (x3)).bind fun (r1119 : (Bool)) => (bif (!r1119) then (some ([] : List Int)) else (jn (fun (y1637 : (List Int)) => (bif (decide (x3.fKind = (1 : Int))) then ((rec_Open_1.f K (x10)).bind fun (r1667 : ((List Int))) => ((catI 1 (y1637) (r1667)).bind fun (l1682 : (List Int)) => (some l1682))) else (some y1637))) (fun j1689 => ((wire_Num.f K (x3.fKind)).bind fun (r1947 : ((List Int))) => ((rec_forms.f K).bind fun (r1957 : Unit) => (bif decide (x3.fKind = (0 : Int)) then none else (bif decide (x3.fKind = (1 : Int)) then ((rec_begin.f K (x3)).bind fun (r1964 : ((List Int))) => ((wire_All.f K (([r1947, r1964] : List (List Int)))).bind fun (r1993 : ((List Int))) => (j1689 r1993))) else (bif decide (x3.fKind = (2 : Int)) then ((rec_call.f K (x3)).bind fun (r2004 : ((List Int))) => ((wire_All.f K (([r1947, r2004] : List (List Int)))).bind fun (r2033 : ((List Int))) => (j1689 r2033))) else (bif decide (x3.fKind = (3 : Int)) then ((rec_forms_1.f K (x3)).bind fun (r2044 : ((List Int))) => ((wire_All.f K (([r1947, r2044] : List (List Int)))).bind fun (r2073 : ((List Int))) => (j1689 r2073))) else (bif decide (x3.fKind = (4 : Int)) then ((rec_call.f K (x3)).bind fun (r2084 : ((List Int))) => ((wire_All.f K (([r1947, r2084] : List (List Int)))).bind fun (r2113 : ((List Int))) => (j1689 r2113))) else (bif decide (x3.fKind = (5 : Int)) then ((rec_forms_2.f K (x3)).bind fun (r2124 : ((List Int))) => ((wire_All.f K (([r1947, r2124] : List (List Int)))).bind fun (r2153 : ((List Int))) => (j1689 r2153))) else (bif decide (x3.fKind = (6 : Int)) then ((rec_forms_3.f K (x3)).bind fun (r2164 : ((List Int))) => ((wire_All.f K (([r1947, r2164] : List (List Int)))).bind fun (r2193 : ((List Int))) => (j1689 r2193))) else none)))))))))))))
def rec_Open.f (K : Nat) (x1 : T_api_Rec) : Option ((List Int)) :=
 ((rec_put.f K (x1) (x1)).bind fun (r27 : ((List Int))) => (some r27))
def wire_Read.f (K : Nat) (x1 : (List Int)) : Option (T_wire_Reader) :=
 ((slices_Clone_byte_byte.f K (x1)).bind fun (r27 : ((List Int))) => (some (T_wire_Reader.mk (r27) ((0 : Int)))))
def wire_Reader_Bad.f (K : Nat) (x3 : T_wire_Reader) : Option (Int) :=
 (some x3.fBad)
def wire_number_l1.b (K : Nat) (x1 : (List Int)) (rec : (Int × Int) → Option (Sum ((Int × Int × Int)) (Unit))) (y523 : Int × Int) : Option (Sum ((Int × Int × Int)) (Unit)) :=
 (bif (decide (y523.2 < ((List.length (x1) : Nat) : Int))) then ((getI (x1) y523.2).bind fun (x600 : Int) => (jn (fun (y617 : Bool) => (bif y617 then (some (Sum.inl ((0 : Int), (0 : Int), (2 : Int)))) else (bif (decide (x600 < (128 : Int))) then (bif (decide ((2147483647 : Int) < (bor .i64 (IntKind.wrap .i64 (y523.1 * 2 ^ 7)) (IntKind.wrap .i64 (Int.tmod x600 128))))) then (some (Sum.inl ((0 : Int), (0 : Int), (2 : Int)))) else (some (Sum.inl ((bor .i64 (IntKind.wrap .i64 (y523.1 * 2 ^ 7)) (IntKind.wrap .i64 (Int.tmod x600 128))), (IntKind.wrap .i64 (y523.2 + (1 : Int))), (0 : Int))))) else (rec ((bor .i64 (IntKind.wrap .i64 (y523.1 * 2 ^ 7)) (IntKind.wrap .i64 (Int.tmod x600 128))), (IntKind.wrap .i64 (y523.2 + (1 : Int)))))))) (fun j620 => (bif (decide (y523.2 = (0 : Int))) then (bif (decide (x600 = (128 : Int))) then (j620 true) else (j620 (decide (y523.2 = (5 : Int))))) else (j620 (decide (y523.2 = (5 : Int)))))))) else (some (Sum.inr ())))
def wire_number_l1.l (K : Nat) (x1 : (List Int)) : Nat → (Int × Int) → Option (Sum ((Int × Int × Int)) (Unit))
 | 0, _ => none
 | k + 1, y => wire_number_l1.b K x1 (wire_number_l1.l K x1 k) y
theorem wire_number_l1.some {K : Nat} (x1 : (List Int)) {k : Nat} {y : Int × Int} {s : (Sum ((Int × Int × Int)) (Unit))} (h : wire_number_l1.l K x1 k y = some s) : ∃ k', k = k' + 1 ∧ wire_number_l1.b K x1 (wire_number_l1.l K x1 k') y = some s := by
 cases k with
 | zero => cases h
 | succ k => exact ⟨k, rfl, h⟩
def wire_number.f (K : Nat) (x1 : (List Int)) : Option (Int × Int × Int) :=
 ((wire_number_l1.l K x1 K ((0 : Int), (0 : Int))).bind fun s622 => (match s622 with | .inl u623 => some u623 | .inr u624 => (fun (z573 : Unit) => (some ((0 : Int), (0 : Int), (3 : Int)))) u624))
def wire_Reader_Fail.f (K : Nat) (x3 : Int) (x4 : T_wire_Reader) : Option (T_wire_Reader) :=
 (jn (fun (y20 : Bool) => (bif y20 then ((some (T_wire_Reader.mk (([] : List Int)) (x4.fBad))).bind fun (v23 : T_wire_Reader) => ((some (T_wire_Reader.mk (([] : List Int)) (x3))).bind fun (v25 : T_wire_Reader) => (some (T_wire_Reader.mk (([] : List Int)) (v25.fBad))))) else (some x4))) (fun j27 => (bif (decide (x4.fBad = (0 : Int))) then (j27 (!decide (x3 = (0 : Int)))) else (j27 false))))
def wire_take_int.f (K : Nat) (x3 : T_wire_Reader) : Option (Int × T_wire_Reader) :=
 ((wire_Reader_Bad.f K (x3)).bind fun (r54 : (Int)) => (bif (!decide (r54 = (0 : Int))) then (some ((0 : Int), x3)) else ((wire_number.f K (x3.fB)).bind fun (r59 : (Int × Int × Int)) => (bif (!decide (r59.2.2 = (0 : Int))) then ((wire_Reader_Fail.f K (r59.2.2) (x3)).bind fun (r72 : (T_wire_Reader)) => (some ((0 : Int), r72))) else ((subI (x3.fB) r59.2.1 ((List.length (x3.fB) : Nat) : Int)).bind fun (l80 : (List Int)) => ((some (T_wire_Reader.mk (l80) (x3.fBad))).bind fun (v85 : T_wire_Reader) => (some (r59.1, v85))))))))
def wire_Reader_Num.f (K : Nat) (x3 : T_wire_Reader) : Option (Int × T_wire_Reader) :=
 ((wire_take_int.f K (x3)).bind fun (r18 : (Int × T_wire_Reader)) => (some (r18.1, r18.2)))
def rec_steps_l1.b (K : Nat) (r673 : (Int × T_wire_Reader)) (rec : ((List T_api_Step) × Int × T_wire_Reader) → Option ((List T_api_Step) × T_wire_Reader)) (y1117 : (List T_api_Step) × Int × T_wire_Reader) : Option ((List T_api_Step) × T_wire_Reader) :=
 (bif (decide (y1117.2.1 < r673.1)) then ((wire_Reader_Bad.f K (y1117.2.2)).bind fun (r1283 : (Int)) => (bif (!decide (r1283 = (0 : Int))) then (some (y1117.1, y1117.2.2)) else ((wire_Reader_Num.f K (y1117.2.2)).bind fun (r1288 : (Int × T_wire_Reader)) => ((wire_Reader_Num.f K (r1288.2)).bind fun (r1296 : (Int × T_wire_Reader)) => ((catI 16 (y1117.1) (([(T_api_Step.mk (r1288.1) (r1296.1))] : List T_api_Step))).bind fun (l1313 : (List T_api_Step)) => (rec (l1313, (IntKind.wrap .i64 (y1117.2.1 + (1 : Int))), r1296.2))))))) else (some (y1117.1, y1117.2.2)))
def rec_steps_l1.l (K : Nat) (r673 : (Int × T_wire_Reader)) : Nat → ((List T_api_Step) × Int × T_wire_Reader) → Option ((List T_api_Step) × T_wire_Reader)
 | 0, _ => none
 | k + 1, y => rec_steps_l1.b K r673 (rec_steps_l1.l K r673 k) y
theorem rec_steps_l1.some {K : Nat} (r673 : (Int × T_wire_Reader)) {k : Nat} {y : (List T_api_Step) × Int × T_wire_Reader} {s : ((List T_api_Step) × T_wire_Reader)} (h : rec_steps_l1.l K r673 k y = some s) : ∃ k', k = k' + 1 ∧ rec_steps_l1.b K r673 (rec_steps_l1.l K r673 k') y = some s := by
 cases k with
 | zero => cases h
 | succ k => exact ⟨k, rfl, h⟩
def rec_steps.f (K : Nat) (x3 : T_wire_Reader) : Option ((List T_api_Step) × T_wire_Reader) :=
 ((wire_Reader_Num.f K (x3)).bind fun (r673 : (Int × T_wire_Reader)) => (jn (fun (y689 : T_wire_Reader) => ((rec_steps_l1.l K r673 K (([] : List T_api_Step), (0 : Int), y689)).bind fun (z1223 : (List T_api_Step) × T_wire_Reader) => (some (z1223.1, z1223.2)))) (fun j1321 => (bif (decide ((6 : Int) < r673.1)) then ((wire_Reader_Fail.f K ((2 : Int)) (r673.2)).bind fun (r1323 : (T_wire_Reader)) => (j1321 r1323)) else (j1321 r673.2)))))
def wire_Reader_Flag_1.f (K : Nat) (x1 : (List Int)) : Option (Bool × Int × Int) :=
 (bif (decide (((List.length (x1) : Nat) : Int) = (0 : Int))) then (some (false, (0 : Int), (3 : Int))) else ((getI (x1) (0 : Int)).bind fun (x53 : Int) => (bif (decide ((1 : Int) < x53)) then (some (false, (0 : Int), (2 : Int))) else ((getI (x1) (0 : Int)).bind fun (x65 : Int) => (some ((decide (x65 = (1 : Int))), (1 : Int), (0 : Int)))))))
def wire_take_bool.f (K : Nat) (x3 : T_wire_Reader) : Option (Bool × T_wire_Reader) :=
 ((wire_Reader_Bad.f K (x3)).bind fun (r54 : (Int)) => (bif (!decide (r54 = (0 : Int))) then (some (false, x3)) else ((wire_Reader_Flag_1.f K (x3.fB)).bind fun (r59 : (Bool × Int × Int)) => (bif (!decide (r59.2.2 = (0 : Int))) then ((wire_Reader_Fail.f K (r59.2.2) (x3)).bind fun (r72 : (T_wire_Reader)) => (some (false, r72))) else ((subI (x3.fB) r59.2.1 ((List.length (x3.fB) : Nat) : Int)).bind fun (l80 : (List Int)) => ((some (T_wire_Reader.mk (l80) (x3.fBad))).bind fun (v85 : T_wire_Reader) => (some (r59.1, v85))))))))
def wire_Reader_Flag.f (K : Nat) (x3 : T_wire_Reader) : Option (Bool × T_wire_Reader) :=
 ((wire_take_bool.f K (x3)).bind fun (r18 : (Bool × T_wire_Reader)) => (some (r18.1, r18.2)))
def wire_Reader_Hash_1.f (K : Nat) (x1 : (List Int)) : Option ((Vector Int 32) × Int × Int) :=
 (bif (decide (((List.length (x1) : Nat) : Int) < (32 : Int))) then (some ((Vector.replicate 32 (0 : Int)), (0 : Int), (3 : Int))) else ((subI (x1) 0 (32 : Int)).bind fun (l29 : (List Int)) => (chk (decide (32 ≤ List.length (l29))) (some ((vofL 32 (l29)), (32 : Int), (0 : Int))))))
def wire_take_api_Hash.f (K : Nat) (x3 : T_wire_Reader) : Option ((Vector Int 32) × T_wire_Reader) :=
 ((wire_Reader_Bad.f K (x3)).bind fun (r64 : (Int)) => (bif (!decide (r64 = (0 : Int))) then (some ((Vector.replicate 32 (0 : Int)), x3)) else ((wire_Reader_Hash_1.f K (x3.fB)).bind fun (r69 : ((Vector Int 32) × Int × Int)) => (bif (!decide (r69.2.2 = (0 : Int))) then ((wire_Reader_Fail.f K (r69.2.2) (x3)).bind fun (r84 : (T_wire_Reader)) => (some ((Vector.replicate 32 (0 : Int)), r84))) else ((subI (x3.fB) r69.2.1 ((List.length (x3.fB) : Nat) : Int)).bind fun (l92 : (List Int)) => ((some (T_wire_Reader.mk (l92) (x3.fBad))).bind fun (v97 : T_wire_Reader) => (some (r69.1, v97))))))))
def wire_Reader_Hash.f (K : Nat) (x3 : T_wire_Reader) : Option ((Vector Int 32) × T_wire_Reader) :=
 ((wire_take_api_Hash.f K (x3)).bind fun (r22 : ((Vector Int 32) × T_wire_Reader)) => (some (r22.1, r22.2)))
def wire_Reader_Bytes_1.f (K : Nat) (x3 : (List Int)) (x7 : Int) : Option ((List Int) × Int × Int) :=
 ((wire_number.f K (x3)).bind fun (r33 : (Int × Int × Int)) => (bif (!decide (r33.2.2 = (0 : Int))) then (some (([] : List Int), (0 : Int), r33.2.2)) else (bif (decide (x7 < r33.1)) then (some (([] : List Int), (0 : Int), (4 : Int))) else (bif (decide ((IntKind.wrap .i64 (((List.length (x3) : Nat) : Int) - r33.2.1)) < r33.1)) then (some (([] : List Int), (0 : Int), (3 : Int))) else ((subI (x3) r33.2.1 (IntKind.wrap .i64 (r33.2.1 + r33.1))).bind fun (l41 : (List Int)) => ((slices_Clone_byte_byte.f K (l41)).bind fun (r46 : ((List Int))) => (some (r46, (IntKind.wrap .i64 (r33.2.1 + r33.1)), (0 : Int)))))))))
def wire_take_byte.f (K : Nat) (x5 : T_wire_Reader) (x9 : Int) : Option ((List Int) × T_wire_Reader) :=
 ((wire_Reader_Bad.f K (x5)).bind fun (r67 : (Int)) => (bif (!decide (r67 = (0 : Int))) then (some (([] : List Int), x5)) else ((wire_Reader_Bytes_1.f K (x5.fB) (x9)).bind fun (r73 : ((List Int) × Int × Int)) => (bif (!decide (r73.2.2 = (0 : Int))) then ((wire_Reader_Fail.f K (r73.2.2) (x5)).bind fun (r91 : (T_wire_Reader)) => (some (([] : List Int), r91))) else ((subI (x5.fB) r73.2.1 ((List.length (x5.fB) : Nat) : Int)).bind fun (l100 : (List Int)) => ((some (T_wire_Reader.mk (l100) (x5.fBad))).bind fun (v105 : T_wire_Reader) => (some (r73.1, v105))))))))
def wire_Reader_Bytes.f (K : Nat) (x3 : Int) (x4 : T_wire_Reader) : Option ((List Int) × T_wire_Reader) :=
 ((wire_take_byte.f K (x4) (x3)).bind fun (r33 : ((List Int) × T_wire_Reader)) => (some (r33.1, r33.2)))
def rec_Read.f (K : Nat) (x3 : T_wire_Reader) : Option (T_api_Rec × T_wire_Reader) :=
 ((wire_Reader_Num.f K (x3)).bind fun (r597 : (Int × T_wire_Reader)) => ((some { z_T_api_Rec with fKind := r597.1 }).bind fun (v607 : T_api_Rec) => (jn (fun (y854 : T_wire_Reader × Int × Int × Int × Int × Int × Bool × Bool × Int × Int × Int × (Vector Int 32) × (List T_api_Step) × (List Int) × (Vector Int 32) × Bool × (Vector Int 32)) => (jn (fun (y879 : T_wire_Reader) => ((wire_Reader_Bad.f K (y879)).bind fun (r890 : (Int)) => (bif (!decide (r890 = (0 : Int))) then (some (z_T_api_Rec, y879)) else ((some (T_api_Rec.mk (y854.2.1) (y854.2.2.1) (y854.2.2.2.1) (y854.2.2.2.2.1) (y854.2.2.2.2.2.1) (y854.2.2.2.2.2.2.1) (y854.2.2.2.2.2.2.2.1) (y854.2.2.2.2.2.2.2.2.1) (y854.2.2.2.2.2.2.2.2.2.1) (y854.2.2.2.2.2.2.2.2.2.2.1) (y854.2.2.2.2.2.2.2.2.2.2.2.1) (y854.2.2.2.2.2.2.2.2.2.2.2.2.1) (y854.2.2.2.2.2.2.2.2.2.2.2.2.2.1) (y854.2.2.2.2.2.2.2.2.2.2.2.2.2.2.1) (y854.2.2.2.2.2.2.2.2.2.2.2.2.2.2.2.1) (y854.2.2.2.2.2.2.2.2.2.2.2.2.2.2.2.2))).bind fun (v895 : T_api_Rec) => (some (v895, y879)))))) (fun j899 => ((rec_Right.f K ((T_api_Rec.mk (y854.2.1) (y854.2.2.1) (y854.2.2.2.1) (y854.2.2.2.2.1) (y854.2.2.2.2.2.1) (y854.2.2.2.2.2.2.1) (y854.2.2.2.2.2.2.2.1) (y854.2.2.2.2.2.2.2.2.1) (y854.2.2.2.2.2.2.2.2.2.1) (y854.2.2.2.2.2.2.2.2.2.2.1) (y854.2.2.2.2.2.2.2.2.2.2.2.1) (y854.2.2.2.2.2.2.2.2.2.2.2.2.1) (y854.2.2.2.2.2.2.2.2.2.2.2.2.2.1) (y854.2.2.2.2.2.2.2.2.2.2.2.2.2.2.1) (y854.2.2.2.2.2.2.2.2.2.2.2.2.2.2.2.1) (y854.2.2.2.2.2.2.2.2.2.2.2.2.2.2.2.2)))).bind fun (r901 : (Bool)) => (bif (!r901) then ((wire_Reader_Fail.f K ((2 : Int)) (y854.1)).bind fun (r906 : (T_wire_Reader)) => (j899 r906)) else (j899 y854.1)))))) (fun j914 => (bif (decide (v607.fKind = (1 : Int))) then ((wire_Reader_Num.f K (r597.2)).bind fun (r916 : (Int × T_wire_Reader)) => ((rec_steps.f K (r916.2)).bind fun (r924 : ((List T_api_Step) × T_wire_Reader)) => ((some { v607 with fSaga := r916.1 }).bind fun (v937 : T_api_Rec) => ((wire_Reader_Flag.f K (r924.2)).bind fun (r941 : (Bool × T_wire_Reader)) => (bif r941.1 then ((wire_Reader_Hash.f K (r941.2)).bind fun (r949 : ((Vector Int 32) × T_wire_Reader)) => (j914 (r949.2, v937.fKind, v937.fSaga, v937.fSeq, v937.fStep, v937.fTry, v937.fBack, v937.fGood, v937.fEnd, v937.fPart, v937.fEpoch, v937.fTag, r924.1, v937.fData, v937.fSalt, r941.1, r949.1))) else ((wire_Reader_Hash.f K (r941.2)).bind fun (r962 : ((Vector Int 32) × T_wire_Reader)) => ((wire_Reader_Bytes.f K ((60 : Int)) (r962.2)).bind fun (r970 : ((List Int) × T_wire_Reader)) => (j914 (r970.2, v937.fKind, v937.fSaga, v937.fSeq, v937.fStep, v937.fTry, v937.fBack, v937.fGood, v937.fEnd, v937.fPart, v937.fEpoch, v937.fTag, r924.1, r970.1, r962.1, r941.1, v937.fCom))))))))) else (jn (fun (y993 : Bool) => (bif y993 then ((wire_Reader_Num.f K (r597.2)).bind fun (r996 : (Int × T_wire_Reader)) => ((wire_Reader_Num.f K (r996.2)).bind fun (r1004 : (Int × T_wire_Reader)) => ((wire_Reader_Num.f K (r1004.2)).bind fun (r1012 : (Int × T_wire_Reader)) => ((wire_Reader_Num.f K (r1012.2)).bind fun (r1020 : (Int × T_wire_Reader)) => ((wire_Reader_Flag.f K (r1020.2)).bind fun (r1028 : (Bool × T_wire_Reader)) => ((some { v607 with fSaga := r996.1 }).bind fun (v1036 : T_api_Rec) => ((some { v1036 with fSeq := r1004.1 }).bind fun (v1040 : T_api_Rec) => ((some { v1040 with fStep := r1012.1 }).bind fun (v1044 : T_api_Rec) => ((some { v1044 with fTry := r1020.1 }).bind fun (v1048 : T_api_Rec) => ((some { v1048 with fBack := r1028.1 }).bind fun (v1052 : T_api_Rec) => (bif (decide (v1052.fKind = (3 : Int))) then ((wire_Reader_Flag.f K (r1028.2)).bind fun (r1056 : (Bool × T_wire_Reader)) => ((wire_Reader_Num.f K (r1056.2)).bind fun (r1064 : (Int × T_wire_Reader)) => ((wire_Reader_Num.f K (r1064.2)).bind fun (r1072 : (Int × T_wire_Reader)) => ((wire_Reader_Hash.f K (r1072.2)).bind fun (r1080 : ((Vector Int 32) × T_wire_Reader)) => ((some { v1052 with fGood := r1056.1 }).bind fun (v1088 : T_api_Rec) => ((some { v1088 with fPart := r1064.1 }).bind fun (v1092 : T_api_Rec) => ((some { v1092 with fEpoch := r1072.1 }).bind fun (v1096 : T_api_Rec) => ((some { v1096 with fTag := r1080.1 }).bind fun (v1100 : T_api_Rec) => (j914 (r1080.2, v1100.fKind, v1100.fSaga, v1100.fSeq, v1100.fStep, v1100.fTry, v1100.fBack, v1100.fGood, v1100.fEnd, v1100.fPart, v1100.fEpoch, v1100.fTag, v1100.fSteps, v1100.fData, v1100.fSalt, v1100.fGone, v1100.fCom)))))))))) else (j914 (r1028.2, v1052.fKind, v1052.fSaga, v1052.fSeq, v1052.fStep, v1052.fTry, v1052.fBack, v1052.fGood, v1052.fEnd, v1052.fPart, v1052.fEpoch, v1052.fTag, v1052.fSteps, v1052.fData, v1052.fSalt, v1052.fGone, v1052.fCom))))))))))))) else (bif (decide (v607.fKind = (5 : Int))) then ((wire_Reader_Num.f K (r597.2)).bind fun (r1104 : (Int × T_wire_Reader)) => ((wire_Reader_Num.f K (r1104.2)).bind fun (r1112 : (Int × T_wire_Reader)) => ((wire_Reader_Num.f K (r1112.2)).bind fun (r1120 : (Int × T_wire_Reader)) => ((some { v607 with fSaga := r1104.1 }).bind fun (v1128 : T_api_Rec) => ((some { v1128 with fSeq := r1112.1 }).bind fun (v1132 : T_api_Rec) => ((some { v1132 with fEnd := r1120.1 }).bind fun (v1136 : T_api_Rec) => (j914 (r1120.2, v1136.fKind, v1136.fSaga, v1136.fSeq, v1136.fStep, v1136.fTry, v1136.fBack, v1136.fGood, v1136.fEnd, v1136.fPart, v1136.fEpoch, v1136.fTag, v1136.fSteps, v1136.fData, v1136.fSalt, v1136.fGone, v1136.fCom)))))))) else (bif (decide (v607.fKind = (6 : Int))) then ((wire_Reader_Num.f K (r597.2)).bind fun (r1140 : (Int × T_wire_Reader)) => ((wire_Reader_Num.f K (r1140.2)).bind fun (r1148 : (Int × T_wire_Reader)) => ((some { v607 with fPart := r1140.1 }).bind fun (v1156 : T_api_Rec) => ((some { v1156 with fEpoch := r1148.1 }).bind fun (v1160 : T_api_Rec) => (j914 (r1148.2, v1160.fKind, v1160.fSaga, v1160.fSeq, v1160.fStep, v1160.fTry, v1160.fBack, v1160.fGood, v1160.fEnd, v1160.fPart, v1160.fEpoch, v1160.fTag, v1160.fSteps, v1160.fData, v1160.fSalt, v1160.fGone, v1160.fCom)))))) else ((wire_Reader_Fail.f K ((2 : Int)) (r597.2)).bind fun (r1164 : (T_wire_Reader)) => (j914 (r1164, v607.fKind, v607.fSaga, v607.fSeq, v607.fStep, v607.fTry, v607.fBack, v607.fGood, v607.fEnd, v607.fPart, v607.fEpoch, v607.fTag, v607.fSteps, v607.fData, v607.fSalt, v607.fGone, v607.fCom))))))) (fun j1172 => (bif (decide (v607.fKind = (2 : Int))) then (j1172 (decide (v607.fKind = (2 : Int)))) else (bif (decide (v607.fKind = (4 : Int))) then (j1172 (decide (v607.fKind = (4 : Int)))) else (j1172 (decide (v607.fKind = (3 : Int)))))))))))))
def wire_Reader_Done.f (K : Nat) (x3 : T_wire_Reader) : Option (Int) :=
 ((wire_Reader_Bad.f K (x3)).bind fun (r22 : (Int)) => (bif (!decide (r22 = (0 : Int))) then (some r22) else (bif (decide ((0 : Int) < ((List.length (x3.fB) : Nat) : Int))) then (some (2 : Int)) else (some (0 : Int)))))
def rec_Get.f (K : Nat) (x1 : (List Int)) : Option (T_api_Rec × Int) :=
 ((wire_Read.f K (x1)).bind fun (r51 : (T_wire_Reader)) => ((rec_Read.f K (r51)).bind fun (r61 : (T_api_Rec × T_wire_Reader)) => ((wire_Reader_Done.f K (r61.2)).bind fun (r82 : (Int)) => (bif (!decide (r82 = (0 : Int))) then (some (z_T_api_Rec, r82)) else (some (r61.1, (0 : Int)))))))
def slices_Clone_api_Step_api_Step.f (K : Nat) (x1 : (List T_api_Step)) : Option ((List T_api_Step)) :=
 ((catI 16 (([] : List T_api_Step)) (x1)).bind fun (l26 : (List T_api_Step)) => (some l26))
def mac_row_l1.b (K : Nat) (x2 : Int) (l189 : (List Int)) (rec : (Int × (List Int) × Int) → Option ((List Int))) (y316 : Int × (List Int) × Int) : Option ((List Int)) :=
 (bif (decide (y316.2.2 < ((List.length (l189) : Nat) : Int))) then ((getI (y316.2.1) (IntKind.wrap .i64 ((IntKind.wrap .i64 (x2 - (1 : Int))) - y316.2.2))).bind fun (x363 : Int) => (rec ((Int.fdiv y316.1 (2 ^ 8)), (List.set (y316.2.1) (Int.toNat ((IntKind.wrap .i64 ((IntKind.wrap .i64 (x2 - (1 : Int))) - y316.2.2)))) ((IntKind.wrap .u8 y316.1))), (IntKind.wrap .i64 (y316.2.2 + (1 : Int)))))) else (some y316.2.1))
def mac_row_l1.l (K : Nat) (x2 : Int) (l189 : (List Int)) : Nat → (Int × (List Int) × Int) → Option ((List Int))
 | 0, _ => none
 | k + 1, y => mac_row_l1.b K x2 l189 (mac_row_l1.l K x2 l189 k) y
theorem mac_row_l1.some {K : Nat} (x2 : Int) (l189 : (List Int)) {k : Nat} {y : Int × (List Int) × Int} {s : ((List Int))} (h : mac_row_l1.l K x2 l189 k y = some s) : ∃ k', k = k' + 1 ∧ mac_row_l1.b K x2 l189 (mac_row_l1.l K x2 l189 k') y = some s := by
 cases k with
 | zero => cases h
 | succ k => exact ⟨k, rfl, h⟩
def mac_row.f (K : Nat) (x1 : Int) (x2 : Int) : Option ((List Int)) :=
 ((zerosI 1 ((0 : Int)) x2).bind fun (l189 : (List Int)) => ((mac_row_l1.l K x2 l189 K (x1, l189, (0 : Int))).bind fun (z346 : (List Int)) => (some z346)))
def mac_Of_1.f (K : Nat) (x1 : (List Int)) : Option ((List Int)) :=
 ((mac_row.f K ((IntKind.wrap .u64 ((List.length (x1) : Nat) : Int))) ((4 : Int))).bind fun (r44 : ((List Int))) => ((slices_Concat_byte_byte.f K (([r44, x1] : List (List Int)))).bind fun (r68 : ((List Int))) => (some r68)))
def mac_joined_byte_l1.b (K : Nat) (x1 : (List (List Int))) (rec : ((List Int) × Int) → Option ((List Int))) (y907 : (List Int) × Int) : Option ((List Int)) :=
 (bif (decide (y907.2 < ((List.length (x1) : Nat) : Int))) then ((getI (x1) y907.2).bind fun (x1044 : (List Int)) => ((mac_Of_1.f K (x1044)).bind fun (r1059 : ((List Int))) => ((catI 1 (y907.1) (r1059)).bind fun (l1074 : (List Int)) => (rec (l1074, (IntKind.wrap .i64 (y907.2 + (1 : Int)))))))) else (some y907.1))
def mac_joined_byte_l1.l (K : Nat) (x1 : (List (List Int))) : Nat → ((List Int) × Int) → Option ((List Int))
 | 0, _ => none
 | k + 1, y => mac_joined_byte_l1.b K x1 (mac_joined_byte_l1.l K x1 k) y
theorem mac_joined_byte_l1.some {K : Nat} (x1 : (List (List Int))) {k : Nat} {y : (List Int) × Int} {s : ((List Int))} (h : mac_joined_byte_l1.l K x1 k y = some s) : ∃ k', k = k' + 1 ∧ mac_joined_byte_l1.b K x1 (mac_joined_byte_l1.l K x1 k') y = some s := by
 cases k with
 | zero => cases h
 | succ k => exact ⟨k, rfl, h⟩
def mac_joined_byte.f (K : Nat) (x1 : (List (List Int))) : Option ((List Int)) :=
 ((mac_joined_byte_l1.l K x1 K (([] : List Int), (0 : Int))).bind fun (z997 : (List Int)) => (some z997))
def sha_Fill_l1.b (K : Nat) (x1 : Int) (rec : (List Int) → Option ((List Int))) (y624 : (List Int)) : Option ((List Int)) :=
 (bif (!decide ((Int.tmod (IntKind.wrap .i64 (x1 + ((List.length (y624) : Nat) : Int))) 64) = (56 : Int))) then ((catI 1 (y624) (([(0 : Int)] : List Int))).bind fun (l675 : (List Int)) => (rec l675)) else (some y624))
def sha_Fill_l1.l (K : Nat) (x1 : Int) : Nat → ((List Int)) → Option ((List Int))
 | 0, _ => none
 | k + 1, y => sha_Fill_l1.b K x1 (sha_Fill_l1.l K x1 k) y
theorem sha_Fill_l1.some {K : Nat} (x1 : Int) {k : Nat} {y : (List Int)} {s : ((List Int))} (h : sha_Fill_l1.l K x1 k y = some s) : ∃ k', k = k' + 1 ∧ sha_Fill_l1.b K x1 (sha_Fill_l1.l K x1 k') y = some s := by
 cases k with
 | zero => cases h
 | succ k => exact ⟨k, rfl, h⟩
def sha_Fill_l2.b (K : Nat) (x1 : Int) (rec : ((List Int) × Int) → Option ((List Int))) (y882 : (List Int) × Int) : Option ((List Int)) :=
 (bif (decide ((0 : Int) ≤ y882.2)) then (chk (!(decide ((IntKind.wrap .i64 ((8 : Int) * y882.2)) < 0))) ((catI 1 (y882.1) (([(IntKind.wrap .u8 (Int.fdiv (IntKind.wrap .u64 ((IntKind.wrap .u64 x1) * (8 : Int))) (2 ^ (min (Int.toNat (IntKind.wrap .i64 ((8 : Int) * y882.2))) 64))))] : List Int))).bind fun (l969 : (List Int)) => (rec (l969, (IntKind.wrap .i64 (y882.2 - (1 : Int))))))) else (some y882.1))
def sha_Fill_l2.l (K : Nat) (x1 : Int) : Nat → ((List Int) × Int) → Option ((List Int))
 | 0, _ => none
 | k + 1, y => sha_Fill_l2.b K x1 (sha_Fill_l2.l K x1 k) y
theorem sha_Fill_l2.some {K : Nat} (x1 : Int) {k : Nat} {y : (List Int) × Int} {s : ((List Int))} (h : sha_Fill_l2.l K x1 k y = some s) : ∃ k', k = k' + 1 ∧ sha_Fill_l2.b K x1 (sha_Fill_l2.l K x1 k') y = some s := by
 cases k with
 | zero => cases h
 | succ k => exact ⟨k, rfl, h⟩
def sha_Fill.f (K : Nat) (x1 : Int) : Option ((List Int)) :=
 (bif (decide (x1 < (0 : Int))) then (some ([] : List Int)) else ((sha_Fill_l1.l K x1 K ([(128 : Int)] : List Int)).bind fun (z656 : (List Int)) => ((sha_Fill_l2.l K x1 K (z656, (7 : Int))).bind fun (z932 : (List Int)) => (some z932))))
def sha_blocks.f (K : Nat) (x1 : (List Int)) : Option ((List Int)) :=
 (some x1)
def math_bits_RotateLeft32.f (K : Nat) (x1 : Int) (x2 : Int) : Option (Int) :=
 (chk (!(decide ((band .u64 (IntKind.wrap .u64 x2) (31 : Int)) < 0))) (chk (!(decide ((IntKind.wrap .u64 ((32 : Int) - (band .u64 (IntKind.wrap .u64 x2) (31 : Int)))) < 0))) (some (bor .u32 (IntKind.wrap .u32 (x1 * 2 ^ (min (Int.toNat (band .u64 (IntKind.wrap .u64 x2) (31 : Int))) 32))) (Int.fdiv x1 (2 ^ (min (Int.toNat (IntKind.wrap .u64 ((32 : Int) - (band .u64 (IntKind.wrap .u64 x2) (31 : Int))))) 32)))))))
def sha_moved.f (K : Nat) (x1 : Int) (x2 : Int) (x3 : Int) (x4 : Int) : Option (Int) :=
 (chk (!(decide (x4 < 0))) ((math_bits_RotateLeft32.f K (x1) ((IntKind.wrap .i64 (0 - x2)))).bind fun (r39 : (Int)) => ((math_bits_RotateLeft32.f K (x1) ((IntKind.wrap .i64 (0 - x3)))).bind fun (r44 : (Int)) => (some (bxor .u32 (bxor .u32 r39 r44) (Int.fdiv x1 (2 ^ (min (Int.toNat x4) 32))))))))
def sha_schedule_l1.b (K : Nat) (x1 : (List Int)) (rec : (Int × (Vector Int 64)) → Option ((Vector Int 64))) (y4844 : Int × (Vector Int 64)) : Option ((Vector Int 64)) :=
 (bif (decide (y4844.1 < (64 : Int))) then (jn (fun (y5574 : (Vector Int 64)) => (rec ((IntKind.wrap .i64 (y4844.1 + (1 : Int))), y5574))) (fun j5577 => (bif (decide (y4844.1 < (16 : Int))) then ((getI (x1) (IntKind.wrap .i64 ((4 : Int) * y4844.1))).bind fun (x5732 : Int) => ((getI (x1) (IntKind.wrap .i64 ((IntKind.wrap .i64 ((4 : Int) * y4844.1)) + (1 : Int)))).bind fun (x5744 : Int) => ((getI (x1) (IntKind.wrap .i64 ((IntKind.wrap .i64 ((4 : Int) * y4844.1)) + (2 : Int)))).bind fun (x5756 : Int) => ((getI (x1) (IntKind.wrap .i64 ((IntKind.wrap .i64 ((4 : Int) * y4844.1)) + (3 : Int)))).bind fun (x5768 : Int) => (chk (inA 64 y4844.1) ((some (vset (y4844.2) (Int.toNat (y4844.1)) ((bor .u32 (bor .u32 (bor .u32 (IntKind.wrap .u32 ((IntKind.wrap .u32 x5732) * 2 ^ 24)) (IntKind.wrap .u32 ((IntKind.wrap .u32 x5744) * 2 ^ 16))) (IntKind.wrap .u32 ((IntKind.wrap .u32 x5756) * 2 ^ 8))) (IntKind.wrap .u32 x5768))))).bind fun (v5781 : (Vector Int 64)) => (j5577 v5781))))))) else (chk (inA 64 (IntKind.wrap .i64 (y4844.1 - (2 : Int)))) (chk (inA 64 (IntKind.wrap .i64 (y4844.1 - (7 : Int)))) (chk (inA 64 (IntKind.wrap .i64 (y4844.1 - (15 : Int)))) (chk (inA 64 (IntKind.wrap .i64 (y4844.1 - (16 : Int)))) ((sha_moved.f K ((vget (y4844.2) (Int.toNat ((IntKind.wrap .i64 (y4844.1 - (2 : Int))))))) ((17 : Int)) ((19 : Int)) ((10 : Int))).bind fun (r5804 : (Int)) => ((sha_moved.f K ((vget (y4844.2) (Int.toNat ((IntKind.wrap .i64 (y4844.1 - (15 : Int))))))) ((7 : Int)) ((18 : Int)) ((3 : Int))).bind fun (r5809 : (Int)) => (chk (inA 64 y4844.1) ((some (vset (y4844.2) (Int.toNat (y4844.1)) ((IntKind.wrap .u32 ((IntKind.wrap .u32 ((IntKind.wrap .u32 (r5804 + (vget (y4844.2) (Int.toNat ((IntKind.wrap .i64 (y4844.1 - (7 : Int)))))))) + r5809)) + (vget (y4844.2) (Int.toNat ((IntKind.wrap .i64 (y4844.1 - (16 : Int))))))))))).bind fun (v5815 : (Vector Int 64)) => (j5577 v5815)))))))))))) else (some y4844.2))
def sha_schedule_l1.l (K : Nat) (x1 : (List Int)) : Nat → (Int × (Vector Int 64)) → Option ((Vector Int 64))
 | 0, _ => none
 | k + 1, y => sha_schedule_l1.b K x1 (sha_schedule_l1.l K x1 k) y
theorem sha_schedule_l1.some {K : Nat} (x1 : (List Int)) {k : Nat} {y : Int × (Vector Int 64)} {s : ((Vector Int 64))} (h : sha_schedule_l1.l K x1 k y = some s) : ∃ k', k = k' + 1 ∧ sha_schedule_l1.b K x1 (sha_schedule_l1.l K x1 k') y = some s := by
 cases k with
 | zero => cases h
 | succ k => exact ⟨k, rfl, h⟩
def sha_schedule.f (K : Nat) (x1 : (List Int)) : Option ((Vector Int 64)) :=
 ((sha_schedule_l1.l K x1 K ((0 : Int), (Vector.replicate 64 (0 : Int)))).bind fun (z5331 : (Vector Int 64)) => (some z5331))
def sha_turned.f (K : Nat) (x1 : Int) (x2 : Int) (x3 : Int) (x4 : Int) : Option (Int) :=
 ((math_bits_RotateLeft32.f K (x1) ((IntKind.wrap .i64 (0 - x2)))).bind fun (r20 : (Int)) => ((math_bits_RotateLeft32.f K (x1) ((IntKind.wrap .i64 (0 - x3)))).bind fun (r25 : (Int)) => ((math_bits_RotateLeft32.f K (x1) ((IntKind.wrap .i64 (0 - x4)))).bind fun (r30 : (Int)) => (some (bxor .u32 (bxor .u32 r20 r25) r30)))))
def sha_Turn_l1.b (K : Nat) (r1045 : ((Vector Int 64))) (rec : (Int × (Vector Int 8)) → Option ((Vector Int 8))) (y1147 : Int × (Vector Int 8)) : Option ((Vector Int 8)) :=
 (bif (decide (y1147.1 < (64 : Int))) then ((getI (vlist (r1045)) y1147.1).bind fun (x1296 : Int) => (chk (inA 64 y1147.1) ((sha_turned.f K ((vget (y1147.2) (Int.toNat ((4 : Int))))) ((6 : Int)) ((11 : Int)) ((25 : Int))).bind fun (r1319 : (Int)) => ((sha_turned.f K ((vget (y1147.2) (Int.toNat ((0 : Int))))) ((2 : Int)) ((13 : Int)) ((22 : Int))).bind fun (r1329 : (Int)) => ((some (vcopy (y1147.2) 1 0 7)).bind fun (v1336 : (Vector Int 8)) => ((some (vset (v1336) (Int.toNat ((4 : Int))) ((IntKind.wrap .u32 ((vget (v1336) (Int.toNat ((4 : Int)))) + (IntKind.wrap .u32 ((IntKind.wrap .u32 ((IntKind.wrap .u32 ((IntKind.wrap .u32 ((vget (y1147.2) (Int.toNat ((7 : Int)))) + r1319)) + (bxor .u32 (band .u32 (vget (y1147.2) (Int.toNat ((4 : Int)))) (vget (y1147.2) (Int.toNat ((5 : Int))))) (band .u32 (bnot .u32 (vget (y1147.2) (Int.toNat ((4 : Int))))) (vget (y1147.2) (Int.toNat ((6 : Int)))))))) + (vget (gl_K) (Int.toNat (y1147.1))))) + x1296))))))).bind fun (v1338 : (Vector Int 8)) => ((some (vset (v1338) (Int.toNat ((0 : Int))) ((IntKind.wrap .u32 ((IntKind.wrap .u32 ((IntKind.wrap .u32 ((IntKind.wrap .u32 ((IntKind.wrap .u32 ((vget (y1147.2) (Int.toNat ((7 : Int)))) + r1319)) + (bxor .u32 (band .u32 (vget (y1147.2) (Int.toNat ((4 : Int)))) (vget (y1147.2) (Int.toNat ((5 : Int))))) (band .u32 (bnot .u32 (vget (y1147.2) (Int.toNat ((4 : Int))))) (vget (y1147.2) (Int.toNat ((6 : Int)))))))) + (vget (gl_K) (Int.toNat (y1147.1))))) + x1296)) + (IntKind.wrap .u32 (r1329 + (bxor .u32 (bxor .u32 (band .u32 (vget (y1147.2) (Int.toNat ((0 : Int)))) (vget (y1147.2) (Int.toNat ((1 : Int))))) (band .u32 (vget (y1147.2) (Int.toNat ((0 : Int)))) (vget (y1147.2) (Int.toNat ((2 : Int)))))) (band .u32 (vget (y1147.2) (Int.toNat ((1 : Int)))) (vget (y1147.2) (Int.toNat ((2 : Int))))))))))))).bind fun (v1340 : (Vector Int 8)) => (rec ((IntKind.wrap .i64 (y1147.1 + (1 : Int))), v1340))))))))) else (some y1147.2))
def sha_Turn_l1.l (K : Nat) (r1045 : ((Vector Int 64))) : Nat → (Int × (Vector Int 8)) → Option ((Vector Int 8))
 | 0, _ => none
 | k + 1, y => sha_Turn_l1.b K r1045 (sha_Turn_l1.l K r1045 k) y
theorem sha_Turn_l1.some {K : Nat} (r1045 : ((Vector Int 64))) {k : Nat} {y : Int × (Vector Int 8)} {s : ((Vector Int 8))} (h : sha_Turn_l1.l K r1045 k y = some s) : ∃ k', k = k' + 1 ∧ sha_Turn_l1.b K r1045 (sha_Turn_l1.l K r1045 k') y = some s := by
 cases k with
 | zero => cases h
 | succ k => exact ⟨k, rfl, h⟩
def sha_Turn_l2.b (K : Nat) (z1245 : (Vector Int 8)) (rec : (Int × (Vector Int 8)) → Option ((Vector Int 8))) (y1427 : Int × (Vector Int 8)) : Option ((Vector Int 8)) :=
 (bif (decide (y1427.1 < (8 : Int))) then (chk (inA 8 y1427.1) (chk (inA 8 y1427.1) (chk (inA 8 y1427.1) ((some (vset (y1427.2) (Int.toNat (y1427.1)) ((IntKind.wrap .u32 ((vget (y1427.2) (Int.toNat (y1427.1))) + (vget (z1245) (Int.toNat (y1427.1)))))))).bind fun (v1476 : (Vector Int 8)) => (rec ((IntKind.wrap .i64 (y1427.1 + (1 : Int))), v1476)))))) else (some y1427.2))
def sha_Turn_l2.l (K : Nat) (z1245 : (Vector Int 8)) : Nat → (Int × (Vector Int 8)) → Option ((Vector Int 8))
 | 0, _ => none
 | k + 1, y => sha_Turn_l2.b K z1245 (sha_Turn_l2.l K z1245 k) y
theorem sha_Turn_l2.some {K : Nat} (z1245 : (Vector Int 8)) {k : Nat} {y : Int × (Vector Int 8)} {s : ((Vector Int 8))} (h : sha_Turn_l2.l K z1245 k y = some s) : ∃ k', k = k' + 1 ∧ sha_Turn_l2.b K z1245 (sha_Turn_l2.l K z1245 k') y = some s := by
 cases k with
 | zero => cases h
 | succ k => exact ⟨k, rfl, h⟩
def sha_Turn.f (K : Nat) (x1 : (Vector Int 8)) (x2 : (List Int)) : Option ((Vector Int 8)) :=
 (bif (!decide (((List.length (x2) : Nat) : Int) = (64 : Int))) then (some x1) else ((sha_schedule.f K (x2)).bind fun (r1045 : ((Vector Int 64))) => ((sha_Turn_l1.l K r1045 K ((0 : Int), x1)).bind fun (z1245 : (Vector Int 8)) => ((sha_Turn_l2.l K z1245 K ((0 : Int), x1)).bind fun (z1453 : (Vector Int 8)) => (some z1453)))))
def sha_Sum_l1.b (K : Nat) (rec : ((Vector Int 8) × (List Int)) → Option ((Vector Int 8) × (List Int))) (y691 : (Vector Int 8) × (List Int)) : Option ((Vector Int 8) × (List Int)) :=
 (bif (decide ((64 : Int) ≤ ((List.length (y691.2) : Nat) : Int))) then ((subI (y691.2) 0 (64 : Int)).bind fun (l746 : (List Int)) => ((sha_Turn.f K (y691.1) (l746)).bind fun (r751 : ((Vector Int 8))) => ((subI (y691.2) (64 : Int) ((List.length (y691.2) : Nat) : Int)).bind fun (l756 : (List Int)) => (rec (r751, l756))))) else (some (y691.1, y691.2)))
def sha_Sum_l1.l (K : Nat) : Nat → ((Vector Int 8) × (List Int)) → Option ((Vector Int 8) × (List Int))
 | 0, _ => none
 | k + 1, y => sha_Sum_l1.b K (sha_Sum_l1.l K k) y
theorem sha_Sum_l1.some {K : Nat} {k : Nat} {y : (Vector Int 8) × (List Int)} {s : ((Vector Int 8) × (List Int))} (h : sha_Sum_l1.l K k y = some s) : ∃ k', k = k' + 1 ∧ sha_Sum_l1.b K (sha_Sum_l1.l K k') y = some s := by
 cases k with
 | zero => cases h
 | succ k => exact ⟨k, rfl, h⟩
def sha_Sum_l2.b (K : Nat) (z728 : (Vector Int 8) × (List Int)) (rec : (Int × (Vector Int 32)) → Option ((Vector Int 32))) (y828 : Int × (Vector Int 32)) : Option ((Vector Int 32)) :=
 (bif (decide (y828.1 < (32 : Int))) then (chk (inA 8 (IntKind.wrap .i64 (Int.tdiv y828.1 4))) (chk (!(decide ((IntKind.wrap .i64 ((24 : Int) - (IntKind.wrap .i64 ((8 : Int) * (Int.tmod y828.1 4))))) < 0))) (chk (inA 32 y828.1) ((some (vset (y828.2) (Int.toNat (y828.1)) ((IntKind.wrap .u8 (Int.fdiv (vget (z728.1) (Int.toNat ((IntKind.wrap .i64 (Int.tdiv y828.1 4))))) (2 ^ (min (Int.toNat (IntKind.wrap .i64 ((24 : Int) - (IntKind.wrap .i64 ((8 : Int) * (Int.tmod y828.1 4)))))) 32))))))).bind fun (v857 : (Vector Int 32)) => (rec ((IntKind.wrap .i64 (y828.1 + (1 : Int))), v857)))))) else (some y828.2))
def sha_Sum_l2.l (K : Nat) (z728 : (Vector Int 8) × (List Int)) : Nat → (Int × (Vector Int 32)) → Option ((Vector Int 32))
 | 0, _ => none
 | k + 1, y => sha_Sum_l2.b K z728 (sha_Sum_l2.l K z728 k) y
theorem sha_Sum_l2.some {K : Nat} (z728 : (Vector Int 8) × (List Int)) {k : Nat} {y : Int × (Vector Int 32)} {s : ((Vector Int 32))} (h : sha_Sum_l2.l K z728 k y = some s) : ∃ k', k = k' + 1 ∧ sha_Sum_l2.b K z728 (sha_Sum_l2.l K z728 k') y = some s := by
 cases k with
 | zero => cases h
 | succ k => exact ⟨k, rfl, h⟩
def sha_Sum.f (K : Nat) (x1 : (List (List Int))) : Option ((Vector Int 32)) :=
 ((slices_Concat_byte_byte.f K (x1)).bind fun (r434 : ((List Int))) => ((sha_Fill.f K (((List.length (r434) : Nat) : Int))).bind fun (r607 : ((List Int))) => ((catI 1 (r434) (r607)).bind fun (l622 : (List Int)) => ((sha_blocks.f K (l622)).bind fun (r634 : ((List Int))) => ((sha_Sum_l1.l K K (gl_First, r634)).bind fun (z728 : (Vector Int 8) × (List Int)) => ((sha_Sum_l2.l K z728 K ((0 : Int), (Vector.replicate 32 (0 : Int)))).bind fun (z844 : (Vector Int 32)) => (some z844)))))))
def mac_Of.f (K : Nat) (x1 : Int) (x2 : (List (List Int))) : Option ((Vector Int 32)) :=
 ((mac_joined_byte.f K (x2)).bind fun (r52 : ((List Int))) => ((sha_Sum.f K (([([(IntKind.wrap .u8 x1)] : List Int), r52] : List (List Int)))).bind fun (r81 : ((Vector Int 32))) => (some r81)))
def rec_Com.f (K : Nat) (x1 : T_api_Rec) : Option ((Vector Int 32)) :=
 (jn (fun (y138 : Bool) => (bif y138 then (some (vofL 32 [(0 : Int), (0 : Int), (0 : Int), (0 : Int), (0 : Int), (0 : Int), (0 : Int), (0 : Int), (0 : Int), (0 : Int), (0 : Int), (0 : Int), (0 : Int), (0 : Int), (0 : Int), (0 : Int), (0 : Int), (0 : Int), (0 : Int), (0 : Int), (0 : Int), (0 : Int), (0 : Int), (0 : Int), (0 : Int), (0 : Int), (0 : Int), (0 : Int), (0 : Int), (0 : Int), (0 : Int), (0 : Int)])) else (bif x1.fGone then (some x1.fCom) else ((subI (vlist (x1.fSalt)) 0 ((32 : Nat) : Int)).bind fun (l181 : List Int) => ((mac_Of.f K ((4 : Int)) (([l181, x1.fData] : List (List Int)))).bind fun (r208 : ((Vector Int 32))) => (some r208)))))) (fun j213 => ((rec_Right.f K (x1)).bind fun (r215 : (Bool)) => (bif (!r215) then (j213 true) else (j213 (!decide (x1.fKind = (1 : Int))))))))
def rec_Redact.f (K : Nat) (x1 : T_api_Rec) : Option (T_api_Rec) :=
 (jn (fun (y120 : Bool) => (bif y120 then (some x1) else ((slices_Clone_api_Step_api_Step.f K (x1.fSteps)).bind fun (r147 : ((List T_api_Step))) => ((rec_Com.f K (x1)).bind fun (r157 : ((Vector Int 32))) => ((some { z_T_api_Rec with fKind := (1 : Int), fSaga := x1.fSaga, fSteps := r147, fGone := true, fCom := r157 }).bind fun (v167 : T_api_Rec) => (some v167)))))) (fun j171 => ((rec_Right.f K (x1)).bind fun (r173 : (Bool)) => (bif (!r173) then (j171 true) else (j171 (!decide (x1.fKind = (1 : Int))))))))
def inspeximusref01_Bytes_l1.b (K : Nat) (x1 : (List Int)) (x5 : (List Int)) (rec : Int → Option (Sum ((Bool)) (Unit))) (y1047 : Int) : Option (Sum ((Bool)) (Unit)) :=
 (bif (decide (y1047 < ((List.length (x1) : Nat) : Int))) then ((getI (x1) y1047).bind fun (x1226 : Int) => ((getI (x5) y1047).bind fun (x1238 : Int) => (bif (!decide (x1226 = x1238)) then (some (Sum.inl false)) else (rec (IntKind.wrap .i64 (y1047 + (1 : Int))))))) else (some (Sum.inr ())))
def inspeximusref01_Bytes_l1.l (K : Nat) (x1 : (List Int)) (x5 : (List Int)) : Nat → (Int) → Option (Sum ((Bool)) (Unit))
 | 0, _ => none
 | k + 1, y => inspeximusref01_Bytes_l1.b K x1 x5 (inspeximusref01_Bytes_l1.l K x1 x5 k) y
theorem inspeximusref01_Bytes_l1.some {K : Nat} (x1 : (List Int)) (x5 : (List Int)) {k : Nat} {y : Int} {s : (Sum ((Bool)) (Unit))} (h : inspeximusref01_Bytes_l1.l K x1 x5 k y = some s) : ∃ k', k = k' + 1 ∧ inspeximusref01_Bytes_l1.b K x1 x5 (inspeximusref01_Bytes_l1.l K x1 x5 k') y = some s := by
 cases k with
 | zero => cases h
 | succ k => exact ⟨k, rfl, h⟩
def inspeximusref01_Bytes.f (K : Nat) (x1 : (List Int)) (x5 : (List Int)) : Option (Bool) :=
 (bif (!decide (((List.length (x1) : Nat) : Int) = ((List.length (x5) : Nat) : Int))) then (some false) else ((inspeximusref01_Bytes_l1.l K x1 x5 K (0 : Int)).bind fun s1250 => (match s1250 with | .inl u1251 => some u1251 | .inr u1252 => (fun (z1149 : Unit) => (some true)) u1252)))
def rec_Sealed_1.f (K : Nat) (x3 : T_api_Rec) : Option ((List Int)) :=
 ((rec_Com.f K (x3)).bind fun (r30 : ((Vector Int 32))) => ((wire_Hash.f K (r30)).bind fun (r35 : ((List Int))) => (some r35)))
def rec_put_v2.f (K : Nat) (x3 : T_api_Rec) (x10 : T_api_Rec) : Option ((List Int)) :=
 ((rec_Right.f K (x3)).bind fun (r1119 : (Bool)) => (bif (!r1119) then (some ([] : List Int)) else (jn (fun (y1637 : (List Int)) => (bif (decide (x3.fKind = (1 : Int))) then ((rec_Sealed_1.f K (x10)).bind fun (r1667 : ((List Int))) => ((catI 1 (y1637) (r1667)).bind fun (l1682 : (List Int)) => (some l1682))) else (some y1637))) (fun j1689 => ((wire_Num.f K (x3.fKind)).bind fun (r1947 : ((List Int))) => ((rec_forms.f K).bind fun (r1957 : Unit) => (bif decide (x3.fKind = (0 : Int)) then none else (bif decide (x3.fKind = (1 : Int)) then ((rec_begin.f K (x3)).bind fun (r1964 : ((List Int))) => ((wire_All.f K (([r1947, r1964] : List (List Int)))).bind fun (r1993 : ((List Int))) => (j1689 r1993))) else (bif decide (x3.fKind = (2 : Int)) then ((rec_call.f K (x3)).bind fun (r2004 : ((List Int))) => ((wire_All.f K (([r1947, r2004] : List (List Int)))).bind fun (r2033 : ((List Int))) => (j1689 r2033))) else (bif decide (x3.fKind = (3 : Int)) then ((rec_forms_1.f K (x3)).bind fun (r2044 : ((List Int))) => ((wire_All.f K (([r1947, r2044] : List (List Int)))).bind fun (r2073 : ((List Int))) => (j1689 r2073))) else (bif decide (x3.fKind = (4 : Int)) then ((rec_call.f K (x3)).bind fun (r2084 : ((List Int))) => ((wire_All.f K (([r1947, r2084] : List (List Int)))).bind fun (r2113 : ((List Int))) => (j1689 r2113))) else (bif decide (x3.fKind = (5 : Int)) then ((rec_forms_2.f K (x3)).bind fun (r2124 : ((List Int))) => ((wire_All.f K (([r1947, r2124] : List (List Int)))).bind fun (r2153 : ((List Int))) => (j1689 r2153))) else (bif decide (x3.fKind = (6 : Int)) then ((rec_forms_3.f K (x3)).bind fun (r2164 : ((List Int))) => ((wire_All.f K (([r1947, r2164] : List (List Int)))).bind fun (r2193 : ((List Int))) => (j1689 r2193))) else none)))))))))))))
def rec_Sealed.f (K : Nat) (x1 : T_api_Rec) : Option ((List Int)) :=
 ((rec_put_v2.f K (x1) (x1)).bind fun (r27 : ((List Int))) => (some r27))
def inspeximuslaw04_alive.f (K : Nat) : Option (Bool) :=
 ((rec_Open.f K ({ z_T_api_Rec with fKind := (6 : Int), fPart := (1 : Int), fEpoch := (2 : Int) })).bind fun (r437 : ((List Int))) => ((some { z_T_api_Rec with fKind := (1 : Int), fSaga := (3 : Int), fSteps := ([(T_api_Step.mk ((1 : Int)) ((1 : Int)))] : List T_api_Step), fData := ([(97 : Int)] : List Int) }).bind fun (v465 : T_api_Rec) => ((rec_Open.f K (v465)).bind fun (r469 : ((List Int))) => ((rec_Get.f K (r469)).bind fun (r484 : (T_api_Rec × Int)) => ((rec_Get.f K (([(9 : Int)] : List Int))).bind fun (r506 : (T_api_Rec × Int)) => ((rec_Redact.f K (v465)).bind fun (r519 : (T_api_Rec)) => (jn (fun (y700 : Bool) => (some y700)) (fun j703 => ((inspeximusref01_Bytes.f K (r437) (([(6 : Int), (1 : Int), (2 : Int)] : List Int))).bind fun (r803 : (Bool)) => (bif r803 then (bif (decide (r484.2 = (0 : Int))) then (bif (decide (r506.2 = (2 : Int))) then ((rec_Same.f K (v465) (r484.1)).bind fun (r808 : (Bool)) => (bif r808 then ((rec_Right.f K (v465)).bind fun (r813 : (Bool)) => (bif r813 then ((rec_Right.f K (z_T_api_Rec)).bind fun (r818 : (Bool)) => (bif (!r818) then (bif r519.fGone then ((rec_Com.f K (v465)).bind fun (r823 : ((Vector Int 32))) => (bif (decide (r519.fCom = r823)) then ((rec_Sealed.f K (v465)).bind fun (r828 : ((List Int))) => ((rec_Sealed.f K (r519)).bind fun (r838 : ((List Int))) => ((inspeximusref01_Bytes.f K (r828) (r838)).bind fun (r858 : (Bool)) => (bif r858 then ((rec_Open.f K (r519)).bind fun (r863 : ((List Int))) => (j703 (decide (((List.length (r863) : Nat) : Int) = (38 : Int))))) else (j703 false))))) else (j703 false))) else (j703 false)) else (j703 false))) else (j703 false))) else (j703 false))) else (j703 false)) else (j703 false)) else (j703 false)))))))))))
def inspeximusref04_Great.f (K : Nat) (x1 : T_api_Rec) : Option (Bool) :=
 (bif (decide ((30 : Int) < ((List.length (x1.fSteps) : Nat) : Int))) then (some true) else (some (decide ((300 : Int) < ((List.length (x1.fData) : Nat) : Int)))))
def inspeximusref04_in.f (K : Nat) (x1 : Int) (x2 : Int) (x3 : Int) : Option (Bool) :=
 (bif (decide (x2 ≤ x1)) then (some (decide (x1 ≤ x3))) else (some false))
def inspeximusref04_Right_l1.b (K : Nat) (x1 : T_api_Rec) (rec : Int → Option (Sum ((Bool)) (Unit))) (y2125 : Int) : Option (Sum ((Bool)) (Unit)) :=
 (bif (decide (y2125 < ((List.length (x1.fSteps) : Nat) : Int))) then (jn (fun (y2389 : Bool) => (bif y2389 then (some (Sum.inl false)) else (rec (IntKind.wrap .i64 (y2125 + (1 : Int)))))) (fun j2392 => ((getI (x1.fSteps) y2125).bind fun (x2394 : T_api_Step) => ((inspeximusref04_in.f K (x2394.fPart) ((0 : Int)) ((3 : Int))).bind fun (r2406 : (Bool)) => (bif (!r2406) then (j2392 true) else ((getI (x1.fSteps) y2125).bind fun (x2411 : T_api_Step) => ((inspeximusref04_in.f K (x2411.fKind) ((1 : Int)) ((3 : Int))).bind fun (r2423 : (Bool)) => (j2392 (!r2423))))))))) else (some (Sum.inr ())))
def inspeximusref04_Right_l1.l (K : Nat) (x1 : T_api_Rec) : Nat → (Int) → Option (Sum ((Bool)) (Unit))
 | 0, _ => none
 | k + 1, y => inspeximusref04_Right_l1.b K x1 (inspeximusref04_Right_l1.l K x1 k) y
theorem inspeximusref04_Right_l1.some {K : Nat} (x1 : T_api_Rec) {k : Nat} {y : Int} {s : (Sum ((Bool)) (Unit))} (h : inspeximusref04_Right_l1.l K x1 k y = some s) : ∃ k', k = k' + 1 ∧ inspeximusref04_Right_l1.b K x1 (inspeximusref04_Right_l1.l K x1 k') y = some s := by
 cases k with
 | zero => cases h
 | succ k => exact ⟨k, rfl, h⟩
def inspeximusref04_Right.f (K : Nat) (x1 : T_api_Rec) : Option (Bool) :=
 (jn (fun (y1278 : Bool) => (jn (fun (y1301 : Bool) => (bif y1301 then (some false) else (jn (fun (y1314 : Unit) => (jn (fun (y1352 : Bool) => (bif y1352 then (some false) else (jn (fun (y1390 : Bool) => (bif y1390 then (some false) else (jn (fun (y1488 : Bool) => (bif y1488 then (some false) else (jn (fun (y1496 : Bool) => (bif y1496 then (some false) else (bif (!(decide (x1.fKind = (1 : Int)))) then (jn (fun (y1504 : Bool) => (some y1504)) (fun j1507 => (bif (decide (((List.length (x1.fSteps) : Nat) : Int) = (0 : Int))) then (bif (decide (((List.length (x1.fData) : Nat) : Int) = (0 : Int))) then (bif (decide (x1.fSalt = (Vector.replicate 32 (0 : Int)))) then (bif (!x1.fGone) then (j1507 (decide (x1.fCom = (Vector.replicate 32 (0 : Int))))) else (j1507 false)) else (j1507 false)) else (j1507 false)) else (j1507 false)))) else ((inspeximusref04_Right_l1.l K x1 K (0 : Int)).bind fun s2458 => (match s2458 with | .inl u2459 => some u2459 | .inr u2460 => (fun (z2277 : Unit) => (jn (fun (y2448 : Bool) => (bif y2448 then (some false) else (bif x1.fGone then (bif (decide (((List.length (x1.fData) : Nat) : Int) = (0 : Int))) then (some (decide (x1.fSalt = (Vector.replicate 32 (0 : Int))))) else (some false)) else (some (decide (x1.fCom = (Vector.replicate 32 (0 : Int)))))))) (fun j2451 => ((inspeximusref04_in.f K (((List.length (x1.fSteps) : Nat) : Int)) ((1 : Int)) ((6 : Int))).bind fun (r2453 : (Bool)) => (bif (!r2453) then (j2451 true) else (j2451 (decide ((60 : Int) < ((List.length (x1.fData) : Nat) : Int))))))))) u2460))))) (fun j2461 => (bif (!(decide (x1.fKind = (3 : Int)))) then (bif (!decide (x1.fKind = (6 : Int))) then (bif (!decide (x1.fPart = (0 : Int))) then (j2461 true) else (j2461 (!decide (x1.fEpoch = (0 : Int))))) else (j2461 false)) else (j2461 false)))))) (fun j2463 => (bif (decide (x1.fKind = (3 : Int))) then ((inspeximusref04_in.f K (x1.fPart) ((0 : Int)) ((3 : Int))).bind fun (r2475 : (Bool)) => (bif (!r2475) then (j2463 true) else ((inspeximusref04_in.f K (x1.fEpoch) ((0 : Int)) ((400 : Int))).bind fun (r2480 : (Bool)) => (bif (!r2480) then (j2463 true) else (bif (decide (x1.fKind = (6 : Int))) then ((inspeximusref04_in.f K (x1.fPart) ((0 : Int)) ((3 : Int))).bind fun (r2485 : (Bool)) => (bif (!r2485) then (j2463 true) else ((inspeximusref04_in.f K (x1.fEpoch) ((1 : Int)) ((400 : Int))).bind fun (r2490 : (Bool)) => (j2463 (!r2490))))) else (j2463 false)))))) else (bif (decide (x1.fKind = (6 : Int))) then ((inspeximusref04_in.f K (x1.fPart) ((0 : Int)) ((3 : Int))).bind fun (r2465 : (Bool)) => (bif (!r2465) then (j2463 true) else ((inspeximusref04_in.f K (x1.fEpoch) ((1 : Int)) ((400 : Int))).bind fun (r2470 : (Bool)) => (j2463 (!r2470))))) else (j2463 false))))))) (fun j2495 => (bif (!(decide (x1.fKind = (3 : Int)))) then (bif x1.fGood then (j2495 true) else (bif (!(decide (x1.fTag = (Vector.replicate 32 (0 : Int))))) then (j2495 true) else (bif (decide (x1.fKind = (5 : Int))) then ((inspeximusref04_in.f K (x1.fEnd) ((2 : Int)) ((4 : Int))).bind fun (r2502 : (Bool)) => (bif (!r2502) then (j2495 true) else (bif (!decide (x1.fKind = (5 : Int))) then (j2495 (!decide (x1.fEnd = (0 : Int)))) else (j2495 false)))) else (bif (!decide (x1.fKind = (5 : Int))) then (j2495 (!decide (x1.fEnd = (0 : Int)))) else (j2495 false))))) else (bif (decide (x1.fKind = (5 : Int))) then ((inspeximusref04_in.f K (x1.fEnd) ((2 : Int)) ((4 : Int))).bind fun (r2497 : (Bool)) => (bif (!r2497) then (j2495 true) else (bif (!decide (x1.fKind = (5 : Int))) then (j2495 (!decide (x1.fEnd = (0 : Int)))) else (j2495 false)))) else (bif (!decide (x1.fKind = (5 : Int))) then (j2495 (!decide (x1.fEnd = (0 : Int)))) else (j2495 false)))))))) (fun j2507 => (bif y1278 then ((inspeximusref04_in.f K (x1.fStep) ((0 : Int)) ((5 : Int))).bind fun (r2509 : (Bool)) => (bif (!r2509) then (j2507 true) else ((inspeximusref04_in.f K (x1.fTry) ((1 : Int)) ((9 : Int))).bind fun (r2514 : (Bool)) => (bif (!r2514) then (j2507 true) else (bif (!y1278) then (bif (!decide (x1.fStep = (0 : Int))) then (j2507 true) else (bif (!decide (x1.fTry = (0 : Int))) then (j2507 true) else (j2507 x1.fBack))) else (j2507 false)))))) else (bif (!y1278) then (bif (!decide (x1.fStep = (0 : Int))) then (j2507 true) else (bif (!decide (x1.fTry = (0 : Int))) then (j2507 true) else (j2507 x1.fBack))) else (j2507 false)))))) (fun j2519 => (jn (fun (y2521 : Bool) => (bif y2521 then ((inspeximusref04_in.f K (x1.fSeq) ((1 : Int)) ((400 : Int))).bind fun (r2524 : (Bool)) => (bif (!r2524) then (some false) else (j2519 ()))) else (bif (!decide (x1.fSeq = (0 : Int))) then (some false) else (j2519 ())))) (fun j2529 => (bif y1278 then (j2529 true) else (j2529 (decide (x1.fKind = (5 : Int))))))))))) (fun j2531 => (bif (decide (x1.fKind < (1 : Int))) then (j2531 true) else (bif (decide ((6 : Int) < x1.fKind)) then (j2531 true) else ((inspeximusref04_in.f K (x1.fSaga) ((0 : Int)) ((11 : Int))).bind fun (r2533 : (Bool)) => (bif (!r2533) then (j2531 true) else (bif (decide (x1.fKind = (6 : Int))) then (j2531 (!decide (x1.fSaga = (0 : Int)))) else (j2531 false))))))))) (fun j2538 => (bif (decide ((2 : Int) ≤ x1.fKind)) then (j2538 (decide (x1.fKind ≤ (4 : Int)))) else (j2538 false))))
def inspeximusref03_Num.b (K : Nat) (self : Int → Option ((List Int))) (x1 : Int) : Option ((List Int)) :=
 (jn (fun (y90 : Bool) => (bif y90 then (some ([] : List Int)) else (bif (decide (x1 < (128 : Int))) then (some ([(IntKind.wrap .u8 x1)] : List Int)) else ((self ((IntKind.wrap .i64 (Int.tdiv x1 128)))).bind fun (r102 : ((List Int))) => ((getI (r102) (IntKind.wrap .i64 (((List.length (r102) : Nat) : Int) - (1 : Int)))).bind fun (x112 : Int) => ((getI (r102) (IntKind.wrap .i64 (((List.length (r102) : Nat) : Int) - (1 : Int)))).bind fun (x121 : Int) => ((catI 1 ((List.set (r102) (Int.toNat ((IntKind.wrap .i64 (((List.length (r102) : Nat) : Int) - (1 : Int))))) ((IntKind.wrap .u8 (x112 + (128 : Int)))))) (([(IntKind.wrap .u8 (Int.tmod x1 128))] : List Int))).bind fun (l137 : (List Int)) => (some l137)))))))) (fun j144 => (bif (decide (x1 < (0 : Int))) then (j144 true) else (j144 (decide ((2147483647 : Int) < x1))))))
def inspeximusref03_Num.r (K : Nat) : Nat → Int → Option ((List Int))
 | 0 => fun _ => none
 | k + 1 => inspeximusref03_Num.b K (inspeximusref03_Num.r K k)
def inspeximusref03_Num.f (K : Nat) (x1 : Int) : Option ((List Int)) := inspeximusref03_Num.r K K x1
def inspeximusref02_Number_l1.b (K : Nat) (rec : ((List Int) × Int × Int) → Option ((List Int))) (y316 : (List Int) × Int × Int) : Option ((List Int)) :=
 (bif (decide ((0 : Int) ≤ y316.2.2)) then ((getI (y316.1) y316.2.2).bind fun (x363 : Int) => (rec ((List.set (y316.1) (Int.toNat (y316.2.2)) ((IntKind.wrap .u8 (Int.tmod y316.2.1 256)))), (IntKind.wrap .u64 (Int.tdiv y316.2.1 256)), (IntKind.wrap .i64 (y316.2.2 - (1 : Int)))))) else (some y316.1))
def inspeximusref02_Number_l1.l (K : Nat) : Nat → ((List Int) × Int × Int) → Option ((List Int))
 | 0, _ => none
 | k + 1, y => inspeximusref02_Number_l1.b K (inspeximusref02_Number_l1.l K k) y
theorem inspeximusref02_Number_l1.some {K : Nat} {k : Nat} {y : (List Int) × Int × Int} {s : ((List Int))} (h : inspeximusref02_Number_l1.l K k y = some s) : ∃ k', k = k' + 1 ∧ inspeximusref02_Number_l1.b K (inspeximusref02_Number_l1.l K k') y = some s := by
 cases k with
 | zero => cases h
 | succ k => exact ⟨k, rfl, h⟩
def inspeximusref02_Number.f (K : Nat) (x1 : Int) (x2 : Int) : Option ((List Int)) :=
 ((zerosI 1 ((0 : Int)) x2).bind fun (l189 : (List Int)) => ((inspeximusref02_Number_l1.l K K (l189, (IntKind.wrap .u64 x1), (IntKind.wrap .i64 (x2 - (1 : Int))))).bind fun (z346 : (List Int)) => (some z346)))
def inspeximusref02_Text_l1.b (K : Nat) (x2 : (List (List Int))) (rec : ((List Int) × Int) → Option ((List Int))) (y1353 : (List Int) × Int) : Option ((List Int)) :=
 (bif (decide (y1353.2 < ((List.length (x2) : Nat) : Int))) then ((getI (x2) y1353.2).bind fun (x1556 : (List Int)) => ((inspeximusref02_Number.f K (((List.length (x1556) : Nat) : Int)) ((4 : Int))).bind fun (r1571 : ((List Int))) => ((catI 1 (y1353.1) (r1571)).bind fun (l1586 : (List Int)) => ((getI (x2) y1353.2).bind fun (x1593 : (List Int)) => ((catI 1 (l1586) (x1593)).bind fun (l1608 : (List Int)) => (rec (l1608, (IntKind.wrap .i64 (y1353.2 + (1 : Int)))))))))) else (some y1353.1))
def inspeximusref02_Text_l1.l (K : Nat) (x2 : (List (List Int))) : Nat → ((List Int) × Int) → Option ((List Int))
 | 0, _ => none
 | k + 1, y => inspeximusref02_Text_l1.b K x2 (inspeximusref02_Text_l1.l K x2 k) y
theorem inspeximusref02_Text_l1.some {K : Nat} (x2 : (List (List Int))) {k : Nat} {y : (List Int) × Int} {s : ((List Int))} (h : inspeximusref02_Text_l1.l K x2 k y = some s) : ∃ k', k = k' + 1 ∧ inspeximusref02_Text_l1.b K x2 (inspeximusref02_Text_l1.l K x2 k') y = some s := by
 cases k with
 | zero => cases h
 | succ k => exact ⟨k, rfl, h⟩
def inspeximusref02_Text.f (K : Nat) (x1 : Int) (x2 : (List (List Int))) : Option ((List Int)) :=
 ((inspeximusref02_Text_l1.l K x2 K (([(IntKind.wrap .u8 x1)] : List Int), (0 : Int))).bind fun (z1487 : (List Int)) => (some z1487))
def inspeximusref01_Fill_l1.b (K : Nat) (x1 : Int) (rec : (List Int) → Option ((List Int))) (y620 : (List Int)) : Option ((List Int)) :=
 (bif (!decide ((Int.tmod (IntKind.wrap .i64 (x1 + ((List.length (y620) : Nat) : Int))) 64) = (56 : Int))) then ((catI 1 (y620) (([(0 : Int)] : List Int))).bind fun (l671 : (List Int)) => (rec l671)) else (some y620))
def inspeximusref01_Fill_l1.l (K : Nat) (x1 : Int) : Nat → ((List Int)) → Option ((List Int))
 | 0, _ => none
 | k + 1, y => inspeximusref01_Fill_l1.b K x1 (inspeximusref01_Fill_l1.l K x1 k) y
theorem inspeximusref01_Fill_l1.some {K : Nat} (x1 : Int) {k : Nat} {y : (List Int)} {s : ((List Int))} (h : inspeximusref01_Fill_l1.l K x1 k y = some s) : ∃ k', k = k' + 1 ∧ inspeximusref01_Fill_l1.b K x1 (inspeximusref01_Fill_l1.l K x1 k') y = some s := by
 cases k with
 | zero => cases h
 | succ k => exact ⟨k, rfl, h⟩
def inspeximusref01_Fill_l2.b (K : Nat) (x1 : Int) (rec : ((List Int) × Int × Int) → Option ((List Int))) (y874 : (List Int) × Int × Int) : Option ((List Int)) :=
 (bif (decide (y874.2.2 < (8 : Int))) then (chk (!(decide (y874.2.1 = 0))) ((catI 1 (y874.1) (([(IntKind.wrap .u8 (Int.tmod (IntKind.wrap .u64 (Int.tdiv (IntKind.wrap .u64 ((IntKind.wrap .u64 x1) * (8 : Int))) y874.2.1)) 256))] : List Int))).bind fun (l961 : (List Int)) => (rec (l961, (IntKind.wrap .u64 (Int.tdiv y874.2.1 256)), (IntKind.wrap .i64 (y874.2.2 + (1 : Int))))))) else (some y874.1))
def inspeximusref01_Fill_l2.l (K : Nat) (x1 : Int) : Nat → ((List Int) × Int × Int) → Option ((List Int))
 | 0, _ => none
 | k + 1, y => inspeximusref01_Fill_l2.b K x1 (inspeximusref01_Fill_l2.l K x1 k) y
theorem inspeximusref01_Fill_l2.some {K : Nat} (x1 : Int) {k : Nat} {y : (List Int) × Int × Int} {s : ((List Int))} (h : inspeximusref01_Fill_l2.l K x1 k y = some s) : ∃ k', k = k' + 1 ∧ inspeximusref01_Fill_l2.b K x1 (inspeximusref01_Fill_l2.l K x1 k') y = some s := by
 cases k with
 | zero => cases h
 | succ k => exact ⟨k, rfl, h⟩
def inspeximusref01_Fill.f (K : Nat) (x1 : Int) : Option ((List Int)) :=
 (bif (decide (x1 < (0 : Int))) then (some ([] : List Int)) else ((inspeximusref01_Fill_l1.l K x1 K ([(128 : Int)] : List Int)).bind fun (z652 : (List Int)) => ((inspeximusref01_Fill_l2.l K x1 K (z652, (72057594037927936 : Int), (0 : Int))).bind fun (z924 : (List Int)) => (some z924))))
def inspeximusref01_right.f (K : Nat) (x1 : Int) (x2 : Int) : Option (Int) :=
 (chk (!(decide ((IntKind.wrap .u64 x2) < 0))) (chk (!(decide ((IntKind.wrap .u64 (IntKind.wrap .i64 ((32 : Int) - x2))) < 0))) (some (Int.tmod (bor .u64 (Int.fdiv x1 (2 ^ (min (Int.toNat (IntKind.wrap .u64 x2)) 64))) (IntKind.wrap .u64 (x1 * 2 ^ (min (Int.toNat (IntKind.wrap .u64 (IntKind.wrap .i64 ((32 : Int) - x2)))) 64)))) 4294967296))))
def inspeximusref01_shift.f (K : Nat) (x1 : Int) (x2 : Int) : Option (Int) :=
 (chk (!(decide ((IntKind.wrap .u64 x2) < 0))) (some (Int.fdiv x1 (2 ^ (min (Int.toNat (IntKind.wrap .u64 x2)) 64)))))
def inspeximusref01_Turn_l1.b (K : Nat) (x2 : (List Int)) (rec : (Int × (Vector Int 64)) → Option ((Vector Int 64))) (y6647 : Int × (Vector Int 64)) : Option ((Vector Int 64)) :=
 (bif (decide (y6647.1 < (64 : Int))) then (jn (fun (y7497 : (Vector Int 64)) => (rec ((IntKind.wrap .i64 (y6647.1 + (1 : Int))), y7497))) (fun j7500 => (bif (decide (y6647.1 < (16 : Int))) then ((getI (x2) (IntKind.wrap .i64 ((4 : Int) * y6647.1))).bind fun (x7655 : Int) => ((getI (x2) (IntKind.wrap .i64 ((IntKind.wrap .i64 ((4 : Int) * y6647.1)) + (1 : Int)))).bind fun (x7667 : Int) => ((getI (x2) (IntKind.wrap .i64 ((IntKind.wrap .i64 ((4 : Int) * y6647.1)) + (2 : Int)))).bind fun (x7679 : Int) => ((getI (x2) (IntKind.wrap .i64 ((IntKind.wrap .i64 ((4 : Int) * y6647.1)) + (3 : Int)))).bind fun (x7691 : Int) => (chk (inA 64 y6647.1) ((some (vset (y6647.2) (Int.toNat (y6647.1)) ((IntKind.wrap .u64 ((IntKind.wrap .u64 ((IntKind.wrap .u64 ((IntKind.wrap .u64 ((IntKind.wrap .u64 ((IntKind.wrap .u64 ((IntKind.wrap .u64 x7655) * (256 : Int))) + (IntKind.wrap .u64 x7667))) * (256 : Int))) + (IntKind.wrap .u64 x7679))) * (256 : Int))) + (IntKind.wrap .u64 x7691)))))).bind fun (v7704 : (Vector Int 64)) => (j7500 v7704))))))) else (chk (inA 64 (IntKind.wrap .i64 (y6647.1 - (15 : Int)))) (chk (inA 64 (IntKind.wrap .i64 (y6647.1 - (2 : Int)))) (chk (inA 64 (IntKind.wrap .i64 (y6647.1 - (7 : Int)))) (chk (inA 64 (IntKind.wrap .i64 (y6647.1 - (16 : Int)))) ((inspeximusref01_right.f K ((vget (y6647.2) (Int.toNat ((IntKind.wrap .i64 (y6647.1 - (2 : Int))))))) ((17 : Int))).bind fun (r7747 : (Int)) => ((inspeximusref01_right.f K ((vget (y6647.2) (Int.toNat ((IntKind.wrap .i64 (y6647.1 - (2 : Int))))))) ((19 : Int))).bind fun (r7752 : (Int)) => ((inspeximusref01_shift.f K ((vget (y6647.2) (Int.toNat ((IntKind.wrap .i64 (y6647.1 - (2 : Int))))))) ((10 : Int))).bind fun (r7757 : (Int)) => ((inspeximusref01_right.f K ((vget (y6647.2) (Int.toNat ((IntKind.wrap .i64 (y6647.1 - (15 : Int))))))) ((7 : Int))).bind fun (r7762 : (Int)) => ((inspeximusref01_right.f K ((vget (y6647.2) (Int.toNat ((IntKind.wrap .i64 (y6647.1 - (15 : Int))))))) ((18 : Int))).bind fun (r7767 : (Int)) => ((inspeximusref01_shift.f K ((vget (y6647.2) (Int.toNat ((IntKind.wrap .i64 (y6647.1 - (15 : Int))))))) ((3 : Int))).bind fun (r7772 : (Int)) => (chk (inA 64 y6647.1) ((some (vset (y6647.2) (Int.toNat (y6647.1)) ((Int.tmod (IntKind.wrap .u64 ((IntKind.wrap .u64 ((IntKind.wrap .u64 ((bxor .u64 (bxor .u64 r7747 r7752) r7757) + (vget (y6647.2) (Int.toNat ((IntKind.wrap .i64 (y6647.1 - (7 : Int)))))))) + (bxor .u64 (bxor .u64 r7762 r7767) r7772))) + (vget (y6647.2) (Int.toNat ((IntKind.wrap .i64 (y6647.1 - (16 : Int)))))))) 4294967296)))).bind fun (v7778 : (Vector Int 64)) => (j7500 v7778)))))))))))))))) else (some y6647.2))
def inspeximusref01_Turn_l1.l (K : Nat) (x2 : (List Int)) : Nat → (Int × (Vector Int 64)) → Option ((Vector Int 64))
 | 0, _ => none
 | k + 1, y => inspeximusref01_Turn_l1.b K x2 (inspeximusref01_Turn_l1.l K x2 k) y
theorem inspeximusref01_Turn_l1.some {K : Nat} (x2 : (List Int)) {k : Nat} {y : Int × (Vector Int 64)} {s : ((Vector Int 64))} (h : inspeximusref01_Turn_l1.l K x2 k y = some s) : ∃ k', k = k' + 1 ∧ inspeximusref01_Turn_l1.b K x2 (inspeximusref01_Turn_l1.l K x2 k') y = some s := by
 cases k with
 | zero => cases h
 | succ k => exact ⟨k, rfl, h⟩
def inspeximusref01_Turn_l2.b (K : Nat) (x1 : (Vector Int 8)) (rec : (Int × (Vector Int 8)) → Option ((Vector Int 8))) (y7835 : Int × (Vector Int 8)) : Option ((Vector Int 8)) :=
 (bif (decide (y7835.1 < (8 : Int))) then (chk (inA 8 y7835.1) (chk (inA 8 y7835.1) ((some (vset (y7835.2) (Int.toNat (y7835.1)) ((IntKind.wrap .u64 (vget (x1) (Int.toNat (y7835.1))))))).bind fun (v7860 : (Vector Int 8)) => (rec ((IntKind.wrap .i64 (y7835.1 + (1 : Int))), v7860))))) else (some y7835.2))
def inspeximusref01_Turn_l2.l (K : Nat) (x1 : (Vector Int 8)) : Nat → (Int × (Vector Int 8)) → Option ((Vector Int 8))
 | 0, _ => none
 | k + 1, y => inspeximusref01_Turn_l2.b K x1 (inspeximusref01_Turn_l2.l K x1 k) y
theorem inspeximusref01_Turn_l2.some {K : Nat} (x1 : (Vector Int 8)) {k : Nat} {y : Int × (Vector Int 8)} {s : ((Vector Int 8))} (h : inspeximusref01_Turn_l2.l K x1 k y = some s) : ∃ k', k = k' + 1 ∧ inspeximusref01_Turn_l2.b K x1 (inspeximusref01_Turn_l2.l K x1 k') y = some s := by
 cases k with
 | zero => cases h
 | succ k => exact ⟨k, rfl, h⟩
def inspeximusref01_Turn_l3.b (K : Nat) (z7214 : (Vector Int 64)) (rec : (Int × (Vector Int 8)) → Option ((Vector Int 8))) (y8379 : Int × (Vector Int 8)) : Option ((Vector Int 8)) :=
 (bif (decide (y8379.1 < (64 : Int))) then (chk (inA 64 y8379.1) (chk (inA 64 y8379.1) ((inspeximusref01_right.f K ((vget (y8379.2) (Int.toNat ((4 : Int))))) ((6 : Int))).bind fun (r8612 : (Int)) => ((inspeximusref01_right.f K ((vget (y8379.2) (Int.toNat ((4 : Int))))) ((11 : Int))).bind fun (r8617 : (Int)) => ((inspeximusref01_right.f K ((vget (y8379.2) (Int.toNat ((4 : Int))))) ((25 : Int))).bind fun (r8622 : (Int)) => ((inspeximusref01_right.f K ((vget (y8379.2) (Int.toNat ((0 : Int))))) ((2 : Int))).bind fun (r8627 : (Int)) => ((inspeximusref01_right.f K ((vget (y8379.2) (Int.toNat ((0 : Int))))) ((13 : Int))).bind fun (r8632 : (Int)) => ((inspeximusref01_right.f K ((vget (y8379.2) (Int.toNat ((0 : Int))))) ((22 : Int))).bind fun (r8637 : (Int)) => (rec ((IntKind.wrap .i64 (y8379.1 + (1 : Int))), (vofL 8 [(Int.tmod (IntKind.wrap .u64 ((Int.tmod (IntKind.wrap .u64 ((IntKind.wrap .u64 ((IntKind.wrap .u64 ((IntKind.wrap .u64 ((vget (y8379.2) (Int.toNat ((7 : Int)))) + (bxor .u64 (bxor .u64 r8612 r8617) r8622))) + (bxor .u64 (band .u64 (vget (y8379.2) (Int.toNat ((4 : Int)))) (vget (y8379.2) (Int.toNat ((5 : Int))))) (band .u64 (IntKind.wrap .u64 ((4294967295 : Int) - (vget (y8379.2) (Int.toNat ((4 : Int)))))) (vget (y8379.2) (Int.toNat ((6 : Int)))))))) + (IntKind.wrap .u64 (vget (gl_K) (Int.toNat (y8379.1)))))) + (vget (z7214) (Int.toNat (y8379.1))))) 4294967296) + (Int.tmod (IntKind.wrap .u64 ((bxor .u64 (bxor .u64 r8627 r8632) r8637) + (bxor .u64 (bxor .u64 (band .u64 (vget (y8379.2) (Int.toNat ((0 : Int)))) (vget (y8379.2) (Int.toNat ((1 : Int))))) (band .u64 (vget (y8379.2) (Int.toNat ((0 : Int)))) (vget (y8379.2) (Int.toNat ((2 : Int)))))) (band .u64 (vget (y8379.2) (Int.toNat ((1 : Int)))) (vget (y8379.2) (Int.toNat ((2 : Int)))))))) 4294967296))) 4294967296), (vget (y8379.2) (Int.toNat ((0 : Int)))), (vget (y8379.2) (Int.toNat ((1 : Int)))), (vget (y8379.2) (Int.toNat ((2 : Int)))), (Int.tmod (IntKind.wrap .u64 ((vget (y8379.2) (Int.toNat ((3 : Int)))) + (Int.tmod (IntKind.wrap .u64 ((IntKind.wrap .u64 ((IntKind.wrap .u64 ((IntKind.wrap .u64 ((vget (y8379.2) (Int.toNat ((7 : Int)))) + (bxor .u64 (bxor .u64 r8612 r8617) r8622))) + (bxor .u64 (band .u64 (vget (y8379.2) (Int.toNat ((4 : Int)))) (vget (y8379.2) (Int.toNat ((5 : Int))))) (band .u64 (IntKind.wrap .u64 ((4294967295 : Int) - (vget (y8379.2) (Int.toNat ((4 : Int)))))) (vget (y8379.2) (Int.toNat ((6 : Int)))))))) + (IntKind.wrap .u64 (vget (gl_K) (Int.toNat (y8379.1)))))) + (vget (z7214) (Int.toNat (y8379.1))))) 4294967296))) 4294967296), (vget (y8379.2) (Int.toNat ((4 : Int)))), (vget (y8379.2) (Int.toNat ((5 : Int)))), (vget (y8379.2) (Int.toNat ((6 : Int))))]))))))))))) else (some y8379.2))
def inspeximusref01_Turn_l3.l (K : Nat) (z7214 : (Vector Int 64)) : Nat → (Int × (Vector Int 8)) → Option ((Vector Int 8))
 | 0, _ => none
 | k + 1, y => inspeximusref01_Turn_l3.b K z7214 (inspeximusref01_Turn_l3.l K z7214 k) y
theorem inspeximusref01_Turn_l3.some {K : Nat} (z7214 : (Vector Int 64)) {k : Nat} {y : Int × (Vector Int 8)} {s : ((Vector Int 8))} (h : inspeximusref01_Turn_l3.l K z7214 k y = some s) : ∃ k', k = k' + 1 ∧ inspeximusref01_Turn_l3.b K z7214 (inspeximusref01_Turn_l3.l K z7214 k') y = some s := by
 cases k with
 | zero => cases h
 | succ k => exact ⟨k, rfl, h⟩
def inspeximusref01_Turn_l4.b (K : Nat) (z8511 : (Vector Int 8)) (rec : (Int × (Vector Int 8)) → Option ((Vector Int 8))) (y8727 : Int × (Vector Int 8)) : Option ((Vector Int 8)) :=
 (bif (decide (y8727.1 < (8 : Int))) then (chk (inA 8 y8727.1) (chk (inA 8 y8727.1) (chk (inA 8 y8727.1) ((some (vset (y8727.2) (Int.toNat (y8727.1)) ((IntKind.wrap .u32 (Int.tmod (IntKind.wrap .u64 ((IntKind.wrap .u64 (vget (y8727.2) (Int.toNat (y8727.1)))) + (vget (z8511) (Int.toNat (y8727.1))))) 4294967296))))).bind fun (v8776 : (Vector Int 8)) => (rec ((IntKind.wrap .i64 (y8727.1 + (1 : Int))), v8776)))))) else (some y8727.2))
def inspeximusref01_Turn_l4.l (K : Nat) (z8511 : (Vector Int 8)) : Nat → (Int × (Vector Int 8)) → Option ((Vector Int 8))
 | 0, _ => none
 | k + 1, y => inspeximusref01_Turn_l4.b K z8511 (inspeximusref01_Turn_l4.l K z8511 k) y
theorem inspeximusref01_Turn_l4.some {K : Nat} (z8511 : (Vector Int 8)) {k : Nat} {y : Int × (Vector Int 8)} {s : ((Vector Int 8))} (h : inspeximusref01_Turn_l4.l K z8511 k y = some s) : ∃ k', k = k' + 1 ∧ inspeximusref01_Turn_l4.b K z8511 (inspeximusref01_Turn_l4.l K z8511 k') y = some s := by
 cases k with
 | zero => cases h
 | succ k => exact ⟨k, rfl, h⟩
def inspeximusref01_Turn.f (K : Nat) (x1 : (Vector Int 8)) (x2 : (List Int)) : Option ((Vector Int 8)) :=
 (bif (!decide (((List.length (x2) : Nat) : Int) = (64 : Int))) then (some x1) else ((inspeximusref01_Turn_l1.l K x2 K ((0 : Int), (Vector.replicate 64 (0 : Int)))).bind fun (z7214 : (Vector Int 64)) => ((inspeximusref01_Turn_l2.l K x1 K ((0 : Int), (Vector.replicate 8 (0 : Int)))).bind fun (z7849 : (Vector Int 8)) => ((inspeximusref01_Turn_l3.l K z7214 K ((0 : Int), z7849)).bind fun (z8511 : (Vector Int 8)) => ((inspeximusref01_Turn_l4.l K z8511 K ((0 : Int), x1)).bind fun (z8753 : (Vector Int 8)) => (some z8753))))))
def inspeximusref01_Sum_l1.b (K : Nat) (l999 : (List Int)) (rec : (Int × (Vector Int 8)) → Option ((Vector Int 8))) (y1340 : Int × (Vector Int 8)) : Option ((Vector Int 8)) :=
 (bif (decide ((IntKind.wrap .i64 (y1340.1 + (64 : Int))) ≤ ((List.length (l999) : Nat) : Int))) then ((subI (l999) y1340.1 (IntKind.wrap .i64 (y1340.1 + (64 : Int)))).bind fun (l1421 : (List Int)) => ((inspeximusref01_Turn.f K (y1340.2) (l1421)).bind fun (r1426 : ((Vector Int 8))) => (rec ((IntKind.wrap .i64 (y1340.1 + (64 : Int))), r1426)))) else (some y1340.2))
def inspeximusref01_Sum_l1.l (K : Nat) (l999 : (List Int)) : Nat → (Int × (Vector Int 8)) → Option ((Vector Int 8))
 | 0, _ => none
 | k + 1, y => inspeximusref01_Sum_l1.b K l999 (inspeximusref01_Sum_l1.l K l999 k) y
theorem inspeximusref01_Sum_l1.some {K : Nat} (l999 : (List Int)) {k : Nat} {y : Int × (Vector Int 8)} {s : ((Vector Int 8))} (h : inspeximusref01_Sum_l1.l K l999 k y = some s) : ∃ k', k = k' + 1 ∧ inspeximusref01_Sum_l1.b K l999 (inspeximusref01_Sum_l1.l K l999 k') y = some s := by
 cases k with
 | zero => cases h
 | succ k => exact ⟨k, rfl, h⟩
def inspeximusref01_Sum_l3.b (K : Nat) (y1770 : Int × (Vector Int 32)) (rec : (Int × Int × (Vector Int 32)) → Option ((Vector Int 32))) (y1914 : Int × Int × (Vector Int 32)) : Option ((Vector Int 32)) :=
 (bif (decide ((0 : Int) ≤ y1914.2.1)) then (chk (inA 32 (IntKind.wrap .i64 ((IntKind.wrap .i64 ((4 : Int) * y1770.1)) + y1914.2.1))) ((some (vset (y1914.2.2) (Int.toNat ((IntKind.wrap .i64 ((IntKind.wrap .i64 ((4 : Int) * y1770.1)) + y1914.2.1)))) ((IntKind.wrap .u8 (Int.tmod y1914.1 256))))).bind fun (v1935 : (Vector Int 32)) => (rec ((IntKind.wrap .u32 (Int.tdiv y1914.1 256)), (IntKind.wrap .i64 (y1914.2.1 - (1 : Int))), v1935)))) else (some y1914.2.2))
def inspeximusref01_Sum_l3.l (K : Nat) (y1770 : Int × (Vector Int 32)) : Nat → (Int × Int × (Vector Int 32)) → Option ((Vector Int 32))
 | 0, _ => none
 | k + 1, y => inspeximusref01_Sum_l3.b K y1770 (inspeximusref01_Sum_l3.l K y1770 k) y
theorem inspeximusref01_Sum_l3.some {K : Nat} (y1770 : Int × (Vector Int 32)) {k : Nat} {y : Int × Int × (Vector Int 32)} {s : ((Vector Int 32))} (h : inspeximusref01_Sum_l3.l K y1770 k y = some s) : ∃ k', k = k' + 1 ∧ inspeximusref01_Sum_l3.b K y1770 (inspeximusref01_Sum_l3.l K y1770 k') y = some s := by
 cases k with
 | zero => cases h
 | succ k => exact ⟨k, rfl, h⟩
def inspeximusref01_Sum_l2.b (K : Nat) (z1386 : (Vector Int 8)) (rec : (Int × (Vector Int 32)) → Option ((Vector Int 32))) (y1770 : Int × (Vector Int 32)) : Option ((Vector Int 32)) :=
 (bif (decide (y1770.1 < (8 : Int))) then (chk (inA 8 y1770.1) ((inspeximusref01_Sum_l3.l K y1770 K ((vget (z1386) (Int.toNat (y1770.1))), (3 : Int), y1770.2)).bind fun (z1926 : (Vector Int 32)) => (rec ((IntKind.wrap .i64 (y1770.1 + (1 : Int))), z1926)))) else (some y1770.2))
def inspeximusref01_Sum_l2.l (K : Nat) (z1386 : (Vector Int 8)) : Nat → (Int × (Vector Int 32)) → Option ((Vector Int 32))
 | 0, _ => none
 | k + 1, y => inspeximusref01_Sum_l2.b K z1386 (inspeximusref01_Sum_l2.l K z1386 k) y
theorem inspeximusref01_Sum_l2.some {K : Nat} (z1386 : (Vector Int 8)) {k : Nat} {y : Int × (Vector Int 32)} {s : ((Vector Int 32))} (h : inspeximusref01_Sum_l2.l K z1386 k y = some s) : ∃ k', k = k' + 1 ∧ inspeximusref01_Sum_l2.b K z1386 (inspeximusref01_Sum_l2.l K z1386 k') y = some s := by
 cases k with
 | zero => cases h
 | succ k => exact ⟨k, rfl, h⟩
def inspeximusref01_Sum.f (K : Nat) (x1 : (List Int)) : Option ((Vector Int 32)) :=
 ((catI 1 (([] : List Int)) (x1)).bind fun (l977 : (List Int)) => ((inspeximusref01_Fill.f K (((List.length (x1) : Nat) : Int))).bind fun (r984 : ((List Int))) => ((catI 1 (l977) (r984)).bind fun (l999 : (List Int)) => ((inspeximusref01_Sum_l1.l K l999 K ((0 : Int), gl_First)).bind fun (z1386 : (Vector Int 8)) => ((inspeximusref01_Sum_l2.l K z1386 K ((0 : Int), (Vector.replicate 32 (0 : Int)))).bind fun (z1854 : (Vector Int 32)) => (some z1854))))))
def inspeximusref02_Of.f (K : Nat) (x1 : Int) (x2 : (List (List Int))) : Option ((Vector Int 32)) :=
 ((inspeximusref02_Text.f K (x1) (x2)).bind fun (r30 : ((List Int))) => ((inspeximusref01_Sum.f K (r30)).bind fun (r45 : ((Vector Int 32))) => (some r45)))
def inspeximusref04_Com.f (K : Nat) (x1 : T_api_Rec) : Option ((Vector Int 32)) :=
 (jn (fun (y138 : Bool) => (bif y138 then (some (vofL 32 [(0 : Int), (0 : Int), (0 : Int), (0 : Int), (0 : Int), (0 : Int), (0 : Int), (0 : Int), (0 : Int), (0 : Int), (0 : Int), (0 : Int), (0 : Int), (0 : Int), (0 : Int), (0 : Int), (0 : Int), (0 : Int), (0 : Int), (0 : Int), (0 : Int), (0 : Int), (0 : Int), (0 : Int), (0 : Int), (0 : Int), (0 : Int), (0 : Int), (0 : Int), (0 : Int), (0 : Int), (0 : Int)])) else (bif x1.fGone then (some x1.fCom) else ((subI (vlist (x1.fSalt)) 0 ((32 : Nat) : Int)).bind fun (l181 : List Int) => ((inspeximusref02_Of.f K ((4 : Int)) (([l181, x1.fData] : List (List Int)))).bind fun (r208 : ((Vector Int 32))) => (some r208)))))) (fun j213 => ((inspeximusref04_Right.f K (x1)).bind fun (r215 : (Bool)) => (bif (!r215) then (j213 true) else (j213 (!decide (x1.fKind = (1 : Int))))))))
def inspeximusref04_flag.f (K : Nat) (x1 : Bool) : Option (Int) :=
 (bif x1 then (some (1 : Int)) else (some (0 : Int)))
def inspeximusref03_Bytes.f (K : Nat) (x1 : (List Int)) : Option ((List Int)) :=
 ((inspeximusref03_Num.f K (((List.length (x1) : Nat) : Int))).bind fun (r27 : ((List Int))) => ((catI 1 (r27) (x1)).bind fun (l37 : (List Int)) => (some l37)))
def inspeximusref04_Put_l1.b (K : Nat) (x1 : T_api_Rec) (rec : ((List Int) × Int) → Option ((List Int))) (y5054 : (List Int) × Int) : Option ((List Int)) :=
 (bif (decide (y5054.2 < ((List.length (x1.fSteps) : Nat) : Int))) then ((getI (x1.fSteps) y5054.2).bind fun (x5284 : T_api_Step) => ((inspeximusref03_Num.f K (x5284.fPart)).bind fun (r5296 : ((List Int))) => ((catI 1 (y5054.1) (r5296)).bind fun (l5311 : (List Int)) => ((getI (x1.fSteps) y5054.2).bind fun (x5318 : T_api_Step) => ((inspeximusref03_Num.f K (x5318.fKind)).bind fun (r5330 : ((List Int))) => ((catI 1 (l5311) (r5330)).bind fun (l5345 : (List Int)) => (rec (l5345, (IntKind.wrap .i64 (y5054.2 + (1 : Int))))))))))) else (some y5054.1))
def inspeximusref04_Put_l1.l (K : Nat) (x1 : T_api_Rec) : Nat → ((List Int) × Int) → Option ((List Int))
 | 0, _ => none
 | k + 1, y => inspeximusref04_Put_l1.b K x1 (inspeximusref04_Put_l1.l K x1 k) y
theorem inspeximusref04_Put_l1.some {K : Nat} (x1 : T_api_Rec) {k : Nat} {y : (List Int) × Int} {s : ((List Int))} (h : inspeximusref04_Put_l1.l K x1 k y = some s) : ∃ k', k = k' + 1 ∧ inspeximusref04_Put_l1.b K x1 (inspeximusref04_Put_l1.l K x1 k') y = some s := by
 cases k with
 | zero => cases h
 | succ k => exact ⟨k, rfl, h⟩
def inspeximusref04_Put.f (K : Nat) (x1 : T_api_Rec) (x8 : Bool) : Option ((List Int)) :=
 ((inspeximusref04_Right.f K (x1)).bind fun (r2935 : (Bool)) => (bif (!r2935) then (some ([] : List Int)) else ((inspeximusref03_Num.f K (x1.fKind)).bind fun (r2941 : ((List Int))) => (jn (fun (y4392 : (List Int)) => (some y4392)) (fun j4400 => (bif (decide (x1.fKind = (1 : Int))) then ((inspeximusref03_Num.f K (x1.fSaga)).bind fun (r4402 : ((List Int))) => ((catI 1 (r2941) (r4402)).bind fun (l4417 : (List Int)) => ((inspeximusref03_Num.f K (((List.length (x1.fSteps) : Nat) : Int))).bind fun (r4424 : ((List Int))) => ((catI 1 (l4417) (r4424)).bind fun (l4439 : (List Int)) => ((inspeximusref04_Put_l1.l K x1 K (l4439, (0 : Int))).bind fun (z5206 : (List Int)) => ((inspeximusref04_Com.f K (x1)).bind fun (r5352 : ((Vector Int 32))) => (jn (fun (y5380 : (List Int)) => (jn (fun (y5444 : Bool) => (bif y5444 then ((subI (vlist (x1.fSalt)) 0 ((32 : Nat) : Int)).bind fun (l5451 : List Int) => ((catI 1 (y5380) (l5451)).bind fun (l5456 : (List Int)) => ((inspeximusref03_Bytes.f K (x1.fData)).bind fun (r5476 : ((List Int))) => ((catI 1 (l5456) (r5476)).bind fun (l5491 : (List Int)) => (some l5491))))) else ((subI (vlist (r5352)) 0 ((32 : Nat) : Int)).bind fun (l5501 : List Int) => ((catI 1 (y5380) (l5501)).bind fun (l5506 : (List Int)) => (j4400 l5506))))) (fun j5513 => (bif x8 then (j5513 (!x1.fGone)) else (j5513 false))))) (fun j5515 => (bif x8 then ((inspeximusref04_flag.f K (x1.fGone)).bind fun (r5517 : (Int)) => ((catI 1 (z5206) (([r5517] : List Int))).bind fun (l5531 : (List Int)) => (j5515 l5531))) else (j5515 z5206)))))))))) else (jn (fun (y5538 : Bool) => (bif y5538 then ((inspeximusref03_Num.f K (x1.fSaga)).bind fun (r5541 : ((List Int))) => ((catI 1 (r2941) (r5541)).bind fun (l5556 : (List Int)) => ((inspeximusref03_Num.f K (x1.fSeq)).bind fun (r5563 : ((List Int))) => ((catI 1 (l5556) (r5563)).bind fun (l5578 : (List Int)) => ((inspeximusref03_Num.f K (x1.fStep)).bind fun (r5585 : ((List Int))) => ((catI 1 (l5578) (r5585)).bind fun (l5600 : (List Int)) => ((inspeximusref03_Num.f K (x1.fTry)).bind fun (r5607 : ((List Int))) => ((catI 1 (l5600) (r5607)).bind fun (l5622 : (List Int)) => ((inspeximusref04_flag.f K (x1.fBack)).bind fun (r5629 : (Int)) => ((catI 1 (l5622) (([r5629] : List Int))).bind fun (l5643 : (List Int)) => (bif (decide (x1.fKind = (3 : Int))) then ((inspeximusref04_flag.f K (x1.fGood)).bind fun (r5650 : (Int)) => ((catI 1 (l5643) (([r5650] : List Int))).bind fun (l5664 : (List Int)) => ((inspeximusref03_Num.f K (x1.fPart)).bind fun (r5671 : ((List Int))) => ((catI 1 (l5664) (r5671)).bind fun (l5686 : (List Int)) => ((inspeximusref03_Num.f K (x1.fEpoch)).bind fun (r5693 : ((List Int))) => ((catI 1 (l5686) (r5693)).bind fun (l5708 : (List Int)) => ((subI (vlist (x1.fTag)) 0 ((32 : Nat) : Int)).bind fun (l5719 : List Int) => ((catI 1 (l5708) (l5719)).bind fun (l5724 : (List Int)) => (j4400 l5724))))))))) else (j4400 l5643)))))))))))) else (bif (decide (x1.fKind = (5 : Int))) then ((inspeximusref03_Num.f K (x1.fSaga)).bind fun (r5731 : ((List Int))) => ((catI 1 (r2941) (r5731)).bind fun (l5746 : (List Int)) => ((inspeximusref03_Num.f K (x1.fSeq)).bind fun (r5753 : ((List Int))) => ((catI 1 (l5746) (r5753)).bind fun (l5768 : (List Int)) => ((inspeximusref03_Num.f K (x1.fEnd)).bind fun (r5775 : ((List Int))) => ((catI 1 (l5768) (r5775)).bind fun (l5790 : (List Int)) => (j4400 l5790))))))) else ((inspeximusref03_Num.f K (x1.fPart)).bind fun (r5797 : ((List Int))) => ((catI 1 (r2941) (r5797)).bind fun (l5812 : (List Int)) => ((inspeximusref03_Num.f K (x1.fEpoch)).bind fun (r5819 : ((List Int))) => ((catI 1 (l5812) (r5819)).bind fun (l5834 : (List Int)) => (j4400 l5834)))))))) (fun j5841 => (bif (decide (x1.fKind = (2 : Int))) then (j5841 (decide (x1.fKind = (2 : Int)))) else (bif (decide (x1.fKind = (3 : Int))) then (j5841 (decide (x1.fKind = (3 : Int)))) else (j5841 (decide (x1.fKind = (4 : Int))))))))))))))
def inspeximuslaw04_RecPuts.f (K : Nat) (x1 : T_api_Rec) : Option (Bool) :=
 ((inspeximuslaw04_alive.f K).bind fun (r317 : (Bool)) => (bif (!r317) then (some false) else ((inspeximusref04_Great.f K (x1)).bind fun (r327 : (Bool)) => (bif r327 then (some true) else ((rec_Sealed.f K (x1)).bind fun (r542 : ((List Int))) => ((inspeximusref04_Put.f K (x1) (false)).bind fun (r552 : ((List Int))) => ((inspeximusref01_Bytes.f K (r542) (r552)).bind fun (r572 : (Bool)) => (bif r572 then ((rec_Open.f K (x1)).bind fun (r577 : ((List Int))) => ((inspeximusref04_Put.f K (x1) (true)).bind fun (r587 : ((List Int))) => ((inspeximusref01_Bytes.f K (r577) (r587)).bind fun (r607 : (Bool)) => (some r607)))) else (some false)))))))))
end Go.Proofs.YtlcnliiampfigaaDoor
