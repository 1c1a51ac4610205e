/-
 Data and plain functions, printed by a program: what the functions of the cut compute (fuel K; none: a panic, or the fuel is spent).
 Conditions: none; nothing is claimed here.
-/
import Derived.Test.YthnfokfankaenaaDoorSepQ
set_option linter.unusedVariables false
namespace Go.Proofs.YthnfokfankaenaaDoor
open Go Go.Sep
def gl_First : Vector Int 8 := vofL 8 [1779033703, 3144134277, 1013904242, 2773480762, 1359893119, 2600822924, 528734635, 1541459225]
def gl_K : Vector Int 64 := vofL 64 [1116352408, 1899447441, 3049323471, 3921009573, 961987163, 1508970993, 2453635748, 2870763221, 3624381080, 310598401, 607225278, 1426881987, 1925078388, 2162078206, 2614888103, 3248222580, 3835390401, 4022224774, 264347078, 604807628, 770255983, 1249150122, 1555081692, 1996064986, 2554220882, 2821834349, 2952996808, 3210313671, 3336571891, 3584528711, 113926993, 338241895, 666307205, 773529912, 1294757372, 1396182291, 1695183700, 1986661051, 2177026350, 2456956037, 2730485921, 2820302411, 3259730800, 3345764771, 3516065817, 3600352804, 4094571909, 275423344, 430227734, 506948616, 659060556, 883997877, 958139571, 1322822218, 1537002063, 1747873779, 1955562222, 2024104815, 2227730452, 2361852424, 2428436474, 2756734187, 3204031479, 3329325298]
structure T_inspeximusref08_Act where
 fKind : Int
 fN : Int
 fB : (List Int)
 deriving DecidableEq
@[reducible] def z_T_inspeximusref08_Act : T_inspeximusref08_Act := ⟨(0 : Int), (0 : Int), ([] : List Int)⟩
@[reducible] def c_T_inspeximusref08_Act (x : T_inspeximusref08_Act) (A1 : Option Addr) (c2 : Nat) : List Value :=
 [.int .i64 (x.fKind)] ++ ([.int .i64 (x.fN)] ++ ([.slice A1 (List.length (x.fB)) c2]))
@[reducible] def kd_T_inspeximusref08_Act : Kd T_inspeximusref08_Act := kdMap (fun x => (x.fKind, x.fN, x.fB)) (kdPair (kdInt .i64) (kdPair (kdInt .i64) (kdSlice (kdInt .u8))))
theorem kd_T_inspeximusref08_Act_el {D : Snap} {x : T_inspeximusref08_Act} {cs : List Value} (h : kd_T_inspeximusref08_Act.r D x cs) : ∃ (A4 : Option Addr), ∃ (c5 : Nat), cs = c_T_inspeximusref08_Act ((T_inspeximusref08_Act.mk (x.fKind) (x.fN) (x.fB))) A4 c5 ∧ Sl (kdInt .u8) D A4 c5 (x.fB) := by
 obtain ⟨c0, d0, rfl, he0, ⟨c1, d1, rfl, he1, he2⟩⟩ := h
 obtain rfl := he0
 obtain rfl := he1
 obtain ⟨A4, c5, rfl, h6⟩ := he2
 exact ⟨A4, c5, rfl, h6⟩
structure T_disk_Disk where
 fB : (List Int)
 fLasts : Int
 fRoom : Int
 deriving DecidableEq
@[reducible] def z_T_disk_Disk : T_disk_Disk := ⟨([] : List Int), (0 : Int), (0 : Int)⟩
@[reducible] def c_T_disk_Disk (x : T_disk_Disk) (A7 : Option Addr) (c8 : Nat) : List Value :=
 [.slice A7 (List.length (x.fB)) c8] ++ ([.int .i64 (x.fLasts)] ++ ([.int .i64 (x.fRoom)]))
structure T_log_at where
 fCount : Int
 fChain : (Vector Int 32)
 deriving DecidableEq
@[reducible] def c_T_log_at (x : T_log_at) : List Value :=
 [.int .i64 (x.fCount)] ++ (acells .u8 32 (x.fChain))
@[reducible] def kd_T_log_at : Kd T_log_at := kdMap (fun x => (x.fCount, x.fChain)) (kdPair (kdInt .i64) (kdArr .u8 32))
theorem kd_T_log_at_mk {D : Snap} {x : T_log_at} {ce0 ce1 : List Value} (he0 : (kdInt .i64).r D x.fCount ce0) (he1 : (kdArr .u8 32).r D x.fChain ce1) : kd_T_log_at.r D x (ce0 ++ (ce1)) := ⟨_, _, rfl, he0, he1⟩
structure T_log_entry where
 fB : (List Int)
 fEnd : T_log_at
 fNext : Int
 deriving DecidableEq
@[reducible] def z_T_log_entry : T_log_entry := ⟨([] : List Int), (T_log_at.mk ((0 : Int)) ((Vector.replicate 32 (0 : Int)))), (0 : Int)⟩
@[reducible] def c_T_log_entry (x : T_log_entry) (A13 : Option Addr) (c14 : Nat) : List Value :=
 [.slice A13 (List.length (x.fB)) c14] ++ ((c_T_log_at ((T_log_at.mk (x.fEnd.fCount) (x.fEnd.fChain)))) ++ ([.int .i64 (x.fNext)]))
structure T_wire_Reader where
 fB : (List Int)
 fBad : Int
 deriving DecidableEq
@[reducible] def c_T_wire_Reader (x : T_wire_Reader) (A19 : Option Addr) (c20 : Nat) : List Value :=
 [.slice A19 (List.length (x.fB)) c20] ++ ([.int .i64 (x.fBad)])
structure T_inspeximusref08_Disk where
 fDone : (List Int)
 fLate : (List Int)
 fSize : Int
 deriving DecidableEq
@[reducible] def z_T_inspeximusref08_Disk : T_inspeximusref08_Disk := ⟨([] : List Int), ([] : List Int), (0 : Int)⟩
@[reducible] def c_T_inspeximusref08_Disk (x : T_inspeximusref08_Disk) (A25 : Option Addr) (c26 : Nat) (A28 : Option Addr) (c29 : Nat) : List Value :=
 [.slice A25 (List.length (x.fDone)) c26] ++ ([.slice A28 (List.length (x.fLate)) c29] ++ ([.int .i64 (x.fSize)]))
structure T_inspeximusref03_Reader where
 fB : (List Int)
 fAt : Int
 fBad : Int
 deriving DecidableEq
@[reducible] def c_T_inspeximusref03_Reader (x : T_inspeximusref03_Reader) (A37 : Option Addr) (c38 : Nat) : List Value :=
 [.slice A37 (List.length (x.fB)) c38] ++ ([.int .i64 (x.fAt)] ++ ([.int .i64 (x.fBad)]))
def disk_New.f (K : Nat) (x1 : Int) : Option ((List Int) × Int × Int) :=
 (jn (fun (y26 : Bool) => (bif y26 then none else (some (([] : List Int), (0 : Int), x1)))) (fun j32 => (bif (decide (x1 < (1 : Int))) then (j32 true) else (j32 (decide ((65536 : Int) < x1))))))
def disk_Disk_Bytes.f (K : Nat) (x3 : (List Int)) (x9 : Int) (x10 : Int) : Option ((List Int)) :=
 ((catI 1 (([] : List Int)) (x3)).bind fun (l44 : (List Int)) => (some l44))
def log_entries.f (K : Nat) (x1 : (List Int)) : Option ((List Int)) :=
 (some x1)
def slices_Clone_byte_byte.f (K : Nat) (x1 : (List Int)) : Option ((List Int)) :=
 ((catI 1 (([] : List Int)) (x1)).bind fun (l26 : (List Int)) => (some l26))
def wire_Read.f (K : Nat) (x1 : (List Int)) : Option (T_wire_Reader) :=
 ((slices_Clone_byte_byte.f K (x1)).bind fun (r27 : ((List Int))) => (some (T_wire_Reader.mk (r27) ((0 : Int)))))
def wire_Reader_Bad.f (K : Nat) (x3 : T_wire_Reader) : Option (Int) :=
 (some x3.fBad)
def wire_number_l1.b (K : Nat) (x1 : (List Int)) (rec : (Int × Int) → Option (Sum ((Int × Int × Int)) (Unit))) (y523 : Int × Int) : Option (Sum ((Int × Int × Int)) (Unit)) :=
 (bif (decide (y523.2 < ((List.length (x1) : Nat) : Int))) then ((getI (x1) y523.2).bind fun (x600 : Int) => (jn (fun (y617 : Bool) => (bif y617 then (some (Sum.inl ((0 : Int), (0 : Int), (2 : Int)))) else (bif (decide (x600 < (128 : Int))) then (bif (decide ((2147483647 : Int) < (bor .i64 (IntKind.wrap .i64 (y523.1 * 2 ^ 7)) (IntKind.wrap .i64 (Int.tmod x600 128))))) then (some (Sum.inl ((0 : Int), (0 : Int), (2 : Int)))) else (some (Sum.inl ((bor .i64 (IntKind.wrap .i64 (y523.1 * 2 ^ 7)) (IntKind.wrap .i64 (Int.tmod x600 128))), (IntKind.wrap .i64 (y523.2 + (1 : Int))), (0 : Int))))) else (rec ((bor .i64 (IntKind.wrap .i64 (y523.1 * 2 ^ 7)) (IntKind.wrap .i64 (Int.tmod x600 128))), (IntKind.wrap .i64 (y523.2 + (1 : Int)))))))) (fun j620 => (bif (decide (y523.2 = (0 : Int))) then (bif (decide (x600 = (128 : Int))) then (j620 true) else (j620 (decide (y523.2 = (5 : Int))))) else (j620 (decide (y523.2 = (5 : Int)))))))) else (some (Sum.inr ())))
def wire_number_l1.l (K : Nat) (x1 : (List Int)) : Nat → (Int × Int) → Option (Sum ((Int × Int × Int)) (Unit))
 | 0, _ => none
 | k + 1, y => wire_number_l1.b K x1 (wire_number_l1.l K x1 k) y
theorem wire_number_l1.some {K : Nat} (x1 : (List Int)) {k : Nat} {y : Int × Int} {s : (Sum ((Int × Int × Int)) (Unit))} (h : wire_number_l1.l K x1 k y = some s) : ∃ k', k = k' + 1 ∧ wire_number_l1.b K x1 (wire_number_l1.l K x1 k') y = some s := by
 cases k with
 | zero => cases h
 | succ k => exact ⟨k, rfl, h⟩
def wire_number.f (K : Nat) (x1 : (List Int)) : Option (Int × Int × Int) :=
 ((wire_number_l1.l K x1 K ((0 : Int), (0 : Int))).bind fun s622 => (match s622 with | .inl u623 => some u623 | .inr u624 => (fun (z573 : Unit) => (some ((0 : Int), (0 : Int), (3 : Int)))) u624))
def wire_Reader_Bytes_1.f (K : Nat) (x3 : (List Int)) (x7 : Int) : Option ((List Int) × Int × Int) :=
 ((wire_number.f K (x3)).bind fun (r33 : (Int × Int × Int)) => (bif (!decide (r33.2.2 = (0 : Int))) then (some (([] : List Int), (0 : Int), r33.2.2)) else (bif (decide (x7 < r33.1)) then (some (([] : List Int), (0 : Int), (4 : Int))) else (bif (decide ((IntKind.wrap .i64 (((List.length (x3) : Nat) : Int) - r33.2.1)) < r33.1)) then (some (([] : List Int), (0 : Int), (3 : Int))) else ((subI (x3) r33.2.1 (IntKind.wrap .i64 (r33.2.1 + r33.1))).bind fun (l41 : (List Int)) => ((slices_Clone_byte_byte.f K (l41)).bind fun (r46 : ((List Int))) => (some (r46, (IntKind.wrap .i64 (r33.2.1 + r33.1)), (0 : Int)))))))))
def wire_Reader_Fail.f (K : Nat) (x3 : Int) (x4 : T_wire_Reader) : Option (T_wire_Reader) :=
 (jn (fun (y20 : Bool) => (bif y20 then ((some (T_wire_Reader.mk (([] : List Int)) (x4.fBad))).bind fun (v23 : T_wire_Reader) => ((some (T_wire_Reader.mk (([] : List Int)) (x3))).bind fun (v25 : T_wire_Reader) => (some (T_wire_Reader.mk (([] : List Int)) (v25.fBad))))) else (some x4))) (fun j27 => (bif (decide (x4.fBad = (0 : Int))) then (j27 (!decide (x3 = (0 : Int)))) else (j27 false))))
def wire_take_byte.f (K : Nat) (x5 : T_wire_Reader) (x9 : Int) : Option ((List Int) × T_wire_Reader) :=
 ((wire_Reader_Bad.f K (x5)).bind fun (r67 : (Int)) => (bif (!decide (r67 = (0 : Int))) then (some (([] : List Int), x5)) else ((wire_Reader_Bytes_1.f K (x5.fB) (x9)).bind fun (r73 : ((List Int) × Int × Int)) => (bif (!decide (r73.2.2 = (0 : Int))) then ((wire_Reader_Fail.f K (r73.2.2) (x5)).bind fun (r91 : (T_wire_Reader)) => (some (([] : List Int), r91))) else ((subI (x5.fB) r73.2.1 ((List.length (x5.fB) : Nat) : Int)).bind fun (l100 : (List Int)) => ((some (T_wire_Reader.mk (l100) (x5.fBad))).bind fun (v105 : T_wire_Reader) => (some (r73.1, v105))))))))
def wire_Reader_Bytes.f (K : Nat) (x3 : Int) (x4 : T_wire_Reader) : Option ((List Int) × T_wire_Reader) :=
 ((wire_take_byte.f K (x4) (x3)).bind fun (r33 : ((List Int) × T_wire_Reader)) => (some (r33.1, r33.2)))
def mac_row_l1.b (K : Nat) (x2 : Int) (l189 : (List Int)) (rec : (Int × (List Int) × Int) → Option ((List Int))) (y316 : Int × (List Int) × Int) : Option ((List Int)) :=
 (bif (decide (y316.2.2 < ((List.length (l189) : Nat) : Int))) then ((getI (y316.2.1) (IntKind.wrap .i64 ((IntKind.wrap .i64 (x2 - (1 : Int))) - y316.2.2))).bind fun (x363 : Int) => (rec ((Int.fdiv y316.1 (2 ^ 8)), (List.set (y316.2.1) (Int.toNat ((IntKind.wrap .i64 ((IntKind.wrap .i64 (x2 - (1 : Int))) - y316.2.2)))) ((IntKind.wrap .u8 y316.1))), (IntKind.wrap .i64 (y316.2.2 + (1 : Int)))))) else (some y316.2.1))
def mac_row_l1.l (K : Nat) (x2 : Int) (l189 : (List Int)) : Nat → (Int × (List Int) × Int) → Option ((List Int))
 | 0, _ => none
 | k + 1, y => mac_row_l1.b K x2 l189 (mac_row_l1.l K x2 l189 k) y
theorem mac_row_l1.some {K : Nat} (x2 : Int) (l189 : (List Int)) {k : Nat} {y : Int × (List Int) × Int} {s : ((List Int))} (h : mac_row_l1.l K x2 l189 k y = some s) : ∃ k', k = k' + 1 ∧ mac_row_l1.b K x2 l189 (mac_row_l1.l K x2 l189 k') y = some s := by
 cases k with
 | zero => cases h
 | succ k => exact ⟨k, rfl, h⟩
def mac_row.f (K : Nat) (x1 : Int) (x2 : Int) : Option ((List Int)) :=
 ((zerosI 1 ((0 : Int)) x2).bind fun (l189 : (List Int)) => ((mac_row_l1.l K x2 l189 K (x1, l189, (0 : Int))).bind fun (z346 : (List Int)) => (some z346)))
def slices_Grow_byte_byte.f (K : Nat) (x1 : Int) : Option ((List Int)) :=
 (bif (decide (x1 < (0 : Int))) then none else (bif (decide ((0 : Int) < (IntKind.wrap .i64 (x1 - (IntKind.wrap .i64 (((0 : Nat) : Int) - ((0 : Nat) : Int))))))) then ((zerosI 1 ((0 : Int)) (IntKind.wrap .i64 (x1 - (IntKind.wrap .i64 (((0 : Nat) : Int) - ((0 : Nat) : Int)))))).bind fun (l37 : (List Int)) => ((subI (l37) 0 ((0 : Nat) : Int)).bind fun (l44 : (List Int)) => (some l44))) else (some ([] : List Int))))
def slices_Concat_byte_byte_l1.b (K : Nat) (x1 : (List (List Int))) (rec : (Int × Int) → Option (Int)) (y743 : Int × Int) : Option (Int) :=
 (bif (decide (y743.2 < ((List.length (x1) : Nat) : Int))) then ((getI (x1) y743.2).bind fun (x799 : (List Int)) => (bif (decide ((IntKind.wrap .i64 (y743.1 + ((List.length (x799) : Nat) : Int))) < (0 : Int))) then none else (rec ((IntKind.wrap .i64 (y743.1 + ((List.length (x799) : Nat) : Int))), (IntKind.wrap .i64 (y743.2 + (1 : Int))))))) else (some y743.1))
def slices_Concat_byte_byte_l1.l (K : Nat) (x1 : (List (List Int))) : Nat → (Int × Int) → Option (Int)
 | 0, _ => none
 | k + 1, y => slices_Concat_byte_byte_l1.b K x1 (slices_Concat_byte_byte_l1.l K x1 k) y
theorem slices_Concat_byte_byte_l1.some {K : Nat} (x1 : (List (List Int))) {k : Nat} {y : Int × Int} {s : (Int)} (h : slices_Concat_byte_byte_l1.l K x1 k y = some s) : ∃ k', k = k' + 1 ∧ slices_Concat_byte_byte_l1.b K x1 (slices_Concat_byte_byte_l1.l K x1 k') y = some s := by
 cases k with
 | zero => cases h
 | succ k => exact ⟨k, rfl, h⟩
def slices_Concat_byte_byte_l2.b (K : Nat) (x1 : (List (List Int))) (rec : ((List Int) × Int) → Option ((List Int))) (y1064 : (List Int) × Int) : Option ((List Int)) :=
 (bif (decide (y1064.2 < ((List.length (x1) : Nat) : Int))) then ((getI (x1) y1064.2).bind fun (x1156 : (List Int)) => ((catI 1 (y1064.1) (x1156)).bind fun (l1171 : (List Int)) => (rec (l1171, (IntKind.wrap .i64 (y1064.2 + (1 : Int))))))) else (some y1064.1))
def slices_Concat_byte_byte_l2.l (K : Nat) (x1 : (List (List Int))) : Nat → ((List Int) × Int) → Option ((List Int))
 | 0, _ => none
 | k + 1, y => slices_Concat_byte_byte_l2.b K x1 (slices_Concat_byte_byte_l2.l K x1 k) y
theorem slices_Concat_byte_byte_l2.some {K : Nat} (x1 : (List (List Int))) {k : Nat} {y : (List Int) × Int} {s : ((List Int))} (h : slices_Concat_byte_byte_l2.l K x1 k y = some s) : ∃ k', k = k' + 1 ∧ slices_Concat_byte_byte_l2.b K x1 (slices_Concat_byte_byte_l2.l K x1 k') y = some s := by
 cases k with
 | zero => cases h
 | succ k => exact ⟨k, rfl, h⟩
def slices_Concat_byte_byte.f (K : Nat) (x1 : (List (List Int))) : Option ((List Int)) :=
 ((slices_Concat_byte_byte_l1.l K x1 K ((0 : Int), (0 : Int))).bind fun (z779 : Int) => ((slices_Grow_byte_byte.f K (z779)).bind fun (r814 : ((List Int))) => ((slices_Concat_byte_byte_l2.l K x1 K (r814, (0 : Int))).bind fun (z1124 : (List Int)) => (some z1124))))
def mac_Of_1.f (K : Nat) (x1 : (List Int)) : Option ((List Int)) :=
 ((mac_row.f K ((IntKind.wrap .u64 ((List.length (x1) : Nat) : Int))) ((4 : Int))).bind fun (r44 : ((List Int))) => ((slices_Concat_byte_byte.f K (([r44, x1] : List (List Int)))).bind fun (r68 : ((List Int))) => (some r68)))
def mac_joined_byte_l1.b (K : Nat) (x1 : (List (List Int))) (rec : ((List Int) × Int) → Option ((List Int))) (y907 : (List Int) × Int) : Option ((List Int)) :=
 (bif (decide (y907.2 < ((List.length (x1) : Nat) : Int))) then ((getI (x1) y907.2).bind fun (x1044 : (List Int)) => ((mac_Of_1.f K (x1044)).bind fun (r1059 : ((List Int))) => ((catI 1 (y907.1) (r1059)).bind fun (l1074 : (List Int)) => (rec (l1074, (IntKind.wrap .i64 (y907.2 + (1 : Int)))))))) else (some y907.1))
def mac_joined_byte_l1.l (K : Nat) (x1 : (List (List Int))) : Nat → ((List Int) × Int) → Option ((List Int))
 | 0, _ => none
 | k + 1, y => mac_joined_byte_l1.b K x1 (mac_joined_byte_l1.l K x1 k) y
theorem mac_joined_byte_l1.some {K : Nat} (x1 : (List (List Int))) {k : Nat} {y : (List Int) × Int} {s : ((List Int))} (h : mac_joined_byte_l1.l K x1 k y = some s) : ∃ k', k = k' + 1 ∧ mac_joined_byte_l1.b K x1 (mac_joined_byte_l1.l K x1 k') y = some s := by
 cases k with
 | zero => cases h
 | succ k => exact ⟨k, rfl, h⟩
def mac_joined_byte.f (K : Nat) (x1 : (List (List Int))) : Option ((List Int)) :=
 ((mac_joined_byte_l1.l K x1 K (([] : List Int), (0 : Int))).bind fun (z997 : (List Int)) => (some z997))
def sha_Fill_l1.b (K : Nat) (x1 : Int) (rec : (List Int) → Option ((List Int))) (y624 : (List Int)) : Option ((List Int)) :=
 (bif (!decide ((Int.tmod (IntKind.wrap .i64 (x1 + ((List.length (y624) : Nat) : Int))) 64) = (56 : Int))) then ((catI 1 (y624) (([(0 : Int)] : List Int))).bind fun (l675 : (List Int)) => (rec l675)) else (some y624))
def sha_Fill_l1.l (K : Nat) (x1 : Int) : Nat → ((List Int)) → Option ((List Int))
 | 0, _ => none
 | k + 1, y => sha_Fill_l1.b K x1 (sha_Fill_l1.l K x1 k) y
theorem sha_Fill_l1.some {K : Nat} (x1 : Int) {k : Nat} {y : (List Int)} {s : ((List Int))} (h : sha_Fill_l1.l K x1 k y = some s) : ∃ k', k = k' + 1 ∧ sha_Fill_l1.b K x1 (sha_Fill_l1.l K x1 k') y = some s := by
 cases k with
 | zero => cases h
 | succ k => exact ⟨k, rfl, h⟩
def sha_Fill_l2.b (K : Nat) (x1 : Int) (rec : ((List Int) × Int) → Option ((List Int))) (y882 : (List Int) × Int) : Option ((List Int)) :=
 (bif (decide ((0 : Int) ≤ y882.2)) then (chk (!(decide ((IntKind.wrap .i64 ((8 : Int) * y882.2)) < 0))) ((catI 1 (y882.1) (([(IntKind.wrap .u8 (Int.fdiv (IntKind.wrap .u64 ((IntKind.wrap .u64 x1) * (8 : Int))) (2 ^ (min (Int.toNat (IntKind.wrap .i64 ((8 : Int) * y882.2))) 64))))] : List Int))).bind fun (l969 : (List Int)) => (rec (l969, (IntKind.wrap .i64 (y882.2 - (1 : Int))))))) else (some y882.1))
def sha_Fill_l2.l (K : Nat) (x1 : Int) : Nat → ((List Int) × Int) → Option ((List Int))
 | 0, _ => none
 | k + 1, y => sha_Fill_l2.b K x1 (sha_Fill_l2.l K x1 k) y
theorem sha_Fill_l2.some {K : Nat} (x1 : Int) {k : Nat} {y : (List Int) × Int} {s : ((List Int))} (h : sha_Fill_l2.l K x1 k y = some s) : ∃ k', k = k' + 1 ∧ sha_Fill_l2.b K x1 (sha_Fill_l2.l K x1 k') y = some s := by
 cases k with
 | zero => cases h
 | succ k => exact ⟨k, rfl, h⟩
def sha_Fill.f (K : Nat) (x1 : Int) : Option ((List Int)) :=
 (bif (decide (x1 < (0 : Int))) then (some ([] : List Int)) else ((sha_Fill_l1.l K x1 K ([(128 : Int)] : List Int)).bind fun (z656 : (List Int)) => ((sha_Fill_l2.l K x1 K (z656, (7 : Int))).bind fun (z932 : (List Int)) => (some z932))))
def sha_blocks.f (K : Nat) (x1 : (List Int)) : Option ((List Int)) :=
 (some x1)
def math_bits_RotateLeft32.f (K : Nat) (x1 : Int) (x2 : Int) : Option (Int) :=
 (chk (!(decide ((band .u64 (IntKind.wrap .u64 x2) (31 : Int)) < 0))) (chk (!(decide ((IntKind.wrap .u64 ((32 : Int) - (band .u64 (IntKind.wrap .u64 x2) (31 : Int)))) < 0))) (some (bor .u32 (IntKind.wrap .u32 (x1 * 2 ^ (min (Int.toNat (band .u64 (IntKind.wrap .u64 x2) (31 : Int))) 32))) (Int.fdiv x1 (2 ^ (min (Int.toNat (IntKind.wrap .u64 ((32 : Int) - (band .u64 (IntKind.wrap .u64 x2) (31 : Int))))) 32)))))))
def sha_moved.f (K : Nat) (x1 : Int) (x2 : Int) (x3 : Int) (x4 : Int) : Option (Int) :=
 (chk (!(decide (x4 < 0))) ((math_bits_RotateLeft32.f K (x1) ((IntKind.wrap .i64 (0 - x2)))).bind fun (r39 : (Int)) => ((math_bits_RotateLeft32.f K (x1) ((IntKind.wrap .i64 (0 - x3)))).bind fun (r44 : (Int)) => (some (bxor .u32 (bxor .u32 r39 r44) (Int.fdiv x1 (2 ^ (min (Int.toNat x4) 32))))))))
def sha_schedule_l1.b (K : Nat) (x1 : (List Int)) (rec : (Int × (Vector Int 64)) → Option ((Vector Int 64))) (y4844 : Int × (Vector Int 64)) : Option ((Vector Int 64)) :=
 (bif (decide (y4844.1 < (64 : Int))) then (jn (fun (y5574 : (Vector Int 64)) => (rec ((IntKind.wrap .i64 (y4844.1 + (1 : Int))), y5574))) (fun j5577 => (bif (decide (y4844.1 < (16 : Int))) then ((getI (x1) (IntKind.wrap .i64 ((4 : Int) * y4844.1))).bind fun (x5732 : Int) => ((getI (x1) (IntKind.wrap .i64 ((IntKind.wrap .i64 ((4 : Int) * y4844.1)) + (1 : Int)))).bind fun (x5744 : Int) => ((getI (x1) (IntKind.wrap .i64 ((IntKind.wrap .i64 ((4 : Int) * y4844.1)) + (2 : Int)))).bind fun (x5756 : Int) => ((getI (x1) (IntKind.wrap .i64 ((IntKind.wrap .i64 ((4 : Int) * y4844.1)) + (3 : Int)))).bind fun (x5768 : Int) => (chk (inA 64 y4844.1) ((some (vset (y4844.2) (Int.toNat (y4844.1)) ((bor .u32 (bor .u32 (bor .u32 (IntKind.wrap .u32 ((IntKind.wrap .u32 x5732) * 2 ^ 24)) (IntKind.wrap .u32 ((IntKind.wrap .u32 x5744) * 2 ^ 16))) (IntKind.wrap .u32 ((IntKind.wrap .u32 x5756) * 2 ^ 8))) (IntKind.wrap .u32 x5768))))).bind fun (v5781 : (Vector Int 64)) => (j5577 v5781))))))) else (chk (inA 64 (IntKind.wrap .i64 (y4844.1 - (2 : Int)))) (chk (inA 64 (IntKind.wrap .i64 (y4844.1 - (7 : Int)))) (chk (inA 64 (IntKind.wrap .i64 (y4844.1 - (15 : Int)))) (chk (inA 64 (IntKind.wrap .i64 (y4844.1 - (16 : Int)))) ((sha_moved.f K ((vget (y4844.2) (Int.toNat ((IntKind.wrap .i64 (y4844.1 - (2 : Int))))))) ((17 : Int)) ((19 : Int)) ((10 : Int))).bind fun (r5804 : (Int)) => ((sha_moved.f K ((vget (y4844.2) (Int.toNat ((IntKind.wrap .i64 (y4844.1 - (15 : Int))))))) ((7 : Int)) ((18 : Int)) ((3 : Int))).bind fun (r5809 : (Int)) => (chk (inA 64 y4844.1) ((some (vset (y4844.2) (Int.toNat (y4844.1)) ((IntKind.wrap .u32 ((IntKind.wrap .u32 ((IntKind.wrap .u32 (r5804 + (vget (y4844.2) (Int.toNat ((IntKind.wrap .i64 (y4844.1 - (7 : Int)))))))) + r5809)) + (vget (y4844.2) (Int.toNat ((IntKind.wrap .i64 (y4844.1 - (16 : Int))))))))))).bind fun (v5815 : (Vector Int 64)) => (j5577 v5815)))))))))))) else (some y4844.2))
def sha_schedule_l1.l (K : Nat) (x1 : (List Int)) : Nat → (Int × (Vector Int 64)) → Option ((Vector Int 64))
 | 0, _ => none
 | k + 1, y => sha_schedule_l1.b K x1 (sha_schedule_l1.l K x1 k) y
theorem sha_schedule_l1.some {K : Nat} (x1 : (List Int)) {k : Nat} {y : Int × (Vector Int 64)} {s : ((Vector Int 64))} (h : sha_schedule_l1.l K x1 k y = some s) : ∃ k', k = k' + 1 ∧ sha_schedule_l1.b K x1 (sha_schedule_l1.l K x1 k') y = some s := by
 cases k with
 | zero => cases h
 | succ k => exact ⟨k, rfl, h⟩
def sha_schedule.f (K : Nat) (x1 : (List Int)) : Option ((Vector Int 64)) :=
 ((sha_schedule_l1.l K x1 K ((0 : Int), (Vector.replicate 64 (0 : Int)))).bind fun (z5331 : (Vector Int 64)) => (some z5331))
def sha_turned.f (K : Nat) (x1 : Int) (x2 : Int) (x3 : Int) (x4 : Int) : Option (Int) :=
 ((math_bits_RotateLeft32.f K (x1) ((IntKind.wrap .i64 (0 - x2)))).bind fun (r20 : (Int)) => ((math_bits_RotateLeft32.f K (x1) ((IntKind.wrap .i64 (0 - x3)))).bind fun (r25 : (Int)) => ((math_bits_RotateLeft32.f K (x1) ((IntKind.wrap .i64 (0 - x4)))).bind fun (r30 : (Int)) => (some (bxor .u32 (bxor .u32 r20 r25) r30)))))
def sha_Turn_l1.b (K : Nat) (r1045 : ((Vector Int 64))) (rec : (Int × (Vector Int 8)) → Option ((Vector Int 8))) (y1147 : Int × (Vector Int 8)) : Option ((Vector Int 8)) :=
 (bif (decide (y1147.1 < (64 : Int))) then ((getI (vlist (r1045)) y1147.1).bind fun (x1296 : Int) => (chk (inA 64 y1147.1) ((sha_turned.f K ((vget (y1147.2) (Int.toNat ((4 : Int))))) ((6 : Int)) ((11 : Int)) ((25 : Int))).bind fun (r1319 : (Int)) => ((sha_turned.f K ((vget (y1147.2) (Int.toNat ((0 : Int))))) ((2 : Int)) ((13 : Int)) ((22 : Int))).bind fun (r1329 : (Int)) => ((some (vcopy (y1147.2) 1 0 7)).bind fun (v1336 : (Vector Int 8)) => ((some (vset (v1336) (Int.toNat ((4 : Int))) ((IntKind.wrap .u32 ((vget (v1336) (Int.toNat ((4 : Int)))) + (IntKind.wrap .u32 ((IntKind.wrap .u32 ((IntKind.wrap .u32 ((IntKind.wrap .u32 ((vget (y1147.2) (Int.toNat ((7 : Int)))) + r1319)) + (bxor .u32 (band .u32 (vget (y1147.2) (Int.toNat ((4 : Int)))) (vget (y1147.2) (Int.toNat ((5 : Int))))) (band .u32 (bnot .u32 (vget (y1147.2) (Int.toNat ((4 : Int))))) (vget (y1147.2) (Int.toNat ((6 : Int)))))))) + (vget (gl_K) (Int.toNat (y1147.1))))) + x1296))))))).bind fun (v1338 : (Vector Int 8)) => ((some (vset (v1338) (Int.toNat ((0 : Int))) ((IntKind.wrap .u32 ((IntKind.wrap .u32 ((IntKind.wrap .u32 ((IntKind.wrap .u32 ((IntKind.wrap .u32 ((vget (y1147.2) (Int.toNat ((7 : Int)))) + r1319)) + (bxor .u32 (band .u32 (vget (y1147.2) (Int.toNat ((4 : Int)))) (vget (y1147.2) (Int.toNat ((5 : Int))))) (band .u32 (bnot .u32 (vget (y1147.2) (Int.toNat ((4 : Int))))) (vget (y1147.2) (Int.toNat ((6 : Int)))))))) + (vget (gl_K) (Int.toNat (y1147.1))))) + x1296)) + (IntKind.wrap .u32 (r1329 + (bxor .u32 (bxor .u32 (band .u32 (vget (y1147.2) (Int.toNat ((0 : Int)))) (vget (y1147.2) (Int.toNat ((1 : Int))))) (band .u32 (vget (y1147.2) (Int.toNat ((0 : Int)))) (vget (y1147.2) (Int.toNat ((2 : Int)))))) (band .u32 (vget (y1147.2) (Int.toNat ((1 : Int)))) (vget (y1147.2) (Int.toNat ((2 : Int))))))))))))).bind fun (v1340 : (Vector Int 8)) => (rec ((IntKind.wrap .i64 (y1147.1 + (1 : Int))), v1340))))))))) else (some y1147.2))
def sha_Turn_l1.l (K : Nat) (r1045 : ((Vector Int 64))) : Nat → (Int × (Vector Int 8)) → Option ((Vector Int 8))
 | 0, _ => none
 | k + 1, y => sha_Turn_l1.b K r1045 (sha_Turn_l1.l K r1045 k) y
theorem sha_Turn_l1.some {K : Nat} (r1045 : ((Vector Int 64))) {k : Nat} {y : Int × (Vector Int 8)} {s : ((Vector Int 8))} (h : sha_Turn_l1.l K r1045 k y = some s) : ∃ k', k = k' + 1 ∧ sha_Turn_l1.b K r1045 (sha_Turn_l1.l K r1045 k') y = some s := by
 cases k with
 | zero => cases h
 | succ k => exact ⟨k, rfl, h⟩
def sha_Turn_l2.b (K : Nat) (z1245 : (Vector Int 8)) (rec : (Int × (Vector Int 8)) → Option ((Vector Int 8))) (y1427 : Int × (Vector Int 8)) : Option ((Vector Int 8)) :=
 (bif (decide (y1427.1 < (8 : Int))) then (chk (inA 8 y1427.1) (chk (inA 8 y1427.1) (chk (inA 8 y1427.1) ((some (vset (y1427.2) (Int.toNat (y1427.1)) ((IntKind.wrap .u32 ((vget (y1427.2) (Int.toNat (y1427.1))) + (vget (z1245) (Int.toNat (y1427.1)))))))).bind fun (v1476 : (Vector Int 8)) => (rec ((IntKind.wrap .i64 (y1427.1 + (1 : Int))), v1476)))))) else (some y1427.2))
def sha_Turn_l2.l (K : Nat) (z1245 : (Vector Int 8)) : Nat → (Int × (Vector Int 8)) → Option ((Vector Int 8))
 | 0, _ => none
 | k + 1, y => sha_Turn_l2.b K z1245 (sha_Turn_l2.l K z1245 k) y
theorem sha_Turn_l2.some {K : Nat} (z1245 : (Vector Int 8)) {k : Nat} {y : Int × (Vector Int 8)} {s : ((Vector Int 8))} (h : sha_Turn_l2.l K z1245 k y = some s) : ∃ k', k = k' + 1 ∧ sha_Turn_l2.b K z1245 (sha_Turn_l2.l K z1245 k') y = some s := by
 cases k with
 | zero => cases h
 | succ k => exact ⟨k, rfl, h⟩
def sha_Turn.f (K : Nat) (x1 : (Vector Int 8)) (x2 : (List Int)) : Option ((Vector Int 8)) :=
 (bif (!decide (((List.length (x2) : Nat) : Int) = (64 : Int))) then (some x1) else ((sha_schedule.f K (x2)).bind fun (r1045 : ((Vector Int 64))) => ((sha_Turn_l1.l K r1045 K ((0 : Int), x1)).bind fun (z1245 : (Vector Int 8)) => ((sha_Turn_l2.l K z1245 K ((0 : Int), x1)).bind fun (z1453 : (Vector Int 8)) => (some z1453)))))
def sha_Sum_l1.b (K : Nat) (rec : ((Vector Int 8) × (List Int)) → Option ((Vector Int 8) × (List Int))) (y691 : (Vector Int 8) × (List Int)) : Option ((Vector Int 8) × (List Int)) :=
 (bif (decide ((64 : Int) ≤ ((List.length (y691.2) : Nat) : Int))) then ((subI (y691.2) 0 (64 : Int)).bind fun (l746 : (List Int)) => ((sha_Turn.f K (y691.1) (l746)).bind fun (r751 : ((Vector Int 8))) => ((subI (y691.2) (64 : Int) ((List.length (y691.2) : Nat) : Int)).bind fun (l756 : (List Int)) => (rec (r751, l756))))) else (some (y691.1, y691.2)))
def sha_Sum_l1.l (K : Nat) : Nat → ((Vector Int 8) × (List Int)) → Option ((Vector Int 8) × (List Int))
 | 0, _ => none
 | k + 1, y => sha_Sum_l1.b K (sha_Sum_l1.l K k) y
theorem sha_Sum_l1.some {K : Nat} {k : Nat} {y : (Vector Int 8) × (List Int)} {s : ((Vector Int 8) × (List Int))} (h : sha_Sum_l1.l K k y = some s) : ∃ k', k = k' + 1 ∧ sha_Sum_l1.b K (sha_Sum_l1.l K k') y = some s := by
 cases k with
 | zero => cases h
 | succ k => exact ⟨k, rfl, h⟩
def sha_Sum_l2.b (K : Nat) (z728 : (Vector Int 8) × (List Int)) (rec : (Int × (Vector Int 32)) → Option ((Vector Int 32))) (y828 : Int × (Vector Int 32)) : Option ((Vector Int 32)) :=
 (bif (decide (y828.1 < (32 : Int))) then (chk (inA 8 (IntKind.wrap .i64 (Int.tdiv y828.1 4))) (chk (!(decide ((IntKind.wrap .i64 ((24 : Int) - (IntKind.wrap .i64 ((8 : Int) * (Int.tmod y828.1 4))))) < 0))) (chk (inA 32 y828.1) ((some (vset (y828.2) (Int.toNat (y828.1)) ((IntKind.wrap .u8 (Int.fdiv (vget (z728.1) (Int.toNat ((IntKind.wrap .i64 (Int.tdiv y828.1 4))))) (2 ^ (min (Int.toNat (IntKind.wrap .i64 ((24 : Int) - (IntKind.wrap .i64 ((8 : Int) * (Int.tmod y828.1 4)))))) 32))))))).bind fun (v857 : (Vector Int 32)) => (rec ((IntKind.wrap .i64 (y828.1 + (1 : Int))), v857)))))) else (some y828.2))
def sha_Sum_l2.l (K : Nat) (z728 : (Vector Int 8) × (List Int)) : Nat → (Int × (Vector Int 32)) → Option ((Vector Int 32))
 | 0, _ => none
 | k + 1, y => sha_Sum_l2.b K z728 (sha_Sum_l2.l K z728 k) y
theorem sha_Sum_l2.some {K : Nat} (z728 : (Vector Int 8) × (List Int)) {k : Nat} {y : Int × (Vector Int 32)} {s : ((Vector Int 32))} (h : sha_Sum_l2.l K z728 k y = some s) : ∃ k', k = k' + 1 ∧ sha_Sum_l2.b K z728 (sha_Sum_l2.l K z728 k') y = some s := by
 cases k with
 | zero => cases h
 | succ k => exact ⟨k, rfl, h⟩
def sha_Sum.f (K : Nat) (x1 : (List (List Int))) : Option ((Vector Int 32)) :=
 ((slices_Concat_byte_byte.f K (x1)).bind fun (r434 : ((List Int))) => ((sha_Fill.f K (((List.length (r434) : Nat) : Int))).bind fun (r607 : ((List Int))) => ((catI 1 (r434) (r607)).bind fun (l622 : (List Int)) => ((sha_blocks.f K (l622)).bind fun (r634 : ((List Int))) => ((sha_Sum_l1.l K K (gl_First, r634)).bind fun (z728 : (Vector Int 8) × (List Int)) => ((sha_Sum_l2.l K z728 K ((0 : Int), (Vector.replicate 32 (0 : Int)))).bind fun (z844 : (Vector Int 32)) => (some z844)))))))
def mac_Of.f (K : Nat) (x1 : Int) (x2 : (List (List Int))) : Option ((Vector Int 32)) :=
 ((mac_joined_byte.f K (x2)).bind fun (r52 : ((List Int))) => ((sha_Sum.f K (([([(IntKind.wrap .u8 x1)] : List Int), r52] : List (List Int)))).bind fun (r81 : ((Vector Int 32))) => (some r81)))
def log_at_behind.f (K : Nat) (x1 : T_log_at) (x2 : (List Int)) : Option (T_log_at) :=
 ((subI (vlist (x1.fChain)) 0 ((32 : Nat) : Int)).bind fun (l93 : List Int) => ((mac_Of.f K ((5 : Int)) (([l93, x2] : List (List Int)))).bind fun (r107 : ((Vector Int 32))) => ((some (T_log_at.mk ((IntKind.wrap .i64 (x1.fCount + (1 : Int)))) (r107))).bind fun (v112 : T_log_at) => (some v112))))
def slices_Reverse_byte_byte_l1.b (K : Nat) (rec : ((List Int) × Int × Int) → Option ((List Int))) (y586 : (List Int) × Int × Int) : Option ((List Int)) :=
 (bif (decide (y586.2.1 < y586.2.2)) then ((getI (y586.1) y586.2.2).bind fun (x836 : Int) => ((getI (y586.1) y586.2.1).bind fun (x845 : Int) => ((getI (y586.1) y586.2.1).bind fun (x854 : Int) => ((getI ((List.set (y586.1) (Int.toNat (y586.2.1)) (x836))) y586.2.2).bind fun (x861 : Int) => (rec ((List.set ((List.set (y586.1) (Int.toNat (y586.2.1)) (x836))) (Int.toNat (y586.2.2)) (x845)), (IntKind.wrap .i64 (y586.2.1 + (1 : Int))), (IntKind.wrap .i64 (y586.2.2 - (1 : Int))))))))) else (some y586.1))
def slices_Reverse_byte_byte_l1.l (K : Nat) : Nat → ((List Int) × Int × Int) → Option ((List Int))
 | 0, _ => none
 | k + 1, y => slices_Reverse_byte_byte_l1.b K (slices_Reverse_byte_byte_l1.l K k) y
theorem slices_Reverse_byte_byte_l1.some {K : Nat} {k : Nat} {y : (List Int) × Int × Int} {s : ((List Int))} (h : slices_Reverse_byte_byte_l1.l K k y = some s) : ∃ k', k = k' + 1 ∧ slices_Reverse_byte_byte_l1.b K (slices_Reverse_byte_byte_l1.l K k') y = some s := by
 cases k with
 | zero => cases h
 | succ k => exact ⟨k, rfl, h⟩
def slices_Reverse_byte_byte.f (K : Nat) (x1 : (List Int)) : Option ((List Int)) :=
 ((slices_Reverse_byte_byte_l1.l K K (x1, (0 : Int), (IntKind.wrap .i64 (((List.length (x1) : Nat) : Int) - (1 : Int))))).bind fun (z730 : (List Int)) => (some z730))
theorem slices_Reverse_byte_byte.len {K : Nat} {x r : List Int} (h : slices_Reverse_byte_byte.f K x = some r) : r.length = x.length := by
 have key : ∀ k y z, slices_Reverse_byte_byte_l1.l K k y = some z → z.length = y.1.length := by
  intro k
  induction k with
  | zero => intro y z h; cases h
  | succ k ih =>
   intro y z h
   have h : slices_Reverse_byte_byte_l1.b K (slices_Reverse_byte_byte_l1.l K k) y = some z := h
   unfold slices_Reverse_byte_byte_l1.b at h
   cases hc : decide (y.2.1 < y.2.2) with
   | false => rw [hc] at h; cases h; rfl
   | true =>
    rw [hc] at h
    replace h := cond_t rfl h
    obtain ⟨_, _, h⟩ := bind_some h
    obtain ⟨_, _, h⟩ := bind_some h
    obtain ⟨_, _, h⟩ := bind_some h
    obtain ⟨_, _, h⟩ := bind_some h
    have := ih _ _ h
    simpa using this
 unfold slices_Reverse_byte_byte.f at h
 obtain ⟨z, hz, h⟩ := bind_some h
 cases h
 exact key _ _ _ hz
def wire_Num_l1.b (K : Nat) (rec : (Int × (List Int)) → Option ((List Int))) (y516 : Int × (List Int)) : Option ((List Int)) :=
 (bif (decide ((0 : Int) < y516.1)) then ((catI 1 (y516.2) (([(bor .u8 (IntKind.wrap .u8 (Int.tmod y516.1 128)) (128 : Int))] : List Int))).bind fun (l599 : (List Int)) => (rec ((Int.fdiv y516.1 (2 ^ 7)), l599))) else (some y516.2))
def wire_Num_l1.l (K : Nat) : Nat → (Int × (List Int)) → Option ((List Int))
 | 0, _ => none
 | k + 1, y => wire_Num_l1.b K (wire_Num_l1.l K k) y
theorem wire_Num_l1.some {K : Nat} {k : Nat} {y : Int × (List Int)} {s : ((List Int))} (h : wire_Num_l1.l K k y = some s) : ∃ k', k = k' + 1 ∧ wire_Num_l1.b K (wire_Num_l1.l K k') y = some s := by
 cases k with
 | zero => cases h
 | succ k => exact ⟨k, rfl, h⟩
def wire_Num.f (K : Nat) (x1 : Int) : Option ((List Int)) :=
 (jn (fun (y316 : Bool) => (bif y316 then (some ([] : List Int)) else ((wire_Num_l1.l K K ((Int.fdiv x1 (2 ^ 7)), ([(IntKind.wrap .u8 (Int.tmod x1 128))] : List Int))).bind fun (z564 : (List Int)) => ((slices_Reverse_byte_byte.f K (z564)).bind fun (r606 : ((List Int))) => (some r606))))) (fun j614 => (bif (decide (x1 < (0 : Int))) then (j614 true) else (j614 (decide ((2147483647 : Int) < x1))))))
def wire_Bytes.f (K : Nat) (x1 : (List Int)) : Option ((List Int)) :=
 ((wire_Num.f K (((List.length (x1) : Nat) : Int))).bind fun (r27 : ((List Int))) => ((catI 1 (r27) (x1)).bind fun (l37 : (List Int)) => (some l37)))
def wire_All.f (K : Nat) (x1 : (List (List Int))) : Option ((List Int)) :=
 ((slices_Concat_byte_byte.f K (x1)).bind fun (r20 : ((List Int))) => (some r20))
def log_at_laid.f (K : Nat) (x1 : T_log_at) (x2 : (List Int)) : Option ((List Int)) :=
 ((log_at_behind.f K (x1) (x2)).bind fun (r106 : (T_log_at)) => ((subI (vlist (r106.fChain)) 0 (8 : Int)).bind fun (l158 : List Int) => ((wire_Bytes.f K (x2)).bind fun (r163 : ((List Int))) => ((wire_All.f K (([r163, l158] : List (List Int)))).bind fun (r187 : ((List Int))) => (some r187)))))
def bytes_Equal.f (K : Nat) (x1 : (List Int)) (x5 : (List Int)) : Option (Bool) :=
 (some (ByteArray.toList (bofL (x1)) == ByteArray.toList (bofL (x5))))
def bytes_HasPrefix.f (K : Nat) (x1 : (List Int)) (x5 : (List Int)) : Option (Bool) :=
 (bif (decide (((List.length (x5) : Nat) : Int) ≤ ((List.length (x1) : Nat) : Int))) then ((subI (x1) 0 ((List.length (x5) : Nat) : Int)).bind fun (l39 : (List Int)) => ((bytes_Equal.f K (l39) (x5)).bind fun (r44 : (Bool)) => (some r44))) else (some false))
def log_read.f (K : Nat) (x1 : (List Int)) (x5 : Int) (x6 : T_log_at) : Option (T_log_entry × Bool) :=
 ((subI (x1) x5 ((List.length (x1) : Nat) : Int)).bind fun (l129 : (List Int)) => ((wire_Read.f K (l129)).bind fun (r134 : (T_wire_Reader)) => ((wire_Reader_Bytes.f K ((2000 : Int)) (r134)).bind fun (r144 : ((List Int) × T_wire_Reader)) => (jn (fun (y177 : Bool) => (bif y177 then (some (z_T_log_entry, false)) else ((log_at_laid.f K (x6) (r144.1)).bind fun (r185 : ((List Int))) => ((subI (x1) x5 ((List.length (x1) : Nat) : Int)).bind fun (l210 : (List Int)) => ((bytes_HasPrefix.f K (l210) (r185)).bind fun (r220 : (Bool)) => (bif (!r220) then (some (z_T_log_entry, false)) else ((log_at_behind.f K (x6) (r144.1)).bind fun (r225 : (T_log_at)) => ((some (T_log_entry.mk (r144.1) (r225) ((IntKind.wrap .i64 (x5 + ((List.length (r185) : Nat) : Int)))))).bind fun (v230 : T_log_entry) => (some (v230, true)))))))))) (fun j233 => ((wire_Reader_Bad.f K (r144.2)).bind fun (r235 : (Int)) => (bif (!decide (r235 = (0 : Int))) then (j233 true) else (j233 (decide (((List.length (r144.1) : Nat) : Int) = (0 : Int)))))))))))
def disk_Disk_leave.f (K : Nat) (x3 : Int) (x4 : (List Int)) (x10 : Int) (x11 : Int) : Option ((List Int) × Int) :=
 ((subI (x4) 0 x3).bind fun (l33 : (List Int)) => (some (l33, x3)))
def disk_Disk_Cut.f (K : Nat) (x3 : Int) (x4 : (List Int)) (x10 : Int) (x11 : Int) : Option (Int × (List Int) × Int) :=
 (jn (fun (y42 : Bool) => (bif y42 then (some ((1 : Int), x4, x10)) else ((disk_Disk_leave.f K (x3) (x4) (x10) (x11)).bind fun (r45 : ((List Int) × Int)) => (some ((0 : Int), r45.1, r45.2))))) (fun j55 => (bif (decide (x3 < (0 : Int))) then (j55 true) else (j55 (decide (((List.length (x4) : Nat) : Int) < x3))))))
def log_Open_l1.b (K : Nat) (r1861 : ((List Int))) (rec : ((List (List Int)) × Int × T_log_entry × T_log_at) → Option ((List (List Int)) × Int × T_log_at)) (y2164 : (List (List Int)) × Int × T_log_entry × T_log_at) : Option ((List (List Int)) × Int × T_log_at) :=
 ((log_read.f K (r1861) (y2164.2.2.1.fNext) (y2164.2.2.1.fEnd)).bind fun (r2318 : (T_log_entry × Bool)) => (jn (fun (y2407 : Bool × (List (List Int)) × Int × T_log_at) => (bif y2407.1 then (some (y2407.2.1, y2407.2.2.1, y2407.2.2.2)) else (rec (y2407.2.1, y2407.2.2.1, r2318.1, y2407.2.2.2)))) (fun j2415 => (bif (!r2318.2) then (j2415 (true, y2164.1, y2164.2.1, y2164.2.2.2)) else ((catI 24 (y2164.1) (([r2318.1.fB] : List (List Int)))).bind fun (l2433 : (List (List Int))) => (j2415 (false, l2433, r2318.1.fNext, r2318.1.fEnd)))))))
def log_Open_l1.l (K : Nat) (r1861 : ((List Int))) : Nat → ((List (List Int)) × Int × T_log_entry × T_log_at) → Option ((List (List Int)) × Int × T_log_at)
 | 0, _ => none
 | k + 1, y => log_Open_l1.b K r1861 (log_Open_l1.l K r1861 k) y
theorem log_Open_l1.some {K : Nat} (r1861 : ((List Int))) {k : Nat} {y : (List (List Int)) × Int × T_log_entry × T_log_at} {s : ((List (List Int)) × Int × T_log_at)} (h : log_Open_l1.l K r1861 k y = some s) : ∃ k', k = k' + 1 ∧ log_Open_l1.b K r1861 (log_Open_l1.l K r1861 k') y = some s := by
 cases k with
 | zero => cases h
 | succ k => exact ⟨k, rfl, h⟩
def log_Open.f (K : Nat) (x3 : (List Int)) (x9 : Int) (x10 : Int) : Option ((List (List Int)) × Int × (List Int) × Int × T_log_at) :=
 ((disk_Disk_Bytes.f K (x3) (x9) (x10)).bind fun (r1843 : ((List Int))) => ((log_entries.f K (r1843)).bind fun (r1861 : ((List Int))) => ((log_Open_l1.l K r1861 K (([] : List (List Int)), (0 : Int), z_T_log_entry, (T_log_at.mk ((0 : Int)) ((Vector.replicate 32 (0 : Int)))))).bind fun (z2308 : (List (List Int)) × Int × T_log_at) => ((disk_Disk_Cut.f K (z2308.2.1) (x3) (x9) (x10)).bind fun (r2441 : (Int × (List Int) × Int)) => (some (z2308.1, (0 : Int), r2441.2.1, r2441.2.2, z2308.2.2))))))
def disk_Disk_Write.f (K : Nat) (x3 : (List Int)) (x7 : (List Int)) (x13 : Int) (x14 : Int) : Option (Int × (List Int)) :=
 (bif (decide ((IntKind.wrap .i64 (x14 - ((List.length (x7) : Nat) : Int))) < ((List.length (x3) : Nat) : Int))) then (some ((5 : Int), x7)) else ((catI 1 (x7) (x3)).bind fun (l37 : (List Int)) => (some ((0 : Int), l37))))
def log_Log_Put.f (K : Nat) (x5 : (List Int)) (x9 : T_log_at) (x10 : (List Int)) (x16 : Int) (x17 : Int) : Option (Int × T_log_at × (List Int)) :=
 (bif (decide (((List.length (x5) : Nat) : Int) = (0 : Int))) then (some ((1 : Int), x9, x10)) else (bif (decide ((2000 : Int) < ((List.length (x5) : Nat) : Int))) then (some ((4 : Int), x9, x10)) else ((log_at_laid.f K (x9) (x5)).bind fun (r203 : ((List Int))) => ((disk_Disk_Write.f K (r203) (x10) (x16) (x17)).bind fun (r218 : (Int × (List Int))) => (bif (!decide (r218.1 = (0 : Int))) then (some (r218.1, x9, r218.2)) else ((log_at_behind.f K (x9) (x5)).bind fun (r228 : (T_log_at)) => (some ((0 : Int), r228, r218.2))))))))
def disk_Disk_Sync.f (K : Nat) (x3 : (List Int)) (x9 : Int) (x10 : Int) : Option (Int) :=
 (some ((List.length (x3) : Nat) : Int))
def log_Log_Append.f (K : Nat) (x5 : (List Int)) (x9 : T_log_at) (x10 : (List Int)) (x16 : Int) (x17 : Int) : Option (Int × T_log_at × (List Int) × Int) :=
 ((log_Log_Put.f K (x5) (x9) (x10) (x16) (x17)).bind fun (r49 : (Int × T_log_at × (List Int))) => (bif (decide (r49.1 = (0 : Int))) then ((disk_Disk_Sync.f K (r49.2.2) (x16) (x17)).bind fun (r67 : (Int)) => (some (r49.1, r49.2.1, r49.2.2, r67))) else (some (r49.1, r49.2.1, r49.2.2, x16))))
def log_Log_Count.f (K : Nat) (x5 : T_log_at) (x6 : (List Int)) (x12 : Int) (x13 : Int) : Option (Int) :=
 (some x5.fCount)
def disk_Disk_Crash.f (K : Nat) (x3 : Int) (x4 : (List Int)) (x10 : Int) (x11 : Int) : Option ((List Int) × Int) :=
 ((disk_Disk_leave.f K ((IntKind.wrap .i64 (x10 + (maxI (0 : Int) (minI x3 (IntKind.wrap .i64 (((List.length (x4) : Nat) : Int) - x10))))))) (x4) (x10) (x11)).bind fun (r47 : ((List Int) × Int)) => (some (r47.1, r47.2)))
def log_Log_Size.f (K : Nat) (x5 : Int) (x6 : T_log_at) (x7 : (List Int)) (x13 : Int) (x14 : Int) : Option (Int) :=
 (jn (fun (y43 : Bool) => (bif y43 then (some (0 : Int)) else ((wire_Num.f K (x5)).bind fun (r46 : ((List Int))) => (some (IntKind.wrap .i64 ((IntKind.wrap .i64 (((List.length (r46) : Nat) : Int) + x5)) + (8 : Int))))))) (fun j56 => (bif (decide (x5 < (1 : Int))) then (j56 true) else (j56 (decide ((2000 : Int) < x5))))))
def log_Log_Chain.f (K : Nat) (x5 : T_log_at) (x6 : (List Int)) (x12 : Int) (x13 : Int) : Option ((Vector Int 32)) :=
 (bif ((decide (x5.fCount = (0 : Int))) && ((decide (x5.fChain = (Vector.replicate 32 (0 : Int)))) && true)) then (some (vofL 32 [(0 : Int), (0 : Int), (0 : Int), (0 : Int), (0 : Int), (0 : Int), (0 : Int), (0 : Int), (0 : Int), (0 : Int), (0 : Int), (0 : Int), (0 : Int), (0 : Int), (0 : Int), (0 : Int), (0 : Int), (0 : Int), (0 : Int), (0 : Int), (0 : Int), (0 : Int), (0 : Int), (0 : Int), (0 : Int), (0 : Int), (0 : Int), (0 : Int), (0 : Int), (0 : Int), (0 : Int), (0 : Int)])) else (some x5.fChain))
def inspeximuslaw09_alive.f (K : Nat) : Option (Bool) :=
 ((disk_New.f K ((100 : Int))).bind fun (r270 : ((List Int) × Int × Int)) => ((log_Open.f K (r270.1) (r270.2.1) (r270.2.2)).bind fun (r282 : ((List (List Int)) × Int × (List Int) × Int × T_log_at)) => ((log_Log_Append.f K (([(97 : Int)] : List Int)) (r282.2.2.2.2) (r282.2.2.1) (r282.2.2.2.1) (r270.2.2)).bind fun (r306 : (Int × T_log_at × (List Int) × Int)) => ((log_Log_Put.f K (([(98 : Int), (99 : Int)] : List Int)) (r306.2.1) (r306.2.2.1) (r306.2.2.2) (r270.2.2)).bind fun (r323 : (Int × T_log_at × (List Int))) => ((log_Log_Count.f K (r323.2.1) (r323.2.2) (r306.2.2.2) (r270.2.2)).bind fun (r333 : (Int)) => ((disk_Disk_Crash.f K ((10 : Int)) (r323.2.2) (r306.2.2.2) (r270.2.2)).bind fun (r341 : ((List Int) × Int)) => ((log_Open.f K (r341.1) (r341.2) (r270.2.2)).bind fun (r351 : ((List (List Int)) × Int × (List Int) × Int × T_log_at)) => (jn (fun (y482 : Bool) => (some y482)) (fun j485 => (bif (decide (r282.2.1 = (0 : Int))) then (bif (decide (r306.1 = (0 : Int))) then (bif (decide (r323.1 = (0 : Int))) then (bif (decide (r351.2.1 = (0 : Int))) then (bif (decide (((List.length (r282.1) : Nat) : Int) = (0 : Int))) then (bif (decide (r333 = (2 : Int))) then (bif (decide (((List.length (r351.1) : Nat) : Int) = (1 : Int))) then ((getI (r351.1) (0 : Int)).bind fun (x487 : (List Int)) => (bif (ByteArray.toList (bofL (x487)) == ByteArray.toList (⟨#[97]⟩)) then ((log_Log_Count.f K (r351.2.2.2.2) (r351.2.2.1) (r351.2.2.2.1) (r270.2.2)).bind fun (r502 : (Int)) => (bif (decide (r502 = (1 : Int))) then ((disk_Disk_Bytes.f K (r351.2.2.1) (r351.2.2.2.1) (r270.2.2)).bind fun (r510 : ((List Int))) => (bif (decide (((List.length (r510) : Nat) : Int) = (10 : Int))) then ((log_Log_Size.f K ((1 : Int)) (r351.2.2.2.2) (r351.2.2.1) (r351.2.2.2.1) (r270.2.2)).bind fun (r523 : (Int)) => (bif (decide (r523 = (10 : Int))) then ((log_Log_Chain.f K (r351.2.2.2.2) (r351.2.2.1) (r351.2.2.2.1) (r270.2.2)).bind fun (r531 : ((Vector Int 32))) => (j485 (!(decide (r531 = (vofL 32 [(0 : Int), (0 : Int), (0 : Int), (0 : Int), (0 : Int), (0 : Int), (0 : Int), (0 : Int), (0 : Int), (0 : Int), (0 : Int), (0 : Int), (0 : Int), (0 : Int), (0 : Int), (0 : Int), (0 : Int), (0 : Int), (0 : Int), (0 : Int), (0 : Int), (0 : Int), (0 : Int), (0 : Int), (0 : Int), (0 : Int), (0 : Int), (0 : Int), (0 : Int), (0 : Int), (0 : Int), (0 : Int)])))))) else (j485 false))) else (j485 false))) else (j485 false))) else (j485 false))) else (j485 false)) else (j485 false)) else (j485 false)) else (j485 false)) else (j485 false)) else (j485 false)) else (j485 false)))))))))))
def inspeximuslaw09_few_l1.b (K : Nat) (x1 : (List T_inspeximusref08_Act)) (rec : Int → Option (Sum ((Bool)) (Unit))) (y383 : Int) : Option (Sum ((Bool)) (Unit)) :=
 (bif (decide (y383 < ((List.length (x1) : Nat) : Int))) then ((getI (x1) y383).bind fun (x439 : T_inspeximusref08_Act) => (bif (decide ((300 : Int) < ((List.length (x439.fB) : Nat) : Int))) then (some (Sum.inl false)) else (rec (IntKind.wrap .i64 (y383 + (1 : Int)))))) else (some (Sum.inr ())))
def inspeximuslaw09_few_l1.l (K : Nat) (x1 : (List T_inspeximusref08_Act)) : Nat → (Int) → Option (Sum ((Bool)) (Unit))
 | 0, _ => none
 | k + 1, y => inspeximuslaw09_few_l1.b K x1 (inspeximuslaw09_few_l1.l K x1 k) y
theorem inspeximuslaw09_few_l1.some {K : Nat} (x1 : (List T_inspeximusref08_Act)) {k : Nat} {y : Int} {s : (Sum ((Bool)) (Unit))} (h : inspeximuslaw09_few_l1.l K x1 k y = some s) : ∃ k', k = k' + 1 ∧ inspeximuslaw09_few_l1.b K x1 (inspeximuslaw09_few_l1.l K x1 k') y = some s := by
 cases k with
 | zero => cases h
 | succ k => exact ⟨k, rfl, h⟩
def inspeximuslaw09_few.f (K : Nat) (x1 : (List T_inspeximusref08_Act)) : Option (Bool) :=
 (bif (decide ((40 : Int) < ((List.length (x1) : Nat) : Int))) then (some false) else ((inspeximuslaw09_few_l1.l K x1 K (0 : Int)).bind fun s454 => (match s454 with | .inl u455 => some u455 | .inr u456 => (fun (z419 : Unit) => (some true)) u456)))
def log_Open_v2.f (K : Nat) : Option ((List (List Int)) × Int) :=
 (some (([] : List (List Int)), (1 : Int)))
def inspeximusref08_Disk_Bytes.f (K : Nat) (x3 : T_inspeximusref08_Disk) : Option ((List Int)) :=
 ((catI 1 (([] : List Int)) (x3.fDone)).bind fun (l73 : (List Int)) => ((catI 1 (l73) (x3.fLate)).bind fun (l80 : (List Int)) => (some l80)))
def inspeximusref03_Reader_Num_l1.b (K : Nat) (x3 : T_inspeximusref03_Reader) (rec : (Int × Int) → Option (Sum ((Int × T_inspeximusref03_Reader)) (Unit))) (y831 : Int × Int) : Option (Sum ((Int × T_inspeximusref03_Reader)) (Unit)) :=
 (bif (decide (y831.2 < ((List.length (x3.fB) : Nat) : Int))) then ((getI (x3.fB) y831.2).bind fun (x953 : Int) => (jn (fun (y973 : Bool) => (bif y973 then ((some { x3 with fBad := (2 : Int) }).bind fun (v976 : T_inspeximusref03_Reader) => (some (Sum.inl ((0 : Int), v976)))) else (bif (decide ((IntKind.wrap .i64 x953) < (128 : Int))) then (bif (decide ((2147483647 : Int) < (IntKind.wrap .i64 ((IntKind.wrap .i64 (y831.1 * (128 : Int))) + (Int.tmod (IntKind.wrap .i64 x953) 128))))) then ((some { x3 with fBad := (2 : Int) }).bind fun (v982 : T_inspeximusref03_Reader) => (some (Sum.inl ((0 : Int), v982)))) else ((some { x3 with fAt := (IntKind.wrap .i64 (y831.2 + (1 : Int))) }).bind fun (v985 : T_inspeximusref03_Reader) => (some (Sum.inl ((IntKind.wrap .i64 ((IntKind.wrap .i64 (y831.1 * (128 : Int))) + (Int.tmod (IntKind.wrap .i64 x953) 128))), v985))))) else (rec ((IntKind.wrap .i64 ((IntKind.wrap .i64 (y831.1 * (128 : Int))) + (Int.tmod (IntKind.wrap .i64 x953) 128))), (IntKind.wrap .i64 (y831.2 + (1 : Int)))))))) (fun j988 => (bif (decide (y831.2 = x3.fAt)) then (bif (decide ((IntKind.wrap .i64 x953) = (128 : Int))) then (j988 true) else (j988 (decide ((4 : Int) < (IntKind.wrap .i64 (y831.2 - x3.fAt)))))) else (j988 (decide ((4 : Int) < (IntKind.wrap .i64 (y831.2 - x3.fAt))))))))) else (some (Sum.inr ())))
def inspeximusref03_Reader_Num_l1.l (K : Nat) (x3 : T_inspeximusref03_Reader) : Nat → (Int × Int) → Option (Sum ((Int × T_inspeximusref03_Reader)) (Unit))
 | 0, _ => none
 | k + 1, y => inspeximusref03_Reader_Num_l1.b K x3 (inspeximusref03_Reader_Num_l1.l K x3 k) y
theorem inspeximusref03_Reader_Num_l1.some {K : Nat} (x3 : T_inspeximusref03_Reader) {k : Nat} {y : Int × Int} {s : (Sum ((Int × T_inspeximusref03_Reader)) (Unit))} (h : inspeximusref03_Reader_Num_l1.l K x3 k y = some s) : ∃ k', k = k' + 1 ∧ inspeximusref03_Reader_Num_l1.b K x3 (inspeximusref03_Reader_Num_l1.l K x3 k') y = some s := by
 cases k with
 | zero => cases h
 | succ k => exact ⟨k, rfl, h⟩
def inspeximusref03_Reader_Num.f (K : Nat) (x3 : T_inspeximusref03_Reader) : Option (Int × T_inspeximusref03_Reader) :=
 (bif (!decide (x3.fBad = (0 : Int))) then (some ((0 : Int), x3)) else ((inspeximusref03_Reader_Num_l1.l K x3 K ((0 : Int), x3.fAt)).bind fun s993 => (match s993 with | .inl u994 => some u994 | .inr u995 => (fun (z911 : Unit) => ((some { x3 with fBad := (3 : Int) }).bind fun (v990 : T_inspeximusref03_Reader) => (some ((0 : Int), v990)))) u995)))
def inspeximusref03_Reader_Bytes.f (K : Nat) (x3 : Int) (x4 : T_inspeximusref03_Reader) : Option ((List Int) × T_inspeximusref03_Reader) :=
 ((inspeximusref03_Reader_Num.f K (x4)).bind fun (r71 : (Int × T_inspeximusref03_Reader)) => (bif (!decide (r71.2.fBad = (0 : Int))) then (some (([] : List Int), r71.2)) else (bif (decide (x3 < r71.1)) then ((some { r71.2 with fBad := (4 : Int) }).bind fun (v83 : T_inspeximusref03_Reader) => (some (([] : List Int), v83))) else (bif (decide ((IntKind.wrap .i64 (((List.length (r71.2.fB) : Nat) : Int) - r71.2.fAt)) < r71.1)) then ((some { r71.2 with fBad := (3 : Int) }).bind fun (v90 : T_inspeximusref03_Reader) => (some (([] : List Int), v90))) else ((some { r71.2 with fAt := (IntKind.wrap .i64 (r71.2.fAt + r71.1)) }).bind fun (v94 : T_inspeximusref03_Reader) => ((subI (v94.fB) (IntKind.wrap .i64 (v94.fAt - r71.1)) v94.fAt).bind fun (l113 : (List Int)) => ((catI 1 (([] : List Int)) (l113)).bind fun (l122 : (List Int)) => (some (l122, v94)))))))))
def inspeximusref02_Number_l1.b (K : Nat) (rec : ((List Int) × Int × Int) → Option ((List Int))) (y316 : (List Int) × Int × Int) : Option ((List Int)) :=
 (bif (decide ((0 : Int) ≤ y316.2.2)) then ((getI (y316.1) y316.2.2).bind fun (x363 : Int) => (rec ((List.set (y316.1) (Int.toNat (y316.2.2)) ((IntKind.wrap .u8 (Int.tmod y316.2.1 256)))), (IntKind.wrap .u64 (Int.tdiv y316.2.1 256)), (IntKind.wrap .i64 (y316.2.2 - (1 : Int)))))) else (some y316.1))
def inspeximusref02_Number_l1.l (K : Nat) : Nat → ((List Int) × Int × Int) → Option ((List Int))
 | 0, _ => none
 | k + 1, y => inspeximusref02_Number_l1.b K (inspeximusref02_Number_l1.l K k) y
theorem inspeximusref02_Number_l1.some {K : Nat} {k : Nat} {y : (List Int) × Int × Int} {s : ((List Int))} (h : inspeximusref02_Number_l1.l K k y = some s) : ∃ k', k = k' + 1 ∧ inspeximusref02_Number_l1.b K (inspeximusref02_Number_l1.l K k') y = some s := by
 cases k with
 | zero => cases h
 | succ k => exact ⟨k, rfl, h⟩
def inspeximusref02_Number.f (K : Nat) (x1 : Int) (x2 : Int) : Option ((List Int)) :=
 ((zerosI 1 ((0 : Int)) x2).bind fun (l189 : (List Int)) => ((inspeximusref02_Number_l1.l K K (l189, (IntKind.wrap .u64 x1), (IntKind.wrap .i64 (x2 - (1 : Int))))).bind fun (z346 : (List Int)) => (some z346)))
def inspeximusref02_Text_l1.b (K : Nat) (x2 : (List (List Int))) (rec : ((List Int) × Int) → Option ((List Int))) (y1353 : (List Int) × Int) : Option ((List Int)) :=
 (bif (decide (y1353.2 < ((List.length (x2) : Nat) : Int))) then ((getI (x2) y1353.2).bind fun (x1556 : (List Int)) => ((inspeximusref02_Number.f K (((List.length (x1556) : Nat) : Int)) ((4 : Int))).bind fun (r1571 : ((List Int))) => ((catI 1 (y1353.1) (r1571)).bind fun (l1586 : (List Int)) => ((getI (x2) y1353.2).bind fun (x1593 : (List Int)) => ((catI 1 (l1586) (x1593)).bind fun (l1608 : (List Int)) => (rec (l1608, (IntKind.wrap .i64 (y1353.2 + (1 : Int)))))))))) else (some y1353.1))
def inspeximusref02_Text_l1.l (K : Nat) (x2 : (List (List Int))) : Nat → ((List Int) × Int) → Option ((List Int))
 | 0, _ => none
 | k + 1, y => inspeximusref02_Text_l1.b K x2 (inspeximusref02_Text_l1.l K x2 k) y
theorem inspeximusref02_Text_l1.some {K : Nat} (x2 : (List (List Int))) {k : Nat} {y : (List Int) × Int} {s : ((List Int))} (h : inspeximusref02_Text_l1.l K x2 k y = some s) : ∃ k', k = k' + 1 ∧ inspeximusref02_Text_l1.b K x2 (inspeximusref02_Text_l1.l K x2 k') y = some s := by
 cases k with
 | zero => cases h
 | succ k => exact ⟨k, rfl, h⟩
def inspeximusref02_Text.f (K : Nat) (x1 : Int) (x2 : (List (List Int))) : Option ((List Int)) :=
 ((inspeximusref02_Text_l1.l K x2 K (([(IntKind.wrap .u8 x1)] : List Int), (0 : Int))).bind fun (z1487 : (List Int)) => (some z1487))
def inspeximusref01_Fill_l1.b (K : Nat) (x1 : Int) (rec : (List Int) → Option ((List Int))) (y620 : (List Int)) : Option ((List Int)) :=
 (bif (!decide ((Int.tmod (IntKind.wrap .i64 (x1 + ((List.length (y620) : Nat) : Int))) 64) = (56 : Int))) then ((catI 1 (y620) (([(0 : Int)] : List Int))).bind fun (l671 : (List Int)) => (rec l671)) else (some y620))
def inspeximusref01_Fill_l1.l (K : Nat) (x1 : Int) : Nat → ((List Int)) → Option ((List Int))
 | 0, _ => none
 | k + 1, y => inspeximusref01_Fill_l1.b K x1 (inspeximusref01_Fill_l1.l K x1 k) y
theorem inspeximusref01_Fill_l1.some {K : Nat} (x1 : Int) {k : Nat} {y : (List Int)} {s : ((List Int))} (h : inspeximusref01_Fill_l1.l K x1 k y = some s) : ∃ k', k = k' + 1 ∧ inspeximusref01_Fill_l1.b K x1 (inspeximusref01_Fill_l1.l K x1 k') y = some s := by
 cases k with
 | zero => cases h
 | succ k => exact ⟨k, rfl, h⟩
def inspeximusref01_Fill_l2.b (K : Nat) (x1 : Int) (rec : ((List Int) × Int × Int) → Option ((List Int))) (y874 : (List Int) × Int × Int) : Option ((List Int)) :=
 (bif (decide (y874.2.2 < (8 : Int))) then (chk (!(decide (y874.2.1 = 0))) ((catI 1 (y874.1) (([(IntKind.wrap .u8 (Int.tmod (IntKind.wrap .u64 (Int.tdiv (IntKind.wrap .u64 ((IntKind.wrap .u64 x1) * (8 : Int))) y874.2.1)) 256))] : List Int))).bind fun (l961 : (List Int)) => (rec (l961, (IntKind.wrap .u64 (Int.tdiv y874.2.1 256)), (IntKind.wrap .i64 (y874.2.2 + (1 : Int))))))) else (some y874.1))
def inspeximusref01_Fill_l2.l (K : Nat) (x1 : Int) : Nat → ((List Int) × Int × Int) → Option ((List Int))
 | 0, _ => none
 | k + 1, y => inspeximusref01_Fill_l2.b K x1 (inspeximusref01_Fill_l2.l K x1 k) y
theorem inspeximusref01_Fill_l2.some {K : Nat} (x1 : Int) {k : Nat} {y : (List Int) × Int × Int} {s : ((List Int))} (h : inspeximusref01_Fill_l2.l K x1 k y = some s) : ∃ k', k = k' + 1 ∧ inspeximusref01_Fill_l2.b K x1 (inspeximusref01_Fill_l2.l K x1 k') y = some s := by
 cases k with
 | zero => cases h
 | succ k => exact ⟨k, rfl, h⟩
def inspeximusref01_Fill.f (K : Nat) (x1 : Int) : Option ((List Int)) :=
 (bif (decide (x1 < (0 : Int))) then (some ([] : List Int)) else ((inspeximusref01_Fill_l1.l K x1 K ([(128 : Int)] : List Int)).bind fun (z652 : (List Int)) => ((inspeximusref01_Fill_l2.l K x1 K (z652, (72057594037927936 : Int), (0 : Int))).bind fun (z924 : (List Int)) => (some z924))))
def inspeximusref01_right.f (K : Nat) (x1 : Int) (x2 : Int) : Option (Int) :=
 (chk (!(decide ((IntKind.wrap .u64 x2) < 0))) (chk (!(decide ((IntKind.wrap .u64 (IntKind.wrap .i64 ((32 : Int) - x2))) < 0))) (some (Int.tmod (bor .u64 (Int.fdiv x1 (2 ^ (min (Int.toNat (IntKind.wrap .u64 x2)) 64))) (IntKind.wrap .u64 (x1 * 2 ^ (min (Int.toNat (IntKind.wrap .u64 (IntKind.wrap .i64 ((32 : Int) - x2)))) 64)))) 4294967296))))
def inspeximusref01_shift.f (K : Nat) (x1 : Int) (x2 : Int) : Option (Int) :=
 (chk (!(decide ((IntKind.wrap .u64 x2) < 0))) (some (Int.fdiv x1 (2 ^ (min (Int.toNat (IntKind.wrap .u64 x2)) 64)))))
def inspeximusref01_Turn_l1.b (K : Nat) (x2 : (List Int)) (rec : (Int × (Vector Int 64)) → Option ((Vector Int 64))) (y6647 : Int × (Vector Int 64)) : Option ((Vector Int 64)) :=
 (bif (decide (y6647.1 < (64 : Int))) then (jn (fun (y7497 : (Vector Int 64)) => (rec ((IntKind.wrap .i64 (y6647.1 + (1 : Int))), y7497))) (fun j7500 => (bif (decide (y6647.1 < (16 : Int))) then ((getI (x2) (IntKind.wrap .i64 ((4 : Int) * y6647.1))).bind fun (x7655 : Int) => ((getI (x2) (IntKind.wrap .i64 ((IntKind.wrap .i64 ((4 : Int) * y6647.1)) + (1 : Int)))).bind fun (x7667 : Int) => ((getI (x2) (IntKind.wrap .i64 ((IntKind.wrap .i64 ((4 : Int) * y6647.1)) + (2 : Int)))).bind fun (x7679 : Int) => ((getI (x2) (IntKind.wrap .i64 ((IntKind.wrap .i64 ((4 : Int) * y6647.1)) + (3 : Int)))).bind fun (x7691 : Int) => (chk (inA 64 y6647.1) ((some (vset (y6647.2) (Int.toNat (y6647.1)) ((IntKind.wrap .u64 ((IntKind.wrap .u64 ((IntKind.wrap .u64 ((IntKind.wrap .u64 ((IntKind.wrap .u64 ((IntKind.wrap .u64 ((IntKind.wrap .u64 x7655) * (256 : Int))) + (IntKind.wrap .u64 x7667))) * (256 : Int))) + (IntKind.wrap .u64 x7679))) * (256 : Int))) + (IntKind.wrap .u64 x7691)))))).bind fun (v7704 : (Vector Int 64)) => (j7500 v7704))))))) else (chk (inA 64 (IntKind.wrap .i64 (y6647.1 - (15 : Int)))) (chk (inA 64 (IntKind.wrap .i64 (y6647.1 - (2 : Int)))) (chk (inA 64 (IntKind.wrap .i64 (y6647.1 - (7 : Int)))) (chk (inA 64 (IntKind.wrap .i64 (y6647.1 - (16 : Int)))) ((inspeximusref01_right.f K ((vget (y6647.2) (Int.toNat ((IntKind.wrap .i64 (y6647.1 - (2 : Int))))))) ((17 : Int))).bind fun (r7747 : (Int)) => ((inspeximusref01_right.f K ((vget (y6647.2) (Int.toNat ((IntKind.wrap .i64 (y6647.1 - (2 : Int))))))) ((19 : Int))).bind fun (r7752 : (Int)) => ((inspeximusref01_shift.f K ((vget (y6647.2) (Int.toNat ((IntKind.wrap .i64 (y6647.1 - (2 : Int))))))) ((10 : Int))).bind fun (r7757 : (Int)) => ((inspeximusref01_right.f K ((vget (y6647.2) (Int.toNat ((IntKind.wrap .i64 (y6647.1 - (15 : Int))))))) ((7 : Int))).bind fun (r7762 : (Int)) => ((inspeximusref01_right.f K ((vget (y6647.2) (Int.toNat ((IntKind.wrap .i64 (y6647.1 - (15 : Int))))))) ((18 : Int))).bind fun (r7767 : (Int)) => ((inspeximusref01_shift.f K ((vget (y6647.2) (Int.toNat ((IntKind.wrap .i64 (y6647.1 - (15 : Int))))))) ((3 : Int))).bind fun (r7772 : (Int)) => (chk (inA 64 y6647.1) ((some (vset (y6647.2) (Int.toNat (y6647.1)) ((Int.tmod (IntKind.wrap .u64 ((IntKind.wrap .u64 ((IntKind.wrap .u64 ((bxor .u64 (bxor .u64 r7747 r7752) r7757) + (vget (y6647.2) (Int.toNat ((IntKind.wrap .i64 (y6647.1 - (7 : Int)))))))) + (bxor .u64 (bxor .u64 r7762 r7767) r7772))) + (vget (y6647.2) (Int.toNat ((IntKind.wrap .i64 (y6647.1 - (16 : Int)))))))) 4294967296)))).bind fun (v7778 : (Vector Int 64)) => (j7500 v7778)))))))))))))))) else (some y6647.2))
def inspeximusref01_Turn_l1.l (K : Nat) (x2 : (List Int)) : Nat → (Int × (Vector Int 64)) → Option ((Vector Int 64))
 | 0, _ => none
 | k + 1, y => inspeximusref01_Turn_l1.b K x2 (inspeximusref01_Turn_l1.l K x2 k) y
theorem inspeximusref01_Turn_l1.some {K : Nat} (x2 : (List Int)) {k : Nat} {y : Int × (Vector Int 64)} {s : ((Vector Int 64))} (h : inspeximusref01_Turn_l1.l K x2 k y = some s) : ∃ k', k = k' + 1 ∧ inspeximusref01_Turn_l1.b K x2 (inspeximusref01_Turn_l1.l K x2 k') y = some s := by
 cases k with
 | zero => cases h
 | succ k => exact ⟨k, rfl, h⟩
def inspeximusref01_Turn_l2.b (K : Nat) (x1 : (Vector Int 8)) (rec : (Int × (Vector Int 8)) → Option ((Vector Int 8))) (y7835 : Int × (Vector Int 8)) : Option ((Vector Int 8)) :=
 (bif (decide (y7835.1 < (8 : Int))) then (chk (inA 8 y7835.1) (chk (inA 8 y7835.1) ((some (vset (y7835.2) (Int.toNat (y7835.1)) ((IntKind.wrap .u64 (vget (x1) (Int.toNat (y7835.1))))))).bind fun (v7860 : (Vector Int 8)) => (rec ((IntKind.wrap .i64 (y7835.1 + (1 : Int))), v7860))))) else (some y7835.2))
def inspeximusref01_Turn_l2.l (K : Nat) (x1 : (Vector Int 8)) : Nat → (Int × (Vector Int 8)) → Option ((Vector Int 8))
 | 0, _ => none
 | k + 1, y => inspeximusref01_Turn_l2.b K x1 (inspeximusref01_Turn_l2.l K x1 k) y
theorem inspeximusref01_Turn_l2.some {K : Nat} (x1 : (Vector Int 8)) {k : Nat} {y : Int × (Vector Int 8)} {s : ((Vector Int 8))} (h : inspeximusref01_Turn_l2.l K x1 k y = some s) : ∃ k', k = k' + 1 ∧ inspeximusref01_Turn_l2.b K x1 (inspeximusref01_Turn_l2.l K x1 k') y = some s := by
 cases k with
 | zero => cases h
 | succ k => exact ⟨k, rfl, h⟩
def inspeximusref01_Turn_l3.b (K : Nat) (z7214 : (Vector Int 64)) (rec : (Int × (Vector Int 8)) → Option ((Vector Int 8))) (y8379 : Int × (Vector Int 8)) : Option ((Vector Int 8)) :=
 (bif (decide (y8379.1 < (64 : Int))) then (chk (inA 64 y8379.1) (chk (inA 64 y8379.1) ((inspeximusref01_right.f K ((vget (y8379.2) (Int.toNat ((4 : Int))))) ((6 : Int))).bind fun (r8612 : (Int)) => ((inspeximusref01_right.f K ((vget (y8379.2) (Int.toNat ((4 : Int))))) ((11 : Int))).bind fun (r8617 : (Int)) => ((inspeximusref01_right.f K ((vget (y8379.2) (Int.toNat ((4 : Int))))) ((25 : Int))).bind fun (r8622 : (Int)) => ((inspeximusref01_right.f K ((vget (y8379.2) (Int.toNat ((0 : Int))))) ((2 : Int))).bind fun (r8627 : (Int)) => ((inspeximusref01_right.f K ((vget (y8379.2) (Int.toNat ((0 : Int))))) ((13 : Int))).bind fun (r8632 : (Int)) => ((inspeximusref01_right.f K ((vget (y8379.2) (Int.toNat ((0 : Int))))) ((22 : Int))).bind fun (r8637 : (Int)) => (rec ((IntKind.wrap .i64 (y8379.1 + (1 : Int))), (vofL 8 [(Int.tmod (IntKind.wrap .u64 ((Int.tmod (IntKind.wrap .u64 ((IntKind.wrap .u64 ((IntKind.wrap .u64 ((IntKind.wrap .u64 ((vget (y8379.2) (Int.toNat ((7 : Int)))) + (bxor .u64 (bxor .u64 r8612 r8617) r8622))) + (bxor .u64 (band .u64 (vget (y8379.2) (Int.toNat ((4 : Int)))) (vget (y8379.2) (Int.toNat ((5 : Int))))) (band .u64 (IntKind.wrap .u64 ((4294967295 : Int) - (vget (y8379.2) (Int.toNat ((4 : Int)))))) (vget (y8379.2) (Int.toNat ((6 : Int)))))))) + (IntKind.wrap .u64 (vget (gl_K) (Int.toNat (y8379.1)))))) + (vget (z7214) (Int.toNat (y8379.1))))) 4294967296) + (Int.tmod (IntKind.wrap .u64 ((bxor .u64 (bxor .u64 r8627 r8632) r8637) + (bxor .u64 (bxor .u64 (band .u64 (vget (y8379.2) (Int.toNat ((0 : Int)))) (vget (y8379.2) (Int.toNat ((1 : Int))))) (band .u64 (vget (y8379.2) (Int.toNat ((0 : Int)))) (vget (y8379.2) (Int.toNat ((2 : Int)))))) (band .u64 (vget (y8379.2) (Int.toNat ((1 : Int)))) (vget (y8379.2) (Int.toNat ((2 : Int)))))))) 4294967296))) 4294967296), (vget (y8379.2) (Int.toNat ((0 : Int)))), (vget (y8379.2) (Int.toNat ((1 : Int)))), (vget (y8379.2) (Int.toNat ((2 : Int)))), (Int.tmod (IntKind.wrap .u64 ((vget (y8379.2) (Int.toNat ((3 : Int)))) + (Int.tmod (IntKind.wrap .u64 ((IntKind.wrap .u64 ((IntKind.wrap .u64 ((IntKind.wrap .u64 ((vget (y8379.2) (Int.toNat ((7 : Int)))) + (bxor .u64 (bxor .u64 r8612 r8617) r8622))) + (bxor .u64 (band .u64 (vget (y8379.2) (Int.toNat ((4 : Int)))) (vget (y8379.2) (Int.toNat ((5 : Int))))) (band .u64 (IntKind.wrap .u64 ((4294967295 : Int) - (vget (y8379.2) (Int.toNat ((4 : Int)))))) (vget (y8379.2) (Int.toNat ((6 : Int)))))))) + (IntKind.wrap .u64 (vget (gl_K) (Int.toNat (y8379.1)))))) + (vget (z7214) (Int.toNat (y8379.1))))) 4294967296))) 4294967296), (vget (y8379.2) (Int.toNat ((4 : Int)))), (vget (y8379.2) (Int.toNat ((5 : Int)))), (vget (y8379.2) (Int.toNat ((6 : Int))))]))))))))))) else (some y8379.2))
def inspeximusref01_Turn_l3.l (K : Nat) (z7214 : (Vector Int 64)) : Nat → (Int × (Vector Int 8)) → Option ((Vector Int 8))
 | 0, _ => none
 | k + 1, y => inspeximusref01_Turn_l3.b K z7214 (inspeximusref01_Turn_l3.l K z7214 k) y
theorem inspeximusref01_Turn_l3.some {K : Nat} (z7214 : (Vector Int 64)) {k : Nat} {y : Int × (Vector Int 8)} {s : ((Vector Int 8))} (h : inspeximusref01_Turn_l3.l K z7214 k y = some s) : ∃ k', k = k' + 1 ∧ inspeximusref01_Turn_l3.b K z7214 (inspeximusref01_Turn_l3.l K z7214 k') y = some s := by
 cases k with
 | zero => cases h
 | succ k => exact ⟨k, rfl, h⟩
def inspeximusref01_Turn_l4.b (K : Nat) (z8511 : (Vector Int 8)) (rec : (Int × (Vector Int 8)) → Option ((Vector Int 8))) (y8727 : Int × (Vector Int 8)) : Option ((Vector Int 8)) :=
 (bif (decide (y8727.1 < (8 : Int))) then (chk (inA 8 y8727.1) (chk (inA 8 y8727.1) (chk (inA 8 y8727.1) ((some (vset (y8727.2) (Int.toNat (y8727.1)) ((IntKind.wrap .u32 (Int.tmod (IntKind.wrap .u64 ((IntKind.wrap .u64 (vget (y8727.2) (Int.toNat (y8727.1)))) + (vget (z8511) (Int.toNat (y8727.1))))) 4294967296))))).bind fun (v8776 : (Vector Int 8)) => (rec ((IntKind.wrap .i64 (y8727.1 + (1 : Int))), v8776)))))) else (some y8727.2))
def inspeximusref01_Turn_l4.l (K : Nat) (z8511 : (Vector Int 8)) : Nat → (Int × (Vector Int 8)) → Option ((Vector Int 8))
 | 0, _ => none
 | k + 1, y => inspeximusref01_Turn_l4.b K z8511 (inspeximusref01_Turn_l4.l K z8511 k) y
theorem inspeximusref01_Turn_l4.some {K : Nat} (z8511 : (Vector Int 8)) {k : Nat} {y : Int × (Vector Int 8)} {s : ((Vector Int 8))} (h : inspeximusref01_Turn_l4.l K z8511 k y = some s) : ∃ k', k = k' + 1 ∧ inspeximusref01_Turn_l4.b K z8511 (inspeximusref01_Turn_l4.l K z8511 k') y = some s := by
 cases k with
 | zero => cases h
 | succ k => exact ⟨k, rfl, h⟩
def inspeximusref01_Turn.f (K : Nat) (x1 : (Vector Int 8)) (x2 : (List Int)) : Option ((Vector Int 8)) :=
 (bif (!decide (((List.length (x2) : Nat) : Int) = (64 : Int))) then (some x1) else ((inspeximusref01_Turn_l1.l K x2 K ((0 : Int), (Vector.replicate 64 (0 : Int)))).bind fun (z7214 : (Vector Int 64)) => ((inspeximusref01_Turn_l2.l K x1 K ((0 : Int), (Vector.replicate 8 (0 : Int)))).bind fun (z7849 : (Vector Int 8)) => ((inspeximusref01_Turn_l3.l K z7214 K ((0 : Int), z7849)).bind fun (z8511 : (Vector Int 8)) => ((inspeximusref01_Turn_l4.l K z8511 K ((0 : Int), x1)).bind fun (z8753 : (Vector Int 8)) => (some z8753))))))
def inspeximusref01_Sum_l1.b (K : Nat) (l999 : (List Int)) (rec : (Int × (Vector Int 8)) → Option ((Vector Int 8))) (y1340 : Int × (Vector Int 8)) : Option ((Vector Int 8)) :=
 (bif (decide ((IntKind.wrap .i64 (y1340.1 + (64 : Int))) ≤ ((List.length (l999) : Nat) : Int))) then ((subI (l999) y1340.1 (IntKind.wrap .i64 (y1340.1 + (64 : Int)))).bind fun (l1421 : (List Int)) => ((inspeximusref01_Turn.f K (y1340.2) (l1421)).bind fun (r1426 : ((Vector Int 8))) => (rec ((IntKind.wrap .i64 (y1340.1 + (64 : Int))), r1426)))) else (some y1340.2))
def inspeximusref01_Sum_l1.l (K : Nat) (l999 : (List Int)) : Nat → (Int × (Vector Int 8)) → Option ((Vector Int 8))
 | 0, _ => none
 | k + 1, y => inspeximusref01_Sum_l1.b K l999 (inspeximusref01_Sum_l1.l K l999 k) y
theorem inspeximusref01_Sum_l1.some {K : Nat} (l999 : (List Int)) {k : Nat} {y : Int × (Vector Int 8)} {s : ((Vector Int 8))} (h : inspeximusref01_Sum_l1.l K l999 k y = some s) : ∃ k', k = k' + 1 ∧ inspeximusref01_Sum_l1.b K l999 (inspeximusref01_Sum_l1.l K l999 k') y = some s := by
 cases k with
 | zero => cases h
 | succ k => exact ⟨k, rfl, h⟩
def inspeximusref01_Sum_l3.b (K : Nat) (y1770 : Int × (Vector Int 32)) (rec : (Int × Int × (Vector Int 32)) → Option ((Vector Int 32))) (y1914 : Int × Int × (Vector Int 32)) : Option ((Vector Int 32)) :=
 (bif (decide ((0 : Int) ≤ y1914.2.1)) then (chk (inA 32 (IntKind.wrap .i64 ((IntKind.wrap .i64 ((4 : Int) * y1770.1)) + y1914.2.1))) ((some (vset (y1914.2.2) (Int.toNat ((IntKind.wrap .i64 ((IntKind.wrap .i64 ((4 : Int) * y1770.1)) + y1914.2.1)))) ((IntKind.wrap .u8 (Int.tmod y1914.1 256))))).bind fun (v1935 : (Vector Int 32)) => (rec ((IntKind.wrap .u32 (Int.tdiv y1914.1 256)), (IntKind.wrap .i64 (y1914.2.1 - (1 : Int))), v1935)))) else (some y1914.2.2))
def inspeximusref01_Sum_l3.l (K : Nat) (y1770 : Int × (Vector Int 32)) : Nat → (Int × Int × (Vector Int 32)) → Option ((Vector Int 32))
 | 0, _ => none
 | k + 1, y => inspeximusref01_Sum_l3.b K y1770 (inspeximusref01_Sum_l3.l K y1770 k) y
theorem inspeximusref01_Sum_l3.some {K : Nat} (y1770 : Int × (Vector Int 32)) {k : Nat} {y : Int × Int × (Vector Int 32)} {s : ((Vector Int 32))} (h : inspeximusref01_Sum_l3.l K y1770 k y = some s) : ∃ k', k = k' + 1 ∧ inspeximusref01_Sum_l3.b K y1770 (inspeximusref01_Sum_l3.l K y1770 k') y = some s := by
 cases k with
 | zero => cases h
 | succ k => exact ⟨k, rfl, h⟩
def inspeximusref01_Sum_l2.b (K : Nat) (z1386 : (Vector Int 8)) (rec : (Int × (Vector Int 32)) → Option ((Vector Int 32))) (y1770 : Int × (Vector Int 32)) : Option ((Vector Int 32)) :=
 (bif (decide (y1770.1 < (8 : Int))) then (chk (inA 8 y1770.1) ((inspeximusref01_Sum_l3.l K y1770 K ((vget (z1386) (Int.toNat (y1770.1))), (3 : Int), y1770.2)).bind fun (z1926 : (Vector Int 32)) => (rec ((IntKind.wrap .i64 (y1770.1 + (1 : Int))), z1926)))) else (some y1770.2))
def inspeximusref01_Sum_l2.l (K : Nat) (z1386 : (Vector Int 8)) : Nat → (Int × (Vector Int 32)) → Option ((Vector Int 32))
 | 0, _ => none
 | k + 1, y => inspeximusref01_Sum_l2.b K z1386 (inspeximusref01_Sum_l2.l K z1386 k) y
theorem inspeximusref01_Sum_l2.some {K : Nat} (z1386 : (Vector Int 8)) {k : Nat} {y : Int × (Vector Int 32)} {s : ((Vector Int 32))} (h : inspeximusref01_Sum_l2.l K z1386 k y = some s) : ∃ k', k = k' + 1 ∧ inspeximusref01_Sum_l2.b K z1386 (inspeximusref01_Sum_l2.l K z1386 k') y = some s := by
 cases k with
 | zero => cases h
 | succ k => exact ⟨k, rfl, h⟩
def inspeximusref01_Sum.f (K : Nat) (x1 : (List Int)) : Option ((Vector Int 32)) :=
 ((catI 1 (([] : List Int)) (x1)).bind fun (l977 : (List Int)) => ((inspeximusref01_Fill.f K (((List.length (x1) : Nat) : Int))).bind fun (r984 : ((List Int))) => ((catI 1 (l977) (r984)).bind fun (l999 : (List Int)) => ((inspeximusref01_Sum_l1.l K l999 K ((0 : Int), gl_First)).bind fun (z1386 : (Vector Int 8)) => ((inspeximusref01_Sum_l2.l K z1386 K ((0 : Int), (Vector.replicate 32 (0 : Int)))).bind fun (z1854 : (Vector Int 32)) => (some z1854))))))
def inspeximusref02_Of.f (K : Nat) (x1 : Int) (x2 : (List (List Int))) : Option ((Vector Int 32)) :=
 ((inspeximusref02_Text.f K (x1) (x2)).bind fun (r30 : ((List Int))) => ((inspeximusref01_Sum.f K (r30)).bind fun (r45 : ((Vector Int 32))) => (some r45)))
def inspeximusref09_Chain_l1.b (K : Nat) (x1 : (List (List Int))) (rec : (Int × (Vector Int 32)) → Option ((Vector Int 32))) (y1602 : Int × (Vector Int 32)) : Option ((Vector Int 32)) :=
 (bif (decide (y1602.1 < ((List.length (x1) : Nat) : Int))) then ((subI (vlist (y1602.2)) 0 ((32 : Nat) : Int)).bind fun (l1883 : List Int) => ((getI (x1) y1602.1).bind fun (x1888 : (List Int)) => ((inspeximusref02_Of.f K ((5 : Int)) (([l1883, x1888] : List (List Int)))).bind fun (r1912 : ((Vector Int 32))) => (rec ((IntKind.wrap .i64 (y1602.1 + (1 : Int))), r1912))))) else (some y1602.2))
def inspeximusref09_Chain_l1.l (K : Nat) (x1 : (List (List Int))) : Nat → (Int × (Vector Int 32)) → Option ((Vector Int 32))
 | 0, _ => none
 | k + 1, y => inspeximusref09_Chain_l1.b K x1 (inspeximusref09_Chain_l1.l K x1 k) y
theorem inspeximusref09_Chain_l1.some {K : Nat} (x1 : (List (List Int))) {k : Nat} {y : Int × (Vector Int 32)} {s : ((Vector Int 32))} (h : inspeximusref09_Chain_l1.l K x1 k y = some s) : ∃ k', k = k' + 1 ∧ inspeximusref09_Chain_l1.b K x1 (inspeximusref09_Chain_l1.l K x1 k') y = some s := by
 cases k with
 | zero => cases h
 | succ k => exact ⟨k, rfl, h⟩
def inspeximusref09_Chain.f (K : Nat) (x1 : (List (List Int))) : Option ((Vector Int 32)) :=
 ((inspeximusref09_Chain_l1.l K x1 K ((0 : Int), (Vector.replicate 32 (0 : Int)))).bind fun (z1760 : (Vector Int 32)) => (some z1760))
def inspeximusref03_Num.b (K : Nat) (self : Int → Option ((List Int))) (x1 : Int) : Option ((List Int)) :=
 (jn (fun (y90 : Bool) => (bif y90 then (some ([] : List Int)) else (bif (decide (x1 < (128 : Int))) then (some ([(IntKind.wrap .u8 x1)] : List Int)) else ((self ((IntKind.wrap .i64 (Int.tdiv x1 128)))).bind fun (r102 : ((List Int))) => ((getI (r102) (IntKind.wrap .i64 (((List.length (r102) : Nat) : Int) - (1 : Int)))).bind fun (x112 : Int) => ((getI (r102) (IntKind.wrap .i64 (((List.length (r102) : Nat) : Int) - (1 : Int)))).bind fun (x121 : Int) => ((catI 1 ((List.set (r102) (Int.toNat ((IntKind.wrap .i64 (((List.length (r102) : Nat) : Int) - (1 : Int))))) ((IntKind.wrap .u8 (x112 + (128 : Int)))))) (([(IntKind.wrap .u8 (Int.tmod x1 128))] : List Int))).bind fun (l137 : (List Int)) => (some l137)))))))) (fun j144 => (bif (decide (x1 < (0 : Int))) then (j144 true) else (j144 (decide ((2147483647 : Int) < x1))))))
def inspeximusref03_Num.r (K : Nat) : Nat → Int → Option ((List Int))
 | 0 => fun _ => none
 | k + 1 => inspeximusref03_Num.b K (inspeximusref03_Num.r K k)
def inspeximusref03_Num.f (K : Nat) (x1 : Int) : Option ((List Int)) := inspeximusref03_Num.r K K x1
def inspeximusref03_Bytes.f (K : Nat) (x1 : (List Int)) : Option ((List Int)) :=
 ((inspeximusref03_Num.f K (((List.length (x1) : Nat) : Int))).bind fun (r27 : ((List Int))) => ((catI 1 (r27) (x1)).bind fun (l37 : (List Int)) => (some l37)))
def inspeximusref09_Laid.f (K : Nat) (x1 : (List (List Int))) : Option ((List Int)) :=
 ((inspeximusref09_Chain.f K (x1)).bind fun (r97 : ((Vector Int 32))) => ((getI (x1) (IntKind.wrap .i64 (((List.length (x1) : Nat) : Int) - (1 : Int)))).bind fun (x144 : (List Int)) => ((subI (vlist (r97)) 0 (8 : Int)).bind fun (l162 : List Int) => ((inspeximusref03_Bytes.f K (x144)).bind fun (r167 : ((List Int))) => ((catI 1 (r167) (l162)).bind fun (l177 : (List Int)) => (some l177))))))
def inspeximusref01_Bytes_l1.b (K : Nat) (x1 : (List Int)) (x5 : (List Int)) (rec : Int → Option (Sum ((Bool)) (Unit))) (y1047 : Int) : Option (Sum ((Bool)) (Unit)) :=
 (bif (decide (y1047 < ((List.length (x1) : Nat) : Int))) then ((getI (x1) y1047).bind fun (x1226 : Int) => ((getI (x5) y1047).bind fun (x1238 : Int) => (bif (!decide (x1226 = x1238)) then (some (Sum.inl false)) else (rec (IntKind.wrap .i64 (y1047 + (1 : Int))))))) else (some (Sum.inr ())))
def inspeximusref01_Bytes_l1.l (K : Nat) (x1 : (List Int)) (x5 : (List Int)) : Nat → (Int) → Option (Sum ((Bool)) (Unit))
 | 0, _ => none
 | k + 1, y => inspeximusref01_Bytes_l1.b K x1 x5 (inspeximusref01_Bytes_l1.l K x1 x5 k) y
theorem inspeximusref01_Bytes_l1.some {K : Nat} (x1 : (List Int)) (x5 : (List Int)) {k : Nat} {y : Int} {s : (Sum ((Bool)) (Unit))} (h : inspeximusref01_Bytes_l1.l K x1 x5 k y = some s) : ∃ k', k = k' + 1 ∧ inspeximusref01_Bytes_l1.b K x1 x5 (inspeximusref01_Bytes_l1.l K x1 x5 k') y = some s := by
 cases k with
 | zero => cases h
 | succ k => exact ⟨k, rfl, h⟩
def inspeximusref01_Bytes.f (K : Nat) (x1 : (List Int)) (x5 : (List Int)) : Option (Bool) :=
 (bif (!decide (((List.length (x1) : Nat) : Int) = ((List.length (x5) : Nat) : Int))) then (some false) else ((inspeximusref01_Bytes_l1.l K x1 x5 K (0 : Int)).bind fun s1250 => (match s1250 with | .inl u1251 => some u1251 | .inr u1252 => (fun (z1149 : Unit) => (some true)) u1252)))
def inspeximusref08_Disk_Cut.f (K : Nat) (x3 : Int) (x4 : T_inspeximusref08_Disk) : Option (Int × T_inspeximusref08_Disk) :=
 ((inspeximusref08_Disk_Bytes.f K (x4)).bind fun (r40 : ((List Int))) => (jn (fun (y55 : Bool) => (bif y55 then (some ((1 : Int), x4)) else ((subI (r40) 0 x3).bind fun (l58 : (List Int)) => (some ((0 : Int), (T_inspeximusref08_Disk.mk (l58) (([] : List Int)) (x4.fSize))))))) (fun j66 => (bif (decide (x3 < (0 : Int))) then (j66 true) else (j66 (decide (((List.length (r40) : Nat) : Int) < x3)))))))
def inspeximusref09_Open_l1.b (K : Nat) (r1483 : ((List Int))) (rec : ((List (List Int)) × Int) → Option ((List (List Int)) × Int)) (y2566 : (List (List Int)) × Int) : Option ((List (List Int)) × Int) :=
 ((inspeximusref03_Reader_Bytes.f K ((2000 : Int)) ((T_inspeximusref03_Reader.mk (r1483) (y2566.2) ((0 : Int))))).bind fun (r2761 : ((List Int) × T_inspeximusref03_Reader)) => (jn (fun (y2779 : Bool) => (bif y2779 then (some (y2566.1, y2566.2)) else ((catI 24 (([] : List (List Int))) (y2566.1)).bind fun (l2791 : (List (List Int))) => ((catI 24 (l2791) (([r2761.1] : List (List Int)))).bind fun (l2812 : (List (List Int))) => ((inspeximusref09_Laid.f K (l2812)).bind fun (r2824 : ((List Int))) => (jn (fun (y2909 : Bool) => (bif y2909 then (some (y2566.1, y2566.2)) else (rec (l2812, (IntKind.wrap .i64 (y2566.2 + ((List.length (r2824) : Nat) : Int))))))) (fun j2912 => (bif (decide ((IntKind.wrap .i64 (((List.length (r1483) : Nat) : Int) - y2566.2)) < ((List.length (r2824) : Nat) : Int))) then (j2912 true) else ((subI (r1483) y2566.2 (IntKind.wrap .i64 (y2566.2 + ((List.length (r2824) : Nat) : Int)))).bind fun (l2914 : (List Int)) => ((inspeximusref01_Bytes.f K (l2914) (r2824)).bind fun (r2919 : (Bool)) => (j2912 (!r2919)))))))))))) (fun j2924 => (bif (!decide (r2761.2.fBad = (0 : Int))) then (j2924 true) else (j2924 (decide (((List.length (r2761.1) : Nat) : Int) = (0 : Int))))))))
def inspeximusref09_Open_l1.l (K : Nat) (r1483 : ((List Int))) : Nat → ((List (List Int)) × Int) → Option ((List (List Int)) × Int)
 | 0, _ => none
 | k + 1, y => inspeximusref09_Open_l1.b K r1483 (inspeximusref09_Open_l1.l K r1483 k) y
theorem inspeximusref09_Open_l1.some {K : Nat} (r1483 : ((List Int))) {k : Nat} {y : (List (List Int)) × Int} {s : ((List (List Int)) × Int)} (h : inspeximusref09_Open_l1.l K r1483 k y = some s) : ∃ k', k = k' + 1 ∧ inspeximusref09_Open_l1.b K r1483 (inspeximusref09_Open_l1.l K r1483 k') y = some s := by
 cases k with
 | zero => cases h
 | succ k => exact ⟨k, rfl, h⟩
def inspeximusref09_Open.f (K : Nat) (x3 : T_inspeximusref08_Disk) : Option (T_inspeximusref08_Disk × (List (List Int))) :=
 ((inspeximusref08_Disk_Bytes.f K (x3)).bind fun (r1483 : ((List Int))) => ((inspeximusref09_Open_l1.l K r1483 K (([] : List (List Int)), (0 : Int))).bind fun (z2749 : (List (List Int)) × Int) => ((inspeximusref08_Disk_Cut.f K (z2749.2) (x3)).bind fun (r2927 : (Int × T_inspeximusref08_Disk)) => (some (r2927.2, z2749.1)))))
def inspeximusref08_Disk_Write.f (K : Nat) (x3 : (List Int)) (x7 : T_inspeximusref08_Disk) : Option (Int × T_inspeximusref08_Disk) :=
 (bif (decide (x7.fSize < (IntKind.wrap .i64 ((IntKind.wrap .i64 (((List.length (x7.fDone) : Nat) : Int) + ((List.length (x7.fLate) : Nat) : Int))) + ((List.length (x3) : Nat) : Int))))) then (some ((5 : Int), x7)) else ((catI 1 (([] : List Int)) (x7.fLate)).bind fun (l42 : (List Int)) => ((catI 1 (l42) (x3)).bind fun (l49 : (List Int)) => (some ((0 : Int), { x7 with fLate := l49 })))))
def inspeximusref09_Log_Put.f (K : Nat) (x5 : (List Int)) (x9 : (List (List Int))) (x13 : T_inspeximusref08_Disk) : Option (Int × (List (List Int)) × T_inspeximusref08_Disk) :=
 (bif (decide (((List.length (x5) : Nat) : Int) = (0 : Int))) then (some ((1 : Int), x9, x13)) else (bif (decide ((2000 : Int) < ((List.length (x5) : Nat) : Int))) then (some ((4 : Int), x9, x13)) else ((catI 24 (([] : List (List Int))) (x9)).bind fun (l138 : (List (List Int))) => ((catI 1 (([] : List Int)) (x5)).bind fun (l149 : (List Int)) => ((catI 24 (l138) (([l149] : List (List Int)))).bind fun (l170 : (List (List Int))) => ((inspeximusref09_Laid.f K (l170)).bind fun (r213 : ((List Int))) => ((inspeximusref08_Disk_Write.f K (r213) (x13)).bind fun (r228 : (Int × T_inspeximusref08_Disk)) => (bif (decide (r228.1 = (0 : Int))) then (some (r228.1, l170, r228.2)) else (some (r228.1, x9, r228.2))))))))))
def inspeximusref08_Disk_Sync.f (K : Nat) (x3 : T_inspeximusref08_Disk) : Option (T_inspeximusref08_Disk) :=
 ((catI 1 (([] : List Int)) (x3.fDone)).bind fun (l74 : (List Int)) => ((catI 1 (l74) (x3.fLate)).bind fun (l81 : (List Int)) => (some (T_inspeximusref08_Disk.mk (l81) (([] : List Int)) (x3.fSize)))))
def inspeximusref08_Disk_Crash.f (K : Nat) (x3 : Int) (x4 : T_inspeximusref08_Disk) : Option (T_inspeximusref08_Disk) :=
 (jn (fun (y62 : Int) => (jn (fun (y74 : T_inspeximusref08_Disk) => ((inspeximusref08_Disk_Sync.f K (y74)).bind fun (r83 : (T_inspeximusref08_Disk)) => (some r83))) (fun j94 => (bif (decide (y62 < ((List.length (x4.fLate) : Nat) : Int))) then ((subI (x4.fLate) 0 y62).bind fun (l96 : (List Int)) => ((some { x4 with fLate := l96 }).bind fun (v101 : T_inspeximusref08_Disk) => (j94 v101))) else (j94 x4))))) (fun j105 => (bif (decide (x3 < (0 : Int))) then (j105 (0 : Int)) else (j105 x3))))
def inspeximusref09_Same_l1.b (K : Nat) (x1 : (List (List Int))) (x5 : (List (List Int))) (rec : Int → Option (Sum ((Bool)) (Unit))) (y1487 : Int) : Option (Sum ((Bool)) (Unit)) :=
 (bif (decide (y1487 < ((List.length (x1) : Nat) : Int))) then ((getI (x1) y1487).bind fun (x1743 : (List Int)) => ((getI (x5) y1487).bind fun (x1758 : (List Int)) => ((inspeximusref01_Bytes.f K (x1743) (x1758)).bind fun (r1773 : (Bool)) => (bif (!r1773) then (some (Sum.inl false)) else (rec (IntKind.wrap .i64 (y1487 + (1 : Int)))))))) else (some (Sum.inr ())))
def inspeximusref09_Same_l1.l (K : Nat) (x1 : (List (List Int))) (x5 : (List (List Int))) : Nat → (Int) → Option (Sum ((Bool)) (Unit))
 | 0, _ => none
 | k + 1, y => inspeximusref09_Same_l1.b K x1 x5 (inspeximusref09_Same_l1.l K x1 x5 k) y
theorem inspeximusref09_Same_l1.some {K : Nat} (x1 : (List (List Int))) (x5 : (List (List Int))) {k : Nat} {y : Int} {s : (Sum ((Bool)) (Unit))} (h : inspeximusref09_Same_l1.l K x1 x5 k y = some s) : ∃ k', k = k' + 1 ∧ inspeximusref09_Same_l1.b K x1 x5 (inspeximusref09_Same_l1.l K x1 x5 k') y = some s := by
 cases k with
 | zero => cases h
 | succ k => exact ⟨k, rfl, h⟩
def inspeximusref09_Same.f (K : Nat) (x1 : (List (List Int))) (x5 : (List (List Int))) : Option (Bool) :=
 (bif (!decide (((List.length (x1) : Nat) : Int) = ((List.length (x5) : Nat) : Int))) then (some false) else ((inspeximusref09_Same_l1.l K x1 x5 K (0 : Int)).bind fun s1778 => (match s1778 with | .inl u1779 => some u1779 | .inr u1780 => (fun (z1633 : Unit) => (some true)) u1780)))
def inspeximuslaw09_LogActs_l1.b (K : Nat) (x2 : (List T_inspeximusref08_Act)) (r7836 : ((List Int) × Int × Int)) (rec : (Int × T_log_at × (List (List Int)) × (List Int) × Int × T_inspeximusref08_Disk) → Option (Sum ((Bool)) (Unit))) (y13015 : Int × T_log_at × (List (List Int)) × (List Int) × Int × T_inspeximusref08_Disk) : Option (Sum ((Bool)) (Unit)) :=
 (bif (decide (y13015.1 < ((List.length (x2) : Nat) : Int))) then ((getI (x2) y13015.1).bind fun (x14934 : T_inspeximusref08_Act) => (jn (fun (y15120 : Bool × T_log_at × (List (List Int)) × (List Int) × Int × T_inspeximusref08_Disk) => (jn (fun (y15259 : Bool × (List Int)) => (bif y15259.1 then (some (Sum.inl false)) else (rec ((IntKind.wrap .i64 (y13015.1 + (1 : Int))), y15120.2.1, y15120.2.2.1, y15259.2, y15120.2.2.2.2.1, y15120.2.2.2.2.2)))) (fun j15267 => (bif (!y15120.1) then (j15267 (true, y15120.2.2.2.1)) else ((log_Log_Count.f K (y15120.2.1) (y15120.2.2.2.1) (y15120.2.2.2.2.1) (r7836.2.2)).bind fun (r15328 : (Int)) => (bif (!decide (r15328 = ((List.length (y15120.2.2.1) : Nat) : Int))) then (j15267 (true, y15120.2.2.2.1)) else ((log_Log_Chain.f K (y15120.2.1) (y15120.2.2.2.1) (y15120.2.2.2.2.1) (r7836.2.2)).bind fun (r15336 : ((Vector Int 32))) => ((inspeximusref09_Chain.f K (y15120.2.2.1)).bind fun (r15344 : ((Vector Int 32))) => (bif (!(decide (r15336 = r15344))) then (j15267 (true, y15120.2.2.2.1)) else ((disk_Disk_Bytes.f K (y15120.2.2.2.1) (y15120.2.2.2.2.1) (r7836.2.2)).bind fun (r15349 : ((List Int))) => ((inspeximusref08_Disk_Bytes.f K (y15120.2.2.2.2.2)).bind fun (r15362 : ((List Int))) => ((inspeximusref01_Bytes.f K (r15349) (r15362)).bind fun (r15382 : (Bool)) => (j15267 ((!r15382), y15120.2.2.2.1)))))))))))))) (fun j15387 => (bif (decide (x14934.fKind = (0 : Int))) then ((log_Log_Put.f K (x14934.fB) (y13015.2.1) (y13015.2.2.2.1) (y13015.2.2.2.2.1) (r7836.2.2)).bind fun (r15413 : (Int × T_log_at × (List Int))) => ((inspeximusref09_Log_Put.f K (x14934.fB) (y13015.2.2.1) (y13015.2.2.2.2.2)).bind fun (r15423 : (Int × (List (List Int)) × T_inspeximusref08_Disk)) => (j15387 ((decide (r15413.1 = r15423.1)), r15413.2.1, r15423.2.1, r15413.2.2, y13015.2.2.2.2.1, r15423.2.2)))) else (bif (decide (x14934.fKind = (1 : Int))) then ((inspeximusref09_Log_Put.f K (x14934.fB) (y13015.2.2.1) (y13015.2.2.2.2.2)).bind fun (r15437 : (Int × (List (List Int)) × T_inspeximusref08_Disk)) => (jn (fun (y15462 : T_inspeximusref08_Disk) => ((log_Log_Append.f K (x14934.fB) (y13015.2.1) (y13015.2.2.2.1) (y13015.2.2.2.2.1) (r7836.2.2)).bind fun (r15471 : (Int × T_log_at × (List Int) × Int)) => (j15387 ((decide (r15471.1 = r15437.1)), r15471.2.1, r15437.2.1, r15471.2.2.1, r15471.2.2.2, y15462)))) (fun j15481 => (bif (decide (r15437.1 = (0 : Int))) then ((inspeximusref08_Disk_Sync.f K (r15437.2.2)).bind fun (r15483 : (T_inspeximusref08_Disk)) => (j15481 r15483)) else (j15481 r15437.2.2))))) else (bif (decide (x14934.fKind = (2 : Int))) then ((disk_Disk_Crash.f K (x14934.fN) (y13015.2.2.2.1) (y13015.2.2.2.2.1) (r7836.2.2)).bind fun (r15494 : ((List Int) × Int)) => ((inspeximusref08_Disk_Crash.f K (x14934.fN) (y13015.2.2.2.2.2)).bind fun (r15504 : (T_inspeximusref08_Disk)) => ((log_Open.f K (r15494.1) (r15494.2) (r7836.2.2)).bind fun (r15515 : ((List (List Int)) × Int × (List Int) × Int × T_log_at)) => ((inspeximusref09_Open.f K (r15504)).bind fun (r15532 : (T_inspeximusref08_Disk × (List (List Int)))) => ((inspeximusref09_Same.f K (r15515.1) (r15532.2)).bind fun (r15553 : (Bool)) => (j15387 (r15553, r15515.2.2.2.2, r15532.2, r15515.2.2.1, r15515.2.2.2.1, r15532.1))))))) else (j15387 (true, y13015.2.1, y13015.2.2.1, y13015.2.2.2.1, y13015.2.2.2.2.1, y13015.2.2.2.2.2)))))))) else (some (Sum.inr ())))
def inspeximuslaw09_LogActs_l1.l (K : Nat) (x2 : (List T_inspeximusref08_Act)) (r7836 : ((List Int) × Int × Int)) : Nat → (Int × T_log_at × (List (List Int)) × (List Int) × Int × T_inspeximusref08_Disk) → Option (Sum ((Bool)) (Unit))
 | 0, _ => none
 | k + 1, y => inspeximuslaw09_LogActs_l1.b K x2 r7836 (inspeximuslaw09_LogActs_l1.l K x2 r7836 k) y
theorem inspeximuslaw09_LogActs_l1.some {K : Nat} (x2 : (List T_inspeximusref08_Act)) (r7836 : ((List Int) × Int × Int)) {k : Nat} {y : Int × T_log_at × (List (List Int)) × (List Int) × Int × T_inspeximusref08_Disk} {s : (Sum ((Bool)) (Unit))} (h : inspeximuslaw09_LogActs_l1.l K x2 r7836 k y = some s) : ∃ k', k = k' + 1 ∧ inspeximuslaw09_LogActs_l1.b K x2 r7836 (inspeximuslaw09_LogActs_l1.l K x2 r7836 k') y = some s := by
 cases k with
 | zero => cases h
 | succ k => exact ⟨k, rfl, h⟩
def inspeximuslaw09_LogActs.f (K : Nat) (x1 : Int) (x2 : (List T_inspeximusref08_Act)) : Option (Bool) :=
 ((inspeximuslaw09_alive.f K).bind fun (r7792 : (Bool)) => (bif (!r7792) then (some false) else (jn (fun (y7825 : Bool) => (bif y7825 then ((log_Open_v2.f K).bind fun (r7828 : ((List (List Int)) × Int)) => (bif (decide (r7828.2 = (1 : Int))) then (some (decide (((List.length (r7828.1) : Nat) : Int) = (0 : Int)))) else (some false))) else ((disk_New.f K (x1)).bind fun (r7836 : ((List Int) × Int × Int)) => ((log_Open.f K (r7836.1) (r7836.2.1) (r7836.2.2)).bind fun (r7850 : ((List (List Int)) × Int × (List Int) × Int × T_log_at)) => ((inspeximusref09_Open.f K ({ z_T_inspeximusref08_Disk with fSize := x1 })).bind fun (r7867 : (T_inspeximusref08_Disk × (List (List Int)))) => ((inspeximuslaw09_LogActs_l1.l K x2 r7836 K ((0 : Int), r7850.2.2.2.2, r7867.2, r7850.2.2.1, r7850.2.2.2.1, r7867.1)).bind fun s15558 => (match s15558 with | .inl u15559 => some u15559 | .inr u15560 => (fun (z14305 : Unit) => (some true)) u15560))))))) (fun j15561 => ((inspeximuslaw09_few.f K (x2)).bind fun (r15563 : (Bool)) => (bif (!r15563) then (j15561 true) else (bif (decide (x1 < (1 : Int))) then (j15561 true) else (j15561 (decide ((3000 : Int) < x1))))))))))
end Go.Proofs.YthnfokfankaenaaDoor
