/-
  Data and plain functions, printed by a program: what the functions of the cut compute (fuel K; none: a panic, or the fuel is spent).
  Conditions: none; nothing is claimed here.
-/
import Derived.Test.YtmjkjgidcmalhaaSepJ
set_option linter.unusedVariables false
namespace Go.Proofs.Ytmjkjgidcmalhaa
open Go Go.Sep

structure T_inspeximus_wire_Reader where
  fB : (List Int)
  fBad : Int
  deriving DecidableEq

@[reducible] def kd_T_inspeximus_wire_Reader : Kd T_inspeximus_wire_Reader := kdMap (fun x => (x.fB, x.fBad)) (kdPair (kdSlice (kdInt .u8)) (kdInt .i64))

theorem kd_T_inspeximus_wire_Reader_mk {D : Snap} {x : T_inspeximus_wire_Reader} {c0 c1 : List Value} (h0 : (kdSlice (kdInt .u8)).r D x.fB c0) (h1 : (kdInt .i64).r D x.fBad c1) : kd_T_inspeximus_wire_Reader.r D x (c0 ++ (c1)) := ⟨_, _, rfl, h0, h1⟩

theorem kd_T_inspeximus_wire_Reader_el {D : Snap} {x : T_inspeximus_wire_Reader} {cs : List Value} (h : kd_T_inspeximus_wire_Reader.r D x cs) : ∃ (A1 : Option Addr), ∃ (c2 : Nat), cs = [.slice A1 (List.length (x.fB)) c2] ++ ([.int .i64 (x.fBad)]) ∧ Sl (kdInt .u8) D A1 c2 (x.fB) := by
  obtain ⟨c0, d0, rfl, h0, h1⟩ := h
  obtain ⟨A1, c2, rfl, h3⟩ := h0
  obtain rfl := h1
  exact ⟨A1, c2, rfl, h3⟩

def slices_Reverse_byte_byte_l1.b (K : Nat) (rec : ((List Int) × Int × Int) → Option ((List Int))) (y586 : (List Int) × Int × Int) : Option ((List Int)) :=
  (bif (decide (y586.2.1 < y586.2.2)) then ((getI (y586.1) y586.2.2).bind fun (x836 : Int) => ((getI (y586.1) y586.2.1).bind fun (x845 : Int) => ((getI (y586.1) y586.2.1).bind fun (x854 : Int) => ((getI ((List.set (y586.1) (Int.toNat (y586.2.1)) (x836))) y586.2.2).bind fun (x861 : Int) => (rec ((List.set ((List.set (y586.1) (Int.toNat (y586.2.1)) (x836))) (Int.toNat (y586.2.2)) (x845)), (IntKind.wrap .i64 (y586.2.1 + (1 : Int))), (IntKind.wrap .i64 (y586.2.2 - (1 : Int))))))))) else (some y586.1))

def slices_Reverse_byte_byte_l1.l (K : Nat) : Nat → ((List Int) × Int × Int) → Option ((List Int))
  | 0, _ => none
  | k + 1, y => slices_Reverse_byte_byte_l1.b K (slices_Reverse_byte_byte_l1.l K k) y

theorem slices_Reverse_byte_byte_l1.some {K : Nat} {k : Nat} {y : (List Int) × Int × Int} {s : ((List Int))} (h : slices_Reverse_byte_byte_l1.l K k y = some s) : ∃ k', k = k' + 1 ∧ slices_Reverse_byte_byte_l1.b K (slices_Reverse_byte_byte_l1.l K k') y = some s := by
  cases k with
  | zero => cases h
  | succ k => exact ⟨k, rfl, h⟩

def slices_Reverse_byte_byte.f (K : Nat) (x1 : (List Int)) : Option ((List Int)) :=
  ((slices_Reverse_byte_byte_l1.l K K (x1, (0 : Int), (IntKind.wrap .i64 (((List.length (x1) : Nat) : Int) - (1 : Int))))).bind fun (z730 : (List Int)) => (some z730))

theorem slices_Reverse_byte_byte.len {K : Nat} {x r : List Int} (h : slices_Reverse_byte_byte.f K x = some r) : r.length = x.length := by
  have key : ∀ k y z, slices_Reverse_byte_byte_l1.l K k y = some z → z.length = y.1.length := by
    intro k
    induction k with
    | zero => intro y z h; cases h
    | succ k ih =>
      intro y z h
      have h : slices_Reverse_byte_byte_l1.b K (slices_Reverse_byte_byte_l1.l K k) y = some z := h
      unfold slices_Reverse_byte_byte_l1.b at h
      cases hc : decide (y.2.1 < y.2.2) with
      | false => rw [hc] at h; cases h; rfl
      | true =>
        rw [hc] at h
        replace h := cond_t rfl h
        obtain ⟨_, _, h⟩ := bind_some h
        obtain ⟨_, _, h⟩ := bind_some h
        obtain ⟨_, _, h⟩ := bind_some h
        obtain ⟨_, _, h⟩ := bind_some h
        have := ih _ _ h
        simpa using this
  unfold slices_Reverse_byte_byte.f at h
  obtain ⟨z, hz, h⟩ := bind_some h
  cases h
  exact key _ _ _ hz

def wire_Num_l1.b (K : Nat) (rec : (Int × (List Int)) → Option ((List Int))) (y476 : Int × (List Int)) : Option ((List Int)) :=
  (bif (decide ((0 : Int) < y476.1)) then ((catI 1 (y476.2) (([(bor .u8 (IntKind.wrap .u8 (Int.tmod y476.1 128)) (128 : Int))] : List Int))).bind fun (l551 : (List Int)) => (rec ((Int.fdiv y476.1 (2 ^ 7)), l551))) else (some y476.2))

def wire_Num_l1.l (K : Nat) : Nat → (Int × (List Int)) → Option ((List Int))
  | 0, _ => none
  | k + 1, y => wire_Num_l1.b K (wire_Num_l1.l K k) y

theorem wire_Num_l1.some {K : Nat} {k : Nat} {y : Int × (List Int)} {s : ((List Int))} (h : wire_Num_l1.l K k y = some s) : ∃ k', k = k' + 1 ∧ wire_Num_l1.b K (wire_Num_l1.l K k') y = some s := by
  cases k with
  | zero => cases h
  | succ k => exact ⟨k, rfl, h⟩

def wire_Num.f (K : Nat) (x1 : Int) : Option ((List Int)) :=
  (jn (fun (y292 : Bool) => (bif y292 then (some ([] : List Int)) else ((wire_Num_l1.l K K ((Int.fdiv x1 (2 ^ 7)), ([(IntKind.wrap .u8 (Int.tmod x1 128))] : List Int))).bind fun (z520 : (List Int)) => ((slices_Reverse_byte_byte.f K (z520)).bind fun (r558 : ((List Int))) => (some r558))))) (fun j566 => (bif (decide (x1 < (0 : Int))) then (j566 true) else (j566 (decide ((2147483647 : Int) < x1))))))

def wire_Flag.f (K : Nat) (x1 : Bool) : Option ((List Int)) :=
  (bif x1 then (some ([(1 : Int)] : List Int)) else (some ([(0 : Int)] : List Int)))

def wire_Bytes.f (K : Nat) (x1 : (List Int)) : Option ((List Int)) :=
  ((wire_Num.f K (((List.length (x1) : Nat) : Int))).bind fun (r27 : ((List Int))) => ((catI 1 (r27) (x1)).bind fun (l37 : (List Int)) => (some l37)))

def slices_Clone_byte_byte.f (K : Nat) (x1 : (List Int)) : Option ((List Int)) :=
  ((catI 1 (([] : List Int)) (x1)).bind fun (l26 : (List Int)) => (some l26))

def wire_Hash.f (K : Nat) (x1 : (Vector Int 32)) : Option ((List Int)) :=
  ((subI (vlist (x1)) 0 ((32 : Nat) : Int)).bind fun (l32 : List Int) => ((slices_Clone_byte_byte.f K (l32)).bind fun (r37 : ((List Int))) => (some r37)))

def slices_Grow_byte_byte.f (K : Nat) (x1 : Int) : Option ((List Int)) :=
  (bif (decide (x1 < (0 : Int))) then none else (bif (decide ((0 : Int) < (IntKind.wrap .i64 (x1 - (IntKind.wrap .i64 (((0 : Nat) : Int) - ((0 : Nat) : Int))))))) then ((zerosI 1 ((0 : Int)) (IntKind.wrap .i64 (x1 - (IntKind.wrap .i64 (((0 : Nat) : Int) - ((0 : Nat) : Int)))))).bind fun (l37 : (List Int)) => ((subI (l37) 0 ((0 : Nat) : Int)).bind fun (l44 : (List Int)) => (some l44))) else (some ([] : List Int))))

def slices_Concat_byte_byte_l1.b (K : Nat) (x1 : (List (List Int))) (rec : (Int × Int) → Option (Int)) (y743 : Int × Int) : Option (Int) :=
  (bif (decide (y743.2 < ((List.length (x1) : Nat) : Int))) then ((getI (x1) y743.2).bind fun (x799 : (List Int)) => (bif (decide ((IntKind.wrap .i64 (y743.1 + ((List.length (x799) : Nat) : Int))) < (0 : Int))) then none else (rec ((IntKind.wrap .i64 (y743.1 + ((List.length (x799) : Nat) : Int))), (IntKind.wrap .i64 (y743.2 + (1 : Int))))))) else (some y743.1))

def slices_Concat_byte_byte_l1.l (K : Nat) (x1 : (List (List Int))) : Nat → (Int × Int) → Option (Int)
  | 0, _ => none
  | k + 1, y => slices_Concat_byte_byte_l1.b K x1 (slices_Concat_byte_byte_l1.l K x1 k) y

theorem slices_Concat_byte_byte_l1.some {K : Nat} (x1 : (List (List Int))) {k : Nat} {y : Int × Int} {s : (Int)} (h : slices_Concat_byte_byte_l1.l K x1 k y = some s) : ∃ k', k = k' + 1 ∧ slices_Concat_byte_byte_l1.b K x1 (slices_Concat_byte_byte_l1.l K x1 k') y = some s := by
  cases k with
  | zero => cases h
  | succ k => exact ⟨k, rfl, h⟩

def slices_Concat_byte_byte_l2.b (K : Nat) (x1 : (List (List Int))) (rec : ((List Int) × Int) → Option ((List Int))) (y1064 : (List Int) × Int) : Option ((List Int)) :=
  (bif (decide (y1064.2 < ((List.length (x1) : Nat) : Int))) then ((getI (x1) y1064.2).bind fun (x1156 : (List Int)) => ((catI 1 (y1064.1) (x1156)).bind fun (l1171 : (List Int)) => (rec (l1171, (IntKind.wrap .i64 (y1064.2 + (1 : Int))))))) else (some y1064.1))

def slices_Concat_byte_byte_l2.l (K : Nat) (x1 : (List (List Int))) : Nat → ((List Int) × Int) → Option ((List Int))
  | 0, _ => none
  | k + 1, y => slices_Concat_byte_byte_l2.b K x1 (slices_Concat_byte_byte_l2.l K x1 k) y

theorem slices_Concat_byte_byte_l2.some {K : Nat} (x1 : (List (List Int))) {k : Nat} {y : (List Int) × Int} {s : ((List Int))} (h : slices_Concat_byte_byte_l2.l K x1 k y = some s) : ∃ k', k = k' + 1 ∧ slices_Concat_byte_byte_l2.b K x1 (slices_Concat_byte_byte_l2.l K x1 k') y = some s := by
  cases k with
  | zero => cases h
  | succ k => exact ⟨k, rfl, h⟩

def slices_Concat_byte_byte.f (K : Nat) (x1 : (List (List Int))) : Option ((List Int)) :=
  ((slices_Concat_byte_byte_l1.l K x1 K ((0 : Int), (0 : Int))).bind fun (z779 : Int) => ((slices_Grow_byte_byte.f K (z779)).bind fun (r814 : ((List Int))) => ((slices_Concat_byte_byte_l2.l K x1 K (r814, (0 : Int))).bind fun (z1124 : (List Int)) => (some z1124))))

def wire_All.f (K : Nat) (x1 : (List (List Int))) : Option ((List Int)) :=
  ((slices_Concat_byte_byte.f K (x1)).bind fun (r20 : ((List Int))) => (some r20))

def wire_Read.f (K : Nat) (x1 : (List Int)) : Option (T_inspeximus_wire_Reader) :=
  ((slices_Clone_byte_byte.f K (x1)).bind fun (r25 : ((List Int))) => (some (T_inspeximus_wire_Reader.mk (r25) ((0 : Int)))))

def wire_Reader_Bad.f (K : Nat) (x3 : T_inspeximus_wire_Reader) : Option (Int) :=
  (some x3.fBad)

def wire_number_l1.b (K : Nat) (x1 : (List Int)) (rec : (Int × Int) → Option (Sum ((Int × Int × Int)) (Unit))) (y523 : Int × Int) : Option (Sum ((Int × Int × Int)) (Unit)) :=
  (bif (decide (y523.2 < ((List.length (x1) : Nat) : Int))) then ((getI (x1) y523.2).bind fun (x600 : Int) => (jn (fun (y617 : Bool) => (bif y617 then (some (Sum.inl ((0 : Int), (0 : Int), (2 : Int)))) else (bif (decide (x600 < (128 : Int))) then (bif (decide ((2147483647 : Int) < (bor .i64 (IntKind.wrap .i64 (y523.1 * 2 ^ 7)) (IntKind.wrap .i64 (Int.tmod x600 128))))) then (some (Sum.inl ((0 : Int), (0 : Int), (2 : Int)))) else (some (Sum.inl ((bor .i64 (IntKind.wrap .i64 (y523.1 * 2 ^ 7)) (IntKind.wrap .i64 (Int.tmod x600 128))), (IntKind.wrap .i64 (y523.2 + (1 : Int))), (0 : Int))))) else (rec ((bor .i64 (IntKind.wrap .i64 (y523.1 * 2 ^ 7)) (IntKind.wrap .i64 (Int.tmod x600 128))), (IntKind.wrap .i64 (y523.2 + (1 : Int)))))))) (fun j620 => (bif (decide (y523.2 = (0 : Int))) then (bif (decide (x600 = (128 : Int))) then (j620 true) else (j620 (decide (y523.2 = (5 : Int))))) else (j620 (decide (y523.2 = (5 : Int)))))))) else (some (Sum.inr ())))

def wire_number_l1.l (K : Nat) (x1 : (List Int)) : Nat → (Int × Int) → Option (Sum ((Int × Int × Int)) (Unit))
  | 0, _ => none
  | k + 1, y => wire_number_l1.b K x1 (wire_number_l1.l K x1 k) y

theorem wire_number_l1.some {K : Nat} (x1 : (List Int)) {k : Nat} {y : Int × Int} {s : (Sum ((Int × Int × Int)) (Unit))} (h : wire_number_l1.l K x1 k y = some s) : ∃ k', k = k' + 1 ∧ wire_number_l1.b K x1 (wire_number_l1.l K x1 k') y = some s := by
  cases k with
  | zero => cases h
  | succ k => exact ⟨k, rfl, h⟩

def wire_number.f (K : Nat) (x1 : (List Int)) : Option (Int × Int × Int) :=
  ((wire_number_l1.l K x1 K ((0 : Int), (0 : Int))).bind fun s622 => (match s622 with | .inl u623 => some u623 | .inr u624 => (fun (z573 : Unit) => (some ((0 : Int), (0 : Int), (3 : Int)))) u624))

def wire_Reader_Fail.f (K : Nat) (x3 : Int) (x4 : T_inspeximus_wire_Reader) : Option (T_inspeximus_wire_Reader) :=
  (jn (fun (y16 : Bool) => (bif y16 then (some (T_inspeximus_wire_Reader.mk (([] : List Int)) (x3))) else (some x4))) (fun j19 => (bif (decide (x4.fBad = (0 : Int))) then (j19 (!decide (x3 = (0 : Int)))) else (j19 false))))

def wire_take_int.f (K : Nat) (x3 : T_inspeximus_wire_Reader) : Option (Int × T_inspeximus_wire_Reader) :=
  ((wire_Reader_Bad.f K (x3)).bind fun (r51 : (Int)) => (bif (!decide (r51 = (0 : Int))) then (some ((0 : Int), x3)) else ((wire_number.f K (x3.fB)).bind fun (r56 : (Int × Int × Int)) => (bif (!decide (r56.2.2 = (0 : Int))) then ((wire_Reader_Fail.f K (r56.2.2) (x3)).bind fun (r69 : (T_inspeximus_wire_Reader)) => (some ((0 : Int), r69))) else ((subI (x3.fB) r56.2.1 ((List.length (x3.fB) : Nat) : Int)).bind fun (l77 : (List Int)) => (some (r56.1, (T_inspeximus_wire_Reader.mk (l77) (x3.fBad)))))))))

def wire_Reader_Num.f (K : Nat) (x3 : T_inspeximus_wire_Reader) : Option (Int × T_inspeximus_wire_Reader) :=
  ((wire_take_int.f K (x3)).bind fun (r18 : (Int × T_inspeximus_wire_Reader)) => (some (r18.1, r18.2)))

def wire_Reader_Flag_1.f (K : Nat) (x1 : (List Int)) : Option (Bool × Int × Int) :=
  (bif (decide (((List.length (x1) : Nat) : Int) = (0 : Int))) then (some (false, (0 : Int), (3 : Int))) else ((getI (x1) (0 : Int)).bind fun (x53 : Int) => (bif (decide ((1 : Int) < x53)) then (some (false, (0 : Int), (2 : Int))) else ((getI (x1) (0 : Int)).bind fun (x65 : Int) => (some ((decide (x65 = (1 : Int))), (1 : Int), (0 : Int)))))))

def wire_take_bool.f (K : Nat) (x3 : T_inspeximus_wire_Reader) : Option (Bool × T_inspeximus_wire_Reader) :=
  ((wire_Reader_Bad.f K (x3)).bind fun (r51 : (Int)) => (bif (!decide (r51 = (0 : Int))) then (some (false, x3)) else ((wire_Reader_Flag_1.f K (x3.fB)).bind fun (r56 : (Bool × Int × Int)) => (bif (!decide (r56.2.2 = (0 : Int))) then ((wire_Reader_Fail.f K (r56.2.2) (x3)).bind fun (r69 : (T_inspeximus_wire_Reader)) => (some (false, r69))) else ((subI (x3.fB) r56.2.1 ((List.length (x3.fB) : Nat) : Int)).bind fun (l77 : (List Int)) => (some (r56.1, (T_inspeximus_wire_Reader.mk (l77) (x3.fBad)))))))))

def wire_Reader_Flag.f (K : Nat) (x3 : T_inspeximus_wire_Reader) : Option (Bool × T_inspeximus_wire_Reader) :=
  ((wire_take_bool.f K (x3)).bind fun (r18 : (Bool × T_inspeximus_wire_Reader)) => (some (r18.1, r18.2)))

def wire_Reader_Bytes_1.f (K : Nat) (x3 : (List Int)) (x7 : Int) : Option ((List Int) × Int × Int) :=
  ((wire_number.f K (x3)).bind fun (r33 : (Int × Int × Int)) => (bif (!decide (r33.2.2 = (0 : Int))) then (some (([] : List Int), (0 : Int), r33.2.2)) else (bif (decide (x7 < r33.1)) then (some (([] : List Int), (0 : Int), (4 : Int))) else (bif (decide ((IntKind.wrap .i64 (((List.length (x3) : Nat) : Int) - r33.2.1)) < r33.1)) then (some (([] : List Int), (0 : Int), (3 : Int))) else ((subI (x3) r33.2.1 (IntKind.wrap .i64 (r33.2.1 + r33.1))).bind fun (l41 : (List Int)) => ((slices_Clone_byte_byte.f K (l41)).bind fun (r46 : ((List Int))) => (some (r46, (IntKind.wrap .i64 (r33.2.1 + r33.1)), (0 : Int)))))))))

def wire_take_byte.f (K : Nat) (x5 : T_inspeximus_wire_Reader) (x9 : Int) : Option ((List Int) × T_inspeximus_wire_Reader) :=
  ((wire_Reader_Bad.f K (x5)).bind fun (r64 : (Int)) => (bif (!decide (r64 = (0 : Int))) then (some (([] : List Int), x5)) else ((wire_Reader_Bytes_1.f K (x5.fB) (x9)).bind fun (r70 : ((List Int) × Int × Int)) => (bif (!decide (r70.2.2 = (0 : Int))) then ((wire_Reader_Fail.f K (r70.2.2) (x5)).bind fun (r88 : (T_inspeximus_wire_Reader)) => (some (([] : List Int), r88))) else ((subI (x5.fB) r70.2.1 ((List.length (x5.fB) : Nat) : Int)).bind fun (l97 : (List Int)) => (some (r70.1, (T_inspeximus_wire_Reader.mk (l97) (x5.fBad)))))))))

def wire_Reader_Bytes.f (K : Nat) (x3 : Int) (x4 : T_inspeximus_wire_Reader) : Option ((List Int) × T_inspeximus_wire_Reader) :=
  ((wire_take_byte.f K (x4) (x3)).bind fun (r33 : ((List Int) × T_inspeximus_wire_Reader)) => (some (r33.1, r33.2)))

def wire_Reader_Left.f (K : Nat) (x3 : T_inspeximus_wire_Reader) : Option (Int) :=
  (some ((List.length (x3.fB) : Nat) : Int))

def wire_Reader_Hash_1.f (K : Nat) (x1 : (List Int)) : Option ((Vector Int 32) × Int × Int) :=
  (bif (decide (((List.length (x1) : Nat) : Int) < (32 : Int))) then (some ((Vector.replicate 32 (0 : Int)), (0 : Int), (3 : Int))) else ((subI (x1) 0 (32 : Int)).bind fun (l29 : (List Int)) => (chk (decide (32 ≤ List.length (l29))) (some ((vofL 32 (l29)), (32 : Int), (0 : Int))))))

def wire_take_api_Hash.f (K : Nat) (x3 : T_inspeximus_wire_Reader) : Option ((Vector Int 32) × T_inspeximus_wire_Reader) :=
  ((wire_Reader_Bad.f K (x3)).bind fun (r61 : (Int)) => (bif (!decide (r61 = (0 : Int))) then (some ((Vector.replicate 32 (0 : Int)), x3)) else ((wire_Reader_Hash_1.f K (x3.fB)).bind fun (r66 : ((Vector Int 32) × Int × Int)) => (bif (!decide (r66.2.2 = (0 : Int))) then ((wire_Reader_Fail.f K (r66.2.2) (x3)).bind fun (r81 : (T_inspeximus_wire_Reader)) => (some ((Vector.replicate 32 (0 : Int)), r81))) else ((subI (x3.fB) r66.2.1 ((List.length (x3.fB) : Nat) : Int)).bind fun (l89 : (List Int)) => (some (r66.1, (T_inspeximus_wire_Reader.mk (l89) (x3.fBad)))))))))

def wire_Reader_Hash.f (K : Nat) (x3 : T_inspeximus_wire_Reader) : Option ((Vector Int 32) × T_inspeximus_wire_Reader) :=
  ((wire_take_api_Hash.f K (x3)).bind fun (r22 : ((Vector Int 32) × T_inspeximus_wire_Reader)) => (some (r22.1, r22.2)))

def wire_Reader_Done.f (K : Nat) (x3 : T_inspeximus_wire_Reader) : Option (Int) :=
  ((wire_Reader_Bad.f K (x3)).bind fun (r22 : (Int)) => (bif (!decide (r22 = (0 : Int))) then (some r22) else (bif (decide ((0 : Int) < ((List.length (x3.fB) : Nat) : Int))) then (some (2 : Int)) else (some (0 : Int)))))

def inspeximuslaw03_alive.f (K : Nat) : Option (Bool) :=
  ((wire_Num.f K ((300 : Int))).bind fun (r273 : ((List Int))) => ((wire_Flag.f K (true)).bind fun (r283 : ((List Int))) => ((wire_Bytes.f K (([(97 : Int), (98 : Int)] : List Int))).bind fun (r300 : ((List Int))) => ((wire_Hash.f K ((vofL 32 [(7 : Int), (0 : Int), (0 : Int), (0 : Int), (0 : Int), (0 : Int), (0 : Int), (0 : Int), (0 : Int), (0 : Int), (0 : Int), (0 : Int), (0 : Int), (0 : Int), (0 : Int), (0 : Int), (0 : Int), (0 : Int), (0 : Int), (0 : Int), (0 : Int), (0 : Int), (0 : Int), (0 : Int), (0 : Int), (0 : Int), (0 : Int), (0 : Int), (0 : Int), (0 : Int), (0 : Int), (0 : Int)]))).bind fun (r310 : ((List Int))) => ((wire_All.f K (([r273, r283, r300, r310] : List (List Int)))).bind fun (r339 : ((List Int))) => ((wire_Read.f K (r339)).bind fun (r352 : (T_inspeximus_wire_Reader)) => (jn (fun (y451 : Bool) => (some y451)) (fun j454 => (bif (decide (((List.length (r339) : Nat) : Int) = (38 : Int))) then ((getI (r339) (0 : Int)).bind fun (x456 : Int) => (bif (decide (x456 = (130 : Int))) then ((getI (r339) (1 : Int)).bind fun (x468 : Int) => (bif (decide (x468 = (44 : Int))) then ((wire_Reader_Num.f K (r352)).bind fun (r480 : (Int × T_inspeximus_wire_Reader)) => (bif (decide (r480.1 = (300 : Int))) then ((wire_Reader_Flag.f K (r480.2)).bind fun (r488 : (Bool × T_inspeximus_wire_Reader)) => (bif r488.1 then ((wire_Reader_Bytes.f K ((9 : Int)) (r488.2)).bind fun (r496 : ((List Int) × T_inspeximus_wire_Reader)) => (bif (ByteArray.toList (bofL (r496.1)) == ByteArray.toList (⟨#[97, 98]⟩)) then ((wire_Reader_Left.f K (r496.2)).bind fun (r512 : (Int)) => (bif (decide (r512 = (32 : Int))) then ((wire_Reader_Hash.f K (r496.2)).bind fun (r517 : ((Vector Int 32) × T_inspeximus_wire_Reader)) => ((getI (vlist (r517.1)) (0 : Int)).bind fun (x525 : Int) => (bif (decide (x525 = (7 : Int))) then ((wire_Reader_Done.f K (r517.2)).bind fun (r527 : (Int)) => (bif (decide (r527 = (0 : Int))) then ((wire_Reader_Num.f K (r517.2)).bind fun (r532 : (Int × T_inspeximus_wire_Reader)) => (bif (decide (r532.1 = (0 : Int))) then ((wire_Reader_Bad.f K (r532.2)).bind fun (r540 : (Int)) => (j454 (decide (r540 = (3 : Int))))) else (j454 false))) else (j454 false))) else (j454 false)))) else (j454 false))) else (j454 false))) else (j454 false))) else (j454 false))) else (j454 false))) else (j454 false))) else (j454 false))))))))))

def inspeximusref03_Num.b (K : Nat) (self : Int → Option ((List Int))) (x1 : Int) : Option ((List Int)) :=
  (jn (fun (y88 : Bool) => (bif y88 then (some ([] : List Int)) else (bif (decide (x1 < (128 : Int))) then (some ([(IntKind.wrap .u8 x1)] : List Int)) else ((self ((IntKind.wrap .i64 (Int.tdiv x1 128)))).bind fun (r100 : ((List Int))) => ((getI (r100) (IntKind.wrap .i64 (((List.length (r100) : Nat) : Int) - (1 : Int)))).bind fun (x110 : Int) => ((getI (r100) (IntKind.wrap .i64 (((List.length (r100) : Nat) : Int) - (1 : Int)))).bind fun (x119 : Int) => ((catI 1 ((List.set (r100) (Int.toNat ((IntKind.wrap .i64 (((List.length (r100) : Nat) : Int) - (1 : Int))))) ((IntKind.wrap .u8 (x110 + (128 : Int)))))) (([(IntKind.wrap .u8 (Int.tmod x1 128))] : List Int))).bind fun (l133 : (List Int)) => (some l133)))))))) (fun j140 => (bif (decide (x1 < (0 : Int))) then (j140 true) else (j140 (decide ((2147483647 : Int) < x1))))))

def inspeximusref03_Num.r (K : Nat) : Nat → Int → Option ((List Int))
  | 0 => fun _ => none
  | k + 1 => inspeximusref03_Num.b K (inspeximusref03_Num.r K k)

def inspeximusref03_Num.f (K : Nat) (x1 : Int) : Option ((List Int)) := inspeximusref03_Num.r K K x1

def inspeximusref01_Bytes_l1.b (K : Nat) (x1 : (List Int)) (x5 : (List Int)) (rec : Int → Option (Sum ((Bool)) (Unit))) (y1047 : Int) : Option (Sum ((Bool)) (Unit)) :=
  (bif (decide (y1047 < ((List.length (x1) : Nat) : Int))) then ((getI (x1) y1047).bind fun (x1226 : Int) => ((getI (x5) y1047).bind fun (x1238 : Int) => (bif (!decide (x1226 = x1238)) then (some (Sum.inl false)) else (rec (IntKind.wrap .i64 (y1047 + (1 : Int))))))) else (some (Sum.inr ())))

def inspeximusref01_Bytes_l1.l (K : Nat) (x1 : (List Int)) (x5 : (List Int)) : Nat → (Int) → Option (Sum ((Bool)) (Unit))
  | 0, _ => none
  | k + 1, y => inspeximusref01_Bytes_l1.b K x1 x5 (inspeximusref01_Bytes_l1.l K x1 x5 k) y

theorem inspeximusref01_Bytes_l1.some {K : Nat} (x1 : (List Int)) (x5 : (List Int)) {k : Nat} {y : Int} {s : (Sum ((Bool)) (Unit))} (h : inspeximusref01_Bytes_l1.l K x1 x5 k y = some s) : ∃ k', k = k' + 1 ∧ inspeximusref01_Bytes_l1.b K x1 x5 (inspeximusref01_Bytes_l1.l K x1 x5 k') y = some s := by
  cases k with
  | zero => cases h
  | succ k => exact ⟨k, rfl, h⟩

def inspeximusref01_Bytes.f (K : Nat) (x1 : (List Int)) (x5 : (List Int)) : Option (Bool) :=
  (bif (!decide (((List.length (x1) : Nat) : Int) = ((List.length (x5) : Nat) : Int))) then (some false) else ((inspeximusref01_Bytes_l1.l K x1 x5 K (0 : Int)).bind fun s1250 => (match s1250 with | .inl u1251 => some u1251 | .inr u1252 => (fun (z1149 : Unit) => (some true)) u1252)))

def inspeximusref03_Bytes.f (K : Nat) (x1 : (List Int)) : Option ((List Int)) :=
  ((inspeximusref03_Num.f K (((List.length (x1) : Nat) : Int))).bind fun (r27 : ((List Int))) => ((catI 1 (r27) (x1)).bind fun (l37 : (List Int)) => (some l37)))

def inspeximuslaw03_WirePuts.f (K : Nat) (x1 : Int) (x2 : Bool) (x3 : (List Int)) (x7 : (Vector Int 32)) : Option (Bool) :=
  ((inspeximuslaw03_alive.f K).bind fun (r496 : (Bool)) => (bif (!r496) then (some false) else (bif (decide ((500 : Int) < ((List.length (x3) : Nat) : Int))) then (some true) else (jn (fun (y512 : (List Int)) => (jn (fun (y738 : Bool) => (some y738)) (fun j741 => ((wire_Num.f K (x1)).bind fun (r852 : ((List Int))) => ((inspeximusref03_Num.f K (x1)).bind fun (r862 : ((List Int))) => ((inspeximusref01_Bytes.f K (r852) (r862)).bind fun (r878 : (Bool)) => (bif r878 then ((wire_Flag.f K (x2)).bind fun (r883 : ((List Int))) => ((inspeximusref01_Bytes.f K (r883) (y512)).bind fun (r899 : (Bool)) => (bif r899 then ((wire_Bytes.f K (x3)).bind fun (r904 : ((List Int))) => ((inspeximusref03_Bytes.f K (x3)).bind fun (r914 : ((List Int))) => ((inspeximusref01_Bytes.f K (r904) (r914)).bind fun (r930 : (Bool)) => (bif r930 then ((subI (vlist (x7)) 0 ((32 : Nat) : Int)).bind fun (l938 : List Int) => ((wire_Hash.f K (x7)).bind fun (r943 : ((List Int))) => ((inspeximusref01_Bytes.f K (r943) (l938)).bind fun (r956 : (Bool)) => (j741 r956)))) else (j741 false))))) else (j741 false)))) else (j741 false)))))))) (fun j961 => (bif x2 then ((getI (([(0 : Int)] : List Int)) (0 : Int)).bind fun (x963 : Int) => (j961 (List.set (([(0 : Int)] : List Int)) (Int.toNat ((0 : Int))) ((1 : Int))))) else (j961 ([(0 : Int)] : List Int))))))))

def inspeximuslaw03_WireBack.f (K : Nat) (x1 : Int) (x2 : Bool) (x3 : (List Int)) (x7 : (Vector Int 32)) (x8 : (List Int)) : Option (Bool) :=
  ((inspeximuslaw03_alive.f K).bind fun (r430 : (Bool)) => (bif (!r430) then (some false) else (jn (fun (y440 : Bool) => (bif y440 then (some true) else ((wire_Num.f K (x1)).bind fun (r525 : ((List Int))) => ((wire_Flag.f K (x2)).bind fun (r535 : ((List Int))) => ((wire_Bytes.f K (x3)).bind fun (r545 : ((List Int))) => ((wire_Hash.f K (x7)).bind fun (r555 : ((List Int))) => ((wire_All.f K (([r525, r535, r545, r555, x8] : List (List Int)))).bind fun (r584 : ((List Int))) => ((wire_Read.f K (r584)).bind fun (r597 : (T_inspeximus_wire_Reader)) => (jn (fun (y717 : Bool) => (some y717)) (fun j720 => ((wire_Reader_Num.f K (r597)).bind fun (r777 : (Int × T_inspeximus_wire_Reader)) => (bif (decide (r777.1 = x1)) then ((wire_Reader_Flag.f K (r777.2)).bind fun (r785 : (Bool × T_inspeximus_wire_Reader)) => (bif (r785.1 == x2) then ((wire_Reader_Bytes.f K (((List.length (x3) : Nat) : Int)) (r785.2)).bind fun (r793 : ((List Int) × T_inspeximus_wire_Reader)) => ((inspeximusref01_Bytes.f K (r793.1) (x3)).bind fun (r809 : (Bool)) => (bif r809 then ((wire_Reader_Hash.f K (r793.2)).bind fun (r814 : ((Vector Int 32) × T_inspeximus_wire_Reader)) => (bif (decide (r814.1 = x7)) then ((wire_Reader_Left.f K (r814.2)).bind fun (r822 : (Int)) => (bif (decide (r822 = ((List.length (x8) : Nat) : Int))) then ((wire_Reader_Bad.f K (r814.2)).bind fun (r827 : (Int)) => (j720 (decide (r827 = (0 : Int))))) else (j720 false))) else (j720 false))) else (j720 false)))) else (j720 false))) else (j720 false))))))))))))) (fun j832 => (bif (decide ((300 : Int) < ((List.length (x3) : Nat) : Int))) then (j832 true) else (bif (decide ((300 : Int) < ((List.length (x8) : Nat) : Int))) then (j832 true) else (bif (decide (x1 < (0 : Int))) then (j832 true) else (j832 (decide ((2147483647 : Int) < x1))))))))))

def inspeximuslaw03_WireOne_l1.b (K : Nat) (x1 : (List Int)) (r600 : (Int)) (rec : Int → Option (Sum ((Bool)) (Unit))) (y953 : Int) : Option (Sum ((Bool)) (Unit)) :=
  (bif (decide (y953 < (IntKind.wrap .i64 (((List.length (x1) : Nat) : Int) - r600)))) then ((subI (x1) 0 y953).bind fun (l1048 : (List Int)) => ((wire_Read.f K (l1048)).bind fun (r1053 : (T_inspeximus_wire_Reader)) => ((wire_Reader_Num.f K (r1053)).bind fun (r1063 : (Int × T_inspeximus_wire_Reader)) => ((wire_Reader_Bad.f K (r1063.2)).bind fun (r1071 : (Int)) => (bif (!decide (r1071 = (3 : Int))) then (some (Sum.inl false)) else (rec (IntKind.wrap .i64 (y953 + (1 : Int))))))))) else (some (Sum.inr ())))

def inspeximuslaw03_WireOne_l1.l (K : Nat) (x1 : (List Int)) (r600 : (Int)) : Nat → (Int) → Option (Sum ((Bool)) (Unit))
  | 0, _ => none
  | k + 1, y => inspeximuslaw03_WireOne_l1.b K x1 r600 (inspeximuslaw03_WireOne_l1.l K x1 r600 k) y

theorem inspeximuslaw03_WireOne_l1.some {K : Nat} (x1 : (List Int)) (r600 : (Int)) {k : Nat} {y : Int} {s : (Sum ((Bool)) (Unit))} (h : inspeximuslaw03_WireOne_l1.l K x1 r600 k y = some s) : ∃ k', k = k' + 1 ∧ inspeximuslaw03_WireOne_l1.b K x1 r600 (inspeximuslaw03_WireOne_l1.l K x1 r600 k') y = some s := by
  cases k with
  | zero => cases h
  | succ k => exact ⟨k, rfl, h⟩

def inspeximuslaw03_WireOne.f (K : Nat) (x1 : (List Int)) : Option (Bool) :=
  ((inspeximuslaw03_alive.f K).bind fun (r547 : (Bool)) => (bif (!r547) then (some false) else (bif (decide ((100 : Int) < ((List.length (x1) : Nat) : Int))) then (some true) else ((wire_Read.f K (x1)).bind fun (r552 : (T_inspeximus_wire_Reader)) => ((wire_Reader_Num.f K (r552)).bind fun (r562 : (Int × T_inspeximus_wire_Reader)) => ((wire_Reader_Bad.f K (r562.2)).bind fun (r585 : (Int)) => (bif (!decide (r585 = (0 : Int))) then (bif (decide (r562.1 = (0 : Int))) then ((wire_Reader_Left.f K (r562.2)).bind fun (r595 : (Int)) => (some (decide (r595 = (0 : Int))))) else (some false)) else ((wire_Reader_Left.f K (r562.2)).bind fun (r600 : (Int)) => ((subI (x1) 0 (IntKind.wrap .i64 (((List.length (x1) : Nat) : Int) - r600))).bind fun (l674 : (List Int)) => ((wire_Num.f K (r562.1)).bind fun (r679 : ((List Int))) => ((inspeximusref01_Bytes.f K (r679) (l674)).bind fun (r692 : (Bool)) => (bif (!r692) then (some false) else ((inspeximuslaw03_WireOne_l1.l K x1 r600 K (0 : Int)).bind fun s1076 => (match s1076 with | .inl u1077 => some u1077 | .inr u1078 => (fun (z1015 : Unit) => (some true)) u1078))))))))))))))

def inspeximuslaw03_WireOrder.f (K : Nat) (x1 : Int) (x2 : Int) : Option (Bool) :=
  ((inspeximuslaw03_alive.f K).bind fun (r70 : (Bool)) => (bif (!r70) then (some false) else (jn (fun (y80 : Bool) => (bif y80 then (some true) else ((wire_Num.f K (x1)).bind fun (r83 : ((List Int))) => ((wire_Num.f K (x2)).bind fun (r93 : ((List Int))) => (jn (fun (y108 : Bool) => (bif y108 then (some false) else (bif (decide (((List.length (r83) : Nat) : Int) < ((List.length (r93) : Nat) : Int))) then (some true) else (some ((Op.bytesLess (ByteArray.toList (bofL (r83))) (ByteArray.toList (bofL (r93)))) || (ByteArray.toList (bofL (r83)) == ByteArray.toList (bofL (r93)))))))) (fun j123 => (bif (decide (((List.length (r83) : Nat) : Int) = (0 : Int))) then (j123 true) else (bif (decide (((List.length (r93) : Nat) : Int) < ((List.length (r83) : Nat) : Int))) then (j123 true) else (j123 (decide ((5 : Int) < ((List.length (r93) : Nat) : Int)))))))))))) (fun j125 => (bif (decide (x1 < (0 : Int))) then (j125 true) else (bif (decide (x2 < x1)) then (j125 true) else (j125 (decide ((2147483647 : Int) < x2)))))))))

def inspeximuslaw03_WireFails.f (K : Nat) (x1 : (List Int)) (x5 : Int) : Option (Bool) :=
  ((inspeximuslaw03_alive.f K).bind fun (r153 : (Bool)) => (bif (!r153) then (some false) else (bif (decide ((200 : Int) < ((List.length (x1) : Nat) : Int))) then (some true) else ((wire_Read.f K (x1)).bind fun (r158 : (T_inspeximus_wire_Reader)) => ((wire_Reader_Fail.f K ((IntKind.wrap .i64 ((1 : Int) + (IntKind.wrap .i64 (Int.tmod x5 12))))) (r158)).bind fun (r168 : (T_inspeximus_wire_Reader)) => ((wire_Reader_Bad.f K (r168)).bind fun (r176 : (Int)) => (jn (fun (y233 : Bool) => (some y233)) (fun j236 => (bif (decide (r176 = (IntKind.wrap .i64 ((1 : Int) + (IntKind.wrap .i64 (Int.tmod x5 12)))))) then ((wire_Reader_Num.f K (r168)).bind fun (r238 : (Int × T_inspeximus_wire_Reader)) => (bif (decide (r238.1 = (0 : Int))) then ((wire_Reader_Flag.f K (r238.2)).bind fun (r246 : (Bool × T_inspeximus_wire_Reader)) => (bif (!r246.1) then ((wire_Reader_Bytes.f K ((9 : Int)) (r246.2)).bind fun (r254 : ((List Int) × T_inspeximus_wire_Reader)) => (bif (decide (((List.length (r254.1) : Nat) : Int) = (0 : Int))) then ((wire_Reader_Hash.f K (r254.2)).bind fun (r267 : ((Vector Int 32) × T_inspeximus_wire_Reader)) => (bif (decide (r267.1 = (vofL 32 [(0 : Int), (0 : Int), (0 : Int), (0 : Int), (0 : Int), (0 : Int), (0 : Int), (0 : Int), (0 : Int), (0 : Int), (0 : Int), (0 : Int), (0 : Int), (0 : Int), (0 : Int), (0 : Int), (0 : Int), (0 : Int), (0 : Int), (0 : Int), (0 : Int), (0 : Int), (0 : Int), (0 : Int), (0 : Int), (0 : Int), (0 : Int), (0 : Int), (0 : Int), (0 : Int), (0 : Int), (0 : Int)]))) then ((wire_Reader_Left.f K (r267.2)).bind fun (r275 : (Int)) => (bif (decide (r275 = (0 : Int))) then ((wire_Reader_Bad.f K (r267.2)).bind fun (r280 : (Int)) => (bif (decide (r280 = r176)) then ((wire_Reader_Done.f K (r267.2)).bind fun (r285 : (Int)) => (j236 (decide (r285 = r176)))) else (j236 false))) else (j236 false))) else (j236 false))) else (j236 false))) else (j236 false))) else (j236 false))) else (j236 false))))))))))

def inspeximuslaw03_WireMany_l1.b (K : Nat) (x1 : (List Int)) (rec : ((List Int) × Int) → Option ((List Int))) (y3796 : (List Int) × Int) : Option ((List Int)) :=
  (bif (decide (y3796.2 < ((List.length (x1) : Nat) : Int))) then ((getI (x1) y3796.2).bind fun (x3918 : Int) => ((wire_Num.f K (x3918)).bind fun (r3930 : ((List Int))) => ((catI 1 (y3796.1) (r3930)).bind fun (l3943 : (List Int)) => (rec (l3943, (IntKind.wrap .i64 (y3796.2 + (1 : Int)))))))) else (some y3796.1))

def inspeximuslaw03_WireMany_l1.l (K : Nat) (x1 : (List Int)) : Nat → ((List Int) × Int) → Option ((List Int))
  | 0, _ => none
  | k + 1, y => inspeximuslaw03_WireMany_l1.b K x1 (inspeximuslaw03_WireMany_l1.l K x1 k) y

theorem inspeximuslaw03_WireMany_l1.some {K : Nat} (x1 : (List Int)) {k : Nat} {y : (List Int) × Int} {s : ((List Int))} (h : inspeximuslaw03_WireMany_l1.l K x1 k y = some s) : ∃ k', k = k' + 1 ∧ inspeximuslaw03_WireMany_l1.b K x1 (inspeximuslaw03_WireMany_l1.l K x1 k') y = some s := by
  cases k with
  | zero => cases h
  | succ k => exact ⟨k, rfl, h⟩

def inspeximuslaw03_WireMany_l2.b (K : Nat) (x1 : (List Int)) (rec : (Int × Int × (List Int) × Int) → Option (Sum ((Bool)) ((List Int) × Int))) (y5937 : Int × Int × (List Int) × Int) : Option (Sum ((Bool)) ((List Int) × Int)) :=
  (bif (decide (y5937.2.1 < ((List.length (x1) : Nat) : Int))) then (jn (fun (y6673 : Int × (List Int) × Int) => (rec (y6673.1, (IntKind.wrap .i64 (y5937.2.1 + (1 : Int))), y6673.2.1, y6673.2.2))) (fun j6679 => (jn (fun (y6758 : Bool) => (bif y6758 then (j6679 (y5937.1, y5937.2.2.1, y5937.2.2.2)) else ((getI (x1) y5937.2.1).bind fun (x6761 : Int) => ((wire_Num.f K (x6761)).bind fun (r6773 : ((List Int))) => (jn (fun (y6833 : Bool × (List Int) × Int) => (bif y6833.1 then (some (Sum.inl false)) else (j6679 ((IntKind.wrap .i64 (y5937.1 - ((List.length (r6773) : Nat) : Int))), y6833.2.1, y6833.2.2)))) (fun j6839 => ((getI (x1) y5937.2.1).bind fun (x6866 : Int) => ((wire_Reader_Num.f K ((T_inspeximus_wire_Reader.mk (y5937.2.2.1) (y5937.2.2.2)))).bind fun (r6878 : (Int × T_inspeximus_wire_Reader)) => (bif (!decide (r6878.1 = x6866)) then (j6839 (true, r6878.2.fB, r6878.2.fBad)) else ((wire_Reader_Left.f K (r6878.2)).bind fun (r6886 : (Int)) => (j6839 ((!decide (r6886 = (IntKind.wrap .i64 (y5937.1 - ((List.length (r6773) : Nat) : Int))))), r6878.2.fB, r6878.2.fBad)))))))))))) (fun j6891 => ((getI (x1) y5937.2.1).bind fun (x6893 : Int) => (bif (decide (x6893 < (0 : Int))) then (j6891 true) else ((getI (x1) y5937.2.1).bind fun (x6905 : Int) => (j6891 (decide ((2147483647 : Int) < x6905)))))))))) else (some (Sum.inr (y5937.2.2.1, y5937.2.2.2))))

def inspeximuslaw03_WireMany_l2.l (K : Nat) (x1 : (List Int)) : Nat → (Int × Int × (List Int) × Int) → Option (Sum ((Bool)) ((List Int) × Int))
  | 0, _ => none
  | k + 1, y => inspeximuslaw03_WireMany_l2.b K x1 (inspeximuslaw03_WireMany_l2.l K x1 k) y

theorem inspeximuslaw03_WireMany_l2.some {K : Nat} (x1 : (List Int)) {k : Nat} {y : Int × Int × (List Int) × Int} {s : (Sum ((Bool)) ((List Int) × Int))} (h : inspeximuslaw03_WireMany_l2.l K x1 k y = some s) : ∃ k', k = k' + 1 ∧ inspeximuslaw03_WireMany_l2.b K x1 (inspeximuslaw03_WireMany_l2.l K x1 k') y = some s := by
  cases k with
  | zero => cases h
  | succ k => exact ⟨k, rfl, h⟩

def inspeximuslaw03_WireMany.f (K : Nat) (x1 : (List Int)) : Option (Bool) :=
  ((inspeximuslaw03_alive.f K).bind fun (r3470 : (Bool)) => (bif (!r3470) then (some false) else (bif (decide ((60 : Int) < ((List.length (x1) : Nat) : Int))) then (some true) else ((inspeximuslaw03_WireMany_l1.l K x1 K (([] : List Int), (0 : Int))).bind fun (z3876 : (List Int)) => ((wire_Read.f K (z3876)).bind fun (r3954 : (T_inspeximus_wire_Reader)) => ((inspeximuslaw03_WireMany_l2.l K x1 K (((List.length (z3876) : Nat) : Int), (0 : Int), r3954.fB, r3954.fBad)).bind fun s6922 => (match s6922 with | .inl u6923 => some u6923 | .inr u6924 => (fun (z6429 : (List Int) × Int) => ((wire_Reader_Done.f K ((T_inspeximus_wire_Reader.mk (z6429.1) (z6429.2)))).bind fun (r6917 : (Int)) => (some (decide (r6917 = (0 : Int)))))) u6924)))))))

end Go.Proofs.Ytmjkjgidcmalhaa
