/-
 Operations that touch memory, calls, returns, loops.
-/
import Derived.Test.YtomndohdnfebgaaGreatDoorSepB
namespace Go.Sep
section
variable {P : Program} {ρ : Option Nat} {ops : Array Oper} {Q : Exit → Act → World → Prop} {a : Act} {n : Nat} {ds : List Deferred} {E : List (Nat × Value)}
variable {g w w0 : World} {D D0 : Snap} {L L0 : List Blk} {i : Nat} {o : Oper} {d : Nat} {C : Act → World → Prop} {C1 : Act → Prop} {R : World → World → Prop}
/-- the value of a variable of type t at a place in a row of cells -/
def ldv (P : Program) (t : TypeId) (c : List Value) (off : Nat) : Option Value :=
 match P.underlying t, P.info? t with
 | some (.struct _), some i | some (.array _ _), some i => bif Nat.ble (off + i.size) c.length then some (.agg ((c.drop off).take i.size).toArray) else none
 | some _, some _ => c[off]?
 | _, _ => none
theorem isAgg_run {t : TypeId} {dd : TypeDesc} (hs : ∀ fs, dd = .struct fs → False) (ha : ∀ m e, dd = .array m e → False) (h1 : P.underlying t = some dd) : (isAgg t).run P w = .ok false w := by
 simp only [isAgg, Sem.run_bind, run_underlying' h1, Result.andThen_ok]
 cases dd <;> first | rfl | exact (hs _ rfl).elim | exact (ha _ _ rfl).elim
theorem ldv_cases {t : TypeId} {c : List Value} {off : Nat} {v : Value} (h : ldv P t c off = some v) :
  (∃ i, P.info? t = some i ∧ (∀ w, (isAgg t).run P w = .ok true w) ∧ off + i.size ≤ c.length ∧ v = .agg ((c.drop off).take i.size).toArray) ∨ ((∀ w, (isAgg t).run P w = .ok false w) ∧ c[off]? = some v) := by
 unfold ldv at h
 split at h
 ·rename_i ii h1 h2
  cases hle : Nat.ble (off + ii.size) c.length with
  | false => rw [hle] at h; cases h
  | true =>
   rw [hle] at h
   simp only [cond_true, Option.some.injEq] at h
   exact .inl ⟨_, h2, fun w => by simp [isAgg, run_underlying' h1], Nat.le_of_ble_eq_true hle, h.symm⟩
 ·rename_i ii h1 h2
  cases hle : Nat.ble (off + ii.size) c.length with
  | false => rw [hle] at h; cases h
  | true =>
   rw [hle] at h
   simp only [cond_true, Option.some.injEq] at h
   exact .inl ⟨_, h2, fun w => by simp [isAgg, run_underlying' h1], Nat.le_of_ble_eq_true hle, h.symm⟩
 ·rename_i dd ii hs ha h1 h2
  exact .inr ⟨fun w => isAgg_run hs ha h1, h⟩
 ·cases h
theorem addr_add (b off j : Nat) : (⟨b, off, none⟩ : Addr).add j = ⟨b, off + j, none⟩ := by unfold Addr.add; split <;> simp_all
/-- the cells c lie at ⟨b, off⟩ -/
theorem ldv_run' {t : TypeId} {b off off0 : Nat} {c : List Value} {C : Array Value} {T : TypeId} {fr : Nat × Nat} {v : Value} (hb : w.heap[b]? = some (.cells C T fr)) (hC : ∀ j u, c[j]? = some u → C[off0 + j]? = some u) (h : ldv P t c off = some v) :
  (loadVar t ⟨b, off0 + off, none⟩).run P w = .ok v w := by
 have hcell : ∀ j, w.cell? ⟨b, j, none⟩ = C[j]? := fun j => cell_of_row w b j C T fr hb
 rcases ldv_cases h with ⟨ii, hi, hagg, hle, rfl⟩ | ⟨hagg, hv⟩
 ·have hl := run_loadCells_list (P := P) (w := w) ⟨b, off0 + off, none⟩ ((c.drop off).take ii.size) (fun j u hu => by
    rw [addr_add, hcell, Nat.add_assoc]
    rw [List.getElem?_take] at hu
    split at hu
    ·rw [List.getElem?_drop] at hu; exact hC _ _ hu
    ·cases hu)
  have hlen : ((c.drop off).take ii.size).length = ii.size := by simp; omega
  rw [hlen] at hl
  simp [loadVar, hagg, sizeOf, typeInfo, hi, hl]
 ·have := hC _ _ hv
  simp [loadVar, hagg, hcell, this]
theorem ldv_run {t : TypeId} {b off : Nat} {c : List Value} {T : TypeId} {fr : Nat × Nat} {v : Value} (hb : w.heap[b]? = some (.cells c.toArray T fr)) (h : ldv P t c off = some v) :
  (loadVar t ⟨b, off, none⟩).run P w = .ok v w := by
 have := ldv_run' (off0 := 0) hb (fun j u hu => by simpa using hu) h
 simpa using this
def vcells : Value → List Value
 | .agg cs => cs.toList
 | v => [v]
theorem vcells_eq (v : Value) : v.cells = (vcells v).toArray := by cases v <;> rfl
theorem vcells_len (v : Value) : v.cells.size = (vcells v).length := by rw [vcells_eq]; simp
/-- a row of cells with some set -/
def setCells (c : List Value) (off : Nat) (vs : List Value) : List Value := c.take off ++ vs ++ c.drop (off + vs.length)
theorem stv_run {t : TypeId} {b off : Nat} {c : List Value} {T : TypeId} {v : Value} (hb : w.heap[b]? = some (.cells c.toArray T (0, 0))) (hsz : P.cellsOf t = (vcells v).length) (hty : (P.info? t).isSome = true)
  (hfit : Nat.ble (off + (vcells v).length) c.length = true) (h1 : (vcells v).all Value.oneCell' = true) :
  (storeVar t ⟨b, off, none⟩ v).run P w = .ok () (w.setRow b (setCells c off (vcells v)).toArray) := by
 obtain ⟨i, hi⟩ := Option.isSome_iff_exists.1 hty
 have hs : i.size = (vcells v).length := by simpa [Program.cellsOf, hi] using hsz
 have hst := run_storeCells_at P b off T (vcells v) 0 c.toArray w hb (by simpa using Nat.le_of_ble_eq_true hfit) (fun u hu => List.all_eq_true.1 h1 u hu)
 simp only [Nat.add_zero] at hst
 simp [storeVar, sizeOf, typeInfo, hi, hs, hst, setCells, vcells_eq]
/-- 'box': a new variable with a value -/
theorem op_box {T : TypeId} {x : Operand} {v : Value} (ho : ops[i]? = some o) (hop : o.op = .box T x) (hg : o.guard = none) (hd : o.dst = some d) (hE : Env a n ds E) (hn : Nat.blt d n = true)
  (hS : Stp g w0 D0 L0 w D L) (hx : evalO E x = some v)
  (k : ∀ a b w', Keeps [] w w' → Env a n ds ((d, .pointer (some ⟨b, 0, none⟩)) :: E) → Stp g w0 D0 L0 w' D (bx b T (vcells v) :: L) → C a w') : Op1 P ρ ops Q i C a w := by
 refine op_val (v := .pointer (some ⟨w.heap.size, 0, none⟩)) (w' := w.alloc (.cells v.cells T)) hE ho (by simp [guardOf, hg]) (by simp [hd, dstOk, hn]) (by simp [hop, noDefer]) ?_ ?_
 ·simp [execOp, hop, hE.eval hx, Instr.box, newVar, newRow]
 ·rw [hd, vcells_eq]
  intro a' h'
  exact k a' _ _ (keeps_alloc _ _) h' (hS.alloc _)
/-- 'alloc': a new variable of a type -/
theorem op_alloc {T : TypeId} {z : Value} (ho : ops[i]? = some o) (hop : o.op = .alloc T) (hg : o.guard = none) (hd : o.dst = some d) (hE : Env a n ds E) (hn : Nat.blt d n = true)
  (hS : Stp g w0 D0 L0 w D L) (hz : (P.info? T).bind (·.zero) = some z)
  (k : ∀ a b w', Keeps [] w w' → Env a n ds ((d, .pointer (some ⟨b, 0, none⟩)) :: E) → Stp g w0 D0 L0 w' D (bx b T (vcells z) :: L) → C a w') : Op1 P ρ ops Q i C a w := by
 obtain ⟨ii, hi, hzz⟩ := Option.bind_eq_some_iff.1 hz
 refine op_val (v := .pointer (some ⟨w.heap.size, 0, none⟩)) (w' := w.alloc (.cells z.cells T)) hE ho (by simp [guardOf, hg]) (by simp [hd, dstOk, hn]) (by simp [hop, noDefer]) ?_ ?_
 ·simp [execOp, hop, Instr.alloc, zeroValue, typeInfo, hi, hzz, newVar, newRow]
 ·rw [hd, vcells_eq]
  intro a' h'
  exact k a' _ _ (keeps_alloc _ _) h' (hS.alloc _)
/-- 'load' from an owned block -/
theorem tk_load (j : Nat) {t : TypeId} {x : Operand} {b off : Nat} {c : List Value} {T : TypeId} (v : Value) (ho : ops[i]? = some o) (hop : o.op = .load t x) (hg : guardOf ops E o = some true) (hd : o.dst = some d) (hE : Env a n ds E) (hn : Nat.blt d n = true)
  (hS : Stp g w0 D0 L0 w D L) (hx : evalO E x = some (.pointer (some ⟨b, off, none⟩))) (hj : L[j]? = some (bx b T c)) (hv : ldv P t c off = some v) (hM : ∀ w', R w w' → w'.heap[b]? = w.heap[b]?)
  (k : ∀ a, Env a n ds ((d, v) :: E) → C1 a) : Tk P ops R i n ds E a w C1 := by
 refine tk_of (v := v) hE ho hg hd hn (by simp [hop, noDefer]) (fun w' hk => ?_) ?_
 ·simp [execOp, hop, hE.eval hx, Instr.loadAt, Instr.sureAddr, ldv_run (w := w') ((hM w' hk).trans (hS.heapAt hj)) hv]
 ·exact k
/-- 'store' into an owned block, the front one -/
theorem op_store {t : TypeId} {y x : Operand} {b off : Nat} {c : List Value} {T : TypeId} {v : Value} (c' : List Value) (ho : ops[i]? = some o) (hop : o.op = .store t y x) (hg : guardOf ops E o = some true) (hd : o.dst = none) (hE : Env a n ds E)
  (hS : Stp g w0 D0 L0 w D (bx b T c :: L)) (hy : evalO E y = some (.pointer (some ⟨b, off, none⟩))) (hx : evalO E x = some v) (hsz : P.cellsOf t = (vcells v).length) (hty : (P.info? t).isSome = true)
  (hfit : Nat.ble (off + (vcells v).length) c.length = true) (h1 : (vcells v).all Value.oneCell' = true) (hc : setCells c off (vcells v) = c')
  (k : ∀ a w', Keeps [b] w w' → Env a n ds E → Stp g w0 D0 L0 w' D (bx b T c' :: L) → C a w') : Op1 P ρ ops Q i C a w := by
 subst hc
 refine op_unit (w' := w.setRow b (setCells c off (vcells v)).toArray) hE ho hg (by simp [hd, dstOk]) (by simp [hop, noDefer]) ?_ ?_
 ·simp [execOp, hop, hE.eval hx, hE.eval hy, Instr.storeAt, Instr.sureAddr, stv_run hS.heap0 hsz hty hfit h1]
 ·rw [hd]
  intro a' h'
  exact k a' _ ⟨by simp, fun k _ hk => setRow_other w b k _ (by simpa using hk)⟩ h' (hS.put0 (by simp) rfl rfl rfl (setRow_heap w b c.toArray _ T _ hS.heap0) (fun k hk => setRow_other w b k _ hk))
/-- 'fieldAddr' -/
theorem tk_fieldAddr {s : TypeId} {x : Operand} {m : Nat} {b off : Nat} {fs : Array Field} {f : Field} (off' : Nat) (ho : ops[i]? = some o) (hop : o.op = .fieldAddr s x m) (hg : guardOf ops E o = some true) (hd : o.dst = some d) (hE : Env a n ds E) (hn : Nat.blt d n = true)
  (hx : evalO E x = some (.pointer (some ⟨b, off, none⟩))) (hs : P.underlying s = some (.struct fs)) (hf : fs[m]? = some f) (hz : (P.info? f.type).map (fun q => Nat.blt 0 q.size) = some true) (hoff : off + f.offset = off')
  (k : ∀ a, Env a n ds ((d, .pointer (some ⟨b, off', none⟩)) :: E) → C1 a) : Tk P ops R i n ds E a w C1 := by
 subst hoff
 obtain ⟨q, hq, hpos⟩ := Option.map_eq_some_iff.1 hz
 have hpos' : q.size ≠ 0 := by have : 0 < q.size := by simpa [Nat.blt_eq] using hpos
                               omega
 have e : (⟨b, off, none⟩ : Addr).add f.offset = ⟨b, off + f.offset, none⟩ := by unfold Addr.add; split <;> simp_all
 refine tk_of (v := .pointer (some ⟨b, off + f.offset, none⟩)) hE ho hg hd hn (by simp [hop, noDefer]) (fun w' _ => ?_) ?_
 ·simp [execOp, hop, hE.eval hx, Instr.fieldAt, run_underlying' hs, hf, Instr.sureAddr, fieldPlace, sizeOf, typeInfo, hq, hpos', e]
 ·exact k
/-- 'field' of a struct's value -/
theorem tk_field {s : TypeId} {x : Operand} {m : Nat} {cs : List Value} {fs : Array Field} {f : Field} (v : Value) (ho : ops[i]? = some o) (hop : o.op = .field s x m) (hg : guardOf ops E o = some true) (hd : o.dst = some d) (hE : Env a n ds E) (hn : Nat.blt d n = true)
  (hx : evalO E x = some (.agg cs.toArray)) (hs : P.underlying s = some (.struct fs)) (hf : fs[m]? = some f) (hv : ldv P f.type cs f.offset = some v)
  (k : ∀ a, Env a n ds ((d, v) :: E) → C1 a) : Tk P ops R i n ds E a w C1 := by
 refine tk_of (v := v) hE ho hg hd hn (by simp [hop, noDefer]) (fun w' _ => ?_) ?_
 ·have : (part f.type cs.toArray f.offset).run P w' = .ok v w' := by
   rcases ldv_cases hv with ⟨ii, hi, hagg, hle, rfl⟩ | ⟨hagg, hv⟩
   ·simp [part, hagg, sizeOf, typeInfo, hi]
   ·simp [part, hagg, hv]
  simp [execOp, hop, hE.eval hx, Instr.field, run_underlying' hs, hf, asAgg, this]
 ·exact k
/-! ### slices that no one writes -/
section sl
variable {α : Type} {K : Kd α}
/-- the cells of an element -/
theorem RL.at_ : ∀ {l : List α} {cs : List Value} {m : Nat} {x : α}, RL K D l cs → l[m]? = some x → ∃ c, K.r D x c ∧ ∀ j u, c[j]? = some u → cs[m * K.n + j]? = some u := by
 intro l
 induction l with
 | nil => intro cs m x h hx; cases hx
 | cons y l ih =>
  intro cs m x h hx
  obtain ⟨c1, c2, rfl, h1, h2⟩ := h
  cases m with
  | zero =>
   simp only [List.getElem?_cons_zero, Option.some.injEq] at hx
   subst hx
   refine ⟨c1, h1, fun j u hu => ?_⟩
   rw [Nat.zero_mul, Nat.zero_add, List.getElem?_append_left (List.getElem?_eq_some_iff.1 hu).1]
   exact hu
  | succ m =>
   simp only [List.getElem?_cons_succ] at hx
   obtain ⟨c, hc, hj⟩ := ih h2 hx
   refine ⟨c, hc, fun j u hu => ?_⟩
   have := hj j u hu
   rw [show (m + 1) * K.n + j = c1.length + (m * K.n + j) from by rw [K.len _ _ _ h1, Nat.succ_mul]; omega, List.getElem?_append_right (by omega)]
   simpa using this
/-- a place where the cells of x lie -/
def Cell (K : Kd α) (D : Snap) (b off : Nat) (x : α) : Prop := ∃ cs c T fr, K.r D x cs ∧ D b = some (.cells c T fr) ∧ ∀ j u, cs[j]? = some u → c[off + j]? = some u
theorem Cell.mono {D D' : Snap} {b off : Nat} {x : α} (h : Cell K D b off x) (hd : D.le D') : Cell K D' b off x := by
 obtain ⟨cs, c, T, fr, h1, h2, h3⟩ := h
 obtain ⟨o', h4, h5⟩ := hd _ _ h2
 obtain ⟨C', T', fr', rfl, h6⟩ := opre_cells h5
 exact ⟨cs, C', T', fr', K.mono _ _ _ _ hd h1, h4, fun j u hu => h6 _ _ (h3 j u hu)⟩
/-- 'indexAddr' into a slice that no one writes -/
theorem tk_index {t : TypeId} {e : TypeId} {x ix : Operand} {A : Option Addr} {cap : Nat} {l : List α} {m : Int} {kk : IntKind} (y : α) (ho : ops[i]? = some o) (hop : o.op = .indexAddr t x ix) (hg : guardOf ops E o = some true) (hd : o.dst = some d) (hE : Env a n ds E) (hn : Nat.blt d n = true)
  (hx : evalO E x = some (.slice A l.length cap)) (hix : evalO E ix = some (.int kk m)) (ht : P.underlying t = some (.slice e)) (he : (P.info? e).map (·.size) = some K.n) (hpos : Nat.blt 0 K.n = true)
  (hl : Sl K D A cap l) (h0 : 0 ≤ m) (hy : l[m.toNat]? = some y)
  (k : ∀ a b off, Env a n ds ((d, .pointer (some ⟨b, off, none⟩)) :: E) → Cell K D b off y → C1 a) : Tk P ops R i n ds E a w C1 := by
 obtain ⟨h1, h2, cs, hr, hc⟩ := hl
 obtain ⟨c, hyc, hj⟩ := hr.at_ hy
 have hmlt := (List.getElem?_eq_some_iff.1 hy).1
 have hlen := hr.len
 have hpos' : 0 < K.n := by simpa [Nat.blt_eq] using hpos
 have hcn := K.len _ _ _ hyc
 rcases hc with rfl | ⟨b, off, C, T, fr, rfl, hb, hcell⟩
 ·have := Nat.mul_pos (Nat.lt_of_le_of_lt (Nat.zero_le _) hmlt) hpos'
  simp at hlen; omega
 ·obtain ⟨ii, hi, hsz⟩ := Option.map_eq_some_iff.1 he
  have e2 : (⟨b, off, none⟩ : Addr).add (m.toNat * ii.size) = ⟨b, off + m.toNat * K.n, none⟩ := by
   rw [hsz]; unfold Addr.add; split <;> simp_all
  have hlt : m < (l.length : Int) := by omega
  refine tk_of (v := .pointer (some ⟨b, off + m.toNat * K.n, none⟩)) hE ho hg hd hn (by simp [hop, noDefer]) (fun w' _ => ?_) ?_
  ·simp [execOp, hop, hE.eval hx, hE.eval hix, Instr.indexAt, asIntOf, run_underlying' ht, h0, hlt, sizeOf, typeInfo, hi, e2]
  ·intro a' h'
   refine k a' _ _ h' ⟨c, C, T, fr, hyc, hb, fun j u hu => ?_⟩
   rw [Nat.add_assoc]
   exact hcell _ _ (hj j u hu)
end sl
/-- a call of a function of the program -/
theorem op_call {f : FuncId} {fv : Operand} {xs : Array Operand} {ts : Array TypeId} {captured : Array Value} {args all : List Value} {R : Value → World → Prop} (ho : ops[i]? = some o) (hop : o.op = .call { callee := .value fv, args := xs, argTypes := ts }) (hg : guardOf ops E o = some true) (hd : o.dst = some d) (hE : Env a n ds E) (hn : Nat.blt d n = true)
  (hf : evalO E fv = some (.func (.func f) #[] captured)) (hxs : evalArgs E xs.toList = some args) (hall : args ++ captured.toList = all) (hfn : (P.funcs[f]?).map (fun F => (F.name == "runtime.NumGoroutine", F.body.isNone)) = some (false, false))
  (hc : CallsIn (Fw none) 0 P f all.toArray w fun e w2 => ∃ v, e = .returned v ∧ R v w2)
  (k : ∀ a v w', R v w' → Env a n ds ((d, v) :: E) → C a w') : Op1 P ρ ops Q i C a w := by
 have hallA : args.toArray ++ captured = all.toArray := by subst hall; apply Array.ext'; simp
 obtain ⟨F, hF, hF2⟩ := Option.map_eq_some_iff.1 hfn
 simp only [Prod.mk.injEq] at hF2
 have hargs : xs.map a.eval = args.toArray := by
  have := evalArgs_map (E := E) (ev := a.eval) (fun _ _ h => hE.eval h) _ _ hxs
  rw [← Array.toList_map] at this
  rw [← this]
 refine op_enter (R := R) (w' := w) (f := f) (args := all.toArray) hE ho hg (by simp [hd, dstOk, hn]) (by simp [hop, noDefer]) ?_ hc ?_
 ·have h1 : ¬ F.name = "runtime.NumGoroutine" := by simpa using hF2.1
  have h2 : F.body ≠ none := by intro e; rw [e] at hF2; simp at hF2
  simp [execOp, hop, resolve, hE.eval hf, Deferred.ofValue, hargs, invoke, callFunc, hF, h1, h2, hallA]
 ·rw [hd]
  intro v w2 a' hR h'
  exact k a' v w2 hR h'
end
/-! ### control -/
section control
variable {P : Program} {ρ : Option Nat} {Q : Exit → Act → World → Prop} {a : Act} {w : World} {n : Nat} {ds : List Deferred} {E : List (Nat × Value)}
theorem cond_split {x : Operand} {A B : Code} {b : Bool} (hE : Env a n ds E) (hx : evalO E x = some (.bool b)) (ht : b = true → A.wpIn (Fw ρ) 0 P Q a w) (hf : b = false → B.wpIn (Fw ρ) 0 P Q a w) : (Code.cond x A B).wpIn (Fw ρ) 0 P Q a w :=
 wpIn_cond_split (hE.eval hx) ht hf
theorem loop_fuel {c : Code} (I : Nat → Act → World → Prop) (k : Nat) (h0 : I k a w)
  (round : ∀ k a w, I k a w → ∃ k', k = k' + 1 ∧ c.wpIn (Fw ρ) 0 P (Exit.then (fun a' w' => I k' a' w') Q) a w) : (Code.loop c).wpIn (Fw ρ) 0 P Q a w := by
 intro b K cs hro hb hr
 have key : ∀ j a w, I j a w → ∃ e a' w', Q e a' w' ∧ ArrivesIn (Machine.fenced P (Fw ρ)) P (lone (b.atR a (.code c :: .inLoop c :: K)) cs w) b K cs e a' w' := by
  intro j
  induction j with
  | zero => intro a w h; obtain ⟨k', h', _⟩ := round 0 a w h; omega
  | succ j ih =>
   intro a w hI
   obtain ⟨k', hk', hw⟩ := round _ a w hI
   obtain rfl : j = k' := by omega
   obtain ⟨e, a₁, w₁, hq, harr⟩ := hw b (.inLoop c :: K) cs hro hb hr
   cases e with
   | normal =>
    obtain ⟨e₂, a₂, w₂, hq₂, harr₂⟩ := ih a₁ w₁ hq
    exact ⟨e₂, a₂, w₂, hq₂, .of_steps (StepsIn.trans harr (.one (fenced_calm hb hr rfl) stepR_inLoop)) harr₂⟩
   | exit id => exact ⟨_, a₁, w₁, hq, .pass (x := .inLoop c) rfl (fun _ _ => .inl (by simp)) harr⟩
   | goto l => exact ⟨_, a₁, w₁, hq, .pass (x := .inLoop c) rfl (fun _ _ => .inl (by simp)) harr⟩
   | ret => exact ⟨_, a₁, w₁, hq, .pass (x := .inLoop c) rfl (fun _ _ => .inl (by simp)) harr⟩
   | panic ch => exact ⟨_, a₁, w₁, hq, .pass (x := .inLoop c) rfl (fun _ _ => .inl (by simp)) harr⟩
   | outgrown => exact ⟨_, a₁, w₁, hq, .pass (x := .inLoop c) rfl (fun _ _ => .inl (by simp)) harr⟩
 obtain ⟨e, a', w', hq, harr⟩ := key k a w h0
 exact ⟨e, a', w', hq, .of_steps (.one (fenced_calm hb hr rfl) stepR_loop) harr⟩
/-- the body of a function -/
def argE : Nat → List Value → List (Nat × Value)
 | _, [] => []
 | i, v :: vs => (i, v) :: argE (i + 1) vs
theorem look_argE : ∀ (vs : List Value) (i t : Nat) (v : Value), look (argE i vs) t = some v → i ≤ t ∧ vs[t - i]? = some v := by
 intro vs
 induction vs with
 | nil => intro i t v h; cases h
 | cons u vs ih =>
  intro i t v h
  simp only [argE, look] at h
  cases hb : Nat.beq i t with
  | true =>
   rw [hb] at h
   have := Nat.eq_of_beq_eq_true hb
   subst this
   simp only [cond_true, Option.some.injEq] at h
   subst h
   simp
  | false =>
   rw [hb] at h
   obtain ⟨h1, h2⟩ := ih (i + 1) t v h
   refine ⟨by omega, ?_⟩
   rw [show t - i = (t - (i + 1)) + 1 from by omega]
   simpa using h2
theorem calls_body {f : FuncId} {fn : Func} {c : Code} {args : List Value} {R : Ending → World → Prop} (hf : P.funcs[f]? = some fn) (hb : fn.body = some c) (hn : fn.ntmps = n) (hle : Nat.ble args.length n = true)
  (h : ∀ a, Env a n [] (argE 0 args) → c.wpIn (Fw none) 0 P (bodyPost P fn R) a w) : CallsIn (Fw none) 0 P f args.toArray w R := by
 refine callsIn_of_wp hf hb trivial (h _ ⟨?_, rfl, ?_⟩)
 ·have := Nat.le_of_ble_eq_true hle
  simp [hn]; omega
 ·intro t v hv
  obtain ⟨_, h2⟩ := look_argE args 0 t v hv
  simp only [Nat.sub_zero] at h2
  have hlt := (List.getElem?_eq_some_iff.1 h2).1
  rw [Array.getElem?_append_left (by simpa using hlt)]
  simpa using h2
end control
end Go.Sep
