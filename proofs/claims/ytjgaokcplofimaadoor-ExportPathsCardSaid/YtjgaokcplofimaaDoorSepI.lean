/-
 Bytes and strings; equality of arrays and structs.
-/
import Derived.Test.YtjgaokcplofimaaDoorSepH
namespace Go.Sep
/-! ### equality -/
/-- '==' at a type comes to b -/
def EqR (P : Program) (d : Nat) (t : TypeId) (u v : Value) (b : Bool) : Prop := ∀ w, (Op.equalIn d t u v).run P w = .ok b w
section
variable {P : Program}
theorem EqR_int {d t : Nat} {k : IntKind} {x y : Int} (h : intKindOf P t = some k) : EqR P (d + 1) t (.int k x) (.int k y) (decide (x = y)) := fun w => by
 rw [Op.equalIn]
 simp only [Sem.run_bind, run_underlying' (underlying_int h), Result.andThen_ok, if_true]
 rfl
theorem EqR_bool {d t : Nat} {x y : Bool} (h : boolT P t = true) : EqR P (d + 1) t (.bool x) (.bool y) (x == y) := fun w => by
 rw [Op.equalIn]
 simp only [Sem.run_bind, run_underlying' (boolT_spec h), Result.andThen_ok]
 rfl
theorem forIn_eq {α : Type} {P : Program} (w : World) (c : α → Bool) (body : α → Option Bool × Unit → Sem (ForInStep (Option Bool × Unit))) : ∀ (l : List α),
  (∀ x, x ∈ l → (body x (none, ())).run P w = .ok (if c x = true then ForInStep.yield (none, ()) else ForInStep.done (some false, ())) w) →
  (forIn l (none, ()) body).run P w = .ok (if l.all c = true then (none, ()) else (some false, ())) w := by
 intro l
 induction l with
 | nil => intro _; rfl
 | cons x l ih =>
  intro h
  rw [List.forIn_cons, Sem.run_bind, h x (by simp)]
  simp only [Result.andThen_ok]
  cases hc : c x with
  | true =>
   simp only [if_true]
   rw [ih (fun y hy => h y (by simp [hy]))]
   simp [hc]
  | false => simp [hc]
theorem EqR_arr {d t N : Nat} {k : IntKind} {u v : Vector Int N} (h : arrIntT P t = some (N, k)) : EqR P (d + 1 + 1) t (.agg (List.toArray (acells k N u))) (.agg (List.toArray (acells k N v))) (decide (u = v)) := fun w => by
 obtain ⟨e, i, h1, h2, h3, h4⟩ := arrIntT_spec h
 have hk : intKindOf P e = some k := by simp [intKindOf, h2]
 rw [Op.equalIn]
 have hsz : (Go.sizeOf e).run P w = .ok 1 w := by simp [Go.sizeOf, typeInfo, h3, h4]
 simp only [Sem.run_bind, run_underlying' h1, Result.andThen_ok, hsz]
 simp only [Std.Legacy.Range.forIn_eq_forIn_range', Std.Legacy.Range.size, Nat.sub_zero, Nat.add_sub_cancel, Nat.div_one]
 rw [forIn_eq w (fun j => decide (vget u j = vget v j)) _ _ (fun j hj => ?_)]
 ·simp only [Result.andThen_ok]
  have key : (List.range' 0 N).all (fun j => decide (vget u j = vget v j)) = decide (u = v) := by
   rw [Bool.eq_iff_iff]
   simp only [List.all_eq_true, decide_eq_true_eq, List.mem_range'_1]
   constructor
   ·intro hall
    apply Vector.ext
    intro j hj
    have := hall j ⟨Nat.zero_le _, by omega⟩
    simpa [vget, hj] using this
   ·rintro rfl j _; rfl
  rw [key]
  cases decide (u = v) <;> rfl
 ·have hjN : j < N := by simp only [List.mem_range'_1] at hj; omega
  simp only [Sem.run_bind, part_acells h2 _ hjN, Result.andThen_ok]
  rw [EqR_int hk w]
  simp only [Result.andThen_ok]
  cases decide (vget u j = vget v j) <;> rfl
theorem part_run {t : TypeId} {cs : List Value} {off : Nat} {v : Value} (hv : ldv P t cs off = some v) (w : World) : (part t cs.toArray off).run P w = .ok v w := by
 rcases ldv_cases hv with ⟨ii, hi, hagg, hle, rfl⟩ | ⟨hagg, hv⟩
 ·simp [part, hagg, Go.sizeOf, typeInfo, hi]
 ·simp [part, hagg, hv]
def EqFs (P : Program) (d : Nat) (xs ys : List Value) : List Field → Bool → Prop
 | [], b => b = true
 | f :: fs, b => ∃ u v b1 b2, (f.name == "_") = false ∧ ldv P f.type xs f.offset = some u ∧ ldv P f.type ys f.offset = some v ∧ EqR P d f.type u v b1 ∧ EqFs P d xs ys fs b2 ∧ b = (b1 && b2)
def structT (P : Program) (t : TypeId) : Option (List Field) :=
 match P.underlying t with
 | some (.struct fs) => bif P.stoodInHeld t then none else some fs.toList
 | _ => none
theorem structT_spec {t : Nat} {fs : List Field} (h : structT P t = some fs) : P.underlying t = some (.struct fs.toArray) ∧ P.stoodInHeld t = false := by
 unfold structT at h
 split at h
 ·rename_i hu
  cases hs : P.stoodInHeld t with
  | true => rw [hs] at h; cases h
  | false => rw [hs] at h; simp only [cond_false, Option.some.injEq] at h; subst h; exact ⟨by simpa using hu, rfl⟩
 ·cases h
theorem EqFs_run {d : Nat} {xs ys : List Value} (w : World) : ∀ (fs : List Field) (b : Bool), EqFs P d xs ys fs b →
  (forIn fs ((none : Option Bool), ()) fun f _ => (if f.name ≠ "_" then do
   if !(← Op.equalIn d f.type (← part f.type xs.toArray f.offset) (← part f.type ys.toArray f.offset)) then pure (ForInStep.done (some false, ())) else pure (ForInStep.yield (none, ()))
   else pure (ForInStep.yield (none, ())) : Sem (ForInStep (Option Bool × Unit)))).run P w = .ok (if b = true then (none, ()) else (some false, ())) w := by
 intro fs
 induction fs with
 | nil => intro b h; simp only [EqFs] at h; subst h; rfl
 | cons f fs ih =>
  intro b h
  obtain ⟨u, v, b1, b2, hn, hu, hv, he, hr, rfl⟩ := h
  have hn' : f.name ≠ "_" := by simpa using hn
  rw [List.forIn_cons, Sem.run_bind]
  simp only [hn', ne_eq, not_false_eq_true, if_true, Sem.run_bind, part_run hu, part_run hv, Result.andThen_ok, he w]
  cases b1 with
  | true =>
   simp only [Bool.not_true, Bool.false_eq_true, if_false, Sem.run_pure, Result.andThen_ok, Bool.true_and]
   have := ih b2 hr
   simpa only [ne_eq] using this
  | false => rfl
theorem EqR_struct {d t : Nat} {xs ys : List Value} {fs : List Field} {b : Bool} (h : structT P t = some fs) (hf : EqFs P d xs ys fs b) : EqR P (d + 1) t (.agg (List.toArray xs)) (.agg (List.toArray ys)) b := fun w => by
 obtain ⟨h1, h2⟩ := structT_spec h
 have hrun := EqFs_run w fs b hf
 rw [Op.equalIn]
 simp only [Sem.run_bind, run_underlying' h1, Result.andThen_ok, run_program, h2, Bool.false_eq_true, if_false]
 simp only [List.forIn_toArray]
 refine Eq.trans (congrArg (fun r => Result.andThen r _) ?_) (?_ : Result.andThen (.ok (if b = true then (none, ()) else (some false, ())) w) _ = _)
 ·exact hrun
 ·cases b <;> rfl
theorem eqR_bin {t : TypeId} {x y : Operand} {u v : Value} {b : Bool} (hg : ∀ w, (eqGuard .eql t x y u v).run P w = .ok () w) (h : EqR P (9999 + 1) t u v b)
  (hb : binOp .eql t u v = (do pure (.bool (← Op.equal t u v)))) (w : World) : (do eqGuard .eql t x y u v; binOp .eql t u v : Sem Value).run P w = .ok (.bool b) w := by
 refine bin_run hg (fun w => ?_) w
 rw [hb, equal_one, Sem.run_bind, h w]
 rfl
theorem neR_bin {t : TypeId} {x y : Operand} {u v : Value} {b : Bool} (hg : ∀ w, (eqGuard .neq t x y u v).run P w = .ok () w) (h : EqR P (9999 + 1) t u v b)
  (hb : binOp .neq t u v = (do pure (.bool (!(← Op.equal t u v))))) (w : World) : (do eqGuard .neq t x y u v; binOp .neq t u v : Sem Value).run P w = .ok (.bool (!b)) w := by
 refine bin_run hg (fun w => ?_) w
 rw [hb, equal_one, Sem.run_bind, h w]
 rfl
theorem guard_agg {op : BinOp} {t : TypeId} {x y : Operand} {xs ys : Array Value} (h : P.eqGuardType P.depth t = false) (w : World) : (eqGuard op t x y (.agg xs) (.agg ys)).run P w = .ok () w := by
 cases op <;> simp [eqGuard, h]
theorem eqagg_run {t : TypeId} {x y : Operand} {xs ys : Array Value} {b : Bool} (hg : P.eqGuardType P.depth t = false) (h : EqR P (9999 + 1) t (.agg xs) (.agg ys) b) (w : World) : (do eqGuard .eql t x y (.agg xs) (.agg ys); binOp .eql t (.agg xs) (.agg ys) : Sem Value).run P w = .ok (.bool b) w :=
 eqR_bin (guard_agg hg) h rfl w
theorem neagg_run {t : TypeId} {x y : Operand} {xs ys : Array Value} {b : Bool} (hg : P.eqGuardType P.depth t = false) (h : EqR P (9999 + 1) t (.agg xs) (.agg ys) b) (w : World) : (do eqGuard .neq t x y (.agg xs) (.agg ys); binOp .neq t (.agg xs) (.agg ys) : Sem Value).run P w = .ok (.bool (!b)) w :=
 neR_bin (guard_agg hg) h rfl w
end
/-! ### bytes and strings -/
def bofL (l : List Int) : ByteArray := l.foldl (fun s n => s.push (UInt8.ofNat n.toNat)) ByteArray.empty
section
variable {P : Program} {ρ : Option Nat} {ops : Array Oper} {Q : Exit → Act → World → Prop} {a : Act} {n : Nat} {ds : List Deferred} {E : List (Nat × Value)}
variable {g w w0 : World} {D D0 : Snap} {L L0 : List Blk} {i : Nat} {o : Oper} {d : Nat} {C : Act → World → Prop} {C1 : Act → Prop} {R : World → World → Prop}
def b2sT (P : Program) (s t : TypeId) : Bool :=
 match P.underlying s, P.underlying t with
 | some (.slice e), some .string => match P.underlying e with | some (.int .u8) => true | _ => false
 | _, _ => false
theorem b2sT_spec {s t : Nat} (h : b2sT P s t = true) : ∃ e, P.underlying s = some (.slice e) ∧ P.underlying t = some .string ∧ P.underlying e = some (.int .u8) := by
 unfold b2sT at h
 split at h
 ·rename_i h1 h2
  split at h
  ·rename_i h3; exact ⟨_, h1, h2, h3⟩
  ·cases h
 ·cases h
theorem forIn_bytes (w : World) (f : Value → ByteArray → Sem (ForInStep ByteArray)) (hf : ∀ n s, f (.int .u8 n) s = pure (ForInStep.yield (s.push (UInt8.ofNat n.toNat)))) : ∀ (l : List Int) (s : ByteArray),
  (forIn (l.map (Value.int .u8)) s f).run P w = .ok (l.foldl (fun s n => s.push (UInt8.ofNat n.toNat)) s) w := by
 intro l
 induction l with
 | nil => intro s; rfl
 | cons x l ih =>
  intro s
  rw [List.map_cons, List.forIn_cons, Sem.run_bind, hf]
  simp only [Sem.run_pure, Result.andThen_ok, List.foldl_cons]
  exact ih _
/-- a string of bytes -/
theorem tk_b2s {s t : TypeId} {x : Operand} {A : Option Addr} {cap : Nat} {l : List Int} (ho : ops[i]? = some o) (hop : o.op = .convert s t x) (hg : guardOf ops E o = some true) (hd : o.dst = some d) (hE : Env a n ds E) (hn : Nat.blt d n = true)
  (_ : Stp g w0 D0 L0 w D L) (hx : evalO E x = some (.slice A l.length cap)) (hT : b2sT P s t = true) (hl : Sl (kdInt .u8) D A cap l) (hM : ∀ w', R w w' → Sees D w')
  (k : ∀ a, Env a n ds ((d, .string (bofL l)) :: E) → C1 a) : Tk P ops R i n ds E a w C1 := by
 obtain ⟨e, h1, h2, h3⟩ := b2sT_spec hT
 obtain ⟨_, _, cs, hr, hc⟩ := hl
 have hcs := RL_int.1 hr
 refine tk_of (v := .string (bofL l)) hE ho hg hd hn (by simp [hop, noDefer]) (fun w' hk => ?_) k
 have hconv : (convert s t (.slice A l.length cap)).run P w' = (Conv.bytesToString (.slice A l.length cap)).run P w' := by
  simp [convert, run_underlying' h1, run_underlying' h2, run_underlying' h3]
 have hb : (Conv.bytesToString (.slice A l.length cap)).run P w' = .ok (.string (bofL l)) w' := by
  by_cases hl0 : l = []
  ·subst hl0
   cases A with
   | none => simp [Conv.bytesToString, bofL]
   | some p => simp [Conv.bytesToString, loadCells, loadCellsFrom, bofL]
  ·obtain ⟨y0, l', hyl⟩ := List.exists_cons_of_ne_nil hl0
   rcases hc with hnil | ⟨b, off, c0, T0, fr0, rfl, hb, hcell0⟩
   ·rw [hcs, hyl] at hnil; simp at hnil
   obtain ⟨c, T, fr, hne, hpre⟩ := hM w' hk _ _ _ _ hb _ _ (hcell0 0 (.int .u8 y0) (by rw [hcs, hyl]; rfl))
   have hcell : ∀ j u, cs[j]? = some u → c[off + j]? = some u := fun j u hu => hpre _ _ (hcell0 j u hu)
   have hload := run_loadCells_list (P := P) (w := w') ⟨b, off, none⟩ cs (fun j u hu => by
    rw [addr_add, cell_of_row w' b (off + j) c T fr hne]
    exact hcell j u hu)
   have hlen : cs.length = l.length := by rw [hcs]; simp
   rw [hlen] at hload
   simp only [Conv.bytesToString, Sem.run_bind, hload, Result.andThen_ok, List.forIn_toArray, hcs]
   simp only [bofL]
   rw [forIn_bytes (P := P) w' _ (fun _ _ => rfl) l ByteArray.empty]
   rfl
 simp [execOp, hop, hE.eval hx, hconv, hb]
def s2sT (P : Program) (s : TypeId) : Bool :=
 match P.underlying s with
 | some (.slice e) => match P.underlying e with | some (.int .u8) => true | _ => false
 | _ => false
theorem s2sT_spec {s : Nat} (h : s2sT P s = true) : ∃ e, P.underlying s = some (.slice e) ∧ P.underlying e = some (.int .u8) := by
 unfold s2sT at h
 split at h
 ·rename_i h1
  split at h
  ·rename_i h3; exact ⟨_, h1, h3⟩
  ·cases h
 ·cases h
/-- '[]byte("..")' -/
theorem op_lit {T s : TypeId} {x : Operand} {A : Option Addr} {l : List Int} {q : Blk} {cap : Nat} (ho : ops[i]? = some o) (hop : o.op = .convert s s x) (hg : guardOf ops E o = some true) (hd : o.dst = some d) (hE : Env a n ds E) (hn : Nat.blt d n = true)
  (hS : Stp g w0 D0 L0 w D (q :: L)) (hx : evalO E x = some (.slice A l.length cap)) (hT : s2sT P s = true) (hl : OwnD (kdInt .u8) T D A cap l q) (hpos : Nat.blt 0 l.length = true)
  (k : ∀ a D' w', Keeps (ids [q]) w w' → D.le D' → Env a n ds ((d, .slice A l.length cap) :: E) → Sl (kdInt .u8) D' A cap l → Stp g w0 D0 L0 w' D' L → C a w') : Op1 P ρ ops Q i C a w := by
 obtain ⟨e, h1, h3⟩ := s2sT_spec hT
 obtain ⟨cs, hO, hr⟩ := hl
 cases q with
 | none =>
  have h0 := (hO.2.2.2.2 rfl).2
  have : 0 < l.length := by simpa [Nat.blt_eq] using hpos
  omega
 | some p =>
  obtain ⟨b, u⟩ := p
  obtain ⟨rfl, g1, g2, g3, Cl, k0, rfl, _, hk0, g4, g5⟩ := hO
  obtain rfl := hk0 rfl
  have hh := hS.heap0
  have hsh : w.shape? b = some (T, Cl.size) := by simp [World.shape?, hh]
  refine op_val (v := .slice (some ⟨b, 0, none⟩) l.length cap) (w' := w.freeze { block := b, off := Cl.size } 1) hE ho hg (by simp [hd, dstOk, hn]) (by simp [hop, noDefer]) ?_ ?_
  ·simp [execOp, hop, hE.eval hx, convert, run_underlying' h1, run_underlying' h3, markStringish, hsh]
  ·rw [hd]
   intro a' h'
   have hfz : (w.freeze { block := b, off := Cl.size } 1).heap[b]? = some (.cells Cl T (Cl.size, Cl.size + 1)) := by
    simp only [World.freeze, Nat.one_ne_zero, if_false]
    rw [Array.getElem?_modify, if_pos rfl, hh]
    rfl
   have hoth : ∀ k, k ≠ b → (w.freeze { block := b, off := Cl.size } 1).heap[k]? = w.heap[k]? := fun k hk => by
    simp only [World.freeze, Nat.one_ne_zero, if_false]
    rw [Array.getElem?_modify, if_neg (Ne.symm hk)]
   have hsize : (w.freeze { block := b, off := Cl.size } 1).heap.size = w.heap.size := by simp [World.freeze]
   have hS' := hS.put0 (w' := w.freeze { block := b, off := Cl.size } 1) hsize rfl rfl rfl hfz hoth
   obtain ⟨hle, hS2⟩ := hS'.freeze (Nat.zero_le _)
   refine k a' _ _ ⟨by rw [hsize]; exact Nat.le_refl _, fun k _ hk => hoth k (by simpa [ids, bid] using hk)⟩ hle h' ⟨g1, g2, cs, hr.mono hle, .inr ⟨b, 0, Cl, T, (Cl.size, Cl.size + 1), rfl, by simp [Snap.ins], fun j u hu => ?_⟩⟩ hS2
   rw [← g5, List.getElem?_take] at hu
   split at hu
   ·simpa using hu
   ·cases hu
end
end Go.Sep
