/-
 Shortest forms of the rules: what a reader can look up in the code is looked up, not written.
-/
import Derived.Test.YthnfokfankaenaaDoorSepQ
namespace Go.Sep
section
variable {P : Program} {ρ : Option Nat} {ops : Array Oper} {Q : Exit → Act → World → Prop} {K : Act → World → Prop} {Rf : Nat → World → World → Prop} {a : Act} {w g w0 : World} {n : Nat} {ds : List Deferred} {E : List (Nat × Value)} {D0 D : Snap} {L0 L : List (Option (Nat × OB))}
theorem sN {i : Nat} (m j : Nat) (N : List (Nat × Value)) (hE : Env a n ds E)
  (k : ∀ a', Env a' n ds (catE N E) → At P ρ ops Q j a' w) (h : (evalSeg P ops n m i E).map (fun X => (sub X N, dstsOk ops N E m i)) = some (sub' N, true) := by kernel_rfl) (hj : i + m = j := by exact rfl) : At P ρ ops Q i a w := segN m N hE h hj k
theorem aF {i s m b off d : Nat} {x : Operand} {o : Oper} (fo ft off' : Nat) (hE : Env a n ds E) (k : ∀ a, Env a n ds ((d, .pointer (some ⟨b, off', none⟩)) :: E) → At P ρ ops Q (i + 1) a w)
  (ho : ops[i]? = some o := by exact rfl) (hop : o.op = .fieldAddr s x m := by exact rfl) (hg : guardOf ops E o = some true := by exact rfl) (hd : o.dst = some d := by exact rfl) (hn : Nat.blt d n = true := by exact rfl)
  (hx : evalO E x = some (.pointer (some ⟨b, off, none⟩)) := by exact rfl) (hT : fldT P s m = some (fo, ft) := by kernel_rfl) (hoff : off + fo = off' := by exact rfl) (hi : Nat.blt i ops.size = true := by exact rfl) : At P ρ ops Q i a w :=
 at_op (op_tk hE (g_fieldAddr off' ho hop hg hd hE hn hx hT hoff k)) hi
theorem aL {i d b off : Nat} {t : TypeId} {x : Operand} {c : List Value} {T : TypeId} {o : Oper} (j : Nat) (v : Value) (hE : Env a n ds E) (hS : Stp g w0 D0 L0 w D L) (k : ∀ a, Env a n ds ((d, v) :: E) → At P ρ ops Q (i + 1) a w)
  (ho : ops[i]? = some o := by exact rfl) (hop : o.op = .load t x := by exact rfl) (hg : guardOf ops E o = some true := by exact rfl) (hd : o.dst = some d := by exact rfl) (hn : Nat.blt d n = true := by exact rfl)
  (hx : evalO E x = some (.pointer (some ⟨b, off, none⟩)) := by exact rfl) (hj : L[j]? = some (bx b T c) := by exact rfl) (hv : ldv P t c off = some v := by kernel_rfl) (hi : Nat.blt i ops.size = true := by exact rfl) : At P ρ ops Q i a w :=
 at_op (op_tk hE (tk_load j v ho hop hg hd hE hn hS hx hj hv (kL (j := j) hS hj List.not_mem_nil) k)) hi
theorem wS [hI : Idle Rf] {o : Oper} (i m fuel : Nat) {listed : Array Bool} (hE : Env a n ds E) (k : ∀ a', Env a' n ds (upd E o.dst undef) → wpG P ρ ops Rf K (Qn K) fuel (lb ops.size m) a' w)
  (hc : okT ops listed i m = true := by kernel_rfl) (ho : ops[i]? = some o := by exact rfl) (hg : guardOf ops E o = some false := by exact rfl) (hd : dstOk n o.dst = true := by exact rfl) (hnd : noDefer o.op = true := by exact rfl) : wpG P ρ ops Rf K (Qn K) (fuel + 1) listed a w :=
 tW i m hc hE (fun _ => tk_skip hE ho hg hd hnd k)
theorem wP [hI : Idle Rf] {d : Nat} {o : Oper} (i m fuel : Nat) {listed : Array Bool} (v : Value) (hE : Env a n ds E) (k : ∀ a', Env a' n ds ((d, v) :: E) → wpG P ρ ops Rf K (Qn K) fuel (lb ops.size m) a' w)
  (hc : okT ops listed i m = true := by kernel_rfl) (ho : ops[i]? = some o := by exact rfl) (hg : guardOf ops E o = some true := by exact rfl) (hd : o.dst = some d := by exact rfl) (hn : Nat.blt d n = true := by exact rfl)
  (hsrc : ∀ s t x, o.op = .convert s t x → (P.underlying s).isSome = true := by exact fun _ _ _ e => by cases e) (h : pureOp P E o.op = some v := by kernel_rfl) : wpG P ρ ops Rf K (Qn K) (fuel + 1) listed a w :=
 tW i m hc hE (fun _ => tk_pure v hE ho hg hd hn hsrc h k)
theorem wF [hI : Idle Rf] {s m' b off d : Nat} {x : Operand} {o : Oper} (i m fuel : Nat) {listed : Array Bool} (fo ft off' : Nat) (hE : Env a n ds E) (k : ∀ a', Env a' n ds ((d, .pointer (some ⟨b, off', none⟩)) :: E) → wpG P ρ ops Rf K (Qn K) fuel (lb ops.size m) a' w)
  (hc : okT ops listed i m = true := by kernel_rfl) (ho : ops[i]? = some o := by exact rfl) (hop : o.op = .fieldAddr s x m' := by exact rfl) (hg : guardOf ops E o = some true := by exact rfl) (hd : o.dst = some d := by exact rfl) (hn : Nat.blt d n = true := by exact rfl)
  (hx : evalO E x = some (.pointer (some ⟨b, off, none⟩)) := by exact rfl) (hT : fldT P s m' = some (fo, ft) := by kernel_rfl) (hoff : off + fo = off' := by exact rfl) : wpG P ρ ops Rf K (Qn K) (fuel + 1) listed a w :=
 tW i m hc hE (fun _ => g_fieldAddr off' ho hop hg hd hE hn hx hT hoff k)
theorem aC {i d : Nat} {o : Oper} {f : FuncId} {fv : Operand} {xs : Array Operand} {ts : Array TypeId} {captured : Array Value} {args all : List Value} {R : Value → World → Prop} (ho : ops[i]? = some o) (hop : o.op = .call { callee := .value fv, args := xs, argTypes := ts }) (hg : guardOf ops E o = some true) (hd : o.dst = some d) (hE : Env a n ds E) (hn : Nat.blt d n = true)
  (hf : evalO E fv = some (.func (.func f) #[] captured)) (hxs : evalArgs E xs.toList = some args) (hall : args ++ captured.toList = all)
  (hc : CallsIn (Fw none) 0 P f all.toArray w fun e w2 => ∃ v, e = .returned v ∧ R v w2)
  (k : ∀ a v w', R v w' → Env a n ds ((d, v) :: E) → At P ρ ops Q (i + 1) a w') (hfn : (P.funcs[f]?).map (fun F => (F.name == "runtime.NumGoroutine", F.body.isNone)) = some (false, false) := by kernel_rfl) (hi : Nat.blt i ops.size = true := by exact rfl) : At P ρ ops Q i a w :=
 at_op (op_call ho hop hg hd hE hn hf hxs hall hfn hc k) hi
end
/-! ### what lies still stays known, where the order is open -/
theorem Sees.mono {D D' : Snap} {w : World} (h : Sees D' w) (hl : D.le D') : Sees D w := fun b C T fr hb i u hu => by
 obtain ⟨o', h1, h2⟩ := hl _ _ hb
 obtain ⟨C', T', fr', rfl, h3⟩ := opre_cells h2
 obtain ⟨C2, T2, fr2, h4, h5⟩ := h _ _ _ _ h1 i u (h3 i u hu)
 exact ⟨C2, T2, fr2, h4, fun j v hv => h5 j v (h3 j v hv)⟩
/-- these blocks are as they were, and what is known is still so -/
abbrev RD (D : Snap) (l : List Nat) (w w' : World) : Prop := RP l w w' ∧ (Sees D w → Sees D w')
instance (D : Snap) (ss l : List Nat) : Idle (fun j => RD D (plOf ss l j)) := ⟨fun _ w => ⟨RP.refl _ w, fun h => h⟩⟩
theorem tD {P : Program} {ρ : Option Nat} {ops : Array Oper} {K : Act → World → Prop} {a : Act} {w : World} {n : Nat} {ds : List Deferred} {E : List (Nat × Value)} {D : Snap} {ss Pl : List Nat} (i m : Nat) {fuel : Nat} {listed : Array Bool} (hc : (okT ops listed i m && calmB (msOf ss) ops listed i) = true) (hE : Env a n ds E)
  (h : Tk P ops (RD D Pl) i n ds E a w (fun a => wpG P ρ ops (fun j => RD D (plOf ss Pl j)) K (Qn K) fuel (lb ops.size m) a w)) : wpG P ρ ops (fun j => RD D (plOf ss Pl j)) K (Qn K) (fuel + 1) listed a w := by
 rw [Bool.and_eq_true] at hc
 exact takeR (R := RD D Pl) (fun w => ⟨RP.refl _ w, fun h => h⟩) (fun _ _ _ h h' => ⟨h.1.trans h'.1, fun s => h'.2 (h.2 s)⟩) (fun _ w => ⟨RP.refl _ w, fun h => h⟩) i _ (okT_spec hc.1).1 (okT_spec hc.1).2.1 (okT_spec hc.1).2.2.1 (okT_spec hc.1).2.2.2
  (fun j oj hj hne hun hno w w' hk => by rw [plOf_ms (calmB_spec hc.2 j oj hj hne hun hno)] at hk; exact hk) hE h
theorem le2 {a b c : Snap} (h1 : Snap.le a b) (h2 : Snap.le b c) : Snap.le a c := Snap.le.trans h1 h2
end Go.Sep
