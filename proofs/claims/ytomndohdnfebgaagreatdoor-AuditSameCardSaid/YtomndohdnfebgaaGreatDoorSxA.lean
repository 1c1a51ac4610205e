/-
 Symbolic execution, the words: kinds of data, symbolic values, states.
-/
import Derived.Test.YtomndohdnfebgaaGreatDoorSepQ
namespace Go.Sep
section
variable {P : Program} {ρ : Option Nat} {ops : Array Oper} {Q : Exit → Act → World → Prop} {K : Act → World → Prop} {Rf : Nat → World → World → Prop} {a : Act} {w g w0 : World} {n : Nat} {ds : List Deferred} {E : List (Nat × Value)} {D0 D : Snap} {L0 L : List (Option (Nat × OB))}
theorem sN {i : Nat} (m j : Nat) (N : List (Nat × Value)) (hE : Env a n ds E)
  (k : ∀ a', Env a' n ds (catE N E) → At P ρ ops Q j a' w) (h : (evalSeg P ops n m i E).map (fun X => (sub X N, dstsOk ops N E m i)) = some (sub' N, true) := by kernel_rfl) (hj : i + m = j := by exact rfl) : At P ρ ops Q i a w := segN m N hE h hj k
theorem wP [hI : Idle Rf] {d : Nat} {o : Oper} (i m fuel : Nat) {listed : Array Bool} (v : Value) (hE : Env a n ds E) (k : ∀ a', Env a' n ds ((d, v) :: E) → wpG P ρ ops Rf K (Qn K) fuel (lb ops.size m) a' w)
  (hc : okT ops listed i m = true := by kernel_rfl) (ho : ops[i]? = some o := by exact rfl) (hg : guardOf ops E o = some true := by exact rfl) (hd : o.dst = some d := by exact rfl) (hn : Nat.blt d n = true := by exact rfl)
  (hsrc : ∀ s t x, o.op = .convert s t x → (P.underlying s).isSome = true := by exact fun _ _ _ e => by cases e) (h : pureOp P E o.op = some v := by kernel_rfl) : wpG P ρ ops Rf K (Qn K) (fuel + 1) listed a w :=
 tW i m hc hE (fun _ => tk_pure v hE ho hg hd hn hsrc h k)
theorem oC {d : Nat} {o : Oper} {f : FuncId} {fv : Operand} {xs : Array Operand} {ts : Array TypeId} {captured : Array Value} {args all : List Value} {R : Value → World → Prop} (i m fuel : Nat) {listed : Array Bool} (ho : ops[i]? = some o) (hop : o.op = .call { callee := .value fv, args := xs, argTypes := ts }) (hg : guardOf ops E o = some true) (hd : o.dst = some d) (hE : Env a n ds E) (hn : Nat.blt d n = true)
  (hf : evalO E fv = some (.func (.func f) #[] captured)) (hxs : evalArgs E xs.toList = some args) (hall : args ++ captured.toList = all)
  (hc : CallsIn (Fw none) 0 P f all.toArray w fun e w2 => ∃ v, e = .returned v ∧ R v w2)
  (k : ∀ a v w', R v w' → Env a n ds ((d, v) :: E) → Rf i w w' ∧ wpG P ρ ops Rf K (Qn K) fuel (lb ops.size m) a w') (hfn : (P.funcs[f]?).map (fun F => (F.name == "runtime.NumGoroutine", F.body.isNone)) = some (false, false) := by kernel_rfl)
  (hl : (isOnly (Region.ready .any ops listed) i && setB ops listed i m) = true := by kernel_rfl) : wpG P ρ ops Rf K (Qn K) (fuel + 1) listed a w :=
 oG i m hl (op_call ho hop hg hd hE hn hf hxs hall hfn hc k)
/-- a function's end with one result -/
theorem rT {fn : Func} {R : Ending → World → Prop} (t : Nat) (v : Value) (hE : Env a n [] E) (hR : R (.returned (retV [v])) w) (h : fn.results.toList = [.tmp t] := by exact rfl) (hv : ResOk P E w [.tmp t] [v] := by exact ⟨_, _, rfl, rfl, rfl⟩) : bodyPost P fn R .ret a w :=
 ret_gen [v] hE (by rw [h]; exact hv) hR
theorem aC {i d : Nat} {o : Oper} {f : FuncId} {fv : Operand} {xs : Array Operand} {ts : Array TypeId} {captured : Array Value} {args all : List Value} {R : Value → World → Prop} (ho : ops[i]? = some o) (hop : o.op = .call { callee := .value fv, args := xs, argTypes := ts }) (hg : guardOf ops E o = some true) (hd : o.dst = some d) (hE : Env a n ds E) (hn : Nat.blt d n = true)
  (hf : evalO E fv = some (.func (.func f) #[] captured)) (hxs : evalArgs E xs.toList = some args) (hall : args ++ captured.toList = all)
  (hc : CallsIn (Fw none) 0 P f all.toArray w fun e w2 => ∃ v, e = .returned v ∧ R v w2)
  (k : ∀ a v w', R v w' → Env a n ds ((d, v) :: E) → At P ρ ops Q (i + 1) a w') (hfn : (P.funcs[f]?).map (fun F => (F.name == "runtime.NumGoroutine", F.body.isNone)) = some (false, false) := by kernel_rfl) (hi : Nat.blt i ops.size = true := by exact rfl) : At P ρ ops Q i a w :=
 at_op (op_call ho hop hg hd hE hn hf hxs hall hfn hc k) hi
end
/-! ### operations that read owned blocks, many at once -/
def blkO (L : List Blk) (j : Nat) : Option (Nat × List Value) := match L[j]? with
 | some (some (b, (.cells C _ (0, 0), _))) => some (b, C.toList)
 | _ => none
def blkB (L : List Blk) (j : Nat) : Nat := match blkO L j with
 | some (b, _) => b
 | none => 0
def memOp (P : Program) (E : List (Nat × Value)) (L : List Blk) (js : List Nat) : Op → Option (Value × List (Nat × Nat) × List Nat)
 | .fieldAddr s x m => match evalO E x with
  | some (.pointer (some ⟨b, off, none⟩)) => match fldT P s m with
   | some (fo, _) => some (.pointer (some ⟨b, off + fo, none⟩), [], js)
   | none => none
  | _ => none
 | .load t x => match js with
  | j :: js => match evalO E x with
   | some (.pointer (some ⟨b, off, none⟩)) => match blkO L j with
    | some (b', c) => match ldv P t c off with
     | some v => some (v, [(b, b')], js)
     | none => none
    | none => none
   | _ => none
  | [] => none
 | _ => none
def evalM (P : Program) (ops : Array Oper) (n : Nat) (L : List Blk) : Nat → Nat → List Nat → List (Nat × Value) → Option (List (Nat × Value) × List (Nat × Nat))
 | 0, _, _, E => some (E, [])
 | m + 1, i, js, E =>
  match ops[i]? with
  | none => none
  | some o =>
   match o.dst with
   | none => none
   | some d => bif Nat.blt d n then
    match guardOf ops E o with
    | some false => evalM P ops n L m (i + 1) js ((d, undef) :: E)
    | some true => bif srcOk P o.op then
      match pureOp P E o.op with
      | some v => evalM P ops n L m (i + 1) js ((d, v) :: E)
      | none => match memOp P E L js o.op with
       | some (v, e, js') => match evalM P ops n L m (i + 1) js' ((d, v) :: E) with
        | some (X, es) => some (X, e ++ es)
        | none => none
       | none => none
     else none
    | none => none
   else none
def allEq : List (Nat × Nat) → Prop
 | [] => True
 | p :: l => p.1 = p.2 ∧ allEq l
theorem allEq_app : ∀ {l m : List (Nat × Nat)}, allEq (l ++ m) → allEq l ∧ allEq m
 | [], _, h => ⟨trivial, h⟩
 | _ :: _, _, h => ⟨⟨h.1, (allEq_app h.2).1⟩, (allEq_app h.2).2⟩
theorem allEq_map {α : Type} (f : α → Nat) : ∀ l : List α, allEq (l.map fun j => (f j, f j))
 | [] => trivial
 | _ :: l => ⟨rfl, allEq_map f l⟩
section
variable {P : Program} {ρ : Option Nat} {ops : Array Oper} {Q : Exit → Act → World → Prop} {a : Act} {w g w0 : World} {n : Nat} {ds : List Deferred} {E : List (Nat × Value)} {D0 D : Snap} {L0 L : List Blk}
theorem blkO_spec {j b : Nat} {c : List Value} (h : blkO L j = some (b, c)) : ∃ T k, L[j]? = some (some (b, (.cells c.toArray T (0, 0), k))) := by
 unfold blkO at h
 split at h
 ·rename_i b' C T k hj
  simp only [Option.some.injEq, Prod.mk.injEq] at h
  obtain ⟨rfl, rfl⟩ := h
  exact ⟨T, k, by rw [hj]⟩
 ·cases h
theorem segM_sound (hS : Stp g w0 D0 L0 w D L) : ∀ (m i : Nat) (js : List Nat) (E X : List (Nat × Value)) (es : List (Nat × Nat)) (a : Act), Env a n ds E → evalM P ops n L m i js E = some (X, es) → allEq es →
  (∀ a', Env a' n ds X → At P ρ ops Q (i + m) a' w) → At P ρ ops Q i a w := by
 intro m
 induction m with
 | zero =>
  intro i js E X es a hE h _ k
  simp only [evalM, Option.some.injEq, Prod.mk.injEq] at h
  obtain ⟨rfl, rfl⟩ := h
  exact k a hE
 | succ m ih =>
  intro i js E X es a hE h he k
  simp only [evalM] at h
  split at h
  ·cases h
  ·rename_i o ho
   split at h
   ·cases h
   ·rename_i d hd
    cases hn : Nat.blt d n with
    | false => rw [hn] at h; cases h
    | true =>
     rw [hn] at h
     simp only [cond_true] at h
     have hi : Nat.blt i ops.size = true := by simpa [Nat.blt_eq] using (Array.getElem?_eq_some_iff.1 ho).1
     have hdo : dstOk n o.dst = true := by rw [hd]; simpa [dstOk] using hn
     have k' : ∀ a', Env a' n ds X → At P ρ ops Q (i + 1 + m) a' w := fun a' h' => by
      have := k a' h'
      rwa [show i + (m + 1) = i + 1 + m from by omega] at this
     split at h
     ·rename_i hg
      exact at_op (op_skip hE ho hg hdo fun a' h' => ih (i + 1) js _ X es a' (by rw [hd] at h'; exact h') h he k') hi
     ·rename_i hg
      cases hs : srcOk P o.op with
      | false => rw [hs] at h; cases h
      | true =>
       rw [hs] at h
       simp only [cond_true] at h
       split at h
       ·rename_i v hv
        have hr := pureOp_run (P := P) (w := w) hE (fun s d x e => by rw [e] at hs; exact hs) hv
        exact at_op (op_val hE ho hg hdo hr.2 hr.1 fun a' h' => ih (i + 1) js _ X es a' (by rw [hd] at h'; exact h') h he k') hi
       ·split at h
        ·rename_i v e js' hm
         split at h
         ·rename_i X' es' hX
          simp only [Option.some.injEq, Prod.mk.injEq] at h
          obtain ⟨rfl, rfl⟩ := h
          obtain ⟨he1, he2⟩ := allEq_app he
          have kk : ∀ a', Env a' n ds ((d, v) :: E) → At P ρ ops Q (i + 1) a' w := fun a' h' => ih (i + 1) js' _ _ _ a' h' hX he2 k'
          unfold memOp at hm
          split at hm
          ·rename_i s x mm hop
           split at hm
           ·rename_i b off hx
            split at hm
            ·rename_i fo ft hT
             simp only [Option.some.injEq, Prod.mk.injEq] at hm
             obtain ⟨rfl, rfl, rfl⟩ := hm
             exact at_op (op_tk hE (g_fieldAddr (off + fo) ho hop hg hd hE hn hx hT rfl kk)) hi
            ·cases hm
           ·cases hm
          ·rename_i t x hop
           split at hm
           ·rename_i j js2
            split at hm
            ·rename_i b off hx
             split at hm
             ·rename_i b' c hbo
              split at hm
              ·rename_i v' hv
               simp only [Option.some.injEq, Prod.mk.injEq] at hm
               obtain ⟨rfl, rfl, rfl⟩ := hm
               have hb : b = b' := he1.1
               subst hb
               obtain ⟨T, kq, hj⟩ := blkO_spec hbo
               refine at_op (op_tk hE (tk_of (v := v') hE ho hg hd hn (by simp [hop, noDefer]) (fun w' hk => ?_) kk)) hi
               simp [execOp, hop, hE.eval hx, Instr.loadAt, Instr.sureAddr, ldv_run (w := w') ((kL (j := j) hS hj List.not_mem_nil w' hk).trans (hS.heapAt hj)) hv]
              ·cases hm
             ·cases hm
            ·cases hm
           ·cases hm
          ·cases hm
         ·cases h
        ·cases h
     ·cases h
theorem evalM_look {N E0 : List (Nat × Value)} {t : Nat} (hN : look N t = none) (hE0 : (look E0 t).isSome = true) : ∀ (m i : Nat) (js : List Nat) (E X : List (Nat × Value)) (es : List (Nat × Nat)), evalM P ops n L m i js E = some (X, es) → dstsOk ops N E0 m i = true → look X t = look E t := by
 intro m
 induction m with
 | zero =>
  intro i js E X es h _
  simp only [evalM, Option.some.injEq, Prod.mk.injEq] at h
  rw [h.1]
 | succ m ih =>
  intro i js E X es h hd
  simp only [evalM] at h
  simp only [dstsOk, Bool.and_eq_true] at hd
  split at h
  ·cases h
  ·rename_i o ho
   rw [ho] at hd
   split at h
   ·cases h
   ·rename_i d hdst
    have hu : ∀ v, look ((d, v) :: E) t = look E t := by
     intro v
     have h1 := hd.1
     simp only [hdst, Bool.or_eq_true] at h1
     simp only [look]
     cases hb : Nat.beq d t with
     | false => rfl
     | true =>
      have := Nat.eq_of_beq_eq_true hb
      subst this
      rcases h1 with h1 | h1
      ·rw [hN] at h1; cases h1
      ·rw [Option.isNone_iff_eq_none] at h1
       rw [h1] at hE0; cases hE0
    cases hn : Nat.blt d n with
    | false => rw [hn] at h; cases h
    | true =>
     rw [hn] at h
     simp only [cond_true] at h
     split at h
     ·rw [ih _ _ _ _ _ h hd.2, hu]
     ·cases hs : srcOk P o.op with
      | false => rw [hs] at h; cases h
      | true =>
       rw [hs] at h
       simp only [cond_true] at h
       split at h
       ·rw [ih _ _ _ _ _ h hd.2, hu]
       ·split at h
        ·split at h
         ·rename_i X' es' hX
          simp only [Option.some.injEq, Prod.mk.injEq] at h
          obtain ⟨rfl, rfl⟩ := h
          rw [ih _ _ _ _ _ hX hd.2, hu]
         ·cases h
        ·cases h
     ·cases h
/-- m operations that write nothing, from the i-th on: js: the places of the blocks that the loads read, one behind the other -/
theorem sM {i : Nat} (m j : Nat) (js : List Nat) (N : List (Nat × Value)) (hE : Env a n ds E) (hS : Stp g w0 D0 L0 w D L)
  (k : ∀ a', Env a' n ds (catE N E) → At P ρ ops Q j a' w)
  (h : (evalM P ops n L m i js E).map (fun X => (sub X.1 N, dstsOk ops N E m i, X.2)) = some (sub' N, true, js.map fun j => (blkB L j, blkB L j)) := by kernel_rfl) (hj : i + m = j := by exact rfl) : At P ρ ops Q i a w := by
 subst hj
 cases he : evalM P ops n L m i js E with
 | none => rw [he] at h; cases h
 | some X =>
  obtain ⟨X, es⟩ := X
  rw [he] at h
  simp only [Option.map_some, Option.some.injEq, Prod.mk.injEq] at h
  refine segM_sound hS m i js E X es a hE he (by rw [h.2.2]; exact allEq_map _ js) fun a' h' => k a' ⟨h'.size, h'.ds, fun t v hv => h'.at_ t v ?_⟩
  rcases look_cat N t v hv with h1 | ⟨h1, h2⟩
  ·exact look_sub h.1 t v h1
  ·rw [evalM_look h1 (by rw [h2]; rfl) m i js E X es he h.2.1]
   exact h2
end
/-! ### short names -/
/-- where a return leads -/
class Rt (Q : Exit → Act → World → Prop) (Q' : outParam (Exit → Act → World → Prop)) : Prop where
 rt : ∀ a w, Q' .ret a w → Q .ret a w
instance (priority := low) (Q : Exit → Act → World → Prop) : Rt Q Q := ⟨fun _ _ h => h⟩
instance {K1 : Act → World → Prop} {Q Q' : Exit → Act → World → Prop} [h : Rt Q Q'] : Rt (Exit.then K1 Q) Q' := ⟨fun a w h' => then_ret (h.rt a w h')⟩
instance {id : Nat} {Q Q' : Exit → Act → World → Prop} [h : Rt Q Q'] : Rt (Exit.inBlock id Q) Q' := ⟨fun a w h' => block_ret (h.rt a w h')⟩
instance {X : Act → World → Prop} {Q Q' : Exit → Act → World → Prop} [h : Rt Q Q'] : Rt (Qx X Q) Q' := ⟨fun a w h' => qx_ret (h.rt a w h')⟩
theorem ret_ {Q Q' : Exit → Act → World → Prop} [h : Rt Q Q'] {a : Act} {w : World} (h' : Q' .ret a w) : Q .ret a w := h.rt a w h'
theorem bo (b : Bool) {p : Prop} (f : b = false → p) (t : b = true → p) : p := by
 cases b with
 | false => exact f rfl
 | true => exact t rfl
theorem Pick.d {α : Type} {L : List α} {x : α} {is : List Nat} {l : List α} (i : Nat) (t : Pick L is l) (h : L[i]? = some x := by exact rfl) : Pick L (i :: is) (x :: l) := .c i h t
theorem Stp.p {g w0 w : World} {D0 D : Snap} {L0 L L' : List Blk} {is : List Nat} (h : Stp g w0 D0 L0 w D L) (hp : Pick L is L') (hn : nodupN is = true := by exact rfl) : Stp g w0 D0 L0 w D L' := h.pk hp hn
theorem Env.wk {a : Act} {n : Nat} {ds : List Deferred} {E E' : List (Nat × Value)} (h : Env a n ds E) (hs : sub E E' = sub' E' := by kernel_rfl) : Env a n ds E' := h.weak hs
theorem lr {D : Snap} : D.le D := Snap.le.refl D
theorem sq {P : Program} {F : Fence} {n : Nat} {Q : Exit → Act → World → Prop} {a : Act} {w : World} {x y : Code} (h : x.wpIn F n P (Exit.then (y.wpIn F n P Q) Q) a w) : (Code.seq x y).wpIn F n P Q a w := wpIn_seq h
theorem ra {P : Program} {ρ : Option Nat} {ops : Array Oper} {Q : Exit → Act → World → Prop} {a : Act} {w : World} {id : Nat} (h : At P ρ ops Q 0 a w) : (Code.region id ops false).wpIn (Fw ρ) 0 P Q a w := region_at h
theorem ae {P : Program} {ρ : Option Nat} {ops : Array Oper} {Q : Exit → Act → World → Prop} {a : Act} {w : World} {i : Nat} (h : Q .normal a w) (hi : Nat.ble ops.size i = true := by exact rfl) : At P ρ ops Q i a w := at_end hi h
theorem si {α : Type} {x y : α} (h : some x = some y) : x = y := Option.some.inj h
theorem cf {b : Bool} {α : Type} {x y : Option α} {r : α} (hb : b = false) (h : (bif b then x else y) = some r) : y = some r := cond_f hb h
theorem ct {b : Bool} {α : Type} {x y : Option α} {r : α} (hb : b = true) (h : (bif b then x else y) = some r) : x = some r := cond_t hb h
theorem bs {α β : Type} {o : Option α} {f : α → Option β} {r : β} (h : o.bind f = some r) : ∃ x, o = some x ∧ f x = some r := bind_some h
/-! ### what lies still stays known, where the order is open -/
/-- these blocks are as they were, and what is known is still so -/
abbrev RD (D : Snap) (l : List Nat) (w w' : World) : Prop := RP l w w' ∧ (Sees D w → Sees D w')
instance (D : Snap) (ss l : List Nat) : Idle (fun j => RD D (plOf ss l j)) := ⟨fun _ w => ⟨RP.refl _ w, fun h => h⟩⟩
theorem le2 {a b c : Snap} (h1 : Snap.le a b) (h2 : Snap.le b c) : Snap.le a c := Snap.le.trans h1 h2
end Go.Sep
namespace Go.Sep
inductive Ty where
 | int (k : IntKind) | bool | str | arr (k : IntKind) (n : Nat) | sl (t : Ty) | st (n : Nat) | vec (n : Nat) (t : Ty)
def Ty.beq : Ty → Ty → Bool
 | .int k, .int k' => sameKind k k'
 | .bool, .bool => true
 | .str, .str => true
 | .arr k n, .arr k' n' => sameKind k k' && Nat.beq n n'
 | .sl t, .sl t' => Ty.beq t t'
 | .st n, .st n' => Nat.beq n n'
 | .vec n t, .vec n' t' => Nat.beq n n' && Ty.beq t t'
 | _, _ => false
theorem Ty.eq_of_beq : ∀ {s t : Ty}, Ty.beq s t = true → s = t := by
 intro s
 induction s with
 | int k => intro t h; cases t <;> simp only [Ty.beq, Bool.false_eq_true] at h; rw [sameKind_eq h]
 | bool => intro t h; cases t <;> simp only [Ty.beq, Bool.false_eq_true] at h; rfl
 | str => intro t h; cases t <;> simp only [Ty.beq, Bool.false_eq_true] at h; rfl
 | arr k n => intro t h; cases t <;> simp only [Ty.beq, Bool.false_eq_true, Bool.and_eq_true] at h; rw [sameKind_eq h.1, Nat.eq_of_beq_eq_true h.2]
 | sl s ih => intro t h; cases t <;> simp only [Ty.beq, Bool.false_eq_true] at h; rw [ih h]
 | st n => intro t h; cases t <;> simp only [Ty.beq, Bool.false_eq_true] at h; rw [Nat.eq_of_beq_eq_true h]
 | vec n s ih => intro t h; cases t <;> simp only [Ty.beq, Bool.false_eq_true, Bool.and_eq_true] at h; rw [Nat.eq_of_beq_eq_true h.1, ih h.2]
@[reducible] def den (f : Nat → Type) : Ty → Type
 | .int _ => Int
 | .bool => Bool
 | .str => ByteArray
 | .arr _ n => Vector Int n
 | .sl t => List (den f t)
 | .st n => f n
 | .vec _ t => List (den f t)
@[reducible] def TU (f : Nat → Type) : List Ty → Type
 | [] => Unit
 | [t] => den f t
 | t :: t' :: ts => den f t × TU f (t' :: ts)
/-- the structs of a program: as Lean types, with their fields -/
structure Tb where
 ty : Nat → Type
 fs : Nat → List Ty
 get : ∀ n, ty n → TU ty (fs n)
 of : ∀ n, TU ty (fs n) → ty n
 kd : ∀ n, Kd (ty n)
 tn : TypeId → Option Nat
 te : TypeId → Option Ty
/-- so many of a kind, one behind the other -/
@[reducible] def kdVec {α : Type} (n : Nat) (K : Kd α) : Kd (List α) where
 n := n * K.n
 r := fun D x c => x.length = n ∧ RL K D x c
 len := fun D x c h => by rw [h.2.len, h.1]
 one := fun D x c h => h.2.one
 mono := fun D D' x c hd h => ⟨h.1, h.2.mono hd⟩
@[reducible] def kdT (T : Tb) : (t : Ty) → Kd (den T.ty t)
 | .int k => kdInt k
 | .bool => kdBool
 | .str => kdStr
 | .arr k n => kdArr k n
 | .sl t => kdSlice (kdT T t)
 | .st n => T.kd n
 | .vec n t => kdVec n (kdT T t)
def kdUnit : Kd Unit where
 n := 0
 r := fun _ _ cs => cs = []
 len := fun _ _ _ h => by rw [h]; rfl
 one := fun _ _ _ h u hu => by rw [h] at hu; cases hu
 mono := fun _ _ _ _ _ h => h
@[reducible] def kdU (T : Tb) : (ts : List Ty) → Kd (TU T.ty ts)
 | [] => kdUnit
 | [t] => kdT T t
 | t :: t' :: ts => kdPair (kdT T t) (kdU T (t' :: ts))
def szT (T : Tb) : Ty → Nat
 | .arr _ n => n
 | .st n => (T.kd n).n
 | .vec n t => n * szT T t
 | _ => 1
def agT : Ty → Bool
 | .arr _ _ => true
 | .st _ => true
 | .vec _ _ => true
 | _ => false
inductive SV (T : Tb) where
 | dt (t : Ty) (x : den T.ty t)
 | kb (b : Bool)
 | raw (v : Value)
 | nils
 | agg (l : SV T)
 | tup (l : SV T)
 | fn (f : FuncId) (l : SV T)
 | nl
 | cs (h t : SV T)
 | ptr (b off : Nat)
 | cell (t : Ty) (x : den T.ty t)
 | own (o : Nat)
 | elt (o : Nat) (i : Int) (off sz : Nat)
 | ela (b off : Nat) (i : Int) (n : Nat) (k : IntKind)
 | eva (b off : Nat) (i : Int) (n : Nat) (y : Ty) (fo : Nat)
 | yld (i : Nat)
 | mp (ks : List Value) (vs : SV T)
inductive SB (T : Tb) where
 | var (tid : TypeId) (v : SV T)
 | own (t : Ty) (e : TypeId) (xs : List (den T.ty t)) (f : Bool)
 | lnt (t : Ty) (xs : List (den T.ty t))
def lookA {α : Type} : List (Nat × α) → Nat → Option α
 | [], _ => none
 | (k, v) :: E, t => bif Nat.beq k t then some v else lookA E t
/-- how a loop over a function is left; the slots of the activation that rests -/
structure Md (T : Tb) where
 m : Nat
 O : List (Nat × SV T)
structure SS (T : Tb) where
 E : List (Nat × SV T)
 L : List (Nat × Nat × SB T)
 nx : Nat
 md : Md T
/-- a block's contents are replaced -/
def putB {T : Tb} (id : Nat) (c : Nat × SB T) : List (Nat × Nat × SB T) → List (Nat × Nat × SB T)
 | [] => []
 | (k, d) :: L => bif Nat.beq k id then (k, c) :: L else (k, d) :: putB id c L
def delB {T : Tb} (id : Nat) : List (Nat × Nat × SB T) → List (Nat × Nat × SB T)
 | [] => []
 | (k, d) :: L => bif Nat.beq k id then L else (k, d) :: delB id L
section
variable {T : Tb}
def SS.put (s : SS T) : Option Tmp → SV T → SS T
 | some d, v => { s with E := (d, v) :: s.E }
 | none, _ => s
def SS.wr (s : SS T) (id : Nat) (b : SB T) : SS T := { s with L := putB id (s.nx, b) s.L, nx := s.nx + 1 }
def SS.nw (s : SS T) (b : SB T) : SS T := { s with L := (s.nx, s.nx, b) :: s.L, nx := s.nx + 1 }
/-! ### parts -/
def szS : SV T → Nat
 | .dt t _ => szT T t
 | .raw v => (vcells v).length
 | .agg l => szS l
 | .nl => 0
 | .cs h t => szS h + szS t
 | _ => 1
def agS : SV T → Bool
 | .dt t _ => agT t
 | .raw (.agg _) => true
 | .agg _ => true
 | .nl => true
 | .cs _ _ => true
 | _ => false
/-- a struct's fields, as values -/
def exU : (ts : List Ty) → TU T.ty ts → SV T
 | [], _ => .nl
 | [t], x => .cs (.dt t x) .nl
 | t :: t' :: ts, p => .cs (.dt t p.1) (exU (t' :: ts) p.2)
def exS (n : Nat) (x : T.ty n) : SV T := exU (T.fs n) (T.get n x)
/-- what has fields -/
def aggOf : SV T → Option (SV T)
 | .agg l => some l
 | .dt (.st n) x => some (exS n x)
 | _ => none
/-- one cell of an array of numbers -/
def subA : SV T → Nat → Nat → Bool → Option (SV T)
 | .dt (.arr k n) x, off, sz, ag => bif Nat.beq sz 1 && (!ag && Nat.blt off n) then some (.dt (.int k) (vget (show Vector Int n from x) off)) else none
 | _, _, _, _ => none
def setA : SV T → Nat → Nat → Bool → SV T → Option (SV T)
 | .dt (.arr k n) x, off, sz, ag, .dt (.int k') z => bif Nat.beq sz 1 && (!ag && (Nat.blt off n && sameKind k k')) then some (.dt (.arr k n) (vset (show Vector Int n from x) off z)) else none
 | _, _, _, _, _ => none
mutual
def subS : Nat → SV T → Nat → Nat → Bool → Option (SV T)
 | 0, _, _, _, _ => none
 | f + 1, v, off, sz, ag =>
  bif Nat.beq off 0 && (Nat.beq (szS v) sz && (agS v == ag)) then some v
  else match aggOf v with
   | some l => subL f l off sz ag
   | none => subA v off sz ag
def subL : Nat → SV T → Nat → Nat → Bool → Option (SV T)
 | 0, _, _, _, _ => none
 | f + 1, .cs h t, off, sz, ag => bif Nat.blt off (szS h) then subS f h off sz ag else subL f t (off - szS h) sz ag
 | _ + 1, _, _, _, _ => none
end
mutual
def setS : Nat → SV T → Nat → Nat → Bool → SV T → Option (SV T)
 | 0, _, _, _, _, _ => none
 | f + 1, v, off, sz, ag, u =>
  bif Nat.beq off 0 && (Nat.beq (szS v) sz && (agS v == ag)) then some u
  else match aggOf v with
   | some l => match setL f l off sz ag u with
    | some l => some (.agg l)
    | none => none
   | none => setA v off sz ag u
def setL : Nat → SV T → Nat → Nat → Bool → SV T → Option (SV T)
 | 0, _, _, _, _, _ => none
 | f + 1, .cs h t, off, sz, ag, u =>
  bif Nat.blt off (szS h) then match setS f h off sz ag u with
   | some h => some (.cs h t)
   | none => none
  else match setL f t (off - szS h) sz ag u with
   | some t => some (.cs h t)
   | none => none
 | _ + 1, _, _, _, _, _ => none
end
def nthL : SV T → Nat → Option (SV T)
 | .cs h _, 0 => some h
 | .cs _ t, n + 1 => nthL t n
 | _, _ => none
/-! ### data out of values -/
def castT (t t' : Ty) (x : den T.ty t) : Option (den T.ty t') :=
 if h : Ty.beq t t' = true then some (Ty.eq_of_beq h ▸ x) else none
def consU : (t : Ty) → (ts : List Ty) → den T.ty t → TU T.ty ts → TU T.ty (t :: ts)
 | _, [], x, _ => x
 | _, _ :: _, x, p => (x, p)
mutual
/-- data out of a value, where nothing is to be lent -/
def pur : Nat → SV T → (t : Ty) → Option (den T.ty t)
 | 0, _, _ => none
 | _ + 1, .dt t' x, t => castT t' t x
 | _ + 1, .kb b, .bool => some b
 | f + 1, .agg l, .st n => match purL f l (T.fs n) with
  | some p => some (T.of n p)
  | none => none
 | _ + 1, _, _ => none
def purL : Nat → SV T → (ts : List Ty) → Option (TU T.ty ts)
 | 0, _, _ => none
 | _ + 1, .nl, [] => some ()
 | f + 1, .cs h l, t :: ts => match pur f h t, purL f l ts with
  | some x, some p => some (consU t ts x p)
  | _, _ => none
 | _ + 1, _, _ => none
end
mutual
def frz : Nat → SS T → SV T → (t : Ty) → Option (den T.ty t × SS T)
 | 0, _, _, _ => none
 | _ + 1, s, .dt t' x, t => match castT t' t x with
  | some x => some (x, s)
  | none => none
 | _ + 1, s, .kb b, .bool => some (b, s)
 | _ + 1, s, .nils, .sl _ => some ([], s)
 | _ + 1, s, .own o, .sl t => match lookA s.L o with
  | some (_, .own t' e xs f) => match castT (.sl t') (.sl t) xs with
   | some ys => some (ys, bif f then s.wr o (.own t' e xs false) else s)
   | none => none
  | some (_, .lnt t' xs) => match castT (.sl t') (.sl t) xs with
   | some ys => some (ys, s)
   | none => none
  | _ => none
 | f + 1, s, .agg l, .st n => match frzL f s l (T.fs n) with
  | some (p, s) => some (T.of n p, s)
  | none => none
 | f + 1, s, .agg l, .vec n t => match frzW f s l t with
  | some (xs, s) => bif Nat.beq (List.length xs) n then some (xs, s) else none
  | none => none
 | _ + 1, _, _, _ => none
def frzL : Nat → SS T → SV T → (ts : List Ty) → Option (TU T.ty ts × SS T)
 | 0, _, _, _ => none
 | _ + 1, s, .nl, [] => some ((), s)
 | f + 1, s, .cs h l, t :: ts => match frz f s h t with
  | some (x, s) => match frzL f s l ts with
   | some (p, s) => some (consU t ts x p, s)
   | none => none
  | none => none
 | _ + 1, _, _, _ => none
def frzW : Nat → SS T → SV T → (t : Ty) → Option (List (den T.ty t) × SS T)
 | 0, _, _, _ => none
 | _ + 1, s, .nl, _ => some ([], s)
 | f + 1, s, .cs h l, t => match frz f s h t with
  | some (x, s) => match frzW f s l t with
   | some (xs, s) => some (x :: xs, s)
   | none => none
  | none => none
 | _ + 1, _, _, _ => none
end
/-! ### the program's types -/
def tyOf (T : Tb) (P : Program) : Nat → TypeId → Option Ty
 | 0, _ => none
 | f + 1, t => match T.te t with
  | some y => some y
  | none => match P.underlying t with
   | some (.int k) => some (.int k)
   | some .bool => some .bool
   | some .string => some .str
   | some (.slice e) => match tyOf T P f e with
    | some y => some (.sl y)
    | none => none
   | some (.array n e) => match P.underlying e with
    | some (.int k) => some (.arr k n)
    | _ => match tyOf T P f e with
     | some y => some (.vec n y)
     | none => none
   | some (.struct _) => match T.tn t with
    | some n => some (.st n)
    | none => none
   | _ => none
def tsz (P : Program) (t : TypeId) : Option (Nat × Bool) :=
 match P.underlying t, P.info? t with
 | some (.struct _), some i | some (.array _ _), some i => some (i.size, true)
 | some _, some i => bif Nat.beq i.size 1 then some (1, false) else none
 | _, _ => none
/-- cells of a type, as a value -/
def ints (k : IntKind) : Nat → List Value → Option (List Int × List Value)
 | 0, cs => some ([], cs)
 | n + 1, .int k' x :: cs => bif sameKind k k' then match ints k n cs with
  | some (l, cs) => some (x :: l, cs)
  | none => none
  else none
 | _ + 1, _ => none
mutual
def ofC (P : Program) : Nat → TypeId → List Value → Option (SV T × List Value)
 | 0, _, _ => none
 | f + 1, t, cs => match P.underlying t with
  | some (.struct fs) => match ofF P f fs.toList cs with
   | some (l, cs) => some (.agg l, cs)
   | none => none
  | some (.array n e) => match P.underlying e with
   | some (.int k) => match ints k n cs with
    | some (l, cs) => some (.dt (.arr k n) (vofL n l), cs)
    | none => none
   | _ => match ofN P f n e cs with
    | some (l, cs) => some (.agg l, cs)
    | none => none
  | some _ => match cs with
   | .int k x :: cs => some (.dt (.int k) x, cs)
   | .bool b :: cs => some (.kb b, cs)
   | .string s :: cs => some (.dt .str s, cs)
   | .slice none 0 0 :: cs => some (.nils, cs)
   | v :: cs => bif v.oneCell' then some (.raw v, cs) else none
   | [] => none
  | none => none
def ofF (P : Program) : Nat → List Field → List Value → Option (SV T × List Value)
 | 0, _, _ => none
 | _ + 1, [], cs => some (.nl, cs)
 | f + 1, x :: fs, cs => match ofC P f x.type cs with
  | some (h, cs) => match ofF P f fs cs with
   | some (l, cs) => some (.cs h l, cs)
   | none => none
  | none => none
def ofN (P : Program) : Nat → Nat → TypeId → List Value → Option (SV T × List Value)
 | 0, _, _, _ => none
 | _ + 1, 0, _, cs => some (.nl, cs)
 | f + 1, n + 1, e, cs => match ofC P f e cs with
  | some (h, cs) => match ofN P f n e cs with
   | some (l, cs) => some (.cs h l, cs)
   | none => none
  | none => none
end
def zeroS (P : Program) (t : TypeId) : Option (SV T) :=
 match (P.info? t).bind (·.zero) with
 | some z => match ofC P 200 t (vcells z) with
  | some (v, []) => some v
  | _ => none
 | none => none
end
end Go.Sep
