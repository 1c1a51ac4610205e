/-
 Shortest forms of the rules: what a reader can look up in the code is looked up, not written.
-/
import Derived.Test.YtjgaokcplofimaaDoorSepQ
namespace Go.Sep
section
variable {P : Program} {ρ : Option Nat} {ops : Array Oper} {Q : Exit → Act → World → Prop} {K : Act → World → Prop} {Rf : Nat → World → World → Prop} {a : Act} {w g w0 : World} {n : Nat} {ds : List Deferred} {E : List (Nat × Value)} {D0 D : Snap} {L0 L : List (Option (Nat × OB))}
theorem sN {i : Nat} (m j : Nat) (N : List (Nat × Value)) (hE : Env a n ds E)
  (k : ∀ a', Env a' n ds (catE N E) → At P ρ ops Q j a' w) (h : (evalSeg P ops n m i E).map (fun X => (sub X N, dstsOk ops N E m i)) = some (sub' N, true) := by kernel_rfl) (hj : i + m = j := by exact rfl) : At P ρ ops Q i a w := segN m N hE h hj k
theorem wS [hI : Idle Rf] {o : Oper} (i m fuel : Nat) {listed : Array Bool} (hE : Env a n ds E) (k : ∀ a', Env a' n ds (upd E o.dst undef) → wpG P ρ ops Rf K (Qn K) fuel (lb ops.size m) a' w)
  (hc : okT ops listed i m = true := by kernel_rfl) (ho : ops[i]? = some o := by exact rfl) (hg : guardOf ops E o = some false := by exact rfl) (hd : dstOk n o.dst = true := by exact rfl) (hnd : noDefer o.op = true := by exact rfl) : wpG P ρ ops Rf K (Qn K) (fuel + 1) listed a w :=
 tW i m hc hE (fun _ => tk_skip hE ho hg hd hnd k)
theorem wP [hI : Idle Rf] {d : Nat} {o : Oper} (i m fuel : Nat) {listed : Array Bool} (v : Value) (hE : Env a n ds E) (k : ∀ a', Env a' n ds ((d, v) :: E) → wpG P ρ ops Rf K (Qn K) fuel (lb ops.size m) a' w)
  (hc : okT ops listed i m = true := by kernel_rfl) (ho : ops[i]? = some o := by exact rfl) (hg : guardOf ops E o = some true := by exact rfl) (hd : o.dst = some d := by exact rfl) (hn : Nat.blt d n = true := by exact rfl)
  (hsrc : ∀ s t x, o.op = .convert s t x → (P.underlying s).isSome = true := by exact fun _ _ _ e => by cases e) (h : pureOp P E o.op = some v := by kernel_rfl) : wpG P ρ ops Rf K (Qn K) (fuel + 1) listed a w :=
 tW i m hc hE (fun _ => tk_pure v hE ho hg hd hn hsrc h k)
theorem wF [hI : Idle Rf] {s m' b off d : Nat} {x : Operand} {o : Oper} (i m fuel : Nat) {listed : Array Bool} (fo ft off' : Nat) (hE : Env a n ds E) (k : ∀ a', Env a' n ds ((d, .pointer (some ⟨b, off', none⟩)) :: E) → wpG P ρ ops Rf K (Qn K) fuel (lb ops.size m) a' w)
  (hc : okT ops listed i m = true := by kernel_rfl) (ho : ops[i]? = some o := by exact rfl) (hop : o.op = .fieldAddr s x m' := by exact rfl) (hg : guardOf ops E o = some true := by exact rfl) (hd : o.dst = some d := by exact rfl) (hn : Nat.blt d n = true := by exact rfl)
  (hx : evalO E x = some (.pointer (some ⟨b, off, none⟩)) := by exact rfl) (hT : fldT P s m' = some (fo, ft) := by kernel_rfl) (hoff : off + fo = off' := by exact rfl) : wpG P ρ ops Rf K (Qn K) (fuel + 1) listed a w :=
 tW i m hc hE (fun _ => g_fieldAddr off' ho hop hg hd hE hn hx hT hoff k)
theorem tL {Mf : Nat → List Nat} {d b off : Nat} {t : TypeId} {x : Operand} {c : List Value} {T : TypeId} {o : Oper} (i m fuel : Nat) {listed : Array Bool} (j : Nat) (v : Value) (hE : Env a n ds E) (hS : Stp g w0 D0 L0 w D L) (k : ∀ a, Env a n ds ((d, v) :: E) → wpG P ρ ops (fun j => Keeps (Mf j)) K (Qn K) fuel (lb ops.size m) a w)
  (hc : (okT ops listed i m && calmB Mf ops listed i) = true := by kernel_rfl) (ho : ops[i]? = some o := by exact rfl) (hop : o.op = .load t x := by exact rfl) (hg : guardOf ops E o = some true := by exact rfl) (hd : o.dst = some d := by exact rfl) (hn : Nat.blt d n = true := by exact rfl)
  (hx : evalO E x = some (.pointer (some ⟨b, off, none⟩)) := by exact rfl) (hj : L[j]? = some (bx b T c) := by exact rfl) (hv : ldv P t c off = some v := by kernel_rfl) : wpG P ρ ops (fun j => Keeps (Mf j)) K (Qn K) (fuel + 1) listed a w :=
 tT i m hc hE (tk_load j v ho hop hg hd hE hn hS hx hj hv (kL (j := j) hS hj List.not_mem_nil) k)
theorem oC {d : Nat} {o : Oper} {f : FuncId} {fv : Operand} {xs : Array Operand} {ts : Array TypeId} {captured : Array Value} {args all : List Value} {R : Value → World → Prop} (i m fuel : Nat) {listed : Array Bool} (ho : ops[i]? = some o) (hop : o.op = .call { callee := .value fv, args := xs, argTypes := ts }) (hg : guardOf ops E o = some true) (hd : o.dst = some d) (hE : Env a n ds E) (hn : Nat.blt d n = true)
  (hf : evalO E fv = some (.func (.func f) #[] captured)) (hxs : evalArgs E xs.toList = some args) (hall : args ++ captured.toList = all)
  (hc : CallsIn (Fw none) 0 P f all.toArray w fun e w2 => ∃ v, e = .returned v ∧ R v w2)
  (k : ∀ a v w', R v w' → Env a n ds ((d, v) :: E) → Rf i w w' ∧ wpG P ρ ops Rf K (Qn K) fuel (lb ops.size m) a w') (hfn : (P.funcs[f]?).map (fun F => (F.name == "runtime.NumGoroutine", F.body.isNone)) = some (false, false) := by kernel_rfl)
  (hl : (isOnly (Region.ready .any ops listed) i && setB ops listed i m) = true := by kernel_rfl) : wpG P ρ ops Rf K (Qn K) (fuel + 1) listed a w :=
 oG i m hl (op_call ho hop hg hd hE hn hf hxs hall hfn hc k)
/-- a function's end with one result -/
theorem rT {fn : Func} {R : Ending → World → Prop} (t : Nat) (v : Value) (hE : Env a n [] E) (hR : R (.returned (retV [v])) w) (h : fn.results.toList = [.tmp t] := by exact rfl) (hv : ResOk P E w [.tmp t] [v] := by exact ⟨_, _, rfl, rfl, rfl⟩) : bodyPost P fn R .ret a w :=
 ret_gen [v] hE (by rw [h]; exact hv) hR
theorem aC {i d : Nat} {o : Oper} {f : FuncId} {fv : Operand} {xs : Array Operand} {ts : Array TypeId} {captured : Array Value} {args all : List Value} {R : Value → World → Prop} (ho : ops[i]? = some o) (hop : o.op = .call { callee := .value fv, args := xs, argTypes := ts }) (hg : guardOf ops E o = some true) (hd : o.dst = some d) (hE : Env a n ds E) (hn : Nat.blt d n = true)
  (hf : evalO E fv = some (.func (.func f) #[] captured)) (hxs : evalArgs E xs.toList = some args) (hall : args ++ captured.toList = all)
  (hc : CallsIn (Fw none) 0 P f all.toArray w fun e w2 => ∃ v, e = .returned v ∧ R v w2)
  (k : ∀ a v w', R v w' → Env a n ds ((d, v) :: E) → At P ρ ops Q (i + 1) a w') (hfn : (P.funcs[f]?).map (fun F => (F.name == "runtime.NumGoroutine", F.body.isNone)) = some (false, false) := by kernel_rfl) (hi : Nat.blt i ops.size = true := by exact rfl) : At P ρ ops Q i a w :=
 at_op (op_call ho hop hg hd hE hn hf hxs hall hfn hc k) hi
end
/-! ### operations that read owned blocks, many at once -/
def blkO (L : List Blk) (j : Nat) : Option (Nat × List Value) := match L[j]? with
 | some (some (b, (.cells C _ (0, 0), _))) => some (b, C.toList)
 | _ => none
def blkB (L : List Blk) (j : Nat) : Nat := match blkO L j with
 | some (b, _) => b
 | none => 0
def memOp (P : Program) (E : List (Nat × Value)) (L : List Blk) (js : List Nat) : Op → Option (Value × List (Nat × Nat) × List Nat)
 | .fieldAddr s x m => match evalO E x with
  | some (.pointer (some ⟨b, off, none⟩)) => match fldT P s m with
   | some (fo, _) => some (.pointer (some ⟨b, off + fo, none⟩), [], js)
   | none => none
  | _ => none
 | .load t x => match js with
  | j :: js => match evalO E x with
   | some (.pointer (some ⟨b, off, none⟩)) => match blkO L j with
    | some (b', c) => match ldv P t c off with
     | some v => some (v, [(b, b')], js)
     | none => none
    | none => none
   | _ => none
  | [] => none
 | _ => none
def evalM (P : Program) (ops : Array Oper) (n : Nat) (L : List Blk) : Nat → Nat → List Nat → List (Nat × Value) → Option (List (Nat × Value) × List (Nat × Nat))
 | 0, _, _, E => some (E, [])
 | m + 1, i, js, E =>
  match ops[i]? with
  | none => none
  | some o =>
   match o.dst with
   | none => none
   | some d => bif Nat.blt d n then
    match guardOf ops E o with
    | some false => evalM P ops n L m (i + 1) js ((d, undef) :: E)
    | some true => bif srcOk P o.op then
      match pureOp P E o.op with
      | some v => evalM P ops n L m (i + 1) js ((d, v) :: E)
      | none => match memOp P E L js o.op with
       | some (v, e, js') => match evalM P ops n L m (i + 1) js' ((d, v) :: E) with
        | some (X, es) => some (X, e ++ es)
        | none => none
       | none => none
     else none
    | none => none
   else none
def allEq : List (Nat × Nat) → Prop
 | [] => True
 | p :: l => p.1 = p.2 ∧ allEq l
theorem allEq_app : ∀ {l m : List (Nat × Nat)}, allEq (l ++ m) → allEq l ∧ allEq m
 | [], _, h => ⟨trivial, h⟩
 | _ :: _, _, h => ⟨⟨h.1, (allEq_app h.2).1⟩, (allEq_app h.2).2⟩
theorem allEq_map {α : Type} (f : α → Nat) : ∀ l : List α, allEq (l.map fun j => (f j, f j))
 | [] => trivial
 | _ :: l => ⟨rfl, allEq_map f l⟩
section
variable {P : Program} {ρ : Option Nat} {ops : Array Oper} {Q : Exit → Act → World → Prop} {a : Act} {w g w0 : World} {n : Nat} {ds : List Deferred} {E : List (Nat × Value)} {D0 D : Snap} {L0 L : List Blk}
theorem blkO_spec {j b : Nat} {c : List Value} (h : blkO L j = some (b, c)) : ∃ T k, L[j]? = some (some (b, (.cells c.toArray T (0, 0), k))) := by
 unfold blkO at h
 split at h
 ·rename_i b' C T k hj
  simp only [Option.some.injEq, Prod.mk.injEq] at h
  obtain ⟨rfl, rfl⟩ := h
  exact ⟨T, k, by rw [hj]⟩
 ·cases h
theorem segM_sound (hS : Stp g w0 D0 L0 w D L) : ∀ (m i : Nat) (js : List Nat) (E X : List (Nat × Value)) (es : List (Nat × Nat)) (a : Act), Env a n ds E → evalM P ops n L m i js E = some (X, es) → allEq es →
  (∀ a', Env a' n ds X → At P ρ ops Q (i + m) a' w) → At P ρ ops Q i a w := by
 intro m
 induction m with
 | zero =>
  intro i js E X es a hE h _ k
  simp only [evalM, Option.some.injEq, Prod.mk.injEq] at h
  obtain ⟨rfl, rfl⟩ := h
  exact k a hE
 | succ m ih =>
  intro i js E X es a hE h he k
  simp only [evalM] at h
  split at h
  ·cases h
  ·rename_i o ho
   split at h
   ·cases h
   ·rename_i d hd
    cases hn : Nat.blt d n with
    | false => rw [hn] at h; cases h
    | true =>
     rw [hn] at h
     simp only [cond_true] at h
     have hi : Nat.blt i ops.size = true := by simpa [Nat.blt_eq] using (Array.getElem?_eq_some_iff.1 ho).1
     have hdo : dstOk n o.dst = true := by rw [hd]; simpa [dstOk] using hn
     have k' : ∀ a', Env a' n ds X → At P ρ ops Q (i + 1 + m) a' w := fun a' h' => by
      have := k a' h'
      rwa [show i + (m + 1) = i + 1 + m from by omega] at this
     split at h
     ·rename_i hg
      exact at_op (op_skip hE ho hg hdo fun a' h' => ih (i + 1) js _ X es a' (by rw [hd] at h'; exact h') h he k') hi
     ·rename_i hg
      cases hs : srcOk P o.op with
      | false => rw [hs] at h; cases h
      | true =>
       rw [hs] at h
       simp only [cond_true] at h
       split at h
       ·rename_i v hv
        have hr := pureOp_run (P := P) (w := w) hE (fun s d x e => by rw [e] at hs; exact hs) hv
        exact at_op (op_val hE ho hg hdo hr.2 hr.1 fun a' h' => ih (i + 1) js _ X es a' (by rw [hd] at h'; exact h') h he k') hi
       ·split at h
        ·rename_i v e js' hm
         split at h
         ·rename_i X' es' hX
          simp only [Option.some.injEq, Prod.mk.injEq] at h
          obtain ⟨rfl, rfl⟩ := h
          obtain ⟨he1, he2⟩ := allEq_app he
          have kk : ∀ a', Env a' n ds ((d, v) :: E) → At P ρ ops Q (i + 1) a' w := fun a' h' => ih (i + 1) js' _ _ _ a' h' hX he2 k'
          unfold memOp at hm
          split at hm
          ·rename_i s x mm hop
           split at hm
           ·rename_i b off hx
            split at hm
            ·rename_i fo ft hT
             simp only [Option.some.injEq, Prod.mk.injEq] at hm
             obtain ⟨rfl, rfl, rfl⟩ := hm
             exact at_op (op_tk hE (g_fieldAddr (off + fo) ho hop hg hd hE hn hx hT rfl kk)) hi
            ·cases hm
           ·cases hm
          ·rename_i t x hop
           split at hm
           ·rename_i j js2
            split at hm
            ·rename_i b off hx
             split at hm
             ·rename_i b' c hbo
              split at hm
              ·rename_i v' hv
               simp only [Option.some.injEq, Prod.mk.injEq] at hm
               obtain ⟨rfl, rfl, rfl⟩ := hm
               have hb : b = b' := he1.1
               subst hb
               obtain ⟨T, kq, hj⟩ := blkO_spec hbo
               refine at_op (op_tk hE (tk_of (v := v') hE ho hg hd hn (by simp [hop, noDefer]) (fun w' hk => ?_) kk)) hi
               simp [execOp, hop, hE.eval hx, Instr.loadAt, Instr.sureAddr, ldv_run (w := w') ((kL (j := j) hS hj List.not_mem_nil w' hk).trans (hS.heapAt hj)) hv]
              ·cases hm
             ·cases hm
            ·cases hm
           ·cases hm
          ·cases hm
         ·cases h
        ·cases h
     ·cases h
theorem evalM_look {N E0 : List (Nat × Value)} {t : Nat} (hN : look N t = none) (hE0 : (look E0 t).isSome = true) : ∀ (m i : Nat) (js : List Nat) (E X : List (Nat × Value)) (es : List (Nat × Nat)), evalM P ops n L m i js E = some (X, es) → dstsOk ops N E0 m i = true → look X t = look E t := by
 intro m
 induction m with
 | zero =>
  intro i js E X es h _
  simp only [evalM, Option.some.injEq, Prod.mk.injEq] at h
  rw [h.1]
 | succ m ih =>
  intro i js E X es h hd
  simp only [evalM] at h
  simp only [dstsOk, Bool.and_eq_true] at hd
  split at h
  ·cases h
  ·rename_i o ho
   rw [ho] at hd
   split at h
   ·cases h
   ·rename_i d hdst
    have hu : ∀ v, look ((d, v) :: E) t = look E t := by
     intro v
     have h1 := hd.1
     simp only [hdst, Bool.or_eq_true] at h1
     simp only [look]
     cases hb : Nat.beq d t with
     | false => rfl
     | true =>
      have := Nat.eq_of_beq_eq_true hb
      subst this
      rcases h1 with h1 | h1
      ·rw [hN] at h1; cases h1
      ·rw [Option.isNone_iff_eq_none] at h1
       rw [h1] at hE0; cases hE0
    cases hn : Nat.blt d n with
    | false => rw [hn] at h; cases h
    | true =>
     rw [hn] at h
     simp only [cond_true] at h
     split at h
     ·rw [ih _ _ _ _ _ h hd.2, hu]
     ·cases hs : srcOk P o.op with
      | false => rw [hs] at h; cases h
      | true =>
       rw [hs] at h
       simp only [cond_true] at h
       split at h
       ·rw [ih _ _ _ _ _ h hd.2, hu]
       ·split at h
        ·split at h
         ·rename_i X' es' hX
          simp only [Option.some.injEq, Prod.mk.injEq] at h
          obtain ⟨rfl, rfl⟩ := h
          rw [ih _ _ _ _ _ hX hd.2, hu]
         ·cases h
        ·cases h
     ·cases h
/-- m operations that write nothing, from the i-th on: js: the places of the blocks that the loads read, one behind the other -/
theorem sM {i : Nat} (m j : Nat) (js : List Nat) (N : List (Nat × Value)) (hE : Env a n ds E) (hS : Stp g w0 D0 L0 w D L)
  (k : ∀ a', Env a' n ds (catE N E) → At P ρ ops Q j a' w)
  (h : (evalM P ops n L m i js E).map (fun X => (sub X.1 N, dstsOk ops N E m i, X.2)) = some (sub' N, true, js.map fun j => (blkB L j, blkB L j)) := by kernel_rfl) (hj : i + m = j := by exact rfl) : At P ρ ops Q i a w := by
 subst hj
 cases he : evalM P ops n L m i js E with
 | none => rw [he] at h; cases h
 | some X =>
  obtain ⟨X, es⟩ := X
  rw [he] at h
  simp only [Option.map_some, Option.some.injEq, Prod.mk.injEq] at h
  refine segM_sound hS m i js E X es a hE he (by rw [h.2.2]; exact allEq_map _ js) fun a' h' => k a' ⟨h'.size, h'.ds, fun t v hv => h'.at_ t v ?_⟩
  rcases look_cat N t v hv with h1 | ⟨h1, h2⟩
  ·exact look_sub h.1 t v h1
  ·rw [evalM_look h1 (by rw [h2]; rfl) m i js E X es he h.2.1]
   exact h2
end
/-! ### short names -/
/-- where a return leads -/
class Rt (Q : Exit → Act → World → Prop) (Q' : outParam (Exit → Act → World → Prop)) : Prop where
 rt : ∀ a w, Q' .ret a w → Q .ret a w
instance (priority := low) (Q : Exit → Act → World → Prop) : Rt Q Q := ⟨fun _ _ h => h⟩
instance {K1 : Act → World → Prop} {Q Q' : Exit → Act → World → Prop} [h : Rt Q Q'] : Rt (Exit.then K1 Q) Q' := ⟨fun a w h' => then_ret (h.rt a w h')⟩
instance {id : Nat} {Q Q' : Exit → Act → World → Prop} [h : Rt Q Q'] : Rt (Exit.inBlock id Q) Q' := ⟨fun a w h' => block_ret (h.rt a w h')⟩
instance {X : Act → World → Prop} {Q Q' : Exit → Act → World → Prop} [h : Rt Q Q'] : Rt (Qx X Q) Q' := ⟨fun a w h' => qx_ret (h.rt a w h')⟩
theorem ret_ {Q Q' : Exit → Act → World → Prop} [h : Rt Q Q'] {a : Act} {w : World} (h' : Q' .ret a w) : Q .ret a w := h.rt a w h'
theorem bo (b : Bool) {p : Prop} (f : b = false → p) (t : b = true → p) : p := by
 cases b with
 | false => exact f rfl
 | true => exact t rfl
theorem Pick.d {α : Type} {L : List α} {x : α} {is : List Nat} {l : List α} (i : Nat) (t : Pick L is l) (h : L[i]? = some x := by exact rfl) : Pick L (i :: is) (x :: l) := .c i h t
theorem Stp.p {g w0 w : World} {D0 D : Snap} {L0 L L' : List Blk} {is : List Nat} (h : Stp g w0 D0 L0 w D L) (hp : Pick L is L') (hn : nodupN is = true := by exact rfl) : Stp g w0 D0 L0 w D L' := h.pk hp hn
theorem Env.wk {a : Act} {n : Nat} {ds : List Deferred} {E E' : List (Nat × Value)} (h : Env a n ds E) (hs : sub E E' = sub' E' := by kernel_rfl) : Env a n ds E' := h.weak hs
theorem lr {D : Snap} : D.le D := Snap.le.refl D
theorem sq {P : Program} {F : Fence} {n : Nat} {Q : Exit → Act → World → Prop} {a : Act} {w : World} {x y : Code} (h : x.wpIn F n P (Exit.then (y.wpIn F n P Q) Q) a w) : (Code.seq x y).wpIn F n P Q a w := wpIn_seq h
theorem ra {P : Program} {ρ : Option Nat} {ops : Array Oper} {Q : Exit → Act → World → Prop} {a : Act} {w : World} {id : Nat} (h : At P ρ ops Q 0 a w) : (Code.region id ops false).wpIn (Fw ρ) 0 P Q a w := region_at h
theorem ae {P : Program} {ρ : Option Nat} {ops : Array Oper} {Q : Exit → Act → World → Prop} {a : Act} {w : World} {i : Nat} (h : Q .normal a w) (hi : Nat.ble ops.size i = true := by exact rfl) : At P ρ ops Q i a w := at_end hi h
theorem si {α : Type} {x y : α} (h : some x = some y) : x = y := Option.some.inj h
theorem cf {b : Bool} {α : Type} {x y : Option α} {r : α} (hb : b = false) (h : (bif b then x else y) = some r) : y = some r := cond_f hb h
theorem ct {b : Bool} {α : Type} {x y : Option α} {r : α} (hb : b = true) (h : (bif b then x else y) = some r) : x = some r := cond_t hb h
theorem bs {α β : Type} {o : Option α} {f : α → Option β} {r : β} (h : o.bind f = some r) : ∃ x, o = some x ∧ f x = some r := bind_some h
/-! ### what lies still stays known, where the order is open -/
theorem Sees.mono {D D' : Snap} {w : World} (h : Sees D' w) (hl : D.le D') : Sees D w := fun b C T fr hb i u hu => by
 obtain ⟨o', h1, h2⟩ := hl _ _ hb
 obtain ⟨C', T', fr', rfl, h3⟩ := opre_cells h2
 obtain ⟨C2, T2, fr2, h4, h5⟩ := h _ _ _ _ h1 i u (h3 i u hu)
 exact ⟨C2, T2, fr2, h4, fun j v hv => h5 j v (h3 j v hv)⟩
/-- these blocks are as they were, and what is known is still so -/
abbrev RD (D : Snap) (l : List Nat) (w w' : World) : Prop := RP l w w' ∧ (Sees D w → Sees D w')
instance (D : Snap) (ss l : List Nat) : Idle (fun j => RD D (plOf ss l j)) := ⟨fun _ w => ⟨RP.refl _ w, fun h => h⟩⟩
theorem tD {P : Program} {ρ : Option Nat} {ops : Array Oper} {K : Act → World → Prop} {a : Act} {w : World} {n : Nat} {ds : List Deferred} {E : List (Nat × Value)} {D : Snap} {ss Pl : List Nat} (i m : Nat) {fuel : Nat} {listed : Array Bool} (hc : (okT ops listed i m && calmB (msOf ss) ops listed i) = true) (hE : Env a n ds E)
  (h : Tk P ops (RD D Pl) i n ds E a w (fun a => wpG P ρ ops (fun j => RD D (plOf ss Pl j)) K (Qn K) fuel (lb ops.size m) a w)) : wpG P ρ ops (fun j => RD D (plOf ss Pl j)) K (Qn K) (fuel + 1) listed a w := by
 rw [Bool.and_eq_true] at hc
 exact takeR (R := RD D Pl) (fun w => ⟨RP.refl _ w, fun h => h⟩) (fun _ _ _ h h' => ⟨h.1.trans h'.1, fun s => h'.2 (h.2 s)⟩) (fun _ w => ⟨RP.refl _ w, fun h => h⟩) i _ (okT_spec hc.1).1 (okT_spec hc.1).2.1 (okT_spec hc.1).2.2.1 (okT_spec hc.1).2.2.2
  (fun j oj hj hne hun hno w w' hk => by rw [plOf_ms (calmB_spec hc.2 j oj hj hne hun hno)] at hk; exact hk) hE h
theorem le2 {a b c : Snap} (h1 : Snap.le a b) (h2 : Snap.le b c) : Snap.le a c := Snap.le.trans h1 h2
end Go.Sep
