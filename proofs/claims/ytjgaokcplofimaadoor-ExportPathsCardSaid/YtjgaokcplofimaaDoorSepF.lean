/-
 The rules as the printer uses them: what is asked of the program's types in one equation each.
-/
import Derived.Test.YtjgaokcplofimaaDoorSepE
namespace Go.Sep
/-- a slice's type: its element, how many cells and bytes one has, cells of its zero value -/
def slT (P : Program) (t : TypeId) : Option (Nat × Nat × Nat × Nat) :=
 match P.underlying t with
 | some (.slice e) => match P.info? e with
  | some i => match i.zero with
   | some z => some (e, i.size, i.bytes, (vcells z).length)
   | none => none
  | none => none
 | _ => none
theorem slT_spec {P : Program} {t e sz by_ zl : Nat} (h : slT P t = some (e, sz, by_, zl)) :
  P.underlying t = some (.slice e) ∧ ∃ i z, P.info? e = some i ∧ i.zero = some z ∧ i.size = sz ∧ i.bytes = by_ ∧ (vcells z).length = zl := by
 unfold slT at h
 split at h
 ·rename_i hu
  split at h
  ·rename_i i hi
   split at h
   ·rename_i z hz
    simp only [Option.some.injEq, Prod.mk.injEq] at h
    obtain ⟨rfl, h1, h2, h3⟩ := h
    exact ⟨hu, i, z, hi, hz, h1, h2, h3⟩
   ·cases h
  ·cases h
 ·cases h
/-- an array's type: its length, its element, its cells -/
def arT (P : Program) (t : TypeId) : Option (Nat × Nat × Nat) :=
 match P.underlying t with
 | some (.array n e) => (P.info? e).map fun i => (n, e, i.size)
 | _ => none
theorem arT_spec {P : Program} {t n e sz : Nat} (h : arT P t = some (n, e, sz)) : P.underlying t = some (.array n e) ∧ (P.info? e).map (·.size) = some sz := by
 unfold arT at h
 split at h
 ·rename_i hu
  obtain ⟨i, hi, he⟩ := Option.map_eq_some_iff.1 h
  simp only [Prod.mk.injEq] at he
  obtain ⟨rfl, rfl, rfl⟩ := he
  exact ⟨hu, by simp [hi]⟩
 ·cases h
/-- a field: its place, its type -/
def fldT (P : Program) (s m : Nat) : Option (Nat × Nat) :=
 match P.underlying s with
 | some (.struct fs) => match fs[m]? with
  | some f => match P.info? f.type with
   | some i => bif Nat.blt 0 i.size then some (f.offset, f.type) else none
   | none => none
  | none => none
 | _ => none
theorem fldT_spec {P : Program} {s m off t : Nat} (h : fldT P s m = some (off, t)) :
  ∃ fs f, P.underlying s = some (.struct fs) ∧ fs[m]? = some f ∧ (P.info? f.type).map (fun q => Nat.blt 0 q.size) = some true ∧ f.offset = off ∧ f.type = t := by
 unfold fldT at h
 split at h
 ·rename_i fs hu
  split at h
  ·rename_i f hf
   split at h
   ·rename_i i hi
    cases hb : Nat.blt 0 i.size with
    | false => rw [hb] at h; cases h
    | true =>
     rw [hb] at h
     simp only [cond_true, Option.some.injEq, Prod.mk.injEq] at h
     exact ⟨fs, f, hu, hf, by simp [hi, hb], h.1, h.2⟩
   ·cases h
  ·cases h
 ·cases h
theorem Env.know {a : Act} {n : Nat} {ds : List Deferred} {E : List (Nat × Value)} {t : Nat} {b b' : Bool} (hE : Env a n ds E) (h : look E t = some (.bool b)) (hb : b = b') : Env a n ds ((t, .bool b') :: E) := by
 subst hb
 refine ⟨hE.size, hE.ds, fun s v hv => ?_⟩
 simp only [look] at hv
 cases hts : Nat.beq t s with
 | true =>
  rw [hts] at hv
  have := Nat.eq_of_beq_eq_true hts
  subst this
  simp only [cond_true, Option.some.injEq] at hv
  subst hv
  exact hE.at_ _ _ h
 | false => rw [hts] at hv; exact hE.at_ s v hv
def jn {α β : Type} (f : α → Option β) (g : (α → Option β) → Option β) : Option β := g f
theorem jn_elim {α β : Type} {f : α → Option β} {g : (α → Option β) → Option β} {r : β} (h : jn f g = some r) : ∃ j : α → Option β, (∀ y, j y = some r → f y = some r) ∧ g j = some r := ⟨f, fun _ h => h, h⟩
section
variable {P : Program} {ρ : Option Nat} {ops : Array Oper} {Q : Exit → Act → World → Prop} {a : Act} {n : Nat} {ds : List Deferred} {E : List (Nat × Value)}
variable {g w w0 : World} {D D0 : Snap} {L L0 : List Blk} {i : Nat} {o : Oper} {d : Nat} {C : Act → World → Prop} {C1 : Act → Prop} {R : World → World → Prop}
theorem seq_join {x y : Code} (X : Act → World → Prop) (hx : x.wpIn (Fw ρ) 0 P (Exit.then X Q) a w) (hy : ∀ a w, X a w → y.wpIn (Fw ρ) 0 P Q a w) : (Code.seq x y).wpIn (Fw ρ) 0 P Q a w :=
 wpIn_seq (wpIn_mono hx (fun e a w h => by cases e <;> first | exact hy _ _ h | exact h))
def Qx (X : Act → World → Prop) (Q : Exit → Act → World → Prop) : Exit → Act → World → Prop
 | .normal, a, w => X a w
 | e, a, w => Q e a w
theorem block_loop {id : Nat} {c : Code} (X : Act → World → Prop) (I : Nat → Act → World → Prop) (k0 : Nat) (h0 : I k0 a w) (hX : ∀ a w, X a w → Q .normal a w)
  (round : ∀ k a w, I k a w → ∃ k', k = k' + 1 ∧ c.wpIn (Fw ρ) 0 P (Exit.then (fun a' w' => I k' a' w') (Exit.inBlock id (Qx X Q))) a w) : (Code.block id (.loop c)).wpIn (Fw ρ) 0 P Q a w :=
 wpIn_mono (wpIn_block (loop_fuel I k0 h0 round)) (fun e a w h => by cases e <;> first | exact hX _ _ h | exact h)
theorem then_ret {K1 : Act → World → Prop} (h : Q .ret a w) : Exit.then K1 Q .ret a w := h
theorem block_ret {id : Nat} (h : Q .ret a w) : Exit.inBlock id Q .ret a w := h
theorem qx_ret {X : Act → World → Prop} (h : Q .ret a w) : Qx X Q .ret a w := h
theorem g_fieldAddr {s m b off fo ft : Nat} {x : Operand} (off' : Nat) (ho : ops[i]? = some o) (hop : o.op = .fieldAddr s x m) (hg : guardOf ops E o = some true) (hd : o.dst = some d) (hE : Env a n ds E) (hn : Nat.blt d n = true)
  (hx : evalO E x = some (.pointer (some ⟨b, off, none⟩))) (hT : fldT P s m = some (fo, ft)) (hoff : off + fo = off')
  (k : ∀ a, Env a n ds ((d, .pointer (some ⟨b, off', none⟩)) :: E) → C1 a) : Tk P ops R i n ds E a w C1 := by
 obtain ⟨fs, f, h1, h2, h3, h4, _⟩ := fldT_spec hT
 subst h4
 exact tk_fieldAddr off' ho hop hg hd hE hn hx h1 h2 h3 hoff k
theorem g_field {s m fo ft : Nat} {x : Operand} {cs : List Value} (v : Value) (ho : ops[i]? = some o) (hop : o.op = .field s x m) (hg : guardOf ops E o = some true) (hd : o.dst = some d) (hE : Env a n ds E) (hn : Nat.blt d n = true)
  (hx : evalO E x = some (.agg cs.toArray)) (hT : fldT P s m = some (fo, ft)) (hv : ldv P ft cs fo = some v)
  (k : ∀ a, Env a n ds ((d, v) :: E) → C1 a) : Tk P ops R i n ds E a w C1 := by
 obtain ⟨fs, f, h1, h2, _, h4, h5⟩ := fldT_spec hT
 subst h4 h5
 exact tk_field v ho hop hg hd hE hn hx h1 h2 hv k
theorem g_index {α : Type} {K : Kd α} {t e by_ zl : Nat} {x ix : Operand} {A : Option Addr} {cap : Nat} {l : List α} {m : Int} {kk : IntKind} {y : α} (ho : ops[i]? = some o) (hop : o.op = .indexAddr t x ix) (hg : guardOf ops E o = some true) (hd : o.dst = some d) (hE : Env a n ds E) (hn : Nat.blt d n = true)
  (hx : evalO E x = some (.slice A l.length cap)) (hix : evalO E ix = some (.int kk m)) (hT : slT P t = some (e, K.n, by_, zl)) (hpos : Nat.blt 0 K.n = true)
  (hl : Sl K D A cap l) (hy : getI l m = some y)
  (k : ∀ a b off, Env a n ds ((d, .pointer (some ⟨b, off, none⟩)) :: E) → Cell K D b off y → C1 a) : Tk P ops R i n ds E a w C1 := by
 obtain ⟨h1, ii, z, h2, _, h4, _⟩ := slT_spec hT
 obtain ⟨h0, hy'⟩ := getI_some hy
 exact tk_index y ho hop hg hd hE hn hx hix h1 (by simp [h2, h4]) hpos hl h0 hy' k
theorem g_slice {α : Type} {K : Kd α} {t e by_ zl : Nat} {x : Operand} {lo hi : Option Operand} {zl' zh : Int} {A : Option Addr} {cap : Nat} {l m : List α} (ho : ops[i]? = some o) (hop : o.op = .slice t x lo hi none) (hg : guardOf ops E o = some true) (hd : o.dst = some d) (hE : Env a n ds E) (hn : Nat.blt d n = true)
  (hx : evalO E x = some (.slice A l.length cap)) (hT : slT P t = some (e, K.n, by_, zl)) (hlo : bndOk E lo 0 zl') (hhi : bndOk E hi l.length zh) (hl : Sl K D A cap l) (hm : subI l zl' zh = some m)
  (k : ∀ a A' cap', Env a n ds ((d, .slice A' m.length cap') :: E) → Sl K D A' cap' m → C1 a) : Tk P ops R i n ds E a w C1 := by
 obtain ⟨h1, ii, z, h2, _, h4, _⟩ := slT_spec hT
 exact tk_slice ho hop hg hd hE hn hx h1 (by simp [h2, h4]) hlo hhi hl hm k
theorem g_sliceArr {kk : IntKind} {t e : Nat} {x : Operand} {lo hi : Option Operand} {zl zh : Int} {b : Nat} {T : TypeId} {fr : Nat × Nat} {N : Nat} {v : Vector Int N} {m : List Int} (ho : ops[i]? = some o) (hop : o.op = .slice t x lo hi none) (hg : guardOf ops E o = some true) (hd : o.dst = some d) (hE : Env a n ds E) (hn : Nat.blt d n = true)
  (hx : evalO E x = some (.pointer (some ⟨b, 0, none⟩))) (hT : arT P t = some (N, e, 1)) (hlo : bndOk E lo 0 zl) (hhi : bndOk E hi N zh) (hD : D b = some (.cells (acells kk N v).toArray T fr)) (hN : Nat.ble N 1000000 = true) (hm : subI (vlist v) zl zh = some m)
  (k : ∀ a A' cap', Env a n ds ((d, .slice A' m.length cap') :: E) → Sl (kdInt kk) D A' cap' m → C1 a) : Tk P ops R i n ds E a w C1 := by
 obtain ⟨h1, h2⟩ := arT_spec hT
 exact tk_sliceArr ho hop hg hd hE hn hx h1 h2 hlo hhi hD hN hm k
theorem g_append {f : Bool} {α : Type} {K : Kd α} {s x : Operand} {t e bytes : Nat} {A B : Option Addr} {cap cap2 : Nat} {l m lm : List α} {q : Blk} (ho : ops[i]? = some o) (hop : o.op = .call { callee := .builtin .append, args := #[s, x], argTypes := #[t, t] }) (hg : guardOf ops E o = some true) (hd : o.dst = some d) (hE : Env a n ds E) (hn : Nat.blt d n = true)
  (hS : Stp g w0 D0 L0 w D (q :: L)) (hs : evalO E s = some (.slice A l.length cap)) (hx : evalO E x = some (.slice B m.length cap2))
  (hT : slT P t = some (e, K.n, bytes, K.n)) (hpos : Nat.blt 0 K.n = true) (hb1 : Nat.blt 0 bytes = true)
  (hown : OwnX f K e D A cap l q) (hm : Sl K D B cap2 m) (hfit : catI bytes l m = some lm)
  (k : ∀ a A' cap' q' w', Keeps (ids [q]) w w' → Env a n ds ((d, .slice A' lm.length cap') :: E) → OwnX f K e D A' cap' lm q' → Stp g w0 D0 L0 w' D (q' :: L) → C a w') : Op1 P ρ ops Q i C a w := by
 obtain ⟨h1, ii, z, h2, h3, h4, h5, h6⟩ := slT_spec hT
 obtain ⟨hf, rfl⟩ := catI_some hfit
 exact op_append ho hop hg hd hE hn hS hs hx h1 h2 h3 h4 h5 h6 hpos hb1 hown hm hf k
/-! ### results -/
def retV : List Value → Value
 | [v] => v
 | vs => .tuple vs.toArray
def ResOk (P : Program) (E : List (Nat × Value)) (w : World) : List ResultVar → List Value → Prop
 | [], vs => vs = []
 | .tmp t :: rs, vs => ∃ v us, vs = v :: us ∧ look E t = some v ∧ ResOk P E w rs us
 | .cell p t :: rs, vs => ∃ v us b off c T, vs = v :: us ∧ look E p = some (.pointer (some ⟨b, off, none⟩)) ∧ w.heap[b]? = some (.cells (List.toArray c) T (0, 0)) ∧ ldv P t c off = some v ∧ ResOk P E w rs us
def resOne (a : Act) (r : ResultVar) : Sem Value :=
 match r with
 | .tmp t => pure (a.tmps.getD t undef)
 | .cell p t => do loadVar t (← asAddr (a.tmps.getD p undef))
theorem resOk_run (hE : Env a n ds E) : ∀ (rs : List ResultVar) (vs : List Value), ResOk P E w rs vs →
  Sem.run P (rs.mapM (resOne a)) w = .ok vs w := by
 intro rs
 induction rs with
 | nil => intro vs h; simp only [ResOk] at h; subst h; rfl
 | cons r rs ih =>
  intro vs h
  cases r with
  | tmp t =>
   obtain ⟨v, us, rfl, hv, h⟩ := h
   have h1 := hE.at_ t v hv
   simp [List.mapM_cons, resOne, h1, ih us h]
  | cell p t =>
   obtain ⟨v, us, b, off, c, T, rfl, hp, hb, hv, h⟩ := h
   have h1 := hE.at_ p _ hp
   simp [List.mapM_cons, resOne, h1, asAddr, ldv_run hb hv, ih us h]
theorem ret_gen {fn : Func} {R : Ending → World → Prop} (vs : List Value) (hE : Env a n [] E) (h : ResOk P E w fn.results.toList vs) (hR : R (.returned (retV vs)) w) : bodyPost P fn R .ret a w := by
 refine ⟨hE.ds, retV vs, ?_, hR⟩
 have h1 := resOk_run (P := P) (w := w) hE _ _ h
 have h2 : Sem.run P (fn.results.mapM (resOne a)) w = .ok vs.toArray w := by
  rw [Array.mapM_eq_mapM_toList]
  simp only [Sem.run_map, h1, Result.andThen_ok]
 have h3 : results fn a.tmps = (do let vs ← fn.results.mapM (resOne a); pure (if h : vs.size = 1 then vs[0] else .tuple vs)) := rfl
 rw [h3, Sem.run_bind, h2]
 simp only [Result.andThen_ok, Sem.run_pure]
 match vs with
 | [] => rfl
 | [v] => rfl
 | v :: u :: vs => simp [retV]
theorem ret_genN {fn : Func} {R : Ending → World → Prop} (vs : List Value) (hE : Env a n [] E) (h : ResOk P E w fn.results.toList vs) (hR : R (.returned (retV vs)) w) : bodyPost P fn R .normal a w :=
 ret_gen vs hE h hR
end
end Go.Sep
