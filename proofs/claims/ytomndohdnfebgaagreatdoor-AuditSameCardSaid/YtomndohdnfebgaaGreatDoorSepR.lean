/-
 A range over a function: the record of the loop and the block of its deferred calls are owned; the rounds are walked where the iterator calls yield.
-/
import Derived.Test.YtomndohdnfebgaaGreatDoorSepI
import Derived.RangeFuncLeaves
import Derived.RangeFuncRecord
namespace Go.Sep
section
variable {P : Program} {ρ : Option Nat} {ops : Array Oper} {Q : Exit → Act → World → Prop} {a : Act} {n : Nat} {ds : List Deferred} {E : List (Nat × Value)}
variable {g w w0 : World} {D D0 : Snap} {L L0 : List Blk} {i : Nat} {o : Oper} {d : Nat} {C : Act → World → Prop} {C1 : Act → Prop} {R : World → World → Prop}
theorem vlist_get {N : Nat} {v : Vector Int N} {m : Nat} {y : Int} (h : (vlist v)[m]? = some y) : m < N ∧ y = vget v m := by
 obtain ⟨h1, h2⟩ := List.getElem?_eq_some_iff.1 h
 simp [vlist] at h1 h2
 exact ⟨h1, h2.symm⟩
/-- 'index' of an array's value -/
theorem tk_indexA {t N : Nat} {x ix : Operand} {kk k : IntKind} {v : Vector Int N} {m y : Int} (ho : ops[i]? = some o) (hop : o.op = .index t x ix) (hg : guardOf ops E o = some true) (hd : o.dst = some d) (hE : Env a n ds E) (hn : Nat.blt d n = true)
  (hx : evalO E x = some (.agg (List.toArray (acells k N v)))) (hix : evalO E ix = some (.int kk m)) (hT : arrIntT P t = some (N, k)) (hy : getI (vlist v) m = some y)
  (c : ∀ a, Env a n ds ((d, .int k y) :: E) → C1 a) : Tk P ops R i n ds E a w C1 := by
 obtain ⟨e, ii, h1, h2, h3, h4⟩ := arrIntT_spec hT
 obtain ⟨h0, hy'⟩ := getI_some hy
 obtain ⟨hlt, rfl⟩ := vlist_get hy'
 have hltI : m < (N : Int) := by omega
 refine tk_of (v := .int k (vget v m.toNat)) hE ho hg hd hn (by simp [hop, noDefer]) (fun w' _ => ?_) c
 have hp := part_acells (P := P) h2 v hlt w'
 simp [execOp, hop, hE.eval hx, hE.eval hix, Instr.index, asIntOf, run_underlying' h1, h0, hltI, Go.sizeOf, typeInfo, h3, h4]
 rw [Nat.mul_one] at hp
 rw [hp]; rfl
def arT2 (P : Program) (t : TypeId) : Option (Nat × TypeId × Nat) :=
 match P.underlying t with
 | some (.array N e) => match P.info? e with
  | some i => some (N, e, i.size)
  | none => none
 | _ => none
theorem arT2_spec {t N e sz : Nat} (h : arT2 P t = some (N, e, sz)) : ∃ i, P.underlying t = some (.array N e) ∧ P.info? e = some i ∧ i.size = sz := by
 unfold arT2 at h
 split at h
 ·rename_i hu
  split at h
  ·rename_i i h2
   simp only [Option.some.injEq, Prod.mk.injEq] at h
   obtain ⟨rfl, rfl, rfl⟩ := h
   exact ⟨i, hu, h2, rfl⟩
  ·cases h
 ·cases h
/-- 'index' of an array's value, at a place that is known -/
theorem tk_indexV {t N e sz : Nat} {x ix : Operand} {kk : IntKind} {cs : List Value} {m : Int} (j : Nat) (v : Value) (ho : ops[i]? = some o) (hop : o.op = .index t x ix) (hg : guardOf ops E o = some true) (hd : o.dst = some d) (hE : Env a n ds E) (hn : Nat.blt d n = true)
  (hx : evalO E x = some (.agg (List.toArray cs))) (hix : evalO E ix = some (.int kk m)) (hm : m = (j : Int)) (hT : arT2 P t = some (N, e, sz)) (hj : Nat.blt j N = true) (hv : ldv P e cs (j * sz) = some v)
  (c : ∀ a, Env a n ds ((d, v) :: E) → C1 a) : Tk P ops R i n ds E a w C1 := by
 obtain ⟨ii, h1, h3, rfl⟩ := arT2_spec hT
 subst hm
 have hlt : j < N := by simpa [Nat.blt_eq] using hj
 refine tk_of (v := v) hE ho hg hd hn (by simp [hop, noDefer]) (fun w' _ => ?_) c
 have hp := part_run hv w'
 simp [execOp, hop, hE.eval hx, hE.eval hix, Instr.index, asIntOf, run_underlying' h1, hlt, Go.sizeOf, typeInfo, h3]
 rw [hp]; rfl
end
section
variable {P : Program} {ρ : Option Nat} {ops : Array Oper} {Rf : Nat → World → World → Prop} {K : Act → World → Prop} {a : Act} {w : World}
end
/-- blocks that may be written, and have come back as they were -/
def SubK (w w' : World) (M' : List Nat) : List Nat → Prop
 | [] => True
 | b :: l => (b ∈ M' ∨ w'.heap[b]? = w.heap[b]?) ∧ SubK w w' M' l
theorem SubK.at_ {w w' : World} {M' : List Nat} : ∀ {l : List Nat}, SubK w w' M' l → ∀ b, b ∈ l → b ∈ M' ∨ w'.heap[b]? = w.heap[b]? := by
 intro l
 induction l with
 | nil => intro _ b hb; cases hb
 | cons c l ih =>
  intro h b hb
  rcases List.mem_cons.1 hb with rfl | hb
  ·exact h.1
  ·exact ih h.2 b hb
theorem Keeps.sub {M M' : List Nat} {w w' : World} (h : Keeps M w w') (hs : SubK w w' M' M) : Keeps M' w w' := ⟨h.1, fun b hb hn => by
 by_cases hm : b ∈ M
 ·rcases hs.at_ b hm with h1 | h1
  ·exact absurd h1 hn
  ·exact h1
 ·exact h.2 b hb hm⟩
/-! ### what the operations of a drawn region write -/
def mfOf : List (Nat × List Nat) → Nat → List Nat
 | [], _ => []
 | (k, l) :: t, j => bif Nat.beq k j then l else mfOf t j
section
variable {P : Program} {ρ : Option Nat} {ops : Array Oper} {K : Act → World → Prop} {a : Act} {w : World} {n : Nat} {ds : List Deferred} {E : List (Nat × Value)}
end
theorem dn_nil {D : Snap} : ∀ m, m ∈ ([] : List Nat) → ∀ p, D m = some p → oupto 0 p := fun _ h => absurd h List.not_mem_nil
end Go.Sep
namespace Go.Sep
section
variable {P : Program} {ρ : Option Nat} {ops : Array Oper} {Q : Exit → Act → World → Prop} {a : Act} {n : Nat} {ds : List Deferred} {E : List (Nat × Value)}
variable {g w w0 : World} {len : Nat} {D D0 : Snap} {L L0 : List Blk} {i : Nat} {o : Oper} {d : Nat} {C : Act → World → Prop} {C1 : Act → Prop} {R : World → World → Prop}
theorem rem_run {t : TypeId} {x y : Operand} {k : IntKind} {p q : Int} (hq : decide (q = 0) = false) (w : World) : (do eqGuard .rem t x y (.int k p) (.int k q); binOp .rem t (.int k p) (.int k q) : Sem Value).run P w = .ok (.int k (Int.tmod p q)) w := by
 have hq' : q ≠ 0 := of_decide_eq_false hq
 refine bin_run (guard_run trivial) (fun w => ?_) w
 simp [binOp, Op.intDiv, hq']
theorem quo_run {t : TypeId} {x y : Operand} {k : IntKind} {p q : Int} (hq : decide (q = 0) = false) (w : World) : (do eqGuard .quo t x y (.int k p) (.int k q); binOp .quo t (.int k p) (.int k q) : Sem Value).run P w = .ok (.int k (k.wrap (Int.tdiv p q))) w := by
 have hq' : q ≠ 0 := of_decide_eq_false hq
 refine bin_run (guard_run trivial) (fun w => ?_) w
 simp [binOp, Op.intDiv, hq']
theorem shl_run {t : TypeId} {x y : Operand} {k k' : IntKind} {p q : Int} (hq : decide (q < 0) = false) (w : World) : (do eqGuard .shl t x y (.int k p) (.int k' q); binOp .shl t (.int k p) (.int k' q) : Sem Value).run P w = .ok (.int k (k.wrap (p * 2 ^ (min q.toNat k.bits)))) w := by
 have hq' : ¬ q < 0 := of_decide_eq_false hq
 refine bin_run (guard_run trivial) (fun w => ?_) w
 simp [binOp, Op.shift, hq']
theorem shr_run {t : TypeId} {x y : Operand} {k k' : IntKind} {p q : Int} (hq : decide (q < 0) = false) (w : World) : (do eqGuard .shr t x y (.int k p) (.int k' q); binOp .shr t (.int k p) (.int k' q) : Sem Value).run P w = .ok (.int k (Int.fdiv p (2 ^ (min q.toNat k.bits)))) w := by
 have hq' : ¬ q < 0 := of_decide_eq_false hq
 refine bin_run (guard_run trivial) (fun w => ?_) w
 simp [binOp, Op.shift, hq']
theorem chk_not {α : Type} {b : Bool} {x : Option α} {r : α} (h : chk (!b) x = some r) : b = false ∧ x = some r := by
 cases b with
 | true => cases h
 | false => exact ⟨rfl, h⟩
end
end Go.Sep
namespace Go.Sep
/-! ### drawn operations -/
def lbL : Nat → Nat → List Bool
 | 0, _ => []
 | n + 1, m => Nat.beq (m % 2) 1 :: lbL n (m / 2)
/-- which operations were carried out, as a number's bits -/
def lb (n m : Nat) : Array Bool := (lbL n m).toArray
def eqB : List Bool → List Bool → Bool
 | [], [] => true
 | x :: l, y :: m => (x == y) && eqB l m
 | _, _ => false
theorem eqB_spec : ∀ {l m : List Bool}, eqB l m = true → l = m
 | [], [], _ => rfl
 | x :: l, y :: m, h => by
  simp only [eqB, Bool.and_eq_true, beq_iff_eq] at h
  rw [h.1, eqB_spec h.2]
 | [], _ :: _, h => by cases h
 | _ :: _, [], h => by cases h
def setB (ops : Array Oper) (listed : Array Bool) (i m : Nat) : Bool := eqB (listed.toList.set i true) (lbL ops.size m)
theorem setB_spec {ops : Array Oper} {listed : Array Bool} {i m : Nat} (h : setB ops listed i m = true) : listed.setIfInBounds i true = lb ops.size m := by
 apply Array.ext'
 rw [Array.toList_setIfInBounds]
 exact eqB_spec h
def okT (ops : Array Oper) (listed : Array Bool) (i m : Nat) : Bool := noSelDef ops && (Region.free .any ops listed i && ((Region.ready .any ops listed).contains i && setB ops listed i m))
theorem okT_spec {ops : Array Oper} {listed : Array Bool} {i m : Nat} (h : okT ops listed i m = true) : noSelDef ops = true ∧ Region.free .any ops listed i = true ∧ (Region.ready .any ops listed).contains i = true ∧ listed.setIfInBounds i true = lb ops.size m := by
 unfold okT at h
 simp only [Bool.and_eq_true] at h
 exact ⟨h.1, h.2.1, h.2.2.1, setB_spec h.2.2.2⟩
def isOnly : List Nat → Nat → Bool
 | [j], i => Nat.beq j i
 | _, _ => false
theorem isOnly_spec : ∀ {l : List Nat} {i : Nat}, isOnly l i = true → l = [i]
 | [j], i, h => by rw [Nat.eq_of_beq_eq_true h]
 | [], _, h => by cases h
 | _ :: _ :: _, _, h => by cases h
section
variable {P : Program} {ρ : Option Nat} {ops : Array Oper} {K : Act → World → Prop} {Rf : Nat → World → World → Prop} {a : Act} {w : World} {n : Nat} {ds : List Deferred} {E : List (Nat × Value)}
theorem tW [hI : Idle Rf] (i m : Nat) {fuel : Nat} {listed : Array Bool} (hc : okT ops listed i m = true) (hE : Env a n ds E)
  (h : ∀ R, Tk P ops R i n ds E a w (fun a => wpG P ρ ops Rf K (Qn K) fuel (lb ops.size m) a w)) : wpG P ρ ops Rf K (Qn K) (fuel + 1) listed a w :=
 takeW i _ (okT_spec hc).1 (okT_spec hc).2.1 (okT_spec hc).2.2.1 (okT_spec hc).2.2.2 hE h
theorem tT {Mf : Nat → List Nat} (i m : Nat) {fuel : Nat} {listed : Array Bool} (hc : (okT ops listed i m && calmB Mf ops listed i) = true) (hE : Env a n ds E)
  (h : Tk P ops (Keeps []) i n ds E a w (fun a => wpG P ρ ops (fun j => Keeps (Mf j)) K (Qn K) fuel (lb ops.size m) a w)) : wpG P ρ ops (fun j => Keeps (Mf j)) K (Qn K) (fuel + 1) listed a w := by
 rw [Bool.and_eq_true] at hc
 exact takeT i _ (okT_spec hc.1).1 (okT_spec hc.1).2.1 (okT_spec hc.1).2.2.1 (okT_spec hc.1).2.2.2 hc.2 hE h
theorem oG (i m : Nat) {fuel : Nat} {listed : Array Bool} (hc : (isOnly (Region.ready .any ops listed) i && setB ops listed i m) = true)
  (h : Op1 P ρ ops (Qn K) i (fun a' w' => Rf i w w' ∧ wpG P ρ ops Rf K (Qn K) fuel (lb ops.size m) a' w') a w) : wpG P ρ ops Rf K (Qn K) (fuel + 1) listed a w := by
 rw [Bool.and_eq_true] at hc
 exact onlyG (isOnly_spec hc.1) (setB_spec hc.2) h
end
/-! ### what is known -/
def catE : List (Nat × Value) → List (Nat × Value) → List (Nat × Value)
 | [], E => E
 | x :: l, E => x :: catE l E
section
variable {P : Program} {ρ : Option Nat} {ops : Array Oper} {Q : Exit → Act → World → Prop} {a : Act} {w : World} {n : Nat} {ds : List Deferred} {E : List (Nat × Value)}
/-- what is written is new, or was not known -/
def dstsOk (ops : Array Oper) (N E : List (Nat × Value)) : Nat → Nat → Bool
 | 0, _ => true
 | m + 1, i => (match ops[i]? with | some o => (match o.dst with | some d => (look N d).isSome || (look E d).isNone | none => true) | none => true) && dstsOk ops N E m (i + 1)
theorem look_cat : ∀ (N : List (Nat × Value)) (t : Nat) (v : Value), look (catE N E) t = some v → look N t = some v ∨ (look N t = none ∧ look E t = some v)
 | [], t, v, h => .inr ⟨rfl, h⟩
 | (k, u) :: N, t, v, h => by
  simp only [catE, look] at h ⊢
  cases hb : Nat.beq k t with
  | true => rw [hb] at h; exact .inl h
  | false => rw [hb] at h; exact look_cat N t v h
theorem evalSeg_look {N E0 : List (Nat × Value)} {t : Nat} (hN : look N t = none) (hE0 : (look E0 t).isSome = true) : ∀ (m i : Nat) (E X : List (Nat × Value)), evalSeg P ops n m i E = some X → dstsOk ops N E0 m i = true → look X t = look E t := by
 intro m
 induction m with
 | zero =>
  intro i E X h _
  simp only [evalSeg, Option.some.injEq] at h
  rw [h]
 | succ m ih =>
  intro i E X h hd
  simp only [evalSeg] at h
  simp only [dstsOk, Bool.and_eq_true] at hd
  split at h
  ·cases h
  ·rename_i o ho
   rw [ho] at hd
   have hu : ∀ v, look (upd E o.dst v) t = look E t := by
    intro v
    cases hdst : o.dst with
    | none => rfl
    | some d =>
     have h1 := hd.1
     simp only [hdst, Bool.or_eq_true] at h1
     simp only [upd, look]
     cases hb : Nat.beq d t with
     | false => rfl
     | true =>
      have := Nat.eq_of_beq_eq_true hb
      subst this
      rcases h1 with h1 | h1
      ·rw [hN] at h1; cases h1
      ·rw [Option.isNone_iff_eq_none] at h1
       rw [h1] at hE0; cases hE0
   cases hdo : dstOk n o.dst with
   | false => rw [hdo] at h; cases h
   | true =>
    rw [hdo] at h
    simp only [cond_true] at h
    split at h
    ·cases hs : srcOk P o.op with
     | false => rw [hs] at h; cases h
     | true =>
      rw [hs] at h
      simp only [cond_true] at h
      split at h
      ·rw [ih _ _ _ h hd.2, hu]
      ·cases h
    ·rw [ih _ _ _ h hd.2, hu]
    ·cases h
/-- m operations without memory, from the i-th on; what is new behind them -/
theorem segN (m : Nat) {i j : Nat} (N : List (Nat × Value)) (hE : Env a n ds E) (h : (evalSeg P ops n m i E).map (fun X => (sub X N, dstsOk ops N E m i)) = some (sub' N, true)) (hj : i + m = j)
  (k : ∀ a', Env a' n ds (catE N E) → At P ρ ops Q j a' w) : At P ρ ops Q i a w := by
 subst hj
 cases he : evalSeg P ops n m i E with
 | none => rw [he] at h; cases h
 | some X =>
  rw [he] at h
  simp only [Option.map_some, Option.some.injEq, Prod.mk.injEq] at h
  refine seg_sound m i E X a hE he fun a' h' => k a' ⟨h'.size, h'.ds, fun t v hv => h'.at_ t v ?_⟩
  rcases look_cat N t v hv with h1 | ⟨h1, h2⟩
  ·exact look_sub h.1 t v h1
  ·rw [evalSeg_look h1 (by rw [h2]; rfl) m i E X he h.2]
   exact h2
end
/-! ### blocks -/
/-- the chosen ones -/
inductive Pick {α : Type} (L : List α) : List Nat → List α → Prop
 | n : Pick L [] []
 | c {x : α} {is : List Nat} {l : List α} (i : Nat) (h : L[i]? = some x) (t : Pick L is l) : Pick L (i :: is) (x :: l)
theorem Pick.map {α : Type} {L : List α} : ∀ {is : List Nat} {l : List α}, Pick L is l → is.map (fun i => L[i]?) = l.map some := by
 intro is l h
 induction h with
 | n => rfl
 | c i h t ih => simp [h, ih]
def nodupN : List Nat → Bool
 | [] => true
 | i :: l => !l.contains i && nodupN l
theorem nodupN_spec : ∀ {l : List Nat}, nodupN l = true → l.Nodup := by
 intro l
 induction l with
 | nil => intro _; exact List.nodup_nil
 | cons i l ih =>
  intro h
  simp only [nodupN, Bool.and_eq_true, Bool.not_eq_true'] at h
  refine List.nodup_cons.2 ⟨fun hm => ?_, ih h.2⟩
  have := List.contains_iff_mem.2 hm
  rw [h.1] at this
  cases this
inductive App {α : Type} (R : List α) : List α → List α → Prop
 | n : App R [] R
 | c {x : α} {l m : List α} (t : App R l m) : App R (x :: l) (x :: m)
theorem App.eq {α : Type} {R l m : List α} (h : App R l m) : l ++ R = m := by
 induction h with
 | n => rfl
 | c t ih => simp [ih]
section
variable {g w0 w w' : World} {D0 D D' : Snap} {L0 L L' R M M' : List Blk}
theorem Stp.pk {is : List Nat} (h : Stp g w0 D0 L0 w D L) (hp : Pick L is L') (hn : nodupN is = true) : Stp g w0 D0 L0 w D L' := h.sel is hp.map (nodupN_spec hn)
theorem Stp.callR (h0 : Stp g w0 D0 L0 w D M) (h : Stp g w D L w' D' L') (he : L ++ R = M) (ha : App R L' M') : Stp g w0 D0 L0 w' D' M' := by
 subst he
 rw [← ha.eq]
 exact h0.call h
end
end Go.Sep
namespace Go.Sep
def rcd (st : LoopState) (pe : Option Code) (fn : FuncId) (tmps : Array Value) (ps : Array Tmp) (assign body : Code) (d : Nat) : Loop :=
 { state := st, pending := pe, fn := fn, tmps := tmps, params := ps, assign := assign, body := body, defers := d }
abbrev lp (l : Nat) (r : Loop) : Blk := some (l, (.loop r, 0))
abbrev dk (b : Nat) : Blk := some (b, (.deferred (some []), 0))
abbrev markD (b : Nat) : Deferred := { target := .collected b, args := #[] }
section
variable {P : Program} {ρ : Option Nat} {ops : Array Oper} {Q : Exit → Act → World → Prop} {a : Act} {n : Nat} {ds : List Deferred} {E : List (Nat × Value)}
variable {g w w' w0 : World} {D D0 : Snap} {L L0 : List Blk} {i : Nat} {o : Oper} {d : Nat} {C : Act → World → Prop}
theorem Stp.obj {b : Nat} {o o' : Obj} (ho : ∀ C T fr, o ≠ .cells C T fr) (h : Stp g w0 D0 L0 w D (some (b, (o, 0)) :: L)) : Stp g w0 D0 L0 (w.putObj b o') D (some (b, (o', 0)) :: L) := by
 have hlt : b < w.heap.size := lt_of_heap (h.st.l b (o, 0) (by simp)).1
 refine h.put (o' := (o', 0)) ?_ (by simp [World.putObj]) rfl rfl rfl (World.putObj_heap_same hlt) (fun k hk => World.putObj_heap_other hk)
 rintro p ⟨C0, T0, fr0, rfl, h0⟩ h1
 obtain ⟨C', T', fr', e, _⟩ := h1
 exact absurd e (ho C' T' fr')
theorem range_in {gop : Operand} {ps : Array Tmp} {assign body : Code} {gf : FuncId} {captured : Array Value} (hE : Env a n ds E) (hS : Stp g w0 D0 L0 w D L)
  (hg : evalO E gop = some (.func (.func gf) #[] captured)) (hfn : (P.funcs[gf]?).map (fun F => (F.name == "runtime.NumGoroutine", F.body.isNone)) = some (false, false))
  (k : ∀ fn l dd w', Stp g w0 D0 L0 w' D (lp l (rcd .ready none fn a.tmps ps assign body dd) :: dk dd :: L) →
   CallsIn (Fw none) 0 P gf (List.toArray (.func (.yield l) #[] #[] :: captured.toList)) w' (rangePost (Fw none) 0 P l Q { a with defers := markD dd :: a.defers })) :
  (Code.rangeFunc gop ps assign body).wpIn (Fw none) 0 P Q a w := by
 obtain ⟨F, hF, hF2⟩ := Option.map_eq_some_iff.1 hfn
 simp only [Prod.mk.injEq] at hF2
 have h1 : ¬ F.name = "runtime.NumGoroutine" := by simpa using hF2.1
 have h2 : F.body ≠ none := by intro e; rw [e] at hF2; simp at hF2
 have hge := hE.eval hg
 have eg : ∀ args w, (callFunc gf args).run P w = .ok (.enter gf args) w := by
  intro args w
  simp [callFunc, hF, h1, h2]
 refine wpIn_rangeFunc (fun fn hfn => ?_)
 have hS2 := (hS.alloc (.deferred (some []))).alloc (.loop (rcd .ready none fn a.tmps ps assign body w.heap.size))
 have hsz : (w.alloc (.deferred (some []))).heap.size = w.heap.size + 1 := by simp
 rw [hsz] at hS2
 have hen := run_enterLoop_outer (P := P) (w := w) fn a.tmps ps assign body
 obtain ⟨W1, hW1⟩ : ∃ W1, W1 = (w.alloc (.deferred (some []))).alloc (.loop (rcd .ready none fn a.tmps ps assign body w.heap.size)) := ⟨_, rfl⟩
 rw [← hW1] at hS2
 have hen : (Instr.enterLoop fn a.tmps ps assign body none).run P w = .ok (w.heap.size + 1, [markD w.heap.size]) W1 := by rw [hW1]; exact hen
 have hk := k fn (w.heap.size + 1) w.heap.size W1 hS2
 have e : #[Value.func (.yield (w.heap.size + 1)) #[] #[]] ++ captured = List.toArray (.func (.yield (w.heap.size + 1)) #[] #[] :: captured.toList) := by
  apply Array.ext'; simp
 rw [← e] at hk
 refine ⟨w.heap.size + 1, [markD w.heap.size], W1, { target := .fn (.func gf) captured, args := #[.func (.yield (w.heap.size + 1)) #[] #[]] }, W1, gf, #[.func (.yield (w.heap.size + 1)) #[] #[]] ++ captured, W1, hen, ?_, ?_, ?_, ?_, ?_⟩
 ·simp only [resolve, hge]
  simp [go_sem]
 ·intro f' hf'; trivial
 ·simp [invoke, go_sem, eg]
 ·intro h; exact absurd h (by decide)
 ·exact hk
end
section
variable {P : Program} {ρ : Option Nat} {ops : Array Oper} {Q : Exit → Act → World → Prop} {a : Act} {n : Nat} {ds : List Deferred} {E : List (Nat × Value)}
variable {g w w' w0 : World} {D D0 : Snap} {L L0 : List Blk} {i : Nat} {o : Oper} {d : Nat} {C : Act → World → Prop}
/-- a round's temporaries: those of the loop's beginning, the handed ones in the parameters -/
def zipE : List Tmp → List Value → List (Nat × Value) → List (Nat × Value)
 | t :: ts, v :: vs, E => zipE ts vs ((t, v) :: E)
 | _, _, E => E
theorem env_zip {n0 : Nat} : ∀ (ts : List Tmp) (vs : List Value) (E : List (Nat × Value)) (tmps : Array Value), Env { tmps := tmps, defers := [] } n0 [] E → ts.length = vs.length → ts.all (fun t => Nat.blt t n0) = true →
  Env { tmps := (ts.zip vs).foldl (fun tmps (x : Tmp × Value) => tmps.setIfInBounds x.1 x.2) tmps, defers := [] } n0 [] (zipE ts vs E)
 | [], [], E, tmps, h, _, _ => h
 | t :: ts, v :: vs, E, tmps, h, hl, hb => by
  simp only [List.all_cons, Bool.and_eq_true] at hb
  have h2 := h.put (d := some t) hb.1 v
  exact env_zip ts vs ((t, v) :: E) _ h2 (by simpa using hl) hb.2
 | [], _ :: _, _, _, _, hl, _ => by cases hl
 | _ :: _, [], _, _, _, hl, _ => by cases hl
/-- what a round's end hands on -/
def Rk (n : Nat) (ds : List Deferred) (E : List (Nat × Value)) (d : Nat) (C : Act → World → Prop) : Ending → World → Prop :=
 fun e w2 => ∃ v, e = .returned v ∧ ∀ a', Env a' n ds ((d, v) :: E) → C a' w2
theorem op_yield {l fn dd n0 : Nat} {ps : Array Tmp} {assign body : Code} {a0 : Act} {ds0 : List Deferred} {E0 : List (Nat × Value)} {fv : Operand} {xs : Array Operand} {ts : Array TypeId} {args : List Value}
  (ho : ops[i]? = some o) (hop : o.op = .call { callee := .value fv, args := xs, argTypes := ts }) (hg : guardOf ops E o = some true) (hd : o.dst = some d) (hE : Env a n ds E) (hn : Nat.blt d n = true)
  (hf : evalO E fv = some (.func (.yield l) #[] #[])) (hxs : evalArgs E xs.toList = some args) (hS : Stp g w0 D0 L0 w D (lp l (rcd .ready none fn a0.tmps ps assign body dd) :: L)) (hE0 : Env a0 n0 ds0 E0)
  (hps : ps.toList.length = args.length) (hpb : ps.toList.all (fun t => Nat.blt t n0) = true)
  (k : ∀ a1, Env a1 n0 [] (zipE ps.toList args E0) → assign.wpIn (Fw (some l)) 0 P (Exit.then (fun a1 w1 => ∃ w2, (Instr.beginRound l).run P w1 = .ok () w2 ∧ body.wpIn (Fw (some l)) 0 P (roundPost P l (Rk n ds E d C)) a1 w2) (fun _ _ _ => False)) a1 w) :
  Op1 P none ops Q i C a w := by
 have hargs : xs.map a.eval = args.toArray := by
  have := evalArgs_map (E := E) (ev := a.eval) (fun _ _ h => hE.eval h) _ _ hxs
  rw [← Array.toList_map] at this
  rw [← this]
 have hL := (hS.st.l l (.loop (rcd .ready none fn a0.tmps ps assign body dd), 0) (by simp)).1
 have hw := wanted_of (ops := ops) hE hg
 have hnd : noDefer o.op = true := by simp [hop, noDefer]
 have hy := run_yield (P := P) (args := args.toArray) hL (by simp [rcd, ← hps])
 have hr0 : (execOp a.eval o).run P w = (Instr.yield l args.toArray).run P w := by
  simp [execOp, hop, resolve, hE.eval hf, Deferred.ofValue, hargs, invoke]
 have e1 : ((rcd .ready none fn a0.tmps ps assign body dd).params.zip args.toArray).foldl (fun tmps (t, a) => tmps.setIfInBounds t a) (rcd .ready none fn a0.tmps ps assign body dd).tmps = (ps.toList.zip args).foldl (fun tmps (x : Tmp × Value) => tmps.setIfInBounds x.1 x.2) a0.tmps := by
  show (ps.zip args.toArray).foldl (fun tmps (x : Tmp × Value) => tmps.setIfInBounds x.1 x.2) a0.tmps = _
  rw [← Array.foldl_toList, Array.toList_zip]
 rw [e1] at hy
 have hr := hr0.trans hy
 simp only [Op1, wpOpIn, ho, hw, if_true, Oper.wpIn]
 refine ⟨fun _ _ => trivial, ?_⟩
 rw [semAt_of hnd, hr]
 refine ⟨fun h => (by cases h), ?_⟩
 have hE1 : Env { tmps := a0.tmps, defers := [] } n0 [] E0 := ⟨hE0.size, rfl, fun t v h => hE0.at_ t v h⟩
 have hz := env_zip ps.toList args E0 a0.tmps hE1 hps hpb
 refine RoundIn.mono (roundIn_of_wpIn (F := Fw none) trivial (k _ hz)) ?_
 rintro e w2 ⟨v, rfl, hk⟩
 have hdo : dstOk n o.dst = true := by simp [hd, dstOk, hn]
 have := hE.put hdo v
 rw [hd] at this
 rw [hd]
 exact hk _ this
theorem begin_in {l fn dd : Nat} {tmps : Array Value} {ps : Array Tmp} {assign body : Code} {X : World → Prop} (hS : Stp g w0 D0 L0 w D (lp l (rcd .ready none fn tmps ps assign body dd) :: L))
  (k : ∀ w2, Stp g w0 D0 L0 w2 D (lp l (rcd .busy none fn tmps ps assign body dd) :: L) → X w2) : ∃ w2, (Instr.beginRound l).run P w = .ok () w2 ∧ X w2 :=
 ⟨_, run_beginRound (hS.st.l l (.loop (rcd .ready none fn tmps ps assign body dd), 0) (by simp)).1 rfl, k _ (hS.obj (fun _ _ _ h => by cases h))⟩
theorem round_normal {l fn dd : Nat} {tmps : Array Value} {ps : Array Tmp} {assign body : Code} {a1 : Act} (hS : Stp g w0 D0 L0 w D (lp l (rcd .busy none fn tmps ps assign body dd) :: L))
  (k : ∀ w2 a', Stp g w0 D0 L0 w2 D (lp l (rcd .ready none fn tmps ps assign body dd) :: L) → Env a' n ds ((d, .bool true) :: E) → C a' w2) : roundPost P l (Rk n ds E d C) .normal a1 w :=
 ⟨_, _, run_endRound none (hS.st.l l (.loop (rcd .busy none fn tmps ps assign body dd), 0) (by simp)).1, _, rfl, fun a' hE => k _ a' (hS.obj (fun _ _ _ h => by cases h)) hE⟩
theorem round_ret {l fn dd : Nat} {tmps : Array Value} {ps : Array Tmp} {assign body : Code} {a1 : Act} (hS : Stp g w0 D0 L0 w D (lp l (rcd .busy none fn tmps ps assign body dd) :: L))
  (k : ∀ w2 a', Stp g w0 D0 L0 w2 D (lp l (rcd .done (some .ret) fn tmps ps assign body dd) :: L) → Env a' n ds ((d, .bool false) :: E) → C a' w2) : roundPost P l (Rk n ds E d C) .ret a1 w :=
 ⟨_, _, run_endRound (some .ret) (hS.st.l l (.loop (rcd .busy none fn tmps ps assign body dd), 0) (by simp)).1, _, rfl, fun a' hE => k _ a' (hS.obj (fun _ _ _ h => by cases h)) hE⟩
theorem round_exit {l fn dd id : Nat} {tmps : Array Value} {ps : Array Tmp} {assign body : Code} {a1 : Act} (hS : Stp g w0 D0 L0 w D (lp l (rcd .busy none fn tmps ps assign body dd) :: L))
  (k : ∀ w2 a', Stp g w0 D0 L0 w2 D (lp l (rcd .done (some (.exit id)) fn tmps ps assign body dd) :: L) → Env a' n ds ((d, .bool false) :: E) → C a' w2) : roundPost P l (Rk n ds E d C) (.exit id) a1 w :=
 ⟨_, _, run_endRound (some (.exit id)) (hS.st.l l (.loop (rcd .busy none fn tmps ps assign body dd), 0) (by simp)).1, _, rfl, fun a' hE => k _ a' (hS.obj (fun _ _ _ h => by cases h)) hE⟩
theorem range_done {l fn dd n0 : Nat} {ps : Array Tmp} {assign body : Code} {a0 : Act} {ds0 : List Deferred} {E0 : List (Nat × Value)} {v : Value} (hS : Stp g w0 D0 L0 w D (lp l (rcd .ready none fn a0.tmps ps assign body dd) :: L)) (hE0 : Env a0 n0 ds0 E0)
  (k : ∀ w2 a', Stp g w0 D0 L0 w2 D (lp l (rcd .exhausted none fn a0.tmps ps assign body dd) :: L) → Env a' n0 (markD dd :: ds0) E0 → Q .normal a' w2) :
  rangePost (Fw none) 0 P l Q { a0 with defers := markD dd :: a0.defers } (.returned v) w :=
 ⟨none, _, run_endLoop (hS.st.l l (.loop (rcd .ready none fn a0.tmps ps assign body dd), 0) (by simp)).1 (by simp [rcd]), k _ _ (hS.obj (fun _ _ _ h => by cases h)) ⟨hE0.size, by rw [hE0.ds], hE0.at_⟩⟩
theorem range_ret {l fn dd n0 : Nat} {ps : Array Tmp} {assign body : Code} {a0 : Act} {ds0 : List Deferred} {E0 : List (Nat × Value)} {v : Value} (hS : Stp g w0 D0 L0 w D (lp l (rcd .done (some .ret) fn a0.tmps ps assign body dd) :: L)) (hE0 : Env a0 n0 ds0 E0)
  (k : ∀ w2 a', Stp g w0 D0 L0 w2 D (lp l (rcd .exhausted (some .ret) fn a0.tmps ps assign body dd) :: L) → Env a' n0 (markD dd :: ds0) E0 → Q .ret a' w2) :
  rangePost (Fw none) 0 P l Q { a0 with defers := markD dd :: a0.defers } (.returned v) w :=
 ⟨some .ret, _, run_endLoop (hS.st.l l (.loop (rcd .done (some .ret) fn a0.tmps ps assign body dd), 0) (by simp)).1 (by simp [rcd]), wpIn_ret (k _ _ (hS.obj (fun _ _ _ h => by cases h)) ⟨hE0.size, by rw [hE0.ds], hE0.at_⟩)⟩
/-! ### a function that holds such a loop -/
theorem calls_bodyM {f : FuncId} {fn : Func} {c : Code} {args : List Value} {R : Ending → World → Prop} (hf : P.funcs[f]? = some fn) (hb : fn.body = some c) (hn : fn.ntmps = n) (hle : Nat.ble args.length n = true)
  (h : ∀ a, Env a n [] (argE 0 args) → c.wpIn (Fw none) 0 P (bodyPostM (Fw none) 0 P fn R) a w) : CallsIn (Fw none) 0 P f args.toArray w R := by
 refine callsIn_of_wp_marks hf hb trivial (h _ ⟨?_, rfl, ?_⟩)
 ·have := Nat.le_of_ble_eq_true hle
  simp [hn]; omega
 ·intro t v hv
  obtain ⟨_, h2⟩ := look_argE args 0 t v hv
  simp only [Nat.sub_zero] at h2
  have hlt := (List.getElem?_eq_some_iff.1 h2).1
  rw [Array.getElem?_append_left (by simpa using hlt)]
  simpa using h2
theorem results_run {fn : Func} {vs : List Value} (hE : Env a n ds E) (h : ResOk P E w fn.results.toList vs) : (results fn a.tmps).run P w = .ok (retV vs) w := by
 have hE1 : Env { tmps := a.tmps, defers := [] } n [] E := ⟨hE.size, rfl, hE.at_⟩
 have h0 := ret_gen (P := P) (fn := fn) (R := fun e w2 => e = .returned (retV vs) ∧ w2 = w) (a := { tmps := a.tmps, defers := [] }) vs hE1 h ⟨rfl, rfl⟩
 obtain ⟨_, v, h1, h2, _⟩ := h0
 cases h2
 exact h1
theorem ret_M1 {fn : Func} {dd : Nat} {R : Ending → World → Prop} (vs : List Value) (hE : Env a n [markD dd] E) (hS : Stp g w0 D0 L0 w D (dk dd :: L))
  (h : ∀ w2, Stp g w0 D0 L0 w2 D L → ResOk P E w2 fn.results.toList vs ∧ R (.returned (retV vs)) w2) : bodyPostM (Fw none) 0 P fn R .ret a w := by
 show LeavesInM (Fw none) 0 P fn a.tmps R a.defers .returning w
 rw [hE.ds]
 have hb := (hS.st.l dd (.deferred (some []), 0) (by simp)).1
 have hS2 : Stp g w0 D0 L0 (w.putObj dd (.deferred none)) D (some (dd, (.deferred none, 0)) :: L) := hS.obj (fun _ _ _ h => by cases h)
 obtain ⟨h1, h2⟩ := h _ hS2.drop
 refine ⟨by simp, .inl ⟨dd, _, rfl, run_takeDeferred hb, ?_⟩⟩
 exact ⟨_, results_run hE h1, h2⟩
end
section
variable {P : Program} {a : Act} {n : Nat} {E : List (Nat × Value)} {g w w0 : World} {D D0 : Snap} {L L0 : List Blk}
end
/-! ### the record as one name -/
abbrev RecF := LoopState → Option Code → Blk
def isRec (q : RecF) (l fn dd : Nat) (tmps : Array Value) (ps : Array Tmp) (assign body : Code) : Prop := q = fun st pe => lp l (rcd st pe fn tmps ps assign body dd)
section
variable {P : Program} {ρ : Option Nat} {ops : Array Oper} {Q : Exit → Act → World → Prop} {a : Act} {n : Nat} {ds : List Deferred} {E : List (Nat × Value)}
variable {g w w' w0 : World} {D D0 : Snap} {L L0 : List Blk} {i : Nat} {o : Oper} {d : Nat} {C : Act → World → Prop}
variable {q : RecF} {l fn dd : Nat} {tmps : Array Value} {ps : Array Tmp} {assign body : Code}
theorem range_in2 {gop : Operand} {gf : FuncId} {captured : Array Value} (hE : Env a n ds E) (hS : Stp g w0 D0 L0 w D L)
  (hg : evalO E gop = some (.func (.func gf) #[] captured)) (hfn : (P.funcs[gf]?).map (fun F => (F.name == "runtime.NumGoroutine", F.body.isNone)) = some (false, false))
  (k : ∀ (fn l dd : Nat) w' (q : RecF), isRec q l fn dd a.tmps ps assign body → Stp g w0 D0 L0 w' D (q .ready none :: dk dd :: L) →
   CallsIn (Fw none) 0 P gf (List.toArray (.func (.yield l) #[] #[] :: captured.toList)) w' (rangePost (Fw none) 0 P l Q { a with defers := markD dd :: a.defers })) :
  (Code.rangeFunc gop ps assign body).wpIn (Fw none) 0 P Q a w :=
 range_in hE hS hg hfn (fun fn l dd w' h => k fn l dd w' _ rfl h)
theorem op_yield2 {n0 : Nat} {a0 : Act} {ds0 : List Deferred} {E0 : List (Nat × Value)} {fv : Operand} {xs : Array Operand} {ts : Array TypeId} {args : List Value} (hq : isRec q l fn dd a0.tmps ps assign body)
  (ho : ops[i]? = some o) (hop : o.op = .call { callee := .value fv, args := xs, argTypes := ts }) (hg : guardOf ops E o = some true) (hd : o.dst = some d) (hE : Env a n ds E) (hn : Nat.blt d n = true)
  (hf : evalO E fv = some (.func (.yield l) #[] #[])) (hxs : evalArgs E xs.toList = some args) (hS : Stp g w0 D0 L0 w D (q .ready none :: L)) (hE0 : Env a0 n0 ds0 E0)
  (hps : ps.toList.length = args.length) (hpb : ps.toList.all (fun t => Nat.blt t n0) = true)
  (k : ∀ a1, Env a1 n0 [] (zipE ps.toList args E0) → assign.wpIn (Fw (some l)) 0 P (Exit.then (fun a1 w1 => ∃ w2, (Instr.beginRound l).run P w1 = .ok () w2 ∧ body.wpIn (Fw (some l)) 0 P (roundPost P l (Rk n ds E d C)) a1 w2) (fun _ _ _ => False)) a1 w) :
  Op1 P none ops Q i C a w := by
 unfold isRec at hq
 subst hq
 exact op_yield ho hop hg hd hE hn hf hxs hS hE0 hps hpb k
theorem begin_in2 {X : World → Prop} (hq : isRec q l fn dd tmps ps assign body) (hS : Stp g w0 D0 L0 w D (q .ready none :: L)) (k : ∀ w2, Stp g w0 D0 L0 w2 D (q .busy none :: L) → X w2) : ∃ w2, (Instr.beginRound l).run P w = .ok () w2 ∧ X w2 := by
 unfold isRec at hq
 subst hq
 exact begin_in hS k
theorem round_normal2 {a1 : Act} (hq : isRec q l fn dd tmps ps assign body) (hS : Stp g w0 D0 L0 w D (q .busy none :: L))
  (k : ∀ w2 a', Stp g w0 D0 L0 w2 D (q .ready none :: L) → Env a' n ds ((d, .bool true) :: E) → C a' w2) : roundPost P l (Rk n ds E d C) .normal a1 w := by
 unfold isRec at hq
 subst hq
 exact round_normal hS k
theorem round_ret2 {a1 : Act} (hq : isRec q l fn dd tmps ps assign body) (hS : Stp g w0 D0 L0 w D (q .busy none :: L))
  (k : ∀ w2 a', Stp g w0 D0 L0 w2 D (q .done (some .ret) :: L) → Env a' n ds ((d, .bool false) :: E) → C a' w2) : roundPost P l (Rk n ds E d C) .ret a1 w := by
 unfold isRec at hq
 subst hq
 exact round_ret hS k
theorem range_done2 {n0 : Nat} {a0 : Act} {ds0 : List Deferred} {E0 : List (Nat × Value)} {v : Value} (hq : isRec q l fn dd a0.tmps ps assign body) (hS : Stp g w0 D0 L0 w D (q .ready none :: L)) (hE0 : Env a0 n0 ds0 E0)
  (k : ∀ w2 a', Stp g w0 D0 L0 w2 D L → Env a' n0 (markD dd :: ds0) E0 → Q .normal a' w2) :
  rangePost (Fw none) 0 P l Q { a0 with defers := markD dd :: a0.defers } (.returned v) w := by
 unfold isRec at hq
 subst hq
 exact range_done hS hE0 (fun w2 a' h h' => k w2 a' h.drop h')
theorem range_ret2 {n0 : Nat} {a0 : Act} {ds0 : List Deferred} {E0 : List (Nat × Value)} {v : Value} (hq : isRec q l fn dd a0.tmps ps assign body) (hS : Stp g w0 D0 L0 w D (q .done (some .ret) :: L)) (hE0 : Env a0 n0 ds0 E0)
  (k : ∀ w2 a', Stp g w0 D0 L0 w2 D L → Env a' n0 (markD dd :: ds0) E0 → Q .ret a' w2) :
  rangePost (Fw none) 0 P l Q { a0 with defers := markD dd :: a0.defers } (.returned v) w := by
 unfold isRec at hq
 subst hq
 exact range_ret hS hE0 (fun w2 a' h h' => k w2 a' h.drop h')
/-- an element of an array that no one writes -/
theorem Cell.elem {k : IntKind} {N b off : Nat} {v : Vector Int N} {m : Int} (h : Cell (kdArr k N) D b off v) (hm : 0 ≤ m ∧ m.toNat < N) : Cell (kdInt k) D b (off + m.toNat) (vget v m.toNat) := by
 obtain ⟨cs, C, T, fr, hr, hb, hc⟩ := h
 obtain rfl := hr
 refine ⟨[.int k (vget v m.toNat)], C, T, fr, rfl, hb, fun j u hu => ?_⟩
 cases j with
 | zero =>
  simp at hu
  subst hu
  have := hc m.toNat (.int k (vget v m.toNat)) (by simp [acells, hm.2])
  simpa using this
 | succ j => simp at hu
end
/-! ### a loop within an iterator that ends by a return -/
section
variable {P : Program} {ρ : Option Nat} {Q : Exit → Act → World → Prop} {a : Act} {w : World}
def Qx2 (X X2 : Act → World → Prop) (Q : Exit → Act → World → Prop) : Exit → Act → World → Prop
 | .normal, a, w => X a w
 | .ret, a, w => X2 a w
 | e, a, w => Q e a w
theorem block_loopR {id : Nat} {c : Code} (X X2 : Act → World → Prop) (I : Nat → Act → World → Prop) (k0 : Nat) (h0 : I k0 a w) (hX : ∀ a w, X a w → Q .normal a w) (hX2 : ∀ a w, X2 a w → Q .ret a w)
  (round : ∀ k a w, I k a w → ∃ k', k = k' + 1 ∧ c.wpIn (Fw ρ) 0 P (Exit.then (fun a' w' => I k' a' w') (Exit.inBlock id (Qx2 X X2 Q))) a w) : (Code.block id (.loop c)).wpIn (Fw ρ) 0 P Q a w :=
 wpIn_mono (wpIn_block (loop_fuel I k0 h0 round)) (fun e a w h => by cases e <;> first | exact hX _ _ h | exact hX2 _ _ h | exact h)
end
/-! ### loads beside writes into slices of their own -/
/-! ### loads ahead of writes that wait for them by a chain -/
section
variable {P : Program} {ρ : Option Nat} {ops : Array Oper} {K : Act → World → Prop} {Rf : Nat → World → World → Prop} {R : World → World → Prop} {a : Act} {w : World} {n : Nat} {ds : List Deferred} {E : List (Nat × Value)}
end
end Go.Sep
